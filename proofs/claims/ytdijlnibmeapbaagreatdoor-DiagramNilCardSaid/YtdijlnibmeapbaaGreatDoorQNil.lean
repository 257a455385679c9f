/- DiagramNil walked. -/
import Derived.Test.YtdijlnibmeapbaaGreatDoorMP
import Derived.Test.YtdijlnibmeapbaaGreatDoorMB
import Derived.Test.YtdijlnibmeapbaaGreatDoorMD
import Derived.Carry
import Derived.Test.YtdijlnibmeapbaaGreatDoorCards
import Derived.Test.YtdijlnibmeapbaaGreatDoorTie
import Derived.SevenTiedAt
namespace Go.Proofs.YtdijlnibmeapbaaGreatDoor
open Go.RowKit Go.Sort Go.Maps Go.Lib
set_option linter.unusedSimpArgs false

theorem nil_get (a : Int) : (getP [] a).isSome = false := by
  unfold getP
  split
  · rename_i h
    simp at h
    omega
  · rfl
theorem nil_then (a b : Int) : thenT [] a b = ((0, 5), []) := by
  have h : okIds [] [a, b] = false := by unfold okIds; simp [nil_get]
  unfold thenT runIds
  rw [h]; rfl
theorem nil_star (a : Int) : starT [] a = ((0, 5), []) := by
  have h : okIds [] [a] = false := by unfold okIds; simp [nil_get]
  unfold starT runIds
  rw [h]; rfl
theorem nil_not (a : Int) : notT [] a = ((0, 5), []) := by
  have h : okIds [] [a] = false := by unfold okIds; simp [nil_get]
  unfold notT runIds
  rw [h]; rfl

set_option maxHeartbeats 8000000 in
set_option maxRecDepth 100000 in
theorem lawDNil_any (a b : Int) (h : Hdr) (w : World) (ha : -9223372036854775808 ≤ a ∧ a ≤ 9223372036854775807) (hb : -9223372036854775808 ≤ b ∧ b ≤ 9223372036854775807) (ht : Tb w) :
    Calls Tryz.prog 6 #[.int .i64 a, .int .i64 b, .agg h.cs] w fun e w' => e = .returned (.bool true) ∧ Ext w w' := by
  have HT := Lib.hid ht
  obtain ⟨w1, h1⟩ : ∃ W : World, w.alloc (.cells h.cs 25) = W := ⟨_, rfl⟩
  have x1 : Ext w w1 := h1 ▸ Ext.alloc _ _
  have HHR := Lib.hid (show ∀ W, Ext w1 W → W.rangeAt w.heap.size 0 h.cs.toList from fun W hW => World.rangeAt.later hW.later (by rw [← h1]; exact rangeAt_new w h.cs 25))
  have hs1 : w1.heap.size = w.heap.size + 1 := by rw [← h1, World.size_alloc]
  have HX1 := Lib.hid x1
  have HE1 := Lib.hid h1
  clear ht x1 h1
  go_enter Tryz.func6, Tryz.ntmps6
  go_upto_region 1 with fail
  rw [HE1.out]
  clear HE1
  go_wp2_with fail
  refine (dUnion_nil a b w1).mono ?_
  rintro e w2 ⟨rfl, hx2⟩
  have HX2 := Lib.hid hx2
  have HR2 := Lib.hid (HHR.out w2 hx2)
  clear hx2
  go_wp2_with (first | (refine wpList_load_H rfl _ rfl w.heap.size 0 rfl h HR2.out ?_))
  refine (dRun_nil a h w2).mono ?_
  rintro e w3 ⟨rfl, hx3⟩
  have HX3 := Lib.hid (HX2.out.trans hx3)
  clear hx3 HR2
  go_wp2_with fail
  refine (newS_any w3).mono ?_
  rintro e w4 ⟨p, F4, rfl, hst, hF4, hx4⟩
  have HS4 := Lib.hid (show SD F4 w4 p [] from ⟨hst, InvO.nil, w3, HT.out.ext (HX1.out.trans HX3.out), hx4, hF4⟩)
  have H4 := Lib.hid (And.intro hF4 hx4)
  have HTH := Lib.hid (dThen_any p [] a b w4 HS4.out ha hb)
  rw [nil_then] at HTH
  clear hst hF4 hx4
  go_wp2_with fail
  refine HTH.out.mono ?_
  intro e w5 hp
  obtain rfl := hp.1
  obtain ⟨F5, hs5, hF5, hx5⟩ := hp.ext0 H4.out.2 H4.out.1
  have H5 := Lib.hid (And.intro hF5 hx5)
  have HST := Lib.hid (dStar_any p [] a w5 hs5 ha)
  rw [nil_star] at HST
  clear hp hs5 hF5 hx5
  dsimp only
  go_wp2_with fail
  refine HST.out.mono ?_
  intro e w6 hp
  obtain rfl := hp.1
  obtain ⟨F6, hs6, hF6, hx6⟩ := hp.ext0 H5.out.2 H5.out.1
  have H6 := Lib.hid (And.intro hF6 hx6)
  have HNT := Lib.hid (dNot_any p [] b w6 hs6 hb)
  rw [nil_not] at HNT
  clear hp hs6 hF6 hx6
  dsimp only
  go_wp2_with fail
  refine HNT.out.mono ?_
  intro e w7 hp
  obtain rfl := hp.1
  obtain ⟨F7, hs7, hF7, hx7⟩ := hp.ext0 H6.out.2 H6.out.1
  have H7 := Lib.hid (And.intro hF7 hx7)
  have HRN := Lib.hid (dRun_any p [] a h w7 hs7.st hs7.inv InvF.nil ha)
  unfold RunPost at HRN
  rw [show runH [] a h = (5, []) from runH_none (nil_get a)] at HRN
  have HR7 := Lib.hid (HHR.out w7 (HX3.out.trans hx7))
  clear hp hs7 hF7 hx7
  dsimp only
  go_wp2_with (first | (refine wpList_load_H rfl _ rfl w.heap.size 0 rfl h HR7.out ?_))
  refine HRN.out.mono ?_
  rintro e w8 ⟨⟨v, rfl, q, n, c, rfl, hn, -⟩, hx8⟩
  obtain rfl : n = 0 := hn
  have HX8 := Lib.hid ((HX1.out.trans (HX3.out.trans H7.out.2)).trans hx8)
  have HW := Lib.hid (wakes21_any w8 (HT.out.ext HX8.out))
  clear hx8 HRN HR7
  dsimp only
  go_wp2_with fail
  refine HW.out.mono ?_
  rintro e w9 ⟨rfl, hx9⟩
  go_wp2_with fail
  go_ret
  exact ⟨rfl, HX8.out.trans hx9⟩
end Go.Proofs.YtdijlnibmeapbaaGreatDoor
/- DiagramNil returns true for every input, and each argument reads behind the call as before it. Conditions: the tables as laid. -/
namespace Go.Proofs.YtdijlnibmeapbaaGreatDoor
open Go.ChangeShapes Go.WideShapes Go.ChangeAt Go.RowKit
set_option linter.unusedSimpArgs false

set_option maxRecDepth 100000 in
theorem diagramNil_lifted (os : Os) (started : os.Started) (H : Type) (enc : TypeId × Value → H) :
    ReturnsInHanded {} Tryz.checked os 6 .any (fun w args => (Rows.diagramNilSpec.pre enc Tryz.prog Tryz.f6 Rows.diagramNilRow.domain false w args ∧ laidMet Tryz.prog laid20 w) ∧ sizedMet enc Tryz.prog Tryz.f6 (OpenSpec.ofChange Rows.diagramNilSpec) false w args) (Rows.diagramNilSpec.post enc Tryz.prog Tryz.f6 false true false false) := by
  refine returnsInHanded_of_change_and (C := Tryz.checked) (X := fun w _ => laidMet Tryz.prog laid20 w) (fun _ _ _ hh h => h.of_heap hh) ownL started (by kernel_rfl) Tryz.func6
    (ChangeSpec.witness_at (enc := enc) (C := Tryz.checked) (os := os) (X := fun w _ => laidMet Tryz.prog laid20 w) false (laidWorld os) #[.int .i64 0, .int .i64 0, .agg #[.int .u64 0, .int .u64 0, .int .u64 0, .int .u64 0, .int .u64 0, .int .u64 0, .int .u64 0, .int .u64 0, .int .u64 0, .int .u64 0, .int .u64 0]] 8 rfl (by kernel_rfl) (by kernel_rfl) (by kernel_rfl) (by kernel_rfl) (by kernel_rfl) (laid_met os _)) ?_
  intro W base args ds gs before hval0 hW hcnd hwt hL _
  have hval : ∀ (j : Nat) t v, Tryz.f6.params[j]? = some t → args[j]? = some v → Value.okWide Tryz.prog W .any base t v := hval0
  have hW' := hW
  obtain ⟨p, q, hA0, hV, rfl, hfz, hnd⟩ := hW
  have hA : DataW.TrodAll enc Tryz.prog W 0 (fun _ => true) true Tryz.f6.params.toList args.toList ds p := hA0
  rw [Tryz.params6] at hA hval
  obtain ⟨v0, v1, v2, d0, d1, d2, p0, p1, p2, rfl, rfl, rfl, h0, h1, h2⟩ := trodAll_three hA
  obtain ⟨rfl, rfl⟩ := trodVars_none hV
  obtain ⟨n0, rfl, w0⟩ := int_val (hval 0 3 v0 rfl rfl)
  obtain ⟨n1, rfl, w1⟩ := int_val (hval 1 3 v1 rfl rfl)
  obtain ⟨x2, rfl⟩ := hdr_val (hval 2 25 v2 rfl rfl) h2
  have hlt : ∀ y ∈ p0 ++ (p1 ++ p2), y.block < W.heap.size := fun y hy => hW'.lt y (by simpa using hy)
  simp only [List.append_nil, List.append_assoc] at hW'
  refine (lawDNil_any n0 n1 x2  W w0 w1 (tb_of_laid hL)).mono fun e W' ⟨he, hw⟩ => ?_
  subst he
  have hb : Below W.heap.size W W' := hw
  exact ⟨_, rfl, post_below (pa := p0 ++ (p1 ++ p2)) (pv := []) hW' (fun _ _ _ => trodAll_mk1 (shut_bool Tryz.underlying4 true))
    (fun sp hsp => trodAll_mk3 (stays_Int sp h0 hb (fun y hy => hlt y (List.mem_append_left _ hy)) (fun y hy => hsp y (List.mem_append_left _ hy))) (stays_Int sp h1 hb (fun y hy => hlt y (List.mem_append_right _ (List.mem_append_left _ hy))) (fun y hy => hsp y (List.mem_append_right _ (List.mem_append_left _ hy)))) (stays_H sp h2 hb (fun y hy => hlt y (List.mem_append_right _ (List.mem_append_right _ hy))) (fun y hy => hsp y (List.mem_append_right _ (List.mem_append_right _ hy)))))
    (fun _ _ => rfl) (by simp) hb (ok_one (by kernel_rfl) rfl (okWide_bool_mk Tryz.underlying4 true))⟩

theorem DiagramNil_holds : Rows.DiagramNilSaid :=
  OpenClaim.holds_of_wide 6 Tryz.f6 rfl rfl rfl rfl rfl rfl rfl ⟨rfl, rfl, rfl, rfl, rfl⟩ rfl rfl rfl rfl rfl (by kernel_rfl) Tryz.func6 (by kernel_rfl)
    (of_decide_eq_true (by kernel_rfl)) (by unfold Func.isWrapper; first | (rw [if_pos (by decide +kernel)]; kernel_rfl) | (rw [if_neg (by decide +kernel)]; exact ⟨rfl, rfl⟩))
    (fun os started H enc _ => diagramNil_lifted os started H enc)
#print axioms DiagramNil_holds
end Go.Proofs.YtdijlnibmeapbaaGreatDoor
/- The tied card of DiagramNil. -/
namespace Go.Proofs.YtdijlnibmeapbaaGreatDoor
open Go
set_option linter.unusedSimpArgs false
theorem DiagramNil_card : Rows.DiagramNilCardSaid :=
  Claim7.holds_tied_plain_at .later [] [.data, .data, .data] true (true, "cb09d7aea95a5ae10bb86d4a414370ef927c5762b6b929fdd2cb4d876293af36") true
    DiagramNil_holds (fun _ h => by cases h) (by kernel_rfl) (fun _ h => by cases h) diagramNil_row_tie rfl ⟨rfl, rfl⟩ (by kernel_rfl) rfl
    (fun f fn hf hfn => by
      obtain rfl : f = 6 := Option.some.inj ((show Tryz.prog.funcNamed "tollbridge/tollbridgelaw21.DiagramNil" = some 6 by kernel_rfl).symm.trans hf) |>.symm
      obtain rfl : fn = Tryz.f6 := (Option.some.inj (Tryz.func6.symm.trans hfn)).symm
      exact ⟨by kernel_rfl, fun j t ht => by
        rw [Tryz.params6] at ht
        have hm : t ∈ ([3, 3, 25] : List TypeId) := by simpa using Array.mem_of_getElem? ht
        have hall : (([3, 3, 25] : List TypeId).all fun u => !Tryz.prog.wantsStandIn u) = true := by kernel_rfl
        exact (show Tryz.prog.wantsStandIn t = false by simpa using List.all_eq_true.1 hall t hm)⟩)
    (by kernel_rfl)
#print axioms DiagramNil_card
end Go.Proofs.YtdijlnibmeapbaaGreatDoor
