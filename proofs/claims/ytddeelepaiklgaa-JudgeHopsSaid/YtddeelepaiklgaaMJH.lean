/- JudgeHops, walked. -/
import Derived.Test.YtddeelepaiklgaaMJ5
import Derived.Test.YtddeelepaiklgaaMJ3
import Derived.Test.YtddeelepaiklgaaRow
import Derived.Carry
namespace Go.Proofs.Ytddeelepaiklgaa
open Go.RowKit Go.Maps Go.Sort Go.Lib
set_option linter.unusedSimpArgs false

set_option maxHeartbeats 8000000 in
set_option maxRecDepth 100000 in
theorem hops_aux (t : Tm) (qs : List Qr) (step pol : Int) (x : Hdr) (out : List Hdr) (hv pv : Value) (w : World) (hh : HopVal w step pol x out hv) (hp : PVal w t qs pv) :
    Calls Try.prog 3 #[hv, pv] w fun e w' => e = .returned (.bool true) ∧ Ext w w' := by
  have HPV := Lib.hid hp
  have HHV := Lib.hid hh
  obtain ⟨ov, rfl, ⟨po, lo, co, rfl, hlo, hout⟩, hmax⟩ := hh
  have hlm : lo ≤ 9223372036854775807 := by omega
  obtain ⟨p, len, cap, qv, rfl, -⟩ := hp
  obtain ⟨wA, hA⟩ : ∃ W : World, w.alloc (.cells (hopCs step pol x (.slice po lo co)).toArray 27) = W := ⟨_, rfl⟩
  have xA : Ext w wA := hA ▸ Ext.alloc _ _
  have sA : wA.heap.size = w.heap.size + 1 := by rw [← hA, World.size_alloc]
  have rA : wA.rangeAt w.heap.size 0 (hopCs step pol x (.slice po lo co)) := by
    have := rangeAt_new w (hopCs step pol x (.slice po lo co)).toArray 27
    rw [hA] at this
    exact this
  obtain ⟨wB, hB⟩ : ∃ W : World, wA.alloc (.cells #[.int .i8 t.op, .int .i8 t.fld, .int .u64 t.n, .slice p len cap, qv] 34) = W := ⟨_, rfl⟩
  have xB : Ext wA wB := hB ▸ Ext.alloc _ _
  have rB : wB.rangeAt (w.heap.size + 1) 0 [.int .i8 t.op, .int .i8 t.fld, .int .u64 t.n, .slice p len cap, qv] := by
    have := rangeAt_new wA #[.int .i8 t.op, .int .i8 t.fld, .int .u64 t.n, .slice p len cap, qv] 34
    rw [hB, sA] at this
    exact this
  have HX := Lib.hid (xA.trans xB)
  have HHR := Lib.hid (fun W (hW : Ext wB W) => World.rangeAt.later (xB.trans hW).later rA)
  have HPR := Lib.hid (fun W (hW : Ext wB W) => World.rangeAt.later hW.later rB)
  have HEQ := Lib.hid (show w.alloc (.cells (hopCs step pol x (.slice po lo co)).toArray 27) = wA ∧ wA.alloc (.cells #[.int .i8 t.op, .int .i8 t.fld, .int .u64 t.n, .slice p len cap, qv] 34) = wB from ⟨hA, hB⟩)
  have HH1 := Lib.hid (fun W (hW : Ext w W) => hop_any t qs step pol x out _ _ W (by
    obtain ⟨ov, h1, h2, h3⟩ := HHV.out
    exact ⟨ov, h1, h2.ext hW, h3⟩) (HPV.out.later hW.later))
  have HH2 := Lib.hid (fun W (hW : Ext w W) => refHop_any t qs step pol x out _ _ W (by
    obtain ⟨ov, h1, h2, h3⟩ := HHV.out
    exact ⟨ov, h1, h2.ext hW, h3⟩) (HPV.out.later hW.later))
  have c13 := (hop_cells (HHR.out _ (Ext.refl _))).2.2.2
  simp only [Nat.zero_add] at c13
  have HUS := Lib.hid (And.intro Try.underlying27 (And.intro (show (Try.prog.info? 27).map (·.size) = some (hopCs step pol x (.slice po lo co)).length from by
    rw [← List.size_toArray, size_hopCs]; kernel_rfl) (And.intro Try.underlying34 (show (Try.prog.info? 34).map (·.size) = some [.int .i8 t.op, .int .i8 t.fld, .int .u64 t.n, .slice p len cap, qv].length from by kernel_rfl))))
  clear xA sA rA hA xB rB hB hlo hout hmax
  generalize hopP t qs x out = bb at *
  go_enter Try.func3, Try.ntmps3
  go_upto_region 1 with fail
  rw [HEQ.out.1, HEQ.out.2]
  clear HEQ
  by_cases h200 : 200 < lo
  · go_wp2_with fail
    refine (wakes30_any wB).mono ?_
    rintro e w1 ⟨rfl, hx1⟩
    go_wp2_with fail
    go_ret
    exact ⟨rfl, HX.out.trans hx1⟩
  go_upto_region 3 with fail
  clear c13
  have HSS := Lib.hid (fun W (hW : Ext wB W) => (show (fun W => W.rangeAt w.heap.size 0 (hopCs step pol x (.slice po lo co)) ∧ W.rangeAt (w.heap.size + 1) 0 [.int .i8 t.op, .int .i8 t.fld, .int .u64 t.n, .slice p len cap, qv]) W from ⟨HHR.out W hW, HPR.out W hW⟩))
  have huO := HUS.out.1
  have hiO := HUS.out.2.1
  have huP := HUS.out.2.2.1
  have hiP := HUS.out.2.2.2
  have hz0 : Ext wB wB.drew := Ext.drew _
  refine wp_region_noPanic ?_
  refine wp_region_held_drew (S := (fun W => W.rangeAt w.heap.size 0 (hopCs step pol x (.slice po lo co)) ∧ W.rangeAt (w.heap.size + 1) 0 [.int .i8 t.op, .int .i8 t.fld, .int .u64 t.n, .slice p len cap, qv])) (by kernel_rfl) (HSS.out _ (Ext.drew _)) (fun hHeld => ?_)
  refine wpAnyH_take (i := 0) (v := .agg (hopCs step pol x (.slice po lo co)).toArray) rfl (by kernel_rfl) (by kernel_rfl) (by kernel_rfl) (fun _ _ _ h => h) ?_ (by assumption) ?_
  · try simp only [List.getElem_toArray, List.getElem_cons_zero, List.getElem_cons_succ]
    exact yieldsIf_load_mid (by rfl) _ _ rfl (w.heap.size) (0) rfl (hopCs step pol x (.slice po lo co)) _ (fun w hSw => hSw.1) huO rfl hiO
  try simp only [List.getElem_toArray, List.getElem_cons_zero, List.getElem_cons_succ, Act.put, List.setIfInBounds_toArray, List.set_cons_zero, List.set_cons_succ, Array.toArray_toList]
  refine wpAnyH_take (i := 1) (v := .agg #[.int .i8 t.op, .int .i8 t.fld, .int .u64 t.n, .slice p len cap, qv]) rfl (by kernel_rfl) (by kernel_rfl) (by kernel_rfl) (fun _ _ _ h => h) ?_ (by assumption) ?_
  · try simp only [List.getElem_toArray, List.getElem_cons_zero, List.getElem_cons_succ]
    exact yieldsIf_load_mid (by rfl) _ _ rfl (w.heap.size + 1) (0) rfl [.int .i8 t.op, .int .i8 t.fld, .int .u64 t.n, .slice p len cap, qv] _ (fun w hSw => hSw.2) huP rfl hiP
  try simp only [List.getElem_toArray, List.getElem_cons_zero, List.getElem_cons_succ, Act.put, List.setIfInBounds_toArray, List.set_cons_zero, List.set_cons_succ, Array.toArray_toList]
  refine wpAnyH_take (i := 3) (v := .agg (hopCs step pol x (.slice po lo co)).toArray) rfl (by kernel_rfl) (by kernel_rfl) (by kernel_rfl) (fun _ _ _ h => h) ?_ (by assumption) ?_
  · try simp only [List.getElem_toArray, List.getElem_cons_zero, List.getElem_cons_succ]
    exact yieldsIf_load_mid (by rfl) _ _ rfl (w.heap.size) (0) rfl (hopCs step pol x (.slice po lo co)) _ (fun w hSw => hSw.1) huO rfl hiO
  try simp only [List.getElem_toArray, List.getElem_cons_zero, List.getElem_cons_succ, Act.put, List.setIfInBounds_toArray, List.set_cons_zero, List.set_cons_succ, Array.toArray_toList]
  refine wpAnyH_take (i := 4) (v := .agg #[.int .i8 t.op, .int .i8 t.fld, .int .u64 t.n, .slice p len cap, qv]) rfl (by kernel_rfl) (by kernel_rfl) (by kernel_rfl) (fun _ _ _ h => h) ?_ (by assumption) ?_
  · try simp only [List.getElem_toArray, List.getElem_cons_zero, List.getElem_cons_succ]
    exact yieldsIf_load_mid (by rfl) _ _ rfl (w.heap.size + 1) (0) rfl [.int .i8 t.op, .int .i8 t.fld, .int .u64 t.n, .slice p len cap, qv] _ (fun w hSw => hSw.2) huP rfl hiP
  try simp only [List.getElem_toArray, List.getElem_cons_zero, List.getElem_cons_succ, Act.put, List.setIfInBounds_toArray, List.set_cons_zero, List.set_cons_succ, Array.toArray_toList]
  clear huO hiO huP hiP
  refine wpAnyH_ready (rs := [2]) (by kernel_rfl) (by simp) ?_
  refine AllReadyH.cons (i := 2) rfl (fun K hK => ?_) AllReadyH.nil
  go_simp
  go_at_call 10
  refine (HH1.out _ (HX.out.trans hz0)).mono ?_
  rintro e y1 ⟨rfl, hy1⟩
  have hz1 := hz0.trans hy1
  refine hK.out _ _ (HSS.out _ hz1) (fun hHeld1 => ?_)
  clear hK K
  try simp only [List.getElem_toArray, List.getElem_cons_zero, List.getElem_cons_succ, Act.put, List.setIfInBounds_toArray, List.set_cons_zero, List.set_cons_succ, Array.toArray_toList]
  refine wpAnyH_ready (rs := [5]) (by kernel_rfl) (by simp) ?_
  refine AllReadyH.cons (i := 5) rfl (fun K hK => ?_) AllReadyH.nil
  go_simp
  go_at_call 11
  refine (HH2.out _ (HX.out.trans hz1)).mono ?_
  rintro e y2 ⟨rfl, hy2⟩
  have hz2 := hz1.trans hy2
  refine hK.out _ _ (HSS.out _ hz2) (fun hHeld2 => ?_)
  clear hK K
  try simp only [List.getElem_toArray, List.getElem_cons_zero, List.getElem_cons_succ, Act.put, List.setIfInBounds_toArray, List.set_cons_zero, List.set_cons_succ, Array.toArray_toList]
  refine wpAnyH_take (i := 6) (v := .bool true) rfl (by kernel_rfl) (by kernel_rfl) (by kernel_rfl) (fun _ _ _ h => h) (Or.inl ⟨by rfl, by (intro w hSw; (try dsimp only at hSw); go_simp)⟩) (by assumption) ?_
  try simp only [List.getElem_toArray, List.getElem_cons_zero, List.getElem_cons_succ, Act.put, List.setIfInBounds_toArray, List.set_cons_zero, List.set_cons_succ, Array.toArray_toList]
  refine wpAnyH_take (i := 7) (v := .bool true) rfl (by kernel_rfl) (by kernel_rfl) (by kernel_rfl) (fun _ _ _ h => h) (Or.inl ⟨by rfl, by (intro w hSw; (try dsimp only at hSw); go_simp)⟩) (by assumption) ?_
  try simp only [List.getElem_toArray, List.getElem_cons_zero, List.getElem_cons_succ, Act.put, List.setIfInBounds_toArray, List.set_cons_zero, List.set_cons_succ, Array.toArray_toList]
  refine wpAnyH_ready (rs := [8]) (by kernel_rfl) (by simp) ?_
  refine AllReadyH.cons (i := 8) rfl (fun K hK => ?_) AllReadyH.nil
  go_simp
  go_at_call 9
  refine (wakes30_any _).mono ?_
  rintro e y3 ⟨rfl, hy3⟩
  have hz3 := hz2.trans hy3
  refine hK.out _ _ (HSS.out _ hz3) (fun hHeld3 => ?_)
  clear hK K
  try simp only [List.getElem_toArray, List.getElem_cons_zero, List.getElem_cons_succ, Act.put, List.setIfInBounds_toArray, List.set_cons_zero, List.set_cons_succ, Array.toArray_toList]
  refine wpAnyH_take (i := 9) (v := .bool true) rfl (by kernel_rfl) (by kernel_rfl) (by kernel_rfl) (fun _ _ _ h => h) (Or.inl ⟨by rfl, by (intro w hSw; (try dsimp only at hSw); go_simp)⟩) (by assumption) ?_
  try simp only [List.getElem_toArray, List.getElem_cons_zero, List.getElem_cons_succ, Act.put, List.setIfInBounds_toArray, List.set_cons_zero, List.set_cons_succ, Array.toArray_toList]
  refine wpAnyH_take (i := 10) (v := .bool true) rfl (by kernel_rfl) (by kernel_rfl) (by kernel_rfl) (fun _ _ _ h => h) (Or.inl ⟨by rfl, by (intro w hSw; (try dsimp only at hSw); go_simp)⟩) (by assumption) ?_
  try simp only [List.getElem_toArray, List.getElem_cons_zero, List.getElem_cons_succ, Act.put, List.setIfInBounds_toArray, List.set_cons_zero, List.set_cons_succ, Array.toArray_toList]
  refine wpAnyH_done (by kernel_rfl) ?_ _
  refine NoPanic.normal ?_
  go_wp2_with fail
  go_ret
  exact ⟨rfl, HX.out.trans hz3⟩
theorem lawHops_any (h : HopD) (t : Tm) (qs : List Qr) (hv pv : Value) (w : World) (hh : HopF w h hv) (hp : PVal w t qs pv) :
    Calls Try.prog 3 #[hv, pv] w fun e w' => e = .returned (.bool true) ∧ Ext w w' := hops_aux t qs h.step h.pol h.x h.out hv pv w hh.val hp
end Go.Proofs.Ytddeelepaiklgaa
/- JudgeHops returns true for every input, and each argument reads behind the call as before it. Conditions: none. -/
namespace Go.Proofs.Ytddeelepaiklgaa
open Go.ChangeShapes Go.WideShapes Go.ChangeAt Go.RowKit
set_option linter.unusedSimpArgs false

set_option maxRecDepth 100000 in
theorem judgeHops_lifted (os : Os) (started : os.Started) (H : Type) (enc : TypeId × Value → H) :
    ReturnsInHanded {} Try.checked os 3 .any (Rows.judgeHopsSpec.pre6 enc Try.prog Try.f3 Rows.judgeHopsRow.domain false) (Rows.judgeHopsSpec.post enc Try.prog Try.f3 false true false false) := by
  refine returnsInHanded_of_change (C := Try.checked) ownL started (by kernel_rfl) Try.func3
    (ChangeSpec.witness6 (enc := enc) (C := Try.checked) false ⟨#[], #[zHop, zP], []⟩ 8 (by kernel_rfl) (by kernel_rfl) (by kernel_rfl) (by kernel_rfl)) ?_
  intro W base args ds gs before hval0 hW hcnd _
  have hval : ∀ (j : Nat) t v, Try.f3.params[j]? = some t → args[j]? = some v → Value.okWide Try.prog W .any base t v := hval0
  have hW' := hW
  obtain ⟨p, q, hA0, hV, rfl, hfz, hnd⟩ := hW
  have hA : DataW.TrodAll enc Try.prog W 0 (fun _ => true) true Try.f3.params.toList args.toList ds p := hA0
  rw [Try.params3] at hA hval
  obtain ⟨v0, v1, d0, d1, p0, p1, rfl, rfl, rfl, h0, h1⟩ := trodAll_two hA
  obtain ⟨rfl, rfl⟩ := trodVars_none hV
  obtain ⟨k0, w0⟩ := hop_val (hval 0 27 v0 rfl rfl) h0
  obtain ⟨t1, q1, w1⟩ := policy_val (hval 1 34 v1 rfl rfl) h1
  have hlt : ∀ y ∈ p0 ++ p1, y.block < W.heap.size := fun y hy => hW'.lt y (by simpa using hy)
  simp only [List.append_nil, List.append_assoc] at hW'
  refine (lawHops_any k0 t1 q1 v0 v1 W w0 w1).mono fun e W' ⟨he, hw⟩ => ?_
  subst he
  have hb : Below W.heap.size W W' := hw
  exact ⟨_, rfl, post_below (pa := p0 ++ p1) (pv := []) hW' (fun _ _ _ => trodAll_mk1 (shut_bool Try.underlying4 true))
    (fun sp hsp => trodAll_mk2 (stays_Hop sp h0 hb (fun y hy => hlt y (List.mem_append_left _ hy)) (fun y hy => hsp y (List.mem_append_left _ hy))) (stays_P sp h1 hb (fun y hy => hlt y (List.mem_append_right _ hy)) (fun y hy => hsp y (List.mem_append_right _ hy))))
    (fun _ _ => rfl) (by simp) hb (ok_one (by kernel_rfl) rfl (okWide_bool_mk Try.underlying4 true))⟩

theorem JudgeHops_holds : Rows.JudgeHopsSaid :=
  OpenClaim.holds_of_wide 3 Try.f3 rfl rfl rfl rfl rfl rfl rfl ⟨rfl, rfl, rfl, rfl, rfl⟩ rfl rfl rfl rfl rfl (by kernel_rfl) Try.func3 (by kernel_rfl)
    (of_decide_eq_true (by kernel_rfl)) (by unfold Func.isWrapper; first | (rw [if_pos (by decide +kernel)]; kernel_rfl) | (rw [if_neg (by decide +kernel)]; exact ⟨rfl, rfl⟩))
    (fun os started H enc _ => judgeHops_lifted os started H enc)
#print axioms JudgeHops_holds
end Go.Proofs.Ytddeelepaiklgaa
