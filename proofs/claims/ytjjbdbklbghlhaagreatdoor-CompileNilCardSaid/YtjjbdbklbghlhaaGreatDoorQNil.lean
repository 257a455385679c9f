/- Without a store nothing is compiled; CompileNil walked. -/
import Derived.Test.YtjjbdbklbghlhaaGreatDoorMR
import Derived.Test.YtjjbdbklbghlhaaGreatDoorMD
import Derived.Test.YtjjbdbklbghlhaaGreatDoorMN
import Derived.Carry
import Derived.Test.YtjjbdbklbghlhaaGreatDoorCards
import Derived.Test.YtjjbdbklbghlhaaGreatDoorTie
import Derived.SevenTiedAt
namespace Go.Proofs.YtjjbdbklbghlhaaGreatDoor
open Go.RowKit Go.Sort Go.Maps Go.Lib
set_option linter.unusedSimpArgs false

set_option maxRecDepth 100000 in
set_option maxHeartbeats 4000000 in
theorem cof_nil (op f n : Int) (q : Option Addr) (len cap : Nat) (w : World) :
    Calls Tryz.prog 13 #[.pointer none, .agg #[.int .i8 op, .int .i8 f, .int .u64 n, .slice q len cap]] w fun e w' => e = .returned (.tuple #[.int .i64 0, .int .i64 1]) ∧ Ext w w' := by
  obtain ⟨w0, h0⟩ : ∃ W : World, w.alloc (.cells #[.int .i8 op, .int .i8 f, .int .u64 n, .slice q len cap] 26) = W := ⟨_, rfl⟩
  obtain ⟨wA, hA⟩ : ∃ W : World, w0.alloc (.cells #[.int .i64 0] 3) = W := ⟨_, rfl⟩
  obtain ⟨wB, hB⟩ : ∃ W : World, wA.alloc (.cells #[.int .i64 0] 27) = W := ⟨_, rfl⟩
  have x0 : Ext w w0 := h0 ▸ Ext.alloc _ _
  have xA : Ext w0 wA := hA ▸ Ext.alloc _ _
  have xB : Ext wA wB := hB ▸ Ext.alloc _ _
  have s0 : w0.heap.size = w.heap.size + 1 := by rw [← h0, World.size_alloc]
  have sA : wA.heap.size = w.heap.size + 1 + 1 := by rw [← hA, World.size_alloc, s0]
  have c0 : wB.cell? ⟨w.heap.size + 1, 0, none⟩ = some (.int .i64 0) := xB.later _ _ (by rw [← hA, ← s0]; simp [go_sem])
  have c1 : wB.cell? ⟨w.heap.size + 1 + 1, 0, none⟩ = some (.int .i64 0) := by rw [← hB, ← sA]; simp [go_sem]
  have f0 : wB.frozen? ⟨w.heap.size + 1, 0, none⟩ = false := by rw [Below.frozen xB (by simp; omega), ← hA, ← s0]; simp [go_sem]
  have f1 : wB.frozen? ⟨w.heap.size + 1 + 1, 0, none⟩ = false := by rw [← hB, ← sA]; simp [go_sem]
  have HX := Lib.hid (x0.trans (xA.trans xB))
  have HEQ := Lib.hid (And.intro h0 (And.intro hA hB))
  have HSZ := Lib.hid (And.intro s0 sA)
  clear x0 xA xB s0 sA h0 hA hB
  go_enter_defers Tryz.func13, Tryz.ntmps13
  go_upto_region 1 with fail
  simp only [HEQ.out.1, HEQ.out.2.1, HEQ.out.2.2, HSZ.out.1]
  go_wp2_with fail
  have hcA : ((wB.setCell ⟨w.heap.size + 1, 0, none⟩ (.int .i64 0)).setCell ⟨w.heap.size + 1 + 1, 0, none⟩ (.int .i64 1)).cell? ⟨w.heap.size + 1, 0, none⟩ = some (.int .i64 0) := by
    rw [World.cell?_setCell_other _ _ _ _ (fun e => by injection e; omega)]
    exact World.cell?_setCell_same _ _ _ c0
  have hcB : ((wB.setCell ⟨w.heap.size + 1, 0, none⟩ (.int .i64 0)).setCell ⟨w.heap.size + 1 + 1, 0, none⟩ (.int .i64 1)).cell? ⟨w.heap.size + 1 + 1, 0, none⟩ = some (.int .i64 1) :=
    World.cell?_setCell_same _ _ _ (by rw [World.cell?_setCell_other _ _ _ _ (fun e => by injection e; omega)]; exact c1)
  simp [bodyPostD, Leaves, results, Tryz.results13, go_sem, hcA, hcB]
  exact HX.out.andKeep ((Keep.set (S := fun i => i = w.heap.size + 1 ∨ i = w.heap.size + 1 + 1) wB ⟨w.heap.size + 1, 0, none⟩ (.int .i64 0) (.inl rfl)).trans (Keep.set _ ⟨w.heap.size + 1 + 1, 0, none⟩ (.int .i64 1) (.inr rfl))) (fun i hi => by omega)

set_option maxRecDepth 100000 in
set_option maxHeartbeats 4000000 in
theorem lawCNil_any (t : Tm) (v : Value) (w : World) (hv : t.Val w v) (ht : Tb w) :
    Calls Tryz.prog 4 #[v] w fun e w' => e = .returned (.bool true) ∧ Ext w w' := by
  obtain ⟨cs, rfl, s, rfl, -, -, -, q, len, cap, rfl, -⟩ := hv
  generalize t.op = op
  generalize t.fld = f
  generalize t.n = n
  obtain ⟨w1, h1⟩ : ∃ W : World, w.alloc (.cells #[.int .i8 op, .int .i8 f, .int .u64 n, .slice q len cap] 26) = W := ⟨_, rfl⟩
  have x1 : Ext w w1 := h1 ▸ Ext.alloc _ _
  have d0 : w1.cell? ⟨w.heap.size, 0, none⟩ = some (.int .i8 op) := by rw [← h1]; simp [go_sem]
  have d1 : w1.cell? ⟨w.heap.size, 1, none⟩ = some (.int .i8 f) := by rw [← h1]; simp [go_sem]
  have d2 : w1.cell? ⟨w.heap.size, 2, none⟩ = some (.int .u64 n) := by rw [← h1]; simp [go_sem]
  have d3 : w1.cell? ⟨w.heap.size, 3, none⟩ = some (.slice q len cap) := by rw [← h1]; simp [go_sem]
  have HT := Lib.hid ht
  have HX1 := Lib.hid x1
  have HE1 := Lib.hid h1
  clear h1 x1 ht
  go_enter Tryz.func4, Tryz.ntmps4
  go_upto_region 1 with fail
  rw [HE1.out]
  clear HE1
  go_wp2_with fail
  refine (cof_nil op f n q len cap w1).mono ?_
  rintro e w2 ⟨rfl, hx2⟩
  have HX2 := Lib.hid (HX1.out.trans hx2)
  have HW := Lib.hid (wakes22_any w2 (HT.out.ext HX2.out))
  clear hx2 d0 d1 d2 d3
  dsimp only
  go_wp2_with fail
  refine HW.out.mono ?_
  rintro e w3 ⟨rfl, hx3⟩
  go_wp2_with fail
  go_ret
  exact ⟨rfl, HX2.out.trans hx3⟩
end Go.Proofs.YtjjbdbklbghlhaaGreatDoor
/- CompileNil returns true for every input, and each argument reads behind the call as before it. Conditions: the tables as laid. -/
namespace Go.Proofs.YtjjbdbklbghlhaaGreatDoor
open Go.ChangeShapes Go.WideShapes Go.ChangeAt Go.RowKit
set_option linter.unusedSimpArgs false

set_option maxRecDepth 100000 in
theorem compileNil_lifted (os : Os) (started : os.Started) (H : Type) (enc : TypeId × Value → H) :
    ReturnsInHanded {} Tryz.checked os 4 .any (fun w args => (Rows.compileNilSpec.pre enc Tryz.prog Tryz.f4 Rows.compileNilRow.domain false w args ∧ laidMet Tryz.prog laid20 w) ∧ sizedMet enc Tryz.prog Tryz.f4 (OpenSpec.ofChange Rows.compileNilSpec) false w args) (Rows.compileNilSpec.post enc Tryz.prog Tryz.f4 false true false false) := by
  refine returnsInHanded_of_change_and (C := Tryz.checked) (X := fun w _ => laidMet Tryz.prog laid20 w) (fun _ _ _ hh h => h.of_heap hh) ownL started (by kernel_rfl) Tryz.func4
    (ChangeSpec.witness_at (enc := enc) (C := Tryz.checked) (os := os) (X := fun w _ => laidMet Tryz.prog laid20 w) false (laidWorld os) #[.agg #[.int .i8 0, .int .i8 0, .int .u64 0, .slice none 0 0]] 8 rfl (by kernel_rfl) (by kernel_rfl) (by kernel_rfl) (by kernel_rfl) (by kernel_rfl) (laid_met os _)) ?_
  intro W base args ds gs before hval0 hW hcnd hwt hL _
  have hval : ∀ (j : Nat) t v, Tryz.f4.params[j]? = some t → args[j]? = some v → Value.okWide Tryz.prog W .any base t v := hval0
  have hW' := hW
  obtain ⟨p, q, hA0, hV, rfl, hfz, hnd⟩ := hW
  have hA : DataW.TrodAll enc Tryz.prog W 0 (fun _ => true) true Tryz.f4.params.toList args.toList ds p := hA0
  rw [Tryz.params4] at hA hval
  obtain ⟨v0, d0, rfl, rfl, h0⟩ := trodAll_one hA
  obtain ⟨rfl, rfl⟩ := trodVars_none hV
  obtain ⟨x0, w0⟩ := term_val (hval 0 26 v0 rfl rfl) h0
  have hlt : ∀ y ∈ p, y.block < W.heap.size := fun y hy => hW'.lt y (by simpa using hy)
  simp only [List.append_nil, List.append_assoc] at hW'
  refine (lawCNil_any x0 v0 W w0 (tb_of_laid hL)).mono fun e W' ⟨he, hw⟩ => ?_
  subst he
  have hb : Below W.heap.size W W' := hw
  exact ⟨_, rfl, post_below (pa := p) (pv := []) hW' (fun _ _ _ => trodAll_mk1 (shut_bool Tryz.underlying4 true))
    (fun sp hsp => trodAll_mk1 (stays_T sp h0 hb (fun y hy => hlt y hy) (fun y hy => hsp y hy)))
    (fun _ _ => rfl) (by simp) hb (ok_one (by kernel_rfl) rfl (okWide_bool_mk Tryz.underlying4 true))⟩

theorem CompileNil_holds : Rows.CompileNilSaid :=
  OpenClaim.holds_of_wide 4 Tryz.f4 rfl rfl rfl rfl rfl rfl rfl ⟨rfl, rfl, rfl, rfl, rfl⟩ rfl rfl rfl rfl rfl (by kernel_rfl) Tryz.func4 (by kernel_rfl)
    (of_decide_eq_true (by kernel_rfl)) (by unfold Func.isWrapper; first | (rw [if_pos (by decide +kernel)]; kernel_rfl) | (rw [if_neg (by decide +kernel)]; exact ⟨rfl, rfl⟩))
    (fun os started H enc _ => compileNil_lifted os started H enc)
#print axioms CompileNil_holds
end Go.Proofs.YtjjbdbklbghlhaaGreatDoor
/- The tied card of CompileNil. -/
namespace Go.Proofs.YtjjbdbklbghlhaaGreatDoor
open Go
set_option linter.unusedSimpArgs false
theorem CompileNil_card : Rows.CompileNilCardSaid :=
  Claim7.holds_tied_plain_at .later [] [.data, .data, .data] true (true, "897f12f2e920dbc4282a1e707cc9a5a53cb8e2ee45049fbcb54b6b014209edab") true
    CompileNil_holds (fun _ h => by cases h) (by kernel_rfl) (fun _ h => by cases h) compileNil_row_tie rfl ⟨rfl, rfl⟩ (by kernel_rfl) rfl
    (fun f fn hf hfn => by
      obtain rfl : f = 4 := Option.some.inj ((show Tryz.prog.funcNamed "tollbridge/tollbridgelaw22.CompileNil" = some 4 by kernel_rfl).symm.trans hf) |>.symm
      obtain rfl : fn = Tryz.f4 := (Option.some.inj (Tryz.func4.symm.trans hfn)).symm
      exact ⟨by kernel_rfl, fun j t ht => by
        rw [Tryz.params4] at ht
        have hm : t ∈ ([26] : List TypeId) := by simpa using Array.mem_of_getElem? ht
        have hall : (([26] : List TypeId).all fun u => !Tryz.prog.wantsStandIn u) = true := by kernel_rfl
        exact (show Tryz.prog.wantsStandIn t = false by simpa using List.all_eq_true.1 hall t hm)⟩)
    (by kernel_rfl)
#print axioms CompileNil_card
end Go.Proofs.YtjjbdbklbghlhaaGreatDoor
