/- (*Store).add. -/
import Derived.Test.YtehdddilcakmlaaDoorNSt
namespace Go.Proofs.YtehdddilcakmlaaDoor
open Go.RowKit Go.Sort Go.Maps Go.Lib
set_option linter.unusedSimpArgs false

theorem step_one_E {P : Program} {sl e : TypeId} {k bt : Nat} (E : Elem P sl e k bt) {z : Value} (hz : ∀ w, (zeroValue e).run P w = .ok z w) {o : Oper} {ops : Array Oper} {a : Act} {w : World} {K : Act → World → Prop} {Q : Exit → Act → World → Prop} {F : Prop} (hgd : o.guard = none) (x : Operand) (ho : o.op = .buildSlice sl 1 #[(0, x)]) (cs : Array Value) (hx : a.eval x = .agg cs) (hc : cs.size = k)
    (h : K (a.put o.dst (.slice (some ⟨w.heap.size, 0, none⟩) 1 1)) (w.alloc (.cells cs e))) :
    if Region.wanted o (yielded ops a.tmps) = true then Oper.wp P o a w K Q else F := by
  have hw : Region.wanted o (yielded ops a.tmps) = true := by simp [Region.wanted, hgd]
  rw [if_pos hw]
  have hr := run_buildSlice_one (P := P) E.und E.szo hz E.pos E.small hc w
  unfold Oper.wp execOp
  simp only [ho, Sem.run_bind, Sem.run_pure, Result.andThen_ok, List.map_toArray, List.map_cons, List.map_nil, hx, hr]
  exact h
theorem zeroNd (w : World) : (zeroValue 41).run Tryd.prog w = .ok (.agg #[.int .i8 0, .int .u64 0, .int .i64 0, .int .i64 0, .slice none 0 0]) w := by kernel_rfl
def AddPost (w : World) (p : Nat) (L : List NdD) (x : NdD) (lv xv : Value) (lvs : List Value) (e : Ending) (w' : World) : Prop :=
  ∃ lv', e = .returned (.tuple #[.int .i64 L.length, .int .i64 0]) ∧ w'.ownsRow 0 41 5 lv' (L.length + 1) (flatN L lvs ++ x.cs xv) ∧ w'.cell? ⟨p, 0, none⟩ = some lv' ∧ w'.frozen? ⟨p, 0, none⟩ = false ∧
    (lv'.ownBlock = lv.ownBlock ∨ ∃ b, lv'.ownBlock = some b ∧ w.heap.size ≤ b) ∧ Keep (fun b => b = p ∨ lv.ownBlock = some b) w w' ∧ ∀ j v, j ≠ 0 → w.cell? ⟨p, j, none⟩ = some v → w'.cell? ⟨p, j, none⟩ = some v

set_option maxHeartbeats 8000000 in
set_option maxRecDepth 100000 in
theorem addS_any {F : Nat → Prop} (p : Nat) (L : List NdD) (lv : Value) (mt ml : Nat) (lvs : List Value) (T : List (Tk × Int)) (S : List (Sk × Int)) (x : NdD) (xv : Value) (w : World) (h : StM F w p L lv mt ml lvs T S) (hl : L.length < 65536) (hxv : xv.oneCell' = true) :
    Calls Tryd.prog 23 #[.pointer (some ⟨p, 0, none⟩), .agg #[.int .i8 x.f, .int .u64 x.n, .int .i64 x.hi, .int .i64 x.lo, xv]] w (AddPost w p L x lv xv lvs) := by
  have HOWN := Lib.hid (fun W (hW : Ext w W) => owns_ext h.own hW)
  have HLT := Lib.hid (fun b (hb : lv.ownBlock = some b) => (owns_lt h.own b hb).2)
  have HNE := Lib.hid h.ne.2.2.2.1
  have hp : p < w.heap.size := World.block_lt_of_cell? w _ h.c0
  obtain ⟨wA, hA⟩ : ∃ W : World, w.alloc (.cells #[.int .i8 x.f, .int .u64 x.n, .int .i64 x.hi, .int .i64 x.lo, xv] 41) = W := ⟨_, rfl⟩
  have xA : Ext w wA := hA ▸ Ext.alloc _ _
  have sA : wA.heap.size = w.heap.size + 1 := by rw [← hA, World.size_alloc]
  have b0 : wA.cell? ⟨w.heap.size, 0, none⟩ = some (.int .i8 x.f) := by rw [← hA]; simp [go_sem]
  have b1 : wA.cell? ⟨w.heap.size, 1, none⟩ = some (.int .u64 x.n) := by rw [← hA]; simp [go_sem]
  have b2 : wA.cell? ⟨w.heap.size, 2, none⟩ = some (.int .i64 x.hi) := by rw [← hA]; simp [go_sem]
  have b3 : wA.cell? ⟨w.heap.size, 3, none⟩ = some (.int .i64 x.lo) := by rw [← hA]; simp [go_sem]
  have b4 : wA.cell? ⟨w.heap.size, 4, none⟩ = some xv := by rw [← hA]; simp [go_sem]
  have c0 := xA.later _ _ h.c0
  have f0 : wA.frozen? ⟨p, 0, none⟩ = false := by rw [Below.frozen xA hp]; exact h.fz
  obtain ⟨q, c, rfl, -⟩ := owns_form h.own
  obtain ⟨n, hn⟩ : ∃ n, n = L.length := ⟨_, rfl⟩
  have HP := Lib.hid (fun e w' (hh : ∃ lv', e = Ending.returned (.tuple #[.int .i64 n, .int .i64 0]) ∧ w'.ownsRow 0 41 5 lv' (n + 1) (flatN L lvs ++ x.cs xv) ∧ w'.cell? ⟨p, 0, none⟩ = some lv' ∧ w'.frozen? ⟨p, 0, none⟩ = false ∧
    (lv'.ownBlock = (Value.slice q L.length c).ownBlock ∨ ∃ b, lv'.ownBlock = some b ∧ w.heap.size ≤ b) ∧ Keep (fun b => b = p ∨ (Value.slice q L.length c).ownBlock = some b) w w' ∧ ∀ j v, j ≠ 0 → w.cell? ⟨p, j, none⟩ = some v → w'.cell? ⟨p, j, none⟩ = some v) => show AddPost w p L x (.slice q L.length c) xv lvs e w' from by rw [hn] at hh; exact hh)
  rw [← hn] at HOWN HLT HNE HP c0 hl ⊢
  have HXA := Lib.hid xA
  have HEQ := Lib.hid hA
  have h1 : ∀ v ∈ x.cs xv, v.oneCell' = true := by
    intro v hv
    simp [NdD.cs] at hv
    rcases hv with rfl | rfl | rfl | rfl | rfl <;> first | rfl | exact hxv
  have H1 := Lib.hid h1
  have hpA : p < wA.heap.size := by omega
  have HLL := Lib.hid hl
  have hdl : decide ((65536 : Int) ≤ (n : Int)) = false := by simp; omega
  have hnb : (n : Int) ≤ 9223372036854775807 := by omega
  clear h hn xA hA h1 hxv hl
  go_enter Tryd.func23, Tryd.ntmps23
  go_upto_region 1 with fail
  rw [HEQ.out]
  go_upto_region 3 with fail
  go_region_law (first
    | (refine step_one_E elemN zeroNd rfl _ rfl #[.int .i8 x.f, .int .u64 x.n, .int .i64 x.hi, .int .i64 x.lo, xv] (by rfl) rfl ?_)
    | (refine step_append_E elemN rfl _ _ rfl 0 (.slice q n c) n (flatN L lvs) (by rfl) (HOWN.out _ (HXA.out.trans (by repeat (first | exact Ext.refl _ | refine Ext.andDrew ?_ | refine Ext.andAlloc ?_ _)))) (some ⟨w.heap.size + 1, 0, none⟩) 1 1 (x.cs xv) (by rfl) rfl (.inr ⟨_, rfl, fun i u hu => by
        match i, hu with
        | 0, hu => simp [NdD.cs] at hu; subst hu; rw [← sA]; simp [go_sem]
        | 1, hu => simp [NdD.cs] at hu; subst hu; rw [← sA]; simp [go_sem]
        | 2, hu => simp [NdD.cs] at hu; subst hu; rw [← sA]; simp [go_sem]
        | 3, hu => simp [NdD.cs] at hu; subst hu; rw [← sA]; simp [go_sem]
        | 4, hu => simp [NdD.cs] at hu; subst hu; rw [← sA]; simp [go_sem]
        | i + 5, hu => simp [NdD.cs] at hu⟩) H1.out (by have := HLL.out; omega) (by have := HLL.out; omega) (Nat.zero_le _) ?_; intro v' w' o1 g1 t1; obtain ⟨pv, cv, rfl, hcv, hcv2⟩ := owns_form o1; have cp := g1.cell (a := ⟨p, 0, none⟩) (v := .slice q n c) (by simp [go_sem, hpA, c0]) (fun e => HNE.out e.symm); have fp := (World.frozen?_of_block (a := ⟨p, 0, none⟩) (g1.block p (by simp; omega) (fun e => HNE.out e.symm))).trans (show _ = false from by simp [go_sem, hpA, f0])))
  all_goals (
    have hnp : (Value.slice pv (n + 1) cv).ownBlock ≠ some p := by
      rcases t1 with e | e
      · rw [e]; exact HNE.out
      · rw [e]; intro e2; injection e2 with e2; simp at e2; omega
    have hgs : w'.grownBy (w'.setCell ⟨p, 0, none⟩ (.slice pv (n + 1) cv)) (some p) := Keep.grownBy (Keep.set (S := (· = p)) w' ⟨p, 0, none⟩ _ rfl)
    have HPO := Lib.hid (HP.out (.returned (.tuple #[.int .i64 n, .int .i64 0])) (w'.setCell ⟨p, 0, none⟩ (.slice pv (n + 1) cv)) ⟨_, rfl, o1.kept hgs (.inr hnp), World.cell?_setCell_same w' ⟨p, 0, none⟩ _ cp, by rw [World.frozen?_setCell]; exact fp, by
        rcases t1 with e | e
        · exact .inl e
        · exact .inr ⟨_, e, by simp; omega⟩, by
        have k1 : Keep (fun b => b = p ∨ (Value.slice q n c).ownBlock = some b) w w' := by
          refine (Ext.keep (HXA.out.trans (by repeat (first | exact Ext.refl _ | refine Ext.andDrew ?_ | refine Ext.andAlloc ?_ _))) _).trans ⟨g1.os, g1.tape, g1.output, g1.size, fun b hb hs => g1.block b hb (fun e => hs (.inr e.symm))⟩
        exact k1.trans (Keep.set w' ⟨p, 0, none⟩ _ (.inl rfl)), fun j v hj hv => by
        rw [World.cell?_setCell_other _ _ _ _ (fun e => by injection e with _ e2; exact hj e2.symm)]
        exact g1.cell (a := ⟨p, j, none⟩) ((Ext.later (HXA.out.trans (by repeat (first | exact Ext.refl _ | refine Ext.andDrew ?_ | refine Ext.andAlloc ?_ _)))) _ _ hv) (fun e => HNE.out e.symm)⟩)
    clear g1 o1 t1 hgs hnp
    go_wp2_with fail
    go_ret2
    exact HPO.out)
end Go.Proofs.YtehdddilcakmlaaDoor
