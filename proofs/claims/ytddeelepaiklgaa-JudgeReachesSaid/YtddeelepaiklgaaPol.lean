/- policy.Pred and policy.Check where there are no queries. -/
import Derived.Test.YtddeelepaiklgaaBig
namespace Go.Proofs.Ytddeelepaiklgaa
open Go.RowKit

def predT (t : Tm) : Int := if bigB [t] then 200 else if t.right true then 0 else 170
def checkT (t : Tm) : Int := if bigB [t] then 200 else if t.right false then 0 else 170

theorem rangeAt_take {w : World} {b o n : Nat} {cs : List Value} (h : w.rangeAt b o cs) : w.rangeAt b o (cs.take n) := fun j v hv => h j v (by
  rw [List.getElem?_take] at hv
  split at hv
  · exact hv
  · cases hv)

set_option maxHeartbeats 1000000 in
theorem check_any (t : Tm) (op f n s : Value) (w : World) (hv : t.Val w (.agg #[op, f, n, s])) :
    Calls Try.prog 19 #[.agg #[op, f, n, s, .slice none 0 0]] w fun e w' => e = .returned (.int .i64 (checkT t)) ∧ Ext w w' := by
  have HV := Lib.hid hv
  obtain ⟨cs, hcs, s', rfl, -, -, -, p, len, cap, rfl, -⟩ := hv
  simp only [Value.agg.injEq, Array.mk.injEq, List.cons.injEq, and_true] at hcs
  obtain ⟨rfl, rfl, rfl, rfl⟩ := hcs
  go_enter Try.func19, Try.ntmps19
  go_wp2_with fail
  refine wp_loop_rounds 1 ?_
  rw [rounds_succ]
  go_wp2_with fail
  have hx1 : Ext w (w.alloc (.cells #[.int .i8 t.op, .int .i8 t.fld, .int .u64 t.n, .slice p len cap, .slice none 0 0] 34)) := Ext.alloc _ _
  have hx2 : Ext w ((w.alloc (.cells #[.int .i8 t.op, .int .i8 t.fld, .int .u64 t.n, .slice p len cap, .slice none 0 0] 34)).alloc (.cells #[.int .i8 t.op, .int .i8 t.fld, .int .u64 t.n, .slice p len cap] 31)) := hx1.andAlloc _
  have hat1 := (HV.out.later hx2.later).at (World.rangeAt.later (Ext.alloc _ _).later (rangeAt_take (n := 4) (rangeAt_new w #[.int .i8 t.op, .int .i8 t.fld, .int .u64 t.n, .slice p len cap, .slice none 0 0] 34)))
  have hat2 := (HV.out.later hx2.later).at (by have := rangeAt_new (w.alloc (.cells #[.int .i8 t.op, .int .i8 t.fld, .int .u64 t.n, .slice p len cap, .slice none 0 0] 34)) #[.int .i8 t.op, .int .i8 t.fld, .int .u64 t.n, .slice p len cap] 31; rwa [World.size_alloc] at this)
  refine (big_any [t] _ _ ⟨_, _, _, rfl, rfl, Nat.le_refl _, by simp, .inr ⟨_, _, rfl, hat2, trivial⟩⟩).mono ?_
  rintro e w1 ⟨rfl, hx⟩
  have HR := Lib.hid (right_any t false w.heap.size 0 w1 (hat1.later hx.later))
  have HX := Lib.hid (hx2.trans hx)
  have h4 : w1.cell? ⟨w.heap.size, 4, none⟩ = some (.slice none 0 0) := hx.later _ _ (by simp [go_sem])
  clear hat1 hat2 hx1 hx2 hx
  by_cases h : bigB [t] = true
  · have HF := Lib.hid (show checkT t = 200 from by simp [checkT, h])
    rw [h]
    clear h
    go_wp2_with fail
    go_ret
    exact ⟨by rw [HF.out]; rfl, HX.out⟩
  have HP := Lib.hid (show checkT t = if t.right false then 0 else 170 from by simp [checkT, h])
  rw [show bigB [t] = false from by simpa using h]
  clear h
  go_wp2_with fail
  refine HR.out.mono ?_
  rintro e w2 ⟨rfl, hx⟩
  have h5 := hx.later _ _ h4
  have hlt2 : w.heap.size < w2.heap.size := World.block_lt_of_cell? w2 _ h5
  by_cases h : t.right false = true
  · have HF := Lib.hid (HP.out.trans (if_pos h))
    have hmm := @run_makeMap Try.prog
    rw [h]
    clear h
    go_wp2_with fail
    refine wp_loop_rounds 1 ?_
    rw [rounds_succ]
    go_wp2_with fail
    go_ret
    exact ⟨by rw [HF.out]; rfl, (HX.out.trans hx).andAlloc _⟩
  · have HF := Lib.hid (HP.out.trans (if_neg h))
    rw [show t.right false = false from by simpa using h]
    clear h
    go_wp2_with fail
    go_ret
    exact ⟨by rw [HF.out]; rfl, HX.out.trans hx⟩
end Go.Proofs.Ytddeelepaiklgaa
