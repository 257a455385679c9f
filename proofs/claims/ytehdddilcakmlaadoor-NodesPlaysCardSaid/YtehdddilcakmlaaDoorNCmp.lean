/- The orders of settings and of rows. -/
import Derived.Test.YtehdddilcakmlaaDoorNBase
namespace Go.Proofs.YtehdddilcakmlaaDoor
open Go.RowKit Go.Sort
set_option linter.unusedSimpArgs false

def cmp1 (a b : Int) : Int := if a < b then -1 else if b < a then 1 else 0
def orI (x y : Int) : Int := if x = 0 then y else x
def cmpA (a b : AcD) : Int := orI (cmp1 a.f b.f) (cmp1 a.n b.n)
def cmpR : RowD → RowD → Int
  | [], [] => 0
  | [], _ :: _ => -1
  | _ :: _, [] => 1
  | a :: l, b :: m => if cmpA a b = 0 then cmpR l m else cmpA a b
theorem cmp1_bd (a b : Int) : -1 ≤ cmp1 a b ∧ cmp1 a b ≤ 1 := by unfold cmp1; repeat' split <;> omega
theorem orI_bd {x y : Int} (hx : -1 ≤ x ∧ x ≤ 1) (hy : -1 ≤ y ∧ y ≤ 1) : -1 ≤ orI x y ∧ orI x y ≤ 1 := by unfold orI; split <;> assumption
theorem cmpA_bd (a b : AcD) : -1 ≤ cmpA a b ∧ cmpA a b ≤ 1 := orI_bd (cmp1_bd _ _) (cmp1_bd _ _)

theorem isNaN8_any (a : Int) (w : World) : Calls Tryd.prog 45 #[.int .i8 a] w fun e w' => e = .returned (.bool false) ∧ w = w' := by
  go_enter Tryd.func45, Tryd.ntmps45
  go_wp2_with fail
  go_ret
  exact ⟨rfl, rfl⟩
set_option maxHeartbeats 1000000 in
theorem cmp8_any (a b : Int) (w : World) : Calls Tryd.prog 29 #[.int .i8 a, .int .i8 b] w fun e w' => e = .returned (.int .i64 (cmp1 a b)) ∧ w = w' := by
  go_enter Tryd.func29, Tryd.ntmps29
  go_wp2_with fail
  refine (isNaN8_any a w).mono ?_
  rintro e w1 ⟨rfl, rfl⟩
  go_wp2_with fail
  refine (isNaN8_any b w).mono ?_
  rintro e w1 ⟨rfl, rfl⟩
  rcases Int.lt_trichotomy a b with h | h | h
  · have HF := Lib.hid (show cmp1 a b = -1 from by unfold cmp1; rw [if_pos h])
    go_wp2_with fail
    go_ret
    exact ⟨by rw [HF.out]; rfl, rfl⟩
  · have HF := Lib.hid (show cmp1 a b = 0 from by unfold cmp1; rw [if_neg (by omega), if_neg (by omega)])
    have h1 : ¬ a < b := by omega
    have h2 : ¬ b < a := by omega
    clear h
    go_wp2_with fail
    go_ret
    exact ⟨by rw [HF.out]; rfl, rfl⟩
  · have HF := Lib.hid (show cmp1 a b = 1 from by unfold cmp1; rw [if_neg (by omega), if_pos h])
    have h1 : ¬ a < b := by omega
    go_wp2_with fail
    go_ret
    exact ⟨by rw [HF.out]; rfl, rfl⟩

theorem isNaN64_any (a : Int) (w : World) : Calls Tryd.prog 46 #[.int .u64 a] w fun e w' => e = .returned (.bool false) ∧ w = w' := by
  go_enter Tryd.func46, Tryd.ntmps46
  go_wp2_with fail
  go_ret
  exact ⟨rfl, rfl⟩
set_option maxHeartbeats 1000000 in
theorem cmp64_any (a b : Int) (w : World) : Calls Tryd.prog 30 #[.int .u64 a, .int .u64 b] w fun e w' => e = .returned (.int .i64 (cmp1 a b)) ∧ w = w' := by
  go_enter Tryd.func30, Tryd.ntmps30
  go_wp2_with fail
  refine (isNaN64_any a w).mono ?_
  rintro e w1 ⟨rfl, rfl⟩
  go_wp2_with fail
  refine (isNaN64_any b w).mono ?_
  rintro e w1 ⟨rfl, rfl⟩
  rcases Int.lt_trichotomy a b with h | h | h
  · have HF := Lib.hid (show cmp1 a b = -1 from by unfold cmp1; rw [if_pos h])
    go_wp2_with fail
    go_ret
    exact ⟨by rw [HF.out]; rfl, rfl⟩
  · have HF := Lib.hid (show cmp1 a b = 0 from by unfold cmp1; rw [if_neg (by omega), if_neg (by omega)])
    have h1 : ¬ a < b := by omega
    have h2 : ¬ b < a := by omega
    clear h
    go_wp2_with fail
    go_ret
    exact ⟨by rw [HF.out]; rfl, rfl⟩
  · have HF := Lib.hid (show cmp1 a b = 1 from by unfold cmp1; rw [if_neg (by omega), if_pos h])
    have h1 : ¬ a < b := by omega
    go_wp2_with fail
    go_ret
    exact ⟨by rw [HF.out]; rfl, rfl⟩

set_option maxHeartbeats 2000000 in
theorem or_any (x y : Int) (b : Nat) (w : World) (c0 : w.cell? ⟨b, 0, none⟩ = some (.int .i64 x)) (c1 : w.cell? ⟨b, 1, none⟩ = some (.int .i64 y)) :
    Calls Tryd.prog 28 #[.slice (some ⟨b, 0, none⟩) 2 2] w fun e w' => e = .returned (.int .i64 (orI x y)) ∧ w = w' := by
  by_cases hx : x = 0
  · have HF := Lib.hid (show orI x y = y from if_pos hx)
    have hx1 : (x != 0) = false := by simpa using hx
    subst hx
    by_cases hy : y = 0
    · subst hy
      go_enter Tryd.func28, Tryd.ntmps28
      go_wp2_with fail
      refine wp_loop_rounds 3 ?_
      rw [rounds_succ]
      go_wp2_with fail
      rw [rounds_succ]
      go_wp2_with fail
      rw [rounds_succ]
      go_wp2_with fail
      go_ret
      exact ⟨by rw [HF.out]; rfl, rfl⟩
    · have hy1 : (y != 0) = true := by simpa using hy
      go_enter Tryd.func28, Tryd.ntmps28
      go_wp2_with fail
      refine wp_loop_rounds 2 ?_
      rw [rounds_succ]
      go_wp2_with fail
      rw [rounds_succ]
      go_wp2_with fail
      go_ret
      exact ⟨by rw [HF.out]; rfl, rfl⟩
  · have HF := Lib.hid (show orI x y = x from if_neg hx)
    have hx1 : (x != 0) = true := by simpa using hx
    go_enter Tryd.func28, Tryd.ntmps28
    go_wp2_with fail
    refine wp_loop_rounds 1 ?_
    rw [rounds_succ]
    go_wp2_with fail
    go_ret
    exact ⟨by rw [HF.out]; rfl, rfl⟩

set_option maxHeartbeats 4000000 in
set_option maxRecDepth 100000 in
theorem order1_any (a b : AcD) (w : World) :
    Calls Tryd.prog 52 #[.agg #[.int .i8 a.d, .int .i8 a.f, .int .u64 a.n], .agg #[.int .i8 b.d, .int .i8 b.f, .int .u64 b.n]] w fun e w' => e = .returned (.int .i64 (cmpA a b)) ∧ Grown w w' := by
  unfold cmpA
  obtain ⟨wA, hA⟩ : ∃ W : World, w.alloc (.cells #[.int .i8 a.d, .int .i8 a.f, .int .u64 a.n] 54) = W := ⟨_, rfl⟩
  have xA : Grown w wA := hA ▸ (Grown.refl w).alloc _
  have sA : wA.heap.size = w.heap.size + 1 := by rw [← hA, World.size_alloc]
  obtain ⟨wB, hB⟩ : ∃ W : World, wA.alloc (.cells #[.int .i8 b.d, .int .i8 b.f, .int .u64 b.n] 54) = W := ⟨_, rfl⟩
  have xB : Grown wA wB := hB ▸ (Grown.refl wA).alloc _
  have a1 : wA.cell? ⟨w.heap.size, 1, none⟩ = some (.int .i8 a.f) := by rw [← hA]; simp [go_sem]
  have a2 : wA.cell? ⟨w.heap.size, 2, none⟩ = some (.int .u64 a.n) := by rw [← hA]; simp [go_sem]
  have b1 : wB.cell? ⟨w.heap.size + 1, 1, none⟩ = some (.int .i8 b.f) := by rw [← hB, ← sA]; simp [go_sem]
  have b2 : wB.cell? ⟨w.heap.size + 1, 2, none⟩ = some (.int .u64 b.n) := by rw [← hB, ← sA]; simp [go_sem]
  have HX := Lib.hid (xA.trans xB)
  have HSS := Lib.hid (fun W (hW : Grown wB W) => show (fun W => W.cell? ⟨w.heap.size, 1, none⟩ = some (.int .i8 a.f) ∧ W.cell? ⟨w.heap.size, 2, none⟩ = some (.int .u64 a.n) ∧ W.cell? ⟨w.heap.size + 1, 1, none⟩ = some (.int .i8 b.f) ∧ W.cell? ⟨w.heap.size + 1, 2, none⟩ = some (.int .u64 b.n)) W from
    ⟨hW.ext.later _ _ (xB.ext.later _ _ a1), hW.ext.later _ _ (xB.ext.later _ _ a2), hW.ext.later _ _ b1, hW.ext.later _ _ b2⟩)
  have HEQ := Lib.hid (And.intro hA (And.intro hB sA))
  clear xA hA xB hB a1 a2 b1 b2 sA
  go_enter Tryd.func52, Tryd.ntmps52
  go_upto_region 1 with fail
  rw [HEQ.out.1, HEQ.out.2.1]
  try rw [HEQ.out.2.2]
  clear HEQ
  have hz0 : Grown wB wB.drew := (Grown.refl wB).drew
  go_region_held3 (fun W => W.cell? ⟨w.heap.size, 1, none⟩ = some (.int .i8 a.f) ∧ W.cell? ⟨w.heap.size, 2, none⟩ = some (.int .u64 a.n) ∧ W.cell? ⟨w.heap.size + 1, 1, none⟩ = some (.int .i8 b.f) ∧ W.cell? ⟨w.heap.size + 1, 2, none⟩ = some (.int .u64 b.n)) (first | exact HSS.out _ hz0 | exact HSS.out _ (hz0.alloc _)) (first
    | (go_at_call 29; refine (cmp8_any a.f b.f _).mono ?_; rintro e y1 ⟨rfl, rfl⟩)
    | (go_at_call 30; refine (cmp64_any a.n b.n _).mono ?_; rintro e y1 ⟨rfl, rfl⟩)
    | (go_at_call 28; refine (or_any (cmp1 a.f b.f) (cmp1 a.n b.n) wB.heap.size _ (by simp [go_sem]) (by simp [go_sem])).mono ?_; rintro e y1 ⟨rfl, rfl⟩))
  go_wp2_with fail
  go_ret
  exact ⟨rfl, HX.out.trans (hz0.alloc _)⟩

set_option maxHeartbeats 2000000 in
theorem rows1_any (a b : AcD) (w : World) :
    Calls Tryd.prog 34 #[.agg #[.int .i8 a.d, .int .i8 a.f, .int .u64 a.n], .agg #[.int .i8 b.d, .int .i8 b.f, .int .u64 b.n]] w fun e w' => e = .returned (.int .i64 (cmp1 a.f b.f)) ∧ Grown w w' := by
  obtain ⟨wA, hA⟩ : ∃ W : World, w.alloc (.cells #[.int .i8 a.d, .int .i8 a.f, .int .u64 a.n] 54) = W := ⟨_, rfl⟩
  have xA : Grown w wA := hA ▸ (Grown.refl w).alloc _
  have sA : wA.heap.size = w.heap.size + 1 := by rw [← hA, World.size_alloc]
  obtain ⟨wB, hB⟩ : ∃ W : World, wA.alloc (.cells #[.int .i8 b.d, .int .i8 b.f, .int .u64 b.n] 54) = W := ⟨_, rfl⟩
  have xB : Grown wA wB := hB ▸ (Grown.refl wA).alloc _
  have a1 : wA.cell? ⟨w.heap.size, 1, none⟩ = some (.int .i8 a.f) := by rw [← hA]; simp [go_sem]
  have a2 : wA.cell? ⟨w.heap.size, 2, none⟩ = some (.int .u64 a.n) := by rw [← hA]; simp [go_sem]
  have b1 : wB.cell? ⟨w.heap.size + 1, 1, none⟩ = some (.int .i8 b.f) := by rw [← hB, ← sA]; simp [go_sem]
  have b2 : wB.cell? ⟨w.heap.size + 1, 2, none⟩ = some (.int .u64 b.n) := by rw [← hB, ← sA]; simp [go_sem]
  have HX := Lib.hid (xA.trans xB)
  have HSS := Lib.hid (fun W (hW : Grown wB W) => show (fun W => W.cell? ⟨w.heap.size, 1, none⟩ = some (.int .i8 a.f) ∧ W.cell? ⟨w.heap.size, 2, none⟩ = some (.int .u64 a.n) ∧ W.cell? ⟨w.heap.size + 1, 1, none⟩ = some (.int .i8 b.f) ∧ W.cell? ⟨w.heap.size + 1, 2, none⟩ = some (.int .u64 b.n)) W from
    ⟨hW.ext.later _ _ (xB.ext.later _ _ a1), hW.ext.later _ _ (xB.ext.later _ _ a2), hW.ext.later _ _ b1, hW.ext.later _ _ b2⟩)
  have HEQ := Lib.hid (And.intro hA (And.intro hB sA))
  clear xA hA xB hB a1 a2 b1 b2 sA
  go_enter Tryd.func34, Tryd.ntmps34
  go_upto_region 1 with fail
  rw [HEQ.out.1, HEQ.out.2.1]
  try rw [HEQ.out.2.2]
  clear HEQ
  obtain ⟨c1, c2, c3, c4⟩ := HSS.out _ (Grown.refl _)
  go_wp2_with fail
  refine (cmp8_any a.f b.f _).mono ?_
  rintro e w1 ⟨rfl, rfl⟩
  go_wp2_with fail
  go_ret
  exact ⟨rfl, HX.out⟩
end Go.Proofs.YtehdddilcakmlaaDoor
