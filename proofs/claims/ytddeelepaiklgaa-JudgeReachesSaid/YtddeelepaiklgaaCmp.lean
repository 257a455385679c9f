/- header.Compare and the reference's Less: the order of headers by their fields. -/
import Derived.Test.YtddeelepaiklgaaBase
import Derived.Sort.Grow
namespace Go.Proofs.Ytddeelepaiklgaa
open Go.RowKit

def cmpL : List Int → List Int → Int
  | x :: xs, y :: ys => if x < y then -1 else if y < x then 1 else cmpL xs ys
  | _, _ => 0
def cmpH (a b : Hdr) : Int := cmpL a.l b.l

theorem cmpL_lt : ∀ {l m : List Int} (j : Nat), (∀ i, i < j → l.getD i 0 = m.getD i 0) → j < l.length → j < m.length → l.getD j 0 < m.getD j 0 → cmpL l m = -1
  | x :: xs, y :: ys, 0, _, _, _, h => by simp at h; simp [cmpL, h]
  | x :: xs, y :: ys, j + 1, he, h1, h2, h => by
    have h0 := he 0 (by omega)
    simp at h0; subst h0
    simp only [cmpL, Int.lt_irrefl, if_false]
    exact cmpL_lt j (fun i hi => by simpa using he (i + 1) (by omega)) (by simpa using h1) (by simpa using h2) (by simpa using h)
theorem cmpL_gt : ∀ {l m : List Int} (j : Nat), (∀ i, i < j → l.getD i 0 = m.getD i 0) → j < l.length → j < m.length → m.getD j 0 < l.getD j 0 → cmpL l m = 1
  | x :: xs, y :: ys, 0, _, _, _, h => by
    simp at h; simp [cmpL, h]; omega
  | x :: xs, y :: ys, j + 1, he, h1, h2, h => by
    have h0 := he 0 (by omega)
    simp at h0; subst h0
    simp only [cmpL, Int.lt_irrefl, if_false]
    exact cmpL_gt j (fun i hi => by simpa using he (i + 1) (by omega)) (by simpa using h1) (by simpa using h2) (by simpa using h)
theorem cmpL_self : ∀ (l : List Int), cmpL l l = 0
  | [] => rfl
  | x :: xs => by simp [cmpL, cmpL_self xs]

theorem cmpH_lt {a b : Hdr} (j : Nat) (hj : j < 11) (he : ∀ i, i < j → a.f i = b.f i) (h : a.f j < b.f j) : cmpH a b = -1 :=
  cmpL_lt j he (by rw [a.length_l]; exact hj) (by rw [b.length_l]; exact hj) h
theorem cmpH_gt {a b : Hdr} (j : Nat) (hj : j < 11) (he : ∀ i, i < j → a.f i = b.f i) (h : b.f j < a.f j) : cmpH a b = 1 :=
  cmpL_gt j he (by rw [a.length_l]; exact hj) (by rw [b.length_l]; exact hj) h
theorem cmpH_same {a b : Hdr} (he : ∀ i, i < 11 → a.f i = b.f i) : cmpH a b = 0 := by
  rw [Hdr.ext he]; exact cmpL_self _

set_option maxHeartbeats 400000 in
theorem compare_any (a b : Hdr) (w : World) : Calls Try.prog 75 #[.agg a.cs, .agg b.cs] w fun e w' =>
    e = .returned (.int .i64 (cmpH a b)) ∧ ∃ n, w' = ((w.alloc (.cells a.cs 24)).alloc (.cells b.cs 24)).drewN n := by
  go_enter Try.func75, Try.ntmps75
  go_wp2_with fail
  go_loopw [6] (fun i wr => ∃ j n : Nat, j ≤ 11 ∧ i = .int .i64 j ∧ Hid (∀ m, m < j → a.f m = b.f m) ∧ wr = ((w.alloc (.cells a.cs 24)).alloc (.cells b.cs 24)).drewN n) (fun i _ => 11 - (intOf i).toNat)
  case atStart => exact ⟨0, 0, by omega, rfl, fun m hm => by omega, rfl⟩
  case round =>
    obtain ⟨j, n, hj, rfl, hd, rfl⟩ := hrel
    by_cases hlt : j < 11
    · have ha := a.cell j hlt
      have hb := b.cell j hlt
      rcases Int.lt_trichotomy (a.f j) (b.f j) with h | h | h
      · have HF := Lib.hid (cmpH_lt j hlt hd.out h)
        have hd1 : decide (a.f j < b.f j) = true := by simpa using h
        go_wp2_with fail
        go_quiet (fail)
        go_wp2_with fail
        go_ret
        exact ⟨by rw [HF.out]; rfl, _, by simp only [World.drewN_drewN]; rfl⟩
      · have HF := Lib.hid h
        have hd1 : decide (a.f j < b.f j) = false := by simp; omega
        have hd2 : decide (b.f j < a.f j) = false := by simp; omega
        clear h
        go_wp2_with fail
        go_quiet (fail)
        go_wp2_with fail
        go_quiet (fail)
        go_wp2_with fail
        go_roundw
        case rel => exact ⟨j + 1, _, by omega, by go_num, fun m hm => by
          rcases Nat.lt_succ_iff_lt_or_eq.1 hm with h1 | rfl
          · exact hd.out m h1
          · exact HF.out, rfl⟩
        case measure => simp [intOf]; omega
      · have HF := Lib.hid (cmpH_gt j hlt hd.out h)
        have hd1 : decide (a.f j < b.f j) = false := by simp; omega
        have hd2 : decide (b.f j < a.f j) = true := by simpa using h
        go_wp2_with fail
        go_quiet (fail)
        go_wp2_with fail
        go_quiet (fail)
        go_wp2_with fail
        go_ret
        exact ⟨by rw [HF.out]; rfl, _, by simp only [World.drewN_drewN]; rfl⟩
    · have hge : 11 ≤ j := by omega
      have HF := Lib.hid (cmpH_same (a := a) (b := b) (fun m h => hd.out m (by omega)))
      go_wp2_with fail
      go_ret
      exact ⟨by rw [HF.out]; rfl, _, rfl⟩

theorem ne_dec {a b : Int} (h : a ≠ b) : (a != b) = true := by simpa using h
set_option maxHeartbeats 400000 in
theorem refLess_any (a b : Hdr) (w : World) : Calls Try.prog 22 #[.agg a.cs, .agg b.cs] w fun e w' =>
    e = .returned (.bool (decide (cmpH a b < 0))) ∧ ∃ n, w' = ((w.alloc (.cells a.cs 24)).alloc (.cells b.cs 24)).drewN n := by
  go_enter Try.func22, Try.ntmps22
  go_wp2_with fail
  go_loopw [5] (fun i wr => ∃ j n : Nat, j ≤ 11 ∧ i = .int .i64 j ∧ Hid (∀ m, m < j → a.f m = b.f m) ∧ wr = ((w.alloc (.cells a.cs 24)).alloc (.cells b.cs 24)).drewN n) (fun i _ => 11 - (intOf i).toNat)
  case atStart => exact ⟨0, 0, by omega, rfl, fun m hm => by omega, rfl⟩
  case round =>
    obtain ⟨j, n, hj, rfl, hd, rfl⟩ := hrel
    by_cases hlt : j < 11
    · have ha := a.cell j hlt
      have hb := b.cell j hlt
      by_cases he : a.f j = b.f j
      · have HF := Lib.hid he
        have hd1 : (a.f j != b.f j) = false := by simp [he]
        clear he
        go_wp2_with fail
        go_quiet (fail)
        go_wp2_with fail
        go_roundw
        case rel => exact ⟨j + 1, _, by omega, by go_num, fun m hm => by
          rcases Nat.lt_succ_iff_lt_or_eq.1 hm with h1 | rfl
          · exact hd.out m h1
          · exact HF.out, rfl⟩
        case measure => simp [intOf]; omega
      · have hd1 := ne_dec he
        have HF : Hid (decide (cmpH a b < 0) = decide (a.f j < b.f j)) := by
          rcases Int.lt_or_gt_of_ne he with h | h
          · rw [Hid, cmpH_lt j hlt hd.out h]; simp [h]
          · rw [Hid, cmpH_gt j hlt hd.out h]; simp; omega
        clear he
        go_wp2_with fail
        go_quiet (fail)
        go_wp2_with fail
        go_quiet (fail)
        go_wp2_with fail
        go_ret
        exact ⟨by rw [HF.out]; rfl, _, by simp only [World.drewN_drewN]; rfl⟩
    · have hge : 11 ≤ j := by omega
      have HF := Lib.hid (cmpH_same (a := a) (b := b) (fun m h => hd.out m (by omega)))
      go_wp2_with fail
      go_ret
      exact ⟨by rw [HF.out]; rfl, _, rfl⟩
end Go.Proofs.Ytddeelepaiklgaa
