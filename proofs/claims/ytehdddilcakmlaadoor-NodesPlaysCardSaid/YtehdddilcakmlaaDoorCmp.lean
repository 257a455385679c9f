/- header.Compare and the reference's Less: the order of headers by their fields. -/
import Derived.Test.YtehdddilcakmlaaDoorBase
import Derived.Sort.Grow
namespace Go.Proofs.YtehdddilcakmlaaDoor
open Go.RowKit

def cmpL : List Int → List Int → Int
  | x :: xs, y :: ys => if x < y then -1 else if y < x then 1 else cmpL xs ys
  | _, _ => 0
def cmpH (a b : Hdr) : Int := cmpL a.l b.l

theorem cmpL_lt : ∀ {l m : List Int} (j : Nat), (∀ i, i < j → l.getD i 0 = m.getD i 0) → j < l.length → j < m.length → l.getD j 0 < m.getD j 0 → cmpL l m = -1
  | x :: xs, y :: ys, 0, _, _, _, h => by simp at h; simp [cmpL, h]
  | x :: xs, y :: ys, j + 1, he, h1, h2, h => by
    have h0 := he 0 (by omega)
    simp at h0; subst h0
    simp only [cmpL, Int.lt_irrefl, if_false]
    exact cmpL_lt j (fun i hi => by simpa using he (i + 1) (by omega)) (by simpa using h1) (by simpa using h2) (by simpa using h)
theorem cmpL_gt : ∀ {l m : List Int} (j : Nat), (∀ i, i < j → l.getD i 0 = m.getD i 0) → j < l.length → j < m.length → m.getD j 0 < l.getD j 0 → cmpL l m = 1
  | x :: xs, y :: ys, 0, _, _, _, h => by
    simp at h; simp [cmpL, h]; omega
  | x :: xs, y :: ys, j + 1, he, h1, h2, h => by
    have h0 := he 0 (by omega)
    simp at h0; subst h0
    simp only [cmpL, Int.lt_irrefl, if_false]
    exact cmpL_gt j (fun i hi => by simpa using he (i + 1) (by omega)) (by simpa using h1) (by simpa using h2) (by simpa using h)
theorem cmpL_self : ∀ (l : List Int), cmpL l l = 0
  | [] => rfl
  | x :: xs => by simp [cmpL, cmpL_self xs]

theorem cmpH_lt {a b : Hdr} (j : Nat) (hj : j < 11) (he : ∀ i, i < j → a.f i = b.f i) (h : a.f j < b.f j) : cmpH a b = -1 :=
  cmpL_lt j he (by rw [a.length_l]; exact hj) (by rw [b.length_l]; exact hj) h
theorem cmpH_gt {a b : Hdr} (j : Nat) (hj : j < 11) (he : ∀ i, i < j → a.f i = b.f i) (h : b.f j < a.f j) : cmpH a b = 1 :=
  cmpL_gt j he (by rw [a.length_l]; exact hj) (by rw [b.length_l]; exact hj) h
theorem cmpH_same {a b : Hdr} (he : ∀ i, i < 11 → a.f i = b.f i) : cmpH a b = 0 := by
  rw [Hdr.ext he]; exact cmpL_self _

theorem ne_dec {a b : Int} (h : a ≠ b) : (a != b) = true := by simpa using h
end Go.Proofs.YtehdddilcakmlaaDoor
