/- The law's own function sets, walked: does a term set a field to a number? -/
import Derived.Test.YtddeelepaiklgaaHolds
namespace Go.Proofs.Ytddeelepaiklgaa
open Go.RowKit Go.Maps

mutual
/-- some Set of t names the field i and the number m -/
def Tm.setsT : Tm → Int → Int → Bool
  | .mk op f n ks, i, m => (op == 7 && f == i && n == m) || Tm.setsAny ks i m
def Tm.setsAny : List Tm → Int → Int → Bool
  | [], _, _ => false
  | t :: ts, i, m => t.setsT i m || Tm.setsAny ts i m
end
theorem Tm.Val.cs' {w : World} {t : Tm} {v : Value} (h : t.Val w v) : ∃ p len cap, v = .agg #[.int .i8 t.op, .int .i8 t.fld, .int .u64 t.n, .slice p len cap] := by
  obtain ⟨cs, rfl, s, rfl, -, -, -, p, len, cap, rfl, -⟩ := h
  exact ⟨p, len, cap, rfl⟩
theorem cells4' {w : World} {b o : Nat} {a0 a1 a2 a3 : Value} (h : w.rangeAt b o [a0, a1, a2, a3]) : w.cell? ⟨b, o, none⟩ = some a0 ∧ w.cell? ⟨b, o + 1, none⟩ = some a1 ∧ w.cell? ⟨b, o + 2, none⟩ = some a2 ∧ w.cell? ⟨b, o + 3, none⟩ = some a3 :=
  ⟨h 0 _ rfl, h 1 _ rfl, h 2 _ rfl, h 3 _ rfl⟩
theorem Tm.setsAny_true : ∀ {ks : List Tm} {i m : Int} (j : Nat) (h : j < ks.length), (ks[j]).setsT i m = true → Tm.setsAny ks i m = true
  | t :: ts, i, m, 0, _, hv => by rw [List.getElem_cons_zero] at hv; simp [Tm.setsAny, hv]
  | t :: ts, i, m, j + 1, h, hv => by rw [List.getElem_cons_succ] at hv; simp [Tm.setsAny, Tm.setsAny_true j (by simpa using h) hv]
theorem Tm.setsAny_false : ∀ {ks : List Tm} {i m : Int}, (∀ j (h : j < ks.length), (ks[j]).setsT i m = false) → Tm.setsAny ks i m = false
  | [], _, _, _ => rfl
  | t :: ts, i, m, hv => by
    have h0 := hv 0 (by simp)
    have h1 := Tm.setsAny_false (i := i) (m := m) (ks := ts) (fun j h => by have := hv (j + 1) (by simpa using h); rwa [List.getElem_cons_succ] at this)
    rw [List.getElem_cons_zero] at h0
    simp only [Tm.setsAny, h0, h1, Bool.or_self]

end Go.Proofs.Ytddeelepaiklgaa
