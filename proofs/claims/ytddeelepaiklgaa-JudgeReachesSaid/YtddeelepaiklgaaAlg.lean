/- The laws of the algebra, of sets. -/
import Derived.Test.YtddeelepaiklgaaDen
namespace Go.Proofs.Ytddeelepaiklgaa

def yesF : Tm := .mk 6 0 0 [.mk 1 0 0 []]
def noF : Tm := .mk 6 0 0 [.mk 0 0 0 []]
def unionT2 (a b : Tm) : Tm := .mk 8 0 0 [a, b]
def thenT2 (a b : Tm) : Tm := .mk 9 0 0 [a, b]
def starT1 (a : Tm) : Tm := .mk 10 0 0 [a]
theorem den_union {a b : Tm} {x y : Hdr} : (unionT2 a b).den x y ↔ a.den x y ∨ b.den x y := by
  simp [unionT2, Tm.den, Tm.denAny]
theorem den_then {a b : Tm} {x y : Hdr} : (thenT2 a b).den x y ↔ ∃ z, a.den x z ∧ b.den z y := by
  simp [thenT2, Tm.den, Tm.denThen]
theorem den_star {a : Tm} {x y : Hdr} : (starT1 a).den x y ↔ Rtc a.den x y := by
  simp [starT1, Tm.den, Tm.denStar]
theorem den_filter {p : Tm} {x y : Hdr} : (Tm.mk 6 0 0 [p]).den x y ↔ p.holds x = true ∧ y = x := by
  simp [Tm.den, Tm.holdsHead]
theorem den_yes {x y : Hdr} : yesF.den x y ↔ y = x := by simp [yesF, den_filter, Tm.holds]
theorem den_no {x y : Hdr} : ¬ noF.den x y := by simp [noF, den_filter, Tm.holds]

theorem alg_union_assoc (p q r : Tm) (x y : Hdr) : (unionT2 p (unionT2 q r)).den x y ↔ (unionT2 (unionT2 p q) r).den x y := by simp only [den_union, or_assoc]
theorem alg_then_assoc (p q r : Tm) (x y : Hdr) : (thenT2 p (thenT2 q r)).den x y ↔ (thenT2 (thenT2 p q) r).den x y := by
  simp only [den_then]
  exact ⟨fun ⟨z, h1, u, h2, h3⟩ => ⟨u, ⟨z, h1, h2⟩, h3⟩, fun ⟨u, ⟨z, h1, h2⟩, h3⟩ => ⟨z, h1, u, h2, h3⟩⟩
theorem alg_union_comm (p q : Tm) (x y : Hdr) : (unionT2 p q).den x y ↔ (unionT2 q p).den x y := by simp only [den_union, or_comm]
theorem alg_union_self (p : Tm) (x y : Hdr) : (unionT2 p p).den x y ↔ p.den x y := by simp only [den_union, or_self]
theorem alg_dist_left (p q r : Tm) (x y : Hdr) : (thenT2 (unionT2 p q) r).den x y ↔ (unionT2 (thenT2 p r) (thenT2 q r)).den x y := by
  simp only [den_union, den_then, or_and_right, exists_or]
theorem alg_dist_right (p q r : Tm) (x y : Hdr) : (thenT2 p (unionT2 q r)).den x y ↔ (unionT2 (thenT2 p q) (thenT2 p r)).den x y := by
  simp only [den_union, den_then, and_or_left, exists_or]
theorem alg_yes_then (p : Tm) (x y : Hdr) : (thenT2 yesF p).den x y ↔ p.den x y := by simp [den_then, den_yes]
theorem alg_then_yes (p : Tm) (x y : Hdr) : (thenT2 p yesF).den x y ↔ p.den x y := by simp [den_then, den_yes]
theorem alg_union_no (p : Tm) (x y : Hdr) : (unionT2 p noF).den x y ↔ p.den x y := by simp [den_union, den_no]
theorem alg_no_then (p : Tm) (x y : Hdr) : (thenT2 noF p).den x y ↔ noF.den x y := by simp [den_then, den_no]

theorem alg_star (p : Tm) (x y : Hdr) : (starT1 p).den x y ↔ (unionT2 yesF (thenT2 p (starT1 p))).den x y := by
  simp only [den_union, den_then, den_star, den_yes]
  constructor
  · intro h
    rcases h.cases_head with rfl | ⟨z, h1, h2⟩
    · exact .inl rfl
    · exact .inr ⟨z, h1, h2⟩
  · rintro (rfl | ⟨z, h1, h2⟩)
    · exact .refl
    · exact .head h1 h2
theorem alg_star_star (p : Tm) (x y : Hdr) : (starT1 p).den x y ↔ (starT1 (starT1 p)).den x y := by
  rw [den_star, den_star]
  constructor
  · intro h
    exact .one (den_star.2 h)
  · intro h
    induction h with
    | refl => exact .refl
    | tail _ r ih => exact ih.trans (den_star.1 r)
theorem alg_both (a b : Tm) (x y : Hdr) : (Tm.mk 6 0 0 [.mk 4 0 0 [a, b]]).den x y ↔ (thenT2 (.mk 6 0 0 [a]) (.mk 6 0 0 [b])).den x y := by
  simp only [den_then, den_filter]
  simp only [Tm.holds, Tm.holdsAll]
  constructor
  · rintro ⟨h, rfl⟩
    simp at h
    exact ⟨_, ⟨h.1, rfl⟩, h.2, rfl⟩
  · rintro ⟨z, ⟨h1, rfl⟩, h2, rfl⟩
    simp [h1, h2]
theorem alg_either (a b : Tm) (x y : Hdr) : (Tm.mk 6 0 0 [.mk 5 0 0 [a, b]]).den x y ↔ (unionT2 (.mk 6 0 0 [a]) (.mk 6 0 0 [b])).den x y := by
  simp only [den_union, den_filter]
  simp only [Tm.holds, Tm.holdsAny]
  simp [or_and_right]
theorem alg_not (a : Tm) (x : Hdr) (h : (ofC (.mk 6 0 0 [.mk 3 0 0 [a]]) x).1 = 0) : ((ofC (.mk 6 0 0 [.mk 3 0 0 [a]]) x).2.length = 0) ↔ a.holds x = true := by
  rw [List.length_eq_zero_iff, List.eq_nil_iff_forall_not_mem]
  have ht := (told h).2
  constructor
  · intro h'
    cases hh : a.holds x with
    | true => rfl
    | false =>
      refine absurd ((ht x).2 (den_filter.2 ⟨?_, rfl⟩)) (h' x)
      simp [Tm.holds, Tm.holdsHead, hh]
  · intro hh y hy
    have := (den_filter.1 ((ht y).1 hy)).1
    simp [Tm.holds, Tm.holdsHead, hh] at this
end Go.Proofs.Ytddeelepaiklgaa
