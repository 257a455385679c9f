/- The document's Big, right, all, Check, Pred. -/
import Derived.Test.YtddeelepaiklgaaRef16
import Derived.Test.YtddeelepaiklgaaPol
namespace Go.Proofs.Ytddeelepaiklgaa
open Go.RowKit

def bareB (f n : Int) : Bool := f == 0 && n == 0
def mayB (f n : Int) : Bool := f == 0 || f == 1 || f == 4 || f == 5 || f == 7 || f == 8 || (f == 9 && n != 0)
theorem fieldB_2 (f n : Int) : fieldB 2 f n = (fitsB f n && f != 3) := by
  unfold fieldB fitsB fieldK fitsK
  generalize (widthI f).toNat = k
  by_cases h0 : ((k : Int) == 0) = true
  · simp [h0]
  by_cases h1 : (n / 2 ^ k != 0) = true
  · have h1' : (n / 2 ^ k == 0) = false := by simpa using h1
    simp [h0, h1, h1']
  have h1' : (n / 2 ^ k == 0) = true := by simpa using h1
  by_cases h3 : f = 3
  · simp [h3]
  have h3' : (f == 3) = false := by simpa using h3
  have h3'' : (f != 3) = true := by simpa using h3
  simp [h0, h1, h1', h3', h3'']
theorem fieldB_7 (f n : Int) : fieldB 7 f n = (mayB f n && fitsB f n) := by
  unfold fieldB fitsB fieldK fitsK mayB widthI
  by_cases hr : f = 0 ∨ f = 1 ∨ f = 2 ∨ f = 3 ∨ f = 4 ∨ f = 5 ∨ f = 6 ∨ f = 7 ∨ f = 8 ∨ f = 9 ∨ f = 10
  · rcases hr with rfl | rfl | rfl | rfl | rfl | rfl | rfl | rfl | rfl | rfl | rfl
    all_goals simp
    all_goals
      try (rw [Bool.eq_iff_iff]; simp)
      try omega
  · have e : ∀ k : Int, (k = 0 ∨ k = 1 ∨ k = 2 ∨ k = 3 ∨ k = 4 ∨ k = 5 ∨ k = 6 ∨ k = 7 ∨ k = 8 ∨ k = 9 ∨ k = 10) → f ≠ k := fun k hk e => hr (by rw [e]; exact hk)
    rw [if_neg (e 0 (by omega)), if_neg (e 1 (by omega)), if_neg (e 2 (by omega)), if_neg (e 3 (by omega)), if_neg (e 4 (by omega)), if_neg (e 5 (by omega)), if_neg (e 6 (by omega)), if_neg (e 7 (by omega)), if_neg (e 8 (by omega)), if_neg (e 9 (by omega)), if_neg (e 10 (by omega))]
    simp

def refR (op f n : Int) (ks : List Tm) (pred : Bool) : Bool :=
  if op = 0 ∨ op = 1 then pred && bareB f n && ks.length == 0
  else if op = 2 then pred && ks.length == 0 && fitsB f n && f != 3
  else if op = 3 then pred && bareB f n && ks.length == 1 && Tm.rightAll ks true
  else if op = 4 ∨ op = 5 then pred && bareB f n && decide (0 < ks.length) && Tm.rightAll ks true
  else if op = 6 then !pred && bareB f n && ks.length == 1 && Tm.rightAll ks true
  else if op = 7 then !pred && ks.length == 0 && mayB f n && fitsB f n
  else if op = 8 ∨ op = 9 then !pred && bareB f n && decide (0 < ks.length) && Tm.rightAll ks false
  else if op = 10 then !pred && bareB f n && ks.length == 1 && Tm.rightAll ks false
  else false

theorem right_plain (op f n : Int) (ks : List Tm) (pred : Bool) : (Tm.mk op f n ks).right pred = refR op f n ks pred := by
  rw [Tm.right]
  by_cases h0 : op < 0 ∨ 10 < op
  · rw [if_pos h0]
    unfold refR
    rw [if_neg (by omega), if_neg (by omega), if_neg (by omega), if_neg (by omega), if_neg (by omega), if_neg (by omega), if_neg (by omega), if_neg (by omega)]
  rw [if_neg h0]
  obtain ⟨k, rfl⟩ := Int.eq_ofNat_of_zero_le (a := op) (by omega)
  rw [Int.toNat_natCast]
  have hk : k < 11 := by omega
  have hb : (f ≠ 0 ∨ n ≠ 0) ↔ bareB f n = false := by unfold bareB; by_cases a : f = 0 <;> by_cases b : n = 0 <;> simp [a, b]
  match k, hk with
  | 0, _ | 1, _ =>
    simp only [wantsOf, refR]
    cases pred with
    | false => simp
    | true =>
      cases ks with
      | nil =>
        by_cases hq : f ≠ 0 ∨ n ≠ 0
        · have := hb.1 hq
          simp [this, hq]
        ·
          simp only [not_or, Decidable.not_not] at hq
          simp [hq.1, hq.2, Tm.rightAll, show bareB 0 0 = true from rfl]
      | cons t ts =>
        simp
        try (intros; omega)
  | 2, _ =>
    simp only [wantsOf, refR]
    cases pred with
    | false => simp
    | true =>
      cases ks with
      | nil => simp [fieldB_2]
      | cons t ts =>
        simp
        try (intros; omega)
  | 7, _ =>
    simp only [wantsOf, refR]
    cases pred with
    | true => simp
    | false =>
      cases ks with
      | nil => simp [fieldB_7]
      | cons t ts =>
        simp
        try (intros; omega)
  | 3, _ =>
    simp only [wantsOf, refR]
    cases pred with
    | false => simp
    | true =>
      by_cases hq : f ≠ 0 ∨ n ≠ 0
      · have hq2 := hb.1 hq
        simp [hq2, hq]
      · have hq2 : bareB f n = true := by simpa using fun h => hq (hb.2 h)
        clear hq2
        simp only [not_or, Decidable.not_not] at hq
        simp only [hq.1, hq.2]
        by_cases hl : ks.length = 1
        · simp [hl, show bareB 0 0 = true from rfl]
        · have hl' : (ks.length == 1) = false := by simpa using hl
          simp [hl']
          try (intros; omega)
  | 4, _ | 5, _ =>
    simp only [wantsOf, refR]
    cases pred with
    | false => simp
    | true =>
      by_cases hq : f ≠ 0 ∨ n ≠ 0
      · have hq2 := hb.1 hq
        simp [hq2, hq]
      · have hq2 : bareB f n = true := by simpa using fun h => hq (hb.2 h)
        clear hq2
        simp only [not_or, Decidable.not_not] at hq
        simp only [hq.1, hq.2]
        by_cases hl : 0 < ks.length
        · have hl1 : ¬ (ks.length : Int) < 1 := by omega
          simp [hl, hl1, show bareB 0 0 = true from rfl]
        · have hl0 : ks = [] := by simpa using hl
          subst hl0
          simp
  | 6, _ =>
    simp only [wantsOf, refR]
    cases pred with
    | true => simp
    | false =>
      by_cases hq : f ≠ 0 ∨ n ≠ 0
      · have hq2 := hb.1 hq
        simp [hq2, hq]
      · have hq2 : bareB f n = true := by simpa using fun h => hq (hb.2 h)
        clear hq2
        simp only [not_or, Decidable.not_not] at hq
        simp only [hq.1, hq.2]
        by_cases hl : ks.length = 1
        · simp [hl, show bareB 0 0 = true from rfl]
        · have hl' : (ks.length == 1) = false := by simpa using hl
          simp [hl']
          try (intros; omega)
  | 8, _ | 9, _ =>
    simp only [wantsOf, refR]
    cases pred with
    | true => simp
    | false =>
      by_cases hq : f ≠ 0 ∨ n ≠ 0
      · have hq2 := hb.1 hq
        simp [hq2, hq]
      · have hq2 : bareB f n = true := by simpa using fun h => hq (hb.2 h)
        clear hq2
        simp only [not_or, Decidable.not_not] at hq
        simp only [hq.1, hq.2]
        by_cases hl : 0 < ks.length
        · have hl1 : ¬ (ks.length : Int) < 1 := by omega
          simp [hl, hl1, show bareB 0 0 = true from rfl]
        · have hl0 : ks = [] := by simpa using hl
          subst hl0
          simp
  | 10, _ =>
    simp only [wantsOf, refR]
    cases pred with
    | true => simp
    | false =>
      by_cases hq : f ≠ 0 ∨ n ≠ 0
      · have hq2 := hb.1 hq
        simp [hq2, hq]
      · have hq2 : bareB f n = true := by simpa using fun h => hq (hb.2 h)
        clear hq2
        simp only [not_or, Decidable.not_not] at hq
        simp only [hq.1, hq.2]
        by_cases hl : ks.length = 1
        · simp [hl, show bareB 0 0 = true from rfl]
        · have hl' : (ks.length == 1) = false := by simpa using hl
          simp [hl']
          try (intros; omega)
end Go.Proofs.Ytddeelepaiklgaa
