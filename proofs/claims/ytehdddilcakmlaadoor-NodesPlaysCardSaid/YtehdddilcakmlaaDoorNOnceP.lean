/- The plain law of NodesOnce: what stands in a store stands in order. -/
import Derived.Test.YtehdddilcakmlaaDoorNFill
namespace Go.Proofs.YtehdddilcakmlaaDoor
open Go.RowKit Go.Sort Go.Maps Go.Lib
set_option linter.unusedSimpArgs false

def InvO (L : List NdD) : Prop := ∀ i x, L[i]? = some x → 0 ≤ x.f → ∃ (hi lo : Nat) (h l : NdD), x.hi = (hi : Int) ∧ x.lo = (lo : Int) ∧ hi < i ∧ lo < i ∧ hi ≠ lo ∧ L[hi]? = some h ∧ L[lo]? = some l ∧ behindB x.f x.n h l = false
theorem InvO.nil : InvO [] := fun i x h => by simp at h
theorem InvO.snoc {L : List NdD} {y : NdD} (h : InvO L) (hy : 0 ≤ y.f → ∃ (hi lo : Nat) (h l : NdD), y.hi = (hi : Int) ∧ y.lo = (lo : Int) ∧ hi < L.length ∧ lo < L.length ∧ hi ≠ lo ∧ L[hi]? = some h ∧ L[lo]? = some l ∧ behindB y.f y.n h l = false) : InvO (L ++ [y]) := fun i x hx hf => by
  have hsub : ∀ {j : Nat} {z : NdD}, L[j]? = some z → (L ++ [y])[j]? = some z := fun {j z} hj => getElem?_snoc.2 (.inl hj)
  rcases getElem?_snoc.1 hx with hx | ⟨rfl, rfl⟩
  · obtain ⟨hi, lo, a, b, h1, h2, h3, h4, h5, h6, h7, h8⟩ := h i x hx hf
    exact ⟨hi, lo, a, b, h1, h2, h3, h4, h5, hsub h6, hsub h7, h8⟩
  · obtain ⟨hi, lo, a, b, h1, h2, h3, h4, h5, h6, h7, h8⟩ := hy hf
    exact ⟨hi, lo, a, b, h1, h2, h3, h4, h5, hsub h6, hsub h7, h8⟩
theorem putN_cases (L : List NdD) (x : NdD) : (putN L x).2 = L ∨ (putN L x).2 = L ++ [x] := by
  unfold putN addN
  split
  · exact .inl rfl
  · split
    · exact .inl rfl
    · exact .inr rfl
theorem leafP_cases (L : List NdD) (r : List RowD) : (leafP L r).2 = L ∨ ∃ s, (leafP L r).2 = L ++ [⟨-1, 0, 0, 0, s⟩] := by
  unfold leafP
  split
  · exact .inl rfl
  · split
    · exact .inl rfl
    · rename_i s _ _
      exact (putN_cases L ⟨-1, 0, 0, 0, s⟩).imp id fun h => ⟨s, h⟩
theorem testP_cases (L : List NdD) (f n hi lo : Int) : (testP L f n hi lo).2 = L ∨ ((testP L f n hi lo).2 = L ++ [⟨f, n, hi, lo, []⟩] ∧ ∃ (a b : Nat) (h l : NdD), hi = (a : Int) ∧ lo = (b : Int) ∧ a < L.length ∧ b < L.length ∧ a ≠ b ∧ L[a]? = some h ∧ L[b]? = some l ∧ behindB f n h l = false) := by
  unfold testP
  split
  · rename_i hh
    split
    · rename_i h l h1 h2
      split
      · exact .inl rfl
      · split
        · exact .inl rfl
        · rename_i hb hne
          refine (putN_cases L ⟨f, n, hi, lo, []⟩).imp id fun e => ⟨e, hi.toNat, lo.toNat, h, l, by omega, by omega, by omega, by omega, by omega, h1, h2, by simpa using hb⟩
    · exact .inl rfl
  · exact .inl rfl
theorem InvO.step {L : List NdD} (h : InvO L) (x : ActD) : InvO (stepA L x) := by
  unfold stepA
  split
  · rcases leafP_cases L x.rows with e | ⟨s, e⟩
    · rw [e]; exact h
    · rw [e]; exact h.snoc fun hf => by simp at hf
  · split
    · rcases testP_cases L x.f x.n x.hi x.lo with e | ⟨e, ht⟩
      · rw [e]; exact h
      · rw [e]; exact h.snoc fun _ => ht
    · exact h
theorem stepA_len (L : List NdD) (x : ActD) : (stepA L x).length ≤ L.length + 1 := by
  unfold stepA
  split
  · rcases leafP_cases L x.rows with e | ⟨s, e⟩ <;> rw [e] <;> simp
  · split
    · rcases testP_cases L x.f x.n x.hi x.lo with e | ⟨e, -⟩ <;> rw [e] <;> simp
    · omega
theorem foldA_inv : ∀ (l : List ActD) (L : List NdD), InvO L → InvO (l.foldl stepA L) ∧ (l.foldl stepA L).length ≤ L.length + l.length
  | [], L, h => ⟨h, by simp⟩
  | x :: l, L, h => by
    have := foldA_inv l (stepA L x) (h.step x)
    have h2 := stepA_len L x
    exact ⟨this.1, by simp only [List.foldl_cons, List.length_cons]; omega⟩
theorem fillP_inv (l : List ActD) : InvO (fillP l) ∧ (fillP l).length ≤ l.length := by
  have := foldA_inv l [] InvO.nil
  exact ⟨this.1, by have h2 := this.2; simp only [List.length_nil, Nat.zero_add] at h2; exact h2⟩
theorem behind_not {f n : Int} {h l : NdD} (hb : behindB f n h l = false) : ¬ (0 ≤ h.f ∧ h.f ≤ f) ∧ ¬ (0 ≤ l.f ∧ (l.f < f ∨ (l.f = f ∧ l.n ≤ n))) := by
  unfold behindB at hb
  simp only [Bool.or_eq_false_iff, Bool.and_eq_false_iff, decide_eq_false_iff_not] at hb
  obtain ⟨h1, h2⟩ := hb
  refine ⟨fun h3 => by omega, fun ⟨h3, h4⟩ => ?_⟩
  rcases h2 with h2 | h2
  · exact h2 h3
  · apply h2
    unfold orI cmp1
    rcases h4 with h4 | ⟨h4, h5⟩
    · simp [h4]
    · subst h4
      split <;> split <;> first | omega | (split <;> omega) | (simp_all; done)
end Go.Proofs.YtehdddilcakmlaaDoor
