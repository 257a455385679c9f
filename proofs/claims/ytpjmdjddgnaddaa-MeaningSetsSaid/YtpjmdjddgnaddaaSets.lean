/- A header changes in fields that the policy sets alone, and to what it sets there: in plain words. -/
import Derived.Test.YtpjmdjddgnaddaaAlg
import Derived.Test.YtpjmdjddgnaddaaLSets0
namespace Go.Proofs.Ytpjmdjddgnaddaa

mutual
def Tm.Bd : Tm → Prop
  | .mk _ _ n ks => (0 ≤ n ∧ n ≤ 18446744073709551615) ∧ Tm.BdAll ks
def Tm.BdAll : List Tm → Prop
  | [] => True
  | t :: ts => t.Bd ∧ Tm.BdAll ts
end
mutual
theorem Tm.At.bd {w : World} : ∀ {t : Tm} {b o : Nat}, t.At w b o → t.Bd
  | .mk _ _ _ ks, _, _, ⟨_, _, h3, _, _, _, _, _, _, _, _, _, _, hks⟩ => by
    refine ⟨h3, ?_⟩
    cases ks with
    | nil => trivial
    | cons t ts =>
      rcases hks with h | ⟨b', o', _, h⟩
      · cases h
      · exact Tm.AllAt.bd h
theorem Tm.AllAt.bd {w : World} : ∀ {ks : List Tm} {b o : Nat}, Tm.AllAt w ks b o → Tm.BdAll ks
  | [], _, _, _ => trivial
  | _ :: _, _, _, ⟨h, hs⟩ => ⟨Tm.At.bd h, Tm.AllAt.bd hs⟩
end
theorem Tm.Val.bd {w : World} {t : Tm} {v : Value} (h : t.Val w v) : t.Bd := by
  obtain ⟨cs, hv, s, hcs, h1, h2, h3, p, len, cap, hs, hlen, hlc, hcm, hks⟩ := h
  cases t with | mk op f n ks =>
  refine ⟨h3, ?_⟩
  rcases hks with h | ⟨b', o', _, h⟩
  · simp only [Tm.kids] at h
    rw [h]
    trivial
  · exact Tm.AllAt.bd h

mutual
theorem Tm.den_sets : ∀ (t : Tm), t.Bd → t.right false = true → ∀ {x y : Hdr}, t.den x y → ∀ i, i < 11 → y.f i ≠ x.f i → t.setsT i (y.f i) = true
  | .mk op f n ks, hb, hr, x, y, hd, i, hi, hne => by
    unfold Tm.den at hd
    unfold Tm.setsT
    rcases Tm.right_pol hr with ⟨rfl, _, hk⟩ | ⟨rfl, hf0, hf1⟩ | ⟨rfl, _, hk⟩ | ⟨ho, _, hk⟩
    · rw [if_pos rfl] at hd
      exact absurd (by rw [hd.2]) hne
    · rw [if_neg (by omega), if_pos rfl] at hd
      subst hd
      rw [x.f_put _ _ n hb.1 (by omega)] at hne ⊢
      split at hne
      · rename_i he
        rw [if_pos he]
        have : f = i := by omega
        simp [this]
      · exact absurd rfl hne
    · rw [if_neg (by omega), if_neg (by omega), if_neg (by omega), if_pos rfl] at hd
      simp [Tm.star_sets ks hb.2 hk hd i hi hne]
    · rw [if_neg (by omega), if_neg (by omega)] at hd
      split at hd
      · simp [Tm.then_sets ks hb.2 hk hd i hi hne]
      · rw [if_neg (by omega)] at hd
        simp [Tm.any_sets ks hb.2 hk hd i hi hne]
theorem Tm.then_sets : ∀ (ks : List Tm), Tm.BdAll ks → Tm.rightAll ks false = true → ∀ {x y : Hdr}, Tm.denThen ks x y → ∀ i, i < 11 → y.f i ≠ x.f i → Tm.setsAny ks i (y.f i) = true
  | [], _, _, x, y, hd, i, hi, hne => by
    simp only [Tm.denThen] at hd
    exact absurd (by rw [hd]) hne
  | t :: ts, hb, hr, x, y, hd, i, hi, hne => by
    simp only [Tm.rightAll, Bool.and_eq_true] at hr
    simp only [Tm.denThen] at hd
    obtain ⟨z, h1, h2⟩ := hd
    simp only [Tm.setsAny, Bool.or_eq_true]
    by_cases hz : y.f i = z.f i
    · rw [hz] at hne ⊢
      exact .inl (Tm.den_sets t hb.1 hr.1 h1 i hi hne)
    · exact .inr (Tm.then_sets ts hb.2 hr.2 h2 i hi hz)
theorem Tm.star_sets : ∀ (ks : List Tm), Tm.BdAll ks → Tm.rightAll ks false = true → ∀ {x y : Hdr}, Tm.denStar ks x y → ∀ i, i < 11 → y.f i ≠ x.f i → Tm.setsAny ks i (y.f i) = true
  | [], _, _, _, _, hd, _, _, _ => by
    simp only [Tm.denStar] at hd
  | t :: ts, hb, hr, x, y, hd, i, hi, hne => by
    simp only [Tm.rightAll, Bool.and_eq_true] at hr
    simp only [Tm.denStar] at hd
    simp only [Tm.setsAny, Bool.or_eq_true]
    refine .inl ?_
    have ih : ∀ {a b : Hdr}, t.den a b → ∀ i, i < 11 → b.f i ≠ a.f i → t.setsT i (b.f i) = true := fun h => Tm.den_sets t hb.1 hr.1 h
    clear hb hr
    induction hd with
    | refl => exact absurd rfl hne
    | @tail u v _ r k =>
      by_cases hz : v.f i = u.f i
      · rw [hz] at hne ⊢
        exact k hne
      · exact ih r i hi hz
theorem Tm.any_sets : ∀ (ks : List Tm), Tm.BdAll ks → Tm.rightAll ks false = true → ∀ {x y : Hdr}, Tm.denAny ks x y → ∀ i, i < 11 → y.f i ≠ x.f i → Tm.setsAny ks i (y.f i) = true
  | [], _, _, _, _, hd, _, _, _ => by
    simp only [Tm.denAny] at hd
  | t :: ts, hb, hr, x, y, hd, i, hi, hne => by
    simp only [Tm.rightAll, Bool.and_eq_true] at hr
    simp only [Tm.denAny] at hd
    simp only [Tm.setsAny, Bool.or_eq_true]
    rcases hd with h | h
    · exact .inl (Tm.den_sets t hb.1 hr.1 h i hi hne)
    · exact .inr (Tm.any_sets ts hb.2 hr.2 h i hi hne)
end

/-- what is told of a policy: each header differs in fields that are set alone -/
theorem told_sets {t : Tm} {x : Hdr} (hb : t.Bd) (h0 : (ofC t x).1 = 0) : ∀ y ∈ (ofC t x).2, ∀ i, i < 11 → y.f i ≠ x.f i → t.setsT i (y.f i) = true := by
  intro y hy i hi hne
  have hc : checkT t = 0 := by
    by_cases hc : checkT t = 0
    · exact hc
    · rw [ofC, if_neg hc] at h0
      exact absurd h0 hc
  have hr : t.right false = true := by
    cases h : t.right false with
    | true => rfl
    | false =>
      unfold checkT at hc
      rw [h] at hc
      split at hc <;> simp at hc
  exact Tm.den_sets t hb hr (((told h0).2 y).1 hy) i hi hne
/-- neighbours are unlike -/
theorem told_apart {t : Tm} {x : Hdr} (h0 : (ofC t x).1 = 0) (i : Nat) (h : i + 1 < (ofC t x).2.length) : (ofC t x).2[i] ≠ (ofC t x).2[i + 1] := fun e => by
  have := List.pairwise_iff_getElem.1 (told h0).1 i (i + 1) (by omega) h (by omega)
  rw [e, ltH_irrefl] at this
  cases this
end Go.Proofs.Ytpjmdjddgnaddaa
