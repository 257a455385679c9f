/- What the plain meaning means: sets of headers. -/
import Derived.Test.YtjjbdbklbghlhaaGreatDoorMN
import Derived.Test.YtjjbdbklbghlhaaGreatDoorMP
import Derived.Test.YtjjbdbklbghlhaaGreatDoorMT
namespace Go.Proofs.YtjjbdbklbghlhaaGreatDoor
set_option linter.unusedSimpArgs false

inductive Rtc (R : Hdr → Hdr → Prop) (x : Hdr) : Hdr → Prop
 | refl : Rtc R x x
 | tail {y z : Hdr} : Rtc R x y → R y z → Rtc R x z
theorem Rtc.trans {R : Hdr → Hdr → Prop} {x y z : Hdr} (h : Rtc R x y) (k : Rtc R y z) : Rtc R x z := by
 induction k with
 | refl => exact h
 | tail _ r ih => exact ih.tail r
theorem Rtc.one {R : Hdr → Hdr → Prop} {x y : Hdr} (h : R x y) : Rtc R x y := Rtc.refl.tail h
mutual
/-- t makes y of x -/
def Tm.den : Tm → Hdr → Hdr → Prop
 | .mk op f n ks, x, y => if op = 6 then (Tm.holdsHead ks x = true ∧ y = x) else if op = 7 then y = x.put f.toNat n else if op = 9 then Tm.denThen ks x y else if op = 10 then Tm.denStar ks x y else Tm.denAny ks x y
def Tm.denThen : List Tm → Hdr → Hdr → Prop
 | [], x, y => y = x
 | t :: ts, x, y => ∃ z, t.den x z ∧ Tm.denThen ts z y
def Tm.denStar : List Tm → Hdr → Hdr → Prop
 | [], _, _ => False
 | t :: _, x, y => Rtc t.den x y
def Tm.denAny : List Tm → Hdr → Hdr → Prop
 | [], _, _ => False
 | t :: ts, x, y => t.den x y ∨ Tm.denAny ts x y
end

theorem putM_spec {l l' : List Hdr} {x : Hdr} (h : putM l x = some l') (hn : l.Nodup) : l'.Nodup ∧ ∀ y, y ∈ l' ↔ y ∈ l ∨ y = x := by
 unfold putM at h
 split at h
 ·rename_i hx
  cases h
  exact ⟨hn, fun y => ⟨.inl, fun h => h.elim id (fun e => e ▸ hx)⟩⟩
 ·rename_i hx
  split at h
  ·cases h
   refine ⟨List.nodup_append.2 ⟨hn, by simp, fun a ha b hb e => hx (by simp at hb; rw [← hb, ← e]; exact ha)⟩, fun y => by simp⟩
  ·cases h
theorem putAll_spec : ∀ {xs l l' : List Hdr}, putAll l xs = some l' → l.Nodup → l'.Nodup ∧ ∀ y, y ∈ l' ↔ y ∈ l ∨ y ∈ xs
 | [], l, l', h, hn => by cases h; exact ⟨hn, by simp⟩
 | x :: xs, l, l', h, hn => by
  simp only [putAll, Option.bind_eq_some_iff] at h
  obtain ⟨l1, h1, h2⟩ := h
  have a := putM_spec h1 hn
  have b := putAll_spec h2 a.1
  exact ⟨b.1, fun y => by rw [b.2, a.2, List.mem_cons]; exact or_assoc⟩

/-- what F makes is D's set, in order -/
def Spec (F : Hdr → Int → Option (List Hdr × Int)) (D : Hdr → Hdr → Prop) : Prop := ∀ x c l c', F x c = some (l, c') → Asc l ∧ ∀ y, y ∈ l ↔ D x y

theorem gather_spec {F : Hdr → Int → Option (List Hdr × Int)} {D : Hdr → Hdr → Prop} (hF : Spec F D) : ∀ {l S S' : List Hdr} {c c' : Int}, gather F l S c = some (S', c') → S.Nodup → S'.Nodup ∧ ∀ y, y ∈ S' ↔ y ∈ S ∨ ∃ z ∈ l, D z y
 | [], S, S', c, c', h, hn => by cases h; exact ⟨hn, by simp⟩
 | x :: xs, S, S', c, c', h, hn => by
  simp only [gather, Option.bind_eq_some_iff] at h
  obtain ⟨⟨r, c1⟩, h1, S1, h2, h3⟩ := h
  have a := (hF _ _ _ _ h1).2
  have b := putAll_spec h2 hn
  have d := gather_spec hF h3 b.1
  refine ⟨d.1, fun y => ?_⟩
  rw [d.2, b.2, or_assoc]
  simp only [a, List.mem_cons, exists_eq_or_imp]
theorem allF_spec {F : Hdr → Int → Option (List Hdr × Int)} {D : Hdr → Hdr → Prop} (hF : Spec F D) {l r : List Hdr} {c c' : Int} (h : allF F l c = some (r, c')) : Asc r ∧ ∀ y, y ∈ r ↔ ∃ z ∈ l, D z y := by
 simp only [allF, Option.map_eq_some_iff] at h
 obtain ⟨⟨S, c1⟩, h1, h2⟩ := h
 cases h2
 have a := gather_spec hF h1 List.nodup_nil
 refine ⟨asc_sortH a.1, fun y => ?_⟩
 rw [(sortH_perm _).mem_iff, a.2]
 simp

theorem starPut_spec : ∀ {l S nx S' nx' : List Hdr}, starPut S nx l = some (S', nx') → S.Nodup → S'.Nodup ∧ (∀ y, y ∈ S' ↔ y ∈ S ∨ y ∈ l) ∧ (∀ y, y ∈ nx → y ∈ nx') ∧ (∀ y, y ∈ nx' → y ∈ nx ∨ y ∈ l) ∧ (∀ y, y ∈ S' → y ∈ S ∨ y ∈ nx')
 | [], S, nx, S', nx', h, hn => by cases h; exact ⟨hn, by simp, by simp, by simp, fun y h => .inl h⟩
 | x :: xs, S, nx, S', nx', h, hn => by
  simp only [starPut] at h
  split at h
  ·rename_i hx
   have a := starPut_spec h hn
   refine ⟨a.1, fun y => ?_, a.2.2.1, fun y hy => (a.2.2.2.1 y hy).imp id (List.mem_cons_of_mem _), a.2.2.2.2⟩
   rw [a.2.1, List.mem_cons]
   exact ⟨fun h => h.imp id .inr, fun h => h.elim .inl (fun h => h.elim (fun e => .inl (e ▸ hx)) .inr)⟩
  ·rename_i hx
   split at h
   ·have a := starPut_spec h (List.nodup_append.2 ⟨hn, by simp, fun a ha b hb e => hx (by simp at hb; rw [← hb, ← e]; exact ha)⟩)
    refine ⟨a.1, fun y => ?_, fun y hy => a.2.2.1 y (List.mem_append_left _ hy), fun y hy => ?_, fun y hy => ?_⟩
    ·rw [a.2.1, List.mem_append, List.mem_singleton, List.mem_cons, or_assoc]
    ·rcases a.2.2.2.1 y hy with h | h
     ·rcases List.mem_append.1 h with h | h
      ·exact .inl h
      ·exact .inr (List.mem_cons.2 (.inl (List.mem_singleton.1 h)))
     ·exact .inr (List.mem_cons_of_mem _ h)
    ·rcases a.2.2.2.2 y hy with h | h
     ·rcases List.mem_append.1 h with h | h
      ·exact .inl h
      ·exact .inr (a.2.2.1 y (List.mem_append_right _ h))
     ·exact .inr h
   ·cases h

theorem starF_spec {F : Hdr → Int → Option (List Hdr × Int)} {D : Hdr → Hdr → Prop} (hF : Spec F D) (x : Hdr) : ∀ {r : Nat} {S fresh l : List Hdr} {c c' : Int}, starF F r S fresh c = some (l, c') → S.Nodup → x ∈ S → (∀ y ∈ S, Rtc D x y) → (∀ y ∈ fresh, y ∈ S) → (∀ z ∈ S, z ∉ fresh → ∀ y, D z y → y ∈ S) →
  Asc l ∧ ∀ y, y ∈ l ↔ Rtc D x y
 | 0, S, fresh, l, c, c', h, _, _, _, _, _ => by cases h
 | r + 1, S, fresh, l, c, c', h, hn, hx, hS, hf, hc => by
  simp only [starF, Option.bind_eq_some_iff] at h
  obtain ⟨⟨l1, c1⟩, h1, ⟨S', nx⟩, h2, h3⟩ := h
  have a := (allF_spec hF h1).2
  obtain ⟨b1, b2, -, b4, b5⟩ := starPut_spec h2 hn
  have hS' : ∀ y ∈ S', Rtc D x y := fun y hy => by
   rcases (b2 y).1 hy with h | h
   ·exact hS y h
   ·obtain ⟨z, hz, hd⟩ := (a y).1 h
    exact (hS z (hf z hz)).tail hd
  have hcl : ∀ z ∈ S, ∀ y, D z y → y ∈ S' := fun z hz y hd => by
   by_cases hzf : z ∈ fresh
   ·exact (b2 y).2 (.inr ((a y).2 ⟨z, hzf, hd⟩))
   ·exact (b2 y).2 (.inl (hc z hz hzf y hd))
  simp only at h3
  split at h3
  ·rename_i hnil
   cases h3
   refine ⟨asc_sortH b1, fun y => ?_⟩
   rw [(sortH_perm _).mem_iff]
   refine ⟨hS' y, fun hr => ?_⟩
   induction hr with
   | refl => exact (b2 x).2 (.inl hx)
   | tail _ hd ih =>
    rcases b5 _ ih with h | h
    ·exact hcl _ h _ hd
    ·rw [hnil] at h; cases h
  ·refine starF_spec hF x h3 b1 ((b2 x).2 (.inl hx)) hS' (fun y hy => ?_) (fun z hz hzn y hd => ?_)
   ·rcases b4 y hy with h | h
    ·cases h
    ·exact (b2 y).2 (.inr h)
   ·rcases b5 z hz with h | h
    ·exact hcl z h y hd
    ·exact absurd h hzn

mutual
theorem Tm.of_spec : ∀ (t : Tm), Spec (fun x c => t.ofT x c) t.den
 | .mk op f n ks => by
  intro x c l c' h
  simp only [Tm.ofT] at h
  unfold Tm.den
  split at h
  ·rename_i h6
   simp only [Option.bind_eq_some_iff] at h
   obtain ⟨c1, -, h⟩ := h
   cases h
   split
   ·rename_i hh
    exact ⟨by simp [Asc], fun y => by simp [hh]⟩
   ·rename_i hh
    exact ⟨by simp [Asc], fun y => by simp [hh]⟩
  rename_i h6
  split at h
  ·rename_i h7
   simp only [Option.bind_eq_some_iff] at h
   obtain ⟨c1, -, h⟩ := h
   cases h
   exact ⟨by simp [Asc], fun y => by rw [if_neg h6, if_pos h7]; simp⟩
  rename_i h7
  split at h
  ·rename_i h9
   have a := Tm.then_spec ks h (by simp [Asc])
   exact ⟨a.1, fun y => by rw [if_neg h6, if_neg h7, if_pos h9, a.2]; simp⟩
  rename_i h9
  split at h
  ·rename_i h10
   have a := Tm.star_spec ks h
   exact ⟨a.1, fun y => by rw [if_neg h6, if_neg h7, if_neg h9, if_pos h10]; exact a.2 y⟩
  rename_i h10
  simp only [Option.map_eq_some_iff] at h
  obtain ⟨⟨S, c1⟩, h1, h2⟩ := h
  cases h2
  have a := Tm.union_spec ks h1 List.nodup_nil
  refine ⟨asc_sortH a.1, fun y => ?_⟩
  rw [if_neg h6, if_neg h7, if_neg h9, if_neg h10, (sortH_perm _).mem_iff, a.2]
  simp
theorem Tm.then_spec : ∀ (ks : List Tm) {l r : List Hdr} {c c' : Int}, Tm.thenT ks l c = some (r, c') → Asc l → Asc r ∧ ∀ y, y ∈ r ↔ ∃ z ∈ l, Tm.denThen ks z y
 | [], l, r, c, c', h, ha => by
  simp only [Tm.thenT] at h
  cases h
  exact ⟨ha, fun y => by simp [Tm.denThen]⟩
 | t :: ts, l, r, c, c', h, _ => by
  simp only [Tm.thenT, Option.bind_eq_some_iff] at h
  obtain ⟨⟨r1, c1⟩, h1, h2⟩ := h
  have a := allF_spec (Tm.of_spec t) h1
  have b := Tm.then_spec ts h2 a.1
  refine ⟨b.1, fun y => ?_⟩
  rw [b.2]
  simp only [a.2, Tm.denThen]
  exact ⟨fun ⟨z, ⟨u, hu, hd⟩, h⟩ => ⟨u, hu, z, hd, h⟩, fun ⟨u, hu, z, hd, h⟩ => ⟨z, ⟨u, hu, hd⟩, h⟩⟩
theorem Tm.star_spec : ∀ (ks : List Tm) {x : Hdr} {l : List Hdr} {c c' : Int}, Tm.starT ks x c = some (l, c') → Asc l ∧ ∀ y, y ∈ l ↔ Tm.denStar ks x y
 | [], x, l, c, c', h => by simp [Tm.starT] at h
 | t :: ts, x, l, c, c', h => by
  simp only [Tm.starT] at h
  have a := starF_spec (Tm.of_spec t) x h (by simp) (by simp) (fun y hy => by simp at hy; rw [hy]; exact .refl) (fun y hy => hy) (fun z hz hn => absurd hz hn)
  exact ⟨a.1, fun y => by rw [a.2, Tm.denStar]⟩
theorem Tm.union_spec : ∀ (ks : List Tm) {x : Hdr} {S S' : List Hdr} {c c' : Int}, Tm.unionT ks x S c = some (S', c') → S.Nodup → S'.Nodup ∧ ∀ y, y ∈ S' ↔ y ∈ S ∨ Tm.denAny ks x y
 | [], x, S, S', c, c', h, hn => by
  simp only [Tm.unionT] at h
  cases h
  exact ⟨hn, fun y => by simp [Tm.denAny]⟩
 | t :: ts, x, S, S', c, c', h, hn => by
  simp only [Tm.unionT, Option.bind_eq_some_iff] at h
  obtain ⟨⟨r, c1⟩, h1, S1, h2, h3⟩ := h
  have a := (Tm.of_spec t _ _ _ _ h1).2
  have b := putAll_spec h2 hn
  have d := Tm.union_spec ts h3 b.1
  refine ⟨d.1, fun y => ?_⟩
  rw [d.2, b.2, a, Tm.denAny, or_assoc]
end

theorem told {t : Tm} {x : Hdr} (h0 : (ofC t x).1 = 0) : Asc (ofC t x).2 ∧ ∀ y, y ∈ (ofC t x).2 ↔ t.den x y := by
 by_cases hc : checkT t = 0
 ·cases hr : t.ofT x 0 with
  | none => simp [ofC, hc, hr] at h0
  | some r =>
   have e : (ofC t x).2 = r.1 := by simp [ofC, hc, hr]
   rw [e]
   exact Tm.of_spec t x 0 r.1 r.2 hr
 ·rw [ofC, if_neg hc] at h0
  exact absurd h0 hc
end Go.Proofs.YtjjbdbklbghlhaaGreatDoor
/- What compiled diagrams mean, in plain words: not; predicates. -/
namespace Go.Proofs.YtjjbdbklbghlhaaGreatDoor
open Go.RowKit Go.Sort Go.Maps Go.Lib
set_option linter.unusedSimpArgs false

/-- tests in order -/
def ltC (s t : Int × Int) : Prop := s.1 < t.1 ∨ (s.1 = t.1 ∧ s.2 < t.2)
theorem ltC.trans {a b c : Int × Int} (h : ltC a b) (k : ltC b c) : ltC a c := by unfold ltC at *; omega
theorem Gd.leafAscC {L : List NdD} (h : Gd L) {a : Nat} (ha : a < L.length) : RAsc (nodeP L a).leaf := by
 rcases (h.l.2.2 _ (List.mem_of_getElem? (nodeP_some ha))).2 with ⟨l', -, hl', -⟩ | ⟨-, hl'⟩
 ·exact rowsP_rises hl'
 ·rw [hl']; exact List.Pairwise.nil
theorem fits_small {f n : Int} (h : fitsB f n = true) : n < 18446744073709551615 := by
 have h0 := (fits_rng h).2.1
 unfold fitsB fitsK at h
 split at h
 ·cases h
 ·obtain ⟨k, hk1, hk2⟩ := widthI_le f
  rw [hk1, Int.toNat_natCast] at h
  have h1 : n / (2 : Int) ^ k = 0 := by simpa using h
  have hp : (0 : Int) < 2 ^ k := Int.pow_pos (by decide)
  have h2 := Int.emod_lt_of_pos n hp
  have h3 := Int.mul_ediv_add_emod n ((2 : Int) ^ k)
  rw [h1, Int.mul_zero, Int.zero_add] at h3
  have h4 : (2 : Nat) ^ k ≤ 2 ^ 48 := Nat.pow_le_pow_right (by decide) hk2
  have h5 : ((2 : Int) ^ k) = (((2 : Nat) ^ k : Nat) : Int) := by simp
  rw [h3, h5] at h2
  have h6 : (2 : Nat) ^ 48 = 281474976710656 := by decide
  omega
/-- headers that no test below tells apart -/
theorem leafOf_agree {L : List NdD} (hG : Gd L) {h h' : Hdr} {S : Int × Int → Prop} (hS : ∀ s t, S s → ltC s t → S t) (hh : ∀ t : Int × Int, S t → fitsB t.1 t.2 = true → (h.f t.1.toNat = t.2 ↔ h'.f t.1.toNat = t.2)) : ∀ {k a : Nat}, a < k → a < L.length → (0 ≤ (nodeP L a).f → S ((nodeP L a).f, (nodeP L a).n)) → leafOf L a h = leafOf L a h'
 | 0, _, hk, _, _ => absurd hk (Nat.not_lt_zero _)
 | k + 1, a, hk, ha, hr => by
  by_cases hf : (nodeP L a).f < 0
  ·rw [leafOf_leaf hf, leafOf_leaf hf]
  ·have hf0 : 0 ≤ (nodeP L a).f := by omega
   have hkd := hG.o.kids ha hf0
   obtain ⟨a1, a2⟩ := hG.kids ha hf0
   have hs := hr hf0
   have hi := hh _ hs (hG.fit ha hf0)
   rw [leafOf_test hG.o ha hf, leafOf_test hG.o ha hf]
   have e1 := leafOf_agree hG hS hh (k := k) (a := (nodeP L a).hi.toNat) (by omega) (by omega) (fun h0 => hS _ _ hs (by unfold ltC; left; exact a1 h0))
   have e2 := leafOf_agree hG hS hh (k := k) (a := (nodeP L a).lo.toNat) (by omega) (by omega) (fun h0 => hS _ _ hs (by unfold ltC; exact a2 h0))
   by_cases hc : h.f (nodeP L a).f.toNat = (nodeP L a).n
   ·rw [if_pos hc, if_pos (hi.1 hc), e1]
   ·rw [if_neg hc, if_neg (fun e => hc (hi.2 e)), e2]
/-- a predicate's diagram -/
def PredQ (L : List NdD) (a : Nat) : Prop := ∀ h : Hdr, leafOf L a h = [] ∨ leafOf L a h = [[]]
theorem PredQ.pre {L M : List NdD} (hI : InvO L) (hp : L <+: M) {a : Nat} (ha : a < L.length) (h : PredQ L a) : PredQ M a := fun x => by rw [leafOf_pre hI hp ha]; exact h x
theorem PredQ.kids {L : List NdD} (hG : Gd L) {a : Nat} (ha : a < L.length) (hf0 : 0 ≤ (nodeP L a).f) (h : PredQ L a) : PredQ L (nodeP L a).hi.toNat ∧ PredQ L (nodeP L a).lo.toNat := by
 have hkd := hG.o.kids ha hf0
 obtain ⟨a1, a2⟩ := hG.kids ha hf0
 have hfit := hG.fit ha hf0
 obtain ⟨⟨r1, r2⟩, r3⟩ := fits_rng hfit
 have hf : ¬ (nodeP L a).f < 0 := by omega
 constructor
 ·intro x
  have e1 : leafOf L (nodeP L a).hi.toNat x = leafOf L (nodeP L a).hi.toNat (x.put (nodeP L a).f.toNat (nodeP L a).n) :=
   leafOf_agree hG (S := fun t => (nodeP L a).f < t.1) (fun s t h1 h2 => by unfold ltC at h2; omega) (fun t ht hft => by
    have := (fits_rng hft).1
    rw [Hdr.f_put _ _ _ _ r3 (by omega), if_neg (by omega)]) (k := a) (by omega) (by omega) a1
  rw [e1]
  have := h (x.put (nodeP L a).f.toNat (nodeP L a).n)
  rw [leafOf_test hG.o ha hf, if_pos (by rw [Hdr.f_put _ _ _ _ r3 (by omega), if_pos rfl])] at this
  exact this
 ·intro x
  by_cases hx : x.f (nodeP L a).f.toNat = (nodeP L a).n
  ·have e1 : leafOf L (nodeP L a).lo.toNat x = leafOf L (nodeP L a).lo.toNat (x.put (nodeP L a).f.toNat 18446744073709551615) :=
    leafOf_agree hG (S := fun t => ltC ((nodeP L a).f, (nodeP L a).n) t) (fun s t h1 h2 => h1.trans h2) (fun t ht hft => by
     have hr := (fits_rng hft).1
     have hsm := fits_small hft
     rw [Hdr.f_put _ _ _ _ (by omega) (by omega)]
     unfold ltC at ht
     dsimp only at ht
     by_cases he : (nodeP L a).f.toNat = t.1.toNat
     ·rw [if_pos he, ← he, hx]
      constructor
      ·intro e; omega
      ·intro e; omega
     ·rw [if_neg he]) (k := a) (by omega) (by omega) a2
   rw [e1]
   have hsm := fits_small hfit
   have := h (x.put (nodeP L a).f.toNat 18446744073709551615)
   rw [leafOf_test hG.o ha hf, if_neg (by rw [Hdr.f_put _ _ _ _ (by omega) (by omega), if_pos rfl]; omega)] at this
   exact this
  ·have := h x
   rw [leafOf_test hG.o ha hf, if_neg hx] at this
   exact this
theorem rowP_nil : rowP [] = some [] := by rw [rowV_nil.some]; exact congrArg some (List.length_eq_zero_iff.1 (sortF_perm []).length_eq)
theorem nilRow_some : ∀ r ∈ ([[]] : List RowD), (rowP r).isSome := fun r hr => by simp at hr; subst hr; rw [rowP_nil]; rfl
theorem noRow_some : ∀ r ∈ ([] : List RowD), (rowP r).isSome := fun r hr => by cases hr
/-- yes' leaf, no's leaf -/
theorem leaf_yes {L : List NdD} (h0 : (leafR L [[]]).1.1 = 0) : (nodeP (leafR L [[]]).2 (leafR L [[]]).1.2).f < 0 ∧ ∀ x r, r ∈ leafOf (leafR L [[]]).2 (leafR L [[]]).1.2 x ↔ r = [] := by
 obtain ⟨h1, h2⟩ := leafR_means nilRow_some h0
 refine ⟨h1, fun x r => ?_⟩
 rw [h2]
 constructor
 ·rintro ⟨s, hs, e⟩
  simp at hs
  subst hs
  rw [rowP_nil] at e
  cases e
  rfl
 ·rintro rfl
  exact ⟨[], by simp, rowP_nil⟩
theorem leaf_no {L : List NdD} (h0 : (leafR L []).1.1 = 0) : (nodeP (leafR L []).2 (leafR L []).1.2).f < 0 ∧ ∀ x r, r ∈ leafOf (leafR L []).2 (leafR L []).1.2 x ↔ False := by
 obtain ⟨h1, h2⟩ := leafR_means noRow_some h0
 refine ⟨h1, fun x r => ?_⟩
 rw [h2]
 constructor
 ·rintro ⟨s, hs, e⟩
  cases hs
 ·exact False.elim

structure NotSem (L : List NdD) (a : Nat) (R : Out) : Prop where
 ok : Okay R
 sem : R.1.1 = 0 → ∀ h r, r ∈ leafOf R.2 R.1.2 h ↔ (r = [] ∧ leafOf L a h = [])
 aft : R.1.1 = 0 → ∀ t, Aft L t a → Aft R.2 t R.1.2
 aftF : R.1.1 = 0 → ∀ f, AftF L f a → AftF R.2 f R.1.2
theorem notP_sem : ∀ {k : Nat} {L : List NdD} {a : Nat}, Gd L → a < L.length → a < k → PredQ L a → NotSem L a (notP k L a)
 | 0, _, _, _, _, h, _ => absurd h (Nat.not_lt_zero _)
 | k + 1, L, a, hG, ha, hk, hQ => by
  rw [notP]
  split
  ·rename_i hf
   have hq := hQ (Vector.replicate 11 0)
   rw [leafOf_leaf hf] at hq
   rcases hq with hq | hq
   ·rw [hq]
    refine ⟨(leafR_sem nilRow_some).1, fun h0 h r => ?_, fun h0 t _ => (aft_leaf (leaf_yes h0).1).1 t, fun h0 f _ => (aft_leaf (leaf_yes h0).1).2 f⟩
    show r ∈ leafOf (leafR L [[]]).2 (leafR L [[]]).1.2 h ↔ _
    rw [(leaf_yes h0).2, leafOf_leaf hf, hq]
    simp
   ·rw [hq]
    refine ⟨(leafR_sem noRow_some).1, fun h0 h r => ?_, fun h0 t _ => (aft_leaf (leaf_no h0).1).1 t, fun h0 f _ => (aft_leaf (leaf_no h0).1).2 f⟩
    show r ∈ leafOf (leafR L []).2 (leafR L []).1.2 h ↔ _
    rw [(leaf_no h0).2, leafOf_leaf hf, hq]
    simp
  ·rename_i hf
   have hf0 : 0 ≤ (nodeP L a).f := by omega
   have hkd := hG.o.kids ha hf0
   obtain ⟨a1, a2⟩ := hG.kids ha hf0
   have hfit := hG.fit ha hf0
   obtain ⟨q1, q2⟩ := hQ.kids hG ha hf0
   have hle := fun h => leafOf_test hG.o (h := h) ha hf
   have hA : ∀ t, Aft L t a → (t.1 < (nodeP L a).f ∨ (t.1 = (nodeP L a).f ∧ t.2 < (nodeP L a).n)) := fun t h => h hf0
   have hAF : ∀ f, AftF L f a → f < (nodeP L a).f := fun f h => h hf0
   generalize (nodeP L a).f = xf at *
   generalize (nodeP L a).n = xn at *
   generalize (nodeP L a).hi.toNat = hi at *
   generalize (nodeP L a).lo.toNat = lo at *
   have hu := notP_sem (k := k) hG (by omega) (by omega) q1
   have hfi := notP_fine (k := k) (a := hi) hG.o (by omega)
   have hs := notP_steps k L hi
   generalize notP k L hi = R1 at *
   have hG1 := hs.good hG
   have hl := hfi.pre.length_le
   have hu2 := notP_sem (k := k) (L := R1.2) (a := lo) hG1 (by omega) (by omega) (q2.pre hG.o hfi.pre (by omega))
   have hfi2 := notP_fine (k := k) (L := R1.2) (a := lo) hfi.inv (by omega)
   have hs2 := notP_steps k R1.2 lo
   obtain ⟨R2, hR2⟩ : ∃ R2, R2 = notP k R1.2 lo := ⟨_, rfl⟩
   rw [← hR2] at hu2 hfi2 hs2
   have hE : (bindR R1 fun h L1 => bindR (notP k L1 lo) fun l L2 => testR L2 (xf, xn) h l) = bindR R1 fun h L1 => bindR R2 fun l L2 => testR L2 (xf, xn) h l := by
    unfold bindR
    split
    ·dsimp only
     rw [← hR2]
    ·rfl
   rw [hE]
   have hG2 := hs2.good hG1
   have hl2 := hfi2.pre.length_le
   have ht : R1.1.1 = 0 → R2.1.1 = 0 → Okay (testR R2.2 (xf, xn) R1.1.2 R2.1.2) ∧ _ := fun r1 r2 => testR_sem hG2 (p := (xf, xn)) (x := R1.1.2) (y := R2.1.2) (by have := hfi.lt r1; omega) (hfi2.lt r2) hfit
    ((hu.aftF r1 xf a1).pre hfi2.pre (hfi.lt r1)) (hu2.aft r2 (xf, xn) (a2.pre hfi.pre (by omega)))
   have hR : ∀ h0 : (bindR R1 fun h L1 => bindR R2 fun l L2 => testR L2 (xf, xn) h l).1.1 = 0, R1.1.1 = 0 ∧ R2.1.1 = 0 ∧ (bindR R1 fun h L1 => bindR R2 fun l L2 => testR L2 (xf, xn) h l) = testR R2.2 (xf, xn) R1.1.2 R2.1.2 ∧ (testR R2.2 (xf, xn) R1.1.2 R2.1.2).1.1 = 0 := fun h0 => by
    obtain ⟨r1, e1⟩ := bindR_zero h0
    rw [e1] at h0
    obtain ⟨r2, e2⟩ := bindR_zero h0
    refine ⟨r1, r2, e1.trans e2, ?_⟩
    rw [e2] at h0
    exact h0
   refine ⟨hu.ok.bind fun r1 => hu2.ok.bind fun r2 => (ht r1 r2).1, fun h0 h r => ?_, fun h0 t t1 => ?_, fun h0 f f1 => ?_⟩
   ·obtain ⟨r1, r2, e, z⟩ := hR h0
    rw [e, ((ht r1 r2).2 z).1 h, hle h]
    dsimp only
    split
    ·rename_i hh
     rw [leafOf_pre hfi.inv hfi2.pre (hfi.lt r1), hu.sem r1]
    ·rename_i hh
     rw [hu2.sem r2, leafOf_pre hG.o hfi.pre (by omega)]
   ·obtain ⟨r1, r2, e, z⟩ := hR h0
    rw [e]
    exact ((ht r1 r2).2 z).2.1 t (hA t t1)
   ·obtain ⟨r1, r2, e, z⟩ := hR h0
    rw [e]
    exact ((ht r1 r2).2 z).2.2 f (hAF f f1)

/-- what a predicate's term becomes -/
structure PredSem (R : Out) (P : Hdr → Bool) : Prop where
 ok : Okay R
 sem : R.1.1 = 0 → ∀ h r, r ∈ leafOf R.2 R.1.2 h ↔ (r = [] ∧ P h = true)
theorem PredSem.q {L : List NdD} {R : Out} {P : Hdr → Bool} (hp : PredSem R P) (hG : Gd R.2) (hf : Fine L R) (h0 : R.1.1 = 0) : PredQ R.2 R.1.2 := fun h => by
 have ha : RAsc (leafOf R.2 R.1.2 h) := hG.leafAscC (down_lt hG.o (hf.lt h0))
 have hm := hp.sem h0 h
 cases hc : P h with
 | true =>
  right
  refine asc_ext ha (by simp [RAsc]) fun r => ?_
  rw [hm, hc]
  simp
 | false =>
  left
  cases hl : leafOf R.2 R.1.2 h with
  | nil => rfl
  | cons r l =>
   exfalso
   have := (hm r).1 (by rw [hl]; simp)
   rw [hc] at this
   exact absurd this.2 (by decide)
theorem PredSem.iff {L : List NdD} {R : Out} {P : Hdr → Bool} (hp : PredSem R P) (hG : Gd R.2) (hf : Fine L R) (h0 : R.1.1 = 0) (h : Hdr) : leafOf R.2 R.1.2 h = [] ↔ P h = false := by
 have hm := hp.sem h0 h []
 constructor
 ·intro e
  rw [e] at hm
  cases hc : P h with
  | false => rfl
  | true => exact absurd (hm.2 ⟨rfl, hc⟩) (by simp)
 ·intro e
  rcases hp.q hG hf h0 h with hq | hq
  ·exact hq
  ·rw [hq, e] at hm
   exact absurd (hm.1 (by simp)).2 (by decide)
theorem right_field {op f n : Int} {ks : List Tm} {p : Bool} (h : (Tm.mk op f n ks).right p = true) (ho : op = 2 ∨ op = 7) : fitsB f n = true := by
 have hb : ∃ o, fieldB o f n = true := by
  rw [Tm.right] at h
  rw [if_neg (by omega)] at h
  refine ⟨op, ?_⟩
  rcases ho with rfl | rfl
  ·split at h
   ·cases h
   split at h
   ·cases h
   split at h
   ·cases h
   exact h
  ·split at h
   ·cases h
   split at h
   ·cases h
   split at h
   ·cases h
   exact h
 obtain ⟨o, hb⟩ := hb
 unfold fieldB fieldK at hb
 unfold fitsB fitsK
 split at hb
 ·cases hb
 ·rename_i h1
  rw [if_neg h1]
  split at hb
  ·cases hb
  ·rename_i h2
   simpa using h2
theorem joinP_pred {j : Bool} {L : List NdD} {a b : Nat} {P Q : Hdr → Bool} (hG : Gd L) (ha : a < L.length) (hb : b < L.length) (hP : ∀ h r, r ∈ leafOf L a h ↔ (r = [] ∧ P h = true)) (hQ : ∀ h r, r ∈ leafOf L b h ↔ (r = [] ∧ Q h = true)) :
  PredSem (joinP j L a b) fun h => if j then P h && Q h else P h || Q h := by
 unfold joinP
 cases j
 ·have hu := unionP_sem (k := a + b + 1) hG ha hb (by omega)
  refine ⟨hu.ok, fun h0 h r => ?_⟩
  show r ∈ leafOf (unionP (a + b + 1) L a b).2 (unionP (a + b + 1) L a b).1.2 h ↔ _
  rw [hu.sem h0, hP, hQ, ← and_or_left]
  simp
 ·have ht := thenP_sem (k := a + 1) hG ha hb (by omega)
  refine ⟨ht.ok, fun h0 h r => ?_⟩
  show r ∈ leafOf (thenP (a + 1) L a b).2 (thenP (a + 1) L a b).1.2 h ↔ _
  rw [ht.sem h0]
  constructor
  ·rintro ⟨u, hu, m, hm, hj⟩
   obtain ⟨rfl, h1⟩ := (hP h u).1 hu
   obtain ⟨rfl, h2⟩ := (hQ (setRow [] h) m).1 hm
   have h2 : Q h = true := h2
   have e : joinA [] [] = [] := rfl
   rw [e, rowP_nil] at hj
   cases hj
   simp [h1, h2]
  ·rintro ⟨rfl, h1⟩
   simp at h1
   exact ⟨[], (hP h []).2 ⟨rfl, h1.1⟩, [], (hQ (setRow [] h) []).2 ⟨rfl, h1.2⟩, rowP_nil⟩

mutual
theorem termC_pred : ∀ (t : Tm) {L : List NdD}, t.right true = true → Gd L → PredSem (termC t L) t.holds
 | .mk op f n ks, L, hr, hG => by
  rw [termC]
  rcases Tm.right_pred hr with (rfl | rfl) | ⟨rfl, hf0, hf1⟩ | ⟨h345, hk1, hra⟩
  ·rw [if_pos rfl]
   refine ⟨(leafR_sem noRow_some).1, fun h0 h r => ?_⟩
   rw [(leaf_no h0).2]
   simp [Tm.holds]
  ·rw [if_neg (by decide), if_pos rfl]
   refine ⟨(leafR_sem nilRow_some).1, fun h0 h r => ?_⟩
   rw [(leaf_yes h0).2]
   simp [Tm.holds]
  ·rw [if_neg (by decide), if_neg (by decide), if_pos rfl]
   have hfit := right_field hr (.inl rfl)
   have h1 := leafR_fine hG.o [[]]
   have s1 := (leafR_sem (L := L) nilRow_some).1
   have g1 := (leafR_steps L [[]]).good hG
   have y1 := leaf_yes (L := L)
   generalize leafR L [[]] = R1 at *
   have h2 := leafR_fine h1.inv []
   have s2 := (leafR_sem (L := R1.2) noRow_some).1
   have g2 := (leafR_steps R1.2 []).good g1
   have y2 := leaf_no (L := R1.2)
   have hl2 := h2.pre.length_le
   obtain ⟨R2, hR2⟩ : ∃ R2, R2 = leafR R1.2 [] := ⟨_, rfl⟩
   rw [← hR2] at h2 s2 g2 y2 hl2
   have hE : (bindR R1 fun h L1 => bindR (leafR L1 []) fun l L2 => testR L2 (f, n) h l) = bindR R1 fun h L1 => bindR R2 fun l L2 => testR L2 (f, n) h l := by
    unfold bindR
    split
    ·dsimp only
     rw [← hR2]
    ·rfl
   rw [hE]
   have ht : R1.1.1 = 0 → R2.1.1 = 0 → Okay (testR R2.2 (f, n) R1.1.2 R2.1.2) ∧ _ := fun r1 r2 => testR_sem g2 (p := (f, n)) (x := R1.1.2) (y := R2.1.2) (by have := h1.lt r1; omega) (h2.lt r2) hfit
    (((aft_leaf (y1 r1).1).2 f).pre h2.pre (h1.lt r1)) ((aft_leaf (y2 r2).1).1 (f, n))
   refine ⟨s1.bind fun r1 => s2.bind fun r2 => (ht r1 r2).1, fun h0 h r => ?_⟩
   obtain ⟨r1, e1⟩ := bindR_zero h0
   rw [e1] at h0
   obtain ⟨r2, e2⟩ := bindR_zero h0
   rw [e2] at h0
   rw [e1, e2, ((ht r1 r2).2 h0).1 h]
   dsimp only
   split
   ·rename_i hh
    rw [leafOf_pre h1.inv h2.pre (h1.lt r1), (y1 r1).2]
    simp [Tm.holds, hh]
   ·rename_i hh
    rw [(y2 r2).2]
    simp [Tm.holds, hh]
  ·have hop : op = 3 ∨ op = 4 ∨ op = 5 := h345
   rw [if_neg (by omega), if_neg (by omega), if_neg (by omega)]
   by_cases h3 : op = 3
   ·subst h3
    rw [if_pos rfl]
    have hh := headC_pred ks (L := L) hk1 hra hG
    have hf := headC_fine ks hG.o
    have hg := (headC_steps ks L).good hG
    generalize headC ks L = R at *
    have hn : R.1.1 = 0 → NotSem R.2 R.1.2 (notP (R.1.2 + 1) R.2 R.1.2) := fun r1 => notP_sem hg (hf.lt r1) (by omega) (hh.q hg hf r1)
    refine ⟨hh.ok.bind fun r1 => (hn r1).ok, fun h0 h r => ?_⟩
    obtain ⟨r1, e1⟩ := bindR_zero h0
    rw [e1] at h0 ⊢
    rw [(hn r1).sem h0, hh.iff hg hf r1]
    simp [Tm.holds]
   ·rw [if_neg h3]
    by_cases h4 : op = 4
    ·subst h4
     rw [if_pos (by decide)]
     have hh := foldC_pred true ks (L := L) hk1 hra hG
     refine ⟨hh.ok, fun h0 h r => ?_⟩
     rw [hh.sem h0]
     simp [Tm.holds]
    ·obtain rfl : op = 5 := by omega
     rw [if_neg (by decide), if_pos (by decide)]
     have hh := foldC_pred false ks (L := L) hk1 hra hG
     refine ⟨hh.ok, fun h0 h r => ?_⟩
     rw [hh.sem h0]
     simp [Tm.holds]
theorem headC_pred : ∀ (ks : List Tm) {L : List NdD}, 1 ≤ ks.length → Tm.rightAll ks true = true → Gd L → PredSem (headC ks L) (Tm.holdsHead ks)
 | [], _, h, _, _ => absurd h (by simp)
 | t :: ts, L, _, hr, hG => by
  simp only [Tm.rightAll, Bool.and_eq_true] at hr
  rw [headC]
  exact termC_pred t hr.1 hG
theorem foldC_pred (j : Bool) : ∀ (ks : List Tm) {L : List NdD}, 1 ≤ ks.length → Tm.rightAll ks true = true → Gd L → PredSem (foldC j ks L) fun h => if j then Tm.holdsAll ks h else Tm.holdsAny ks h
 | [], _, h, _, _ => absurd h (by simp)
 | t :: ts, L, _, hr, hG => by
  simp only [Tm.rightAll, Bool.and_eq_true] at hr
  rw [foldC]
  have h1 := termC_pred t hr.1 hG
  have hf := termC_fine t hG.o
  have hg := (termC_steps t L).good hG
  generalize termC t L = R at *
  have h2 : R.1.1 = 0 → _ := fun r1 => restC_pred j ts (o := R.1.2) (L := R.2) (P := t.holds) hr.2 hg (hf.lt r1) (h1.sem r1)
  refine ⟨h1.ok.bind fun r1 => (h2 r1).ok, fun h0 h r => ?_⟩
  obtain ⟨r1, e1⟩ := bindR_zero h0
  rw [e1] at h0 ⊢
  rw [(h2 r1).sem h0]
  cases j <;> simp [Tm.holdsAll, Tm.holdsAny]
theorem restC_pred (j : Bool) : ∀ (ks : List Tm) {o : Nat} {L : List NdD} {P : Hdr → Bool}, Tm.rightAll ks true = true → Gd L → o < L.length → (∀ h r, r ∈ leafOf L o h ↔ (r = [] ∧ P h = true)) → PredSem (restC j ks o L) fun h => if j then P h && Tm.holdsAll ks h else P h || Tm.holdsAny ks h
 | [], o, L, P, _, hG, ho, hP => by
  rw [restC]
  refine ⟨.inl rfl, fun _ h r => ?_⟩
  rw [hP]
  cases j <;> simp [Tm.holdsAll, Tm.holdsAny]
 | t :: ts, o, L, P, hr, hG, ho, hP => by
  simp only [Tm.rightAll, Bool.and_eq_true] at hr
  rw [restC]
  have h1 := termC_pred t hr.1 hG
  have hf := termC_fine t hG.o
  have hg := (termC_steps t L).good hG
  generalize termC t L = R at *
  have hl := hf.pre.length_le
  have hj : R.1.1 = 0 → PredSem (joinP j R.2 o R.1.2) fun h => if j then P h && t.holds h else P h || t.holds h := fun r1 => joinP_pred hg (by omega) (hf.lt r1) (fun h r => by rw [leafOf_pre hG.o hf.pre ho]; exact hP h r) (h1.sem r1)
  have hjf : R.1.1 = 0 → Fine R.2 (joinP j R.2 o R.1.2) := fun r1 => joinP_fine hg.o (by omega) (hf.lt r1)
  have hjg := (joinP_steps j R.2 o R.1.2).good hg
  obtain ⟨S, hS⟩ : ∃ S, S = joinP j R.2 o R.1.2 := ⟨_, rfl⟩
  rw [← hS] at hj hjf hjg
  have hE : (bindR R fun c L1 => bindR (joinP j L1 o c) fun o' L2 => restC j ts o' L2) = bindR R fun c L1 => bindR S fun o' L2 => restC j ts o' L2 := by
   unfold bindR
   split
   ·dsimp only
    rw [← hS]
   ·rfl
  rw [hE]
  have h2 : R.1.1 = 0 → S.1.1 = 0 → _ := fun r1 r2 => restC_pred j ts (o := S.1.2) (L := S.2) (P := fun h => if j then P h && t.holds h else P h || t.holds h) hr.2 hjg ((hjf r1).lt r2) ((hj r1).sem r2)
  refine ⟨h1.ok.bind fun r1 => (hj r1).ok.bind fun r2 => (h2 r1 r2).ok, fun h0 h r => ?_⟩
  obtain ⟨r1, e1⟩ := bindR_zero h0
  rw [e1] at h0
  obtain ⟨r2, e2⟩ := bindR_zero h0
  rw [e2] at h0
  rw [e1, e2, (h2 r1 r2).sem h0]
  cases j <;> simp [Tm.holdsAll, Tm.holdsAny, Bool.and_assoc, Bool.or_assoc]
end
end Go.Proofs.YtjjbdbklbghlhaaGreatDoor
/- What compiled diagrams mean, in plain words: policies. -/
namespace Go.Proofs.YtjjbdbklbghlhaaGreatDoor
open Go.RowKit Go.Sort Go.Maps Go.Lib
set_option linter.unusedSimpArgs false

/-- what a policy's term becomes -/
structure PolSem (R : Out) (D : Hdr → Hdr → Prop) : Prop where
 ok : Okay R
 sem : R.1.1 = 0 → ∀ h y, Makes R.2 R.1.2 h y ↔ D h y
theorem it_to_rtc {D : Hdr → Hdr → Prop} : ∀ {n : Nat} {h y : Hdr}, It D n h y → Rtc D h y
 | 0, h, y, e => by
  have e : y = h := e
  subst e
  exact .refl
 | n + 1, h, y, e => by
  rcases e with e | ⟨z, hz, hd⟩
  ·subst e; exact .refl
  ·exact (it_to_rtc hz).tail hd
theorem it_rtc {D : Hdr → Hdr → Prop} {J : Nat} (hcl : ∀ h y, It D (J + 1) h y → It D J h y) (h y : Hdr) : It D J h y ↔ Rtc D h y := by
 constructor
 ·exact it_to_rtc
 ·intro e
  induction e with
  | refl => exact It.up_le (Nat.zero_le J) (show h = h from rfl)
  | tail _ hd ih => exact hcl _ _ (.inr ⟨_, ih, hd⟩)
theorem star_pol {L : List NdD} {a : Nat} {D : Hdr → Hdr → Prop} (hG : Gd L) (ha : a < L.length) (hD : ∀ h y, Makes L a h y ↔ D h y) : PolSem (starP L a) (Rtc D) := by
 have hs := starP_sem hG ha
 refine ⟨hs.ok, fun h0 h y => ?_⟩
 obtain ⟨J, -, j1, j2⟩ := hs.sem h0
 have e : Makes L a = D := funext fun h => funext fun y => propext (hD h y)
 rw [j1, it_rtc j2, e]
theorem pred_pol {R : Out} {P : Hdr → Bool} (h : PredSem R P) : PolSem R fun x y => P x = true ∧ y = x := by
 refine ⟨h.ok, fun h0 x y => ?_⟩
 unfold Makes
 constructor
 ·rintro ⟨r, hr, he⟩
  obtain ⟨rfl, h1⟩ := (h.sem h0 x r).1 hr
  exact ⟨h1, he.symm⟩
 ·rintro ⟨h1, rfl⟩
  exact ⟨[], (h.sem h0 _ _).2 ⟨rfl, h1⟩, rfl⟩
theorem set_row {f n : Int} (hf : fitsB f n = true) : rowP [⟨0, f, n⟩] = some [⟨0, f, n⟩] := by
 have hv : RowV [(⟨0, f, n⟩ : AcD)] := ⟨by unfold okR; simp [okA, hf], by simp⟩
 rw [hv.some]
 exact congrArg some (List.perm_singleton.1 (sortF_perm _))
theorem set_pol {L : List NdD} {f n : Int} (hf : fitsB f n = true) : PolSem (leafR L [[⟨0, f, n⟩]]) fun x y => y = x.put f.toNat n := by
 have hs : ∀ r ∈ ([[⟨0, f, n⟩]] : List RowD), (rowP r).isSome := fun r hr => by
  simp at hr
  subst hr
  rw [set_row hf]
  rfl
 refine ⟨(leafR_sem hs).1, fun h0 x y => ?_⟩
 have hm := (leafR_means hs h0).2 x
 unfold Makes
 constructor
 ·rintro ⟨r, hr, he⟩
  obtain ⟨s, hss, hst⟩ := (hm r).1 hr
  simp at hss
  subst hss
  rw [set_row hf] at hst
  cases hst
  exact he.symm
 ·rintro rfl
  exact ⟨[⟨0, f, n⟩], (hm _).2 ⟨_, by simp, set_row hf⟩, rfl⟩
theorem joinP_pol {j : Bool} {L : List NdD} {a b : Nat} {P Q : Hdr → Hdr → Prop} (hG : Gd L) (ha : a < L.length) (hb : b < L.length) (hP : ∀ h y, Makes L a h y ↔ P h y) (hQ : ∀ h y, Makes L b h y ↔ Q h y) :
  PolSem (joinP j L a b) fun h y => if j then ∃ z, P h z ∧ Q z y else P h y ∨ Q h y := by
 unfold joinP
 cases j
 ·have hu := unionP_sem (k := a + b + 1) hG ha hb (by omega)
  refine ⟨hu.ok, fun h0 h y => ?_⟩
  have h0 : (unionP (a + b + 1) L a b).1.1 = 0 := h0
  show Makes (unionP (a + b + 1) L a b).2 (unionP (a + b + 1) L a b).1.2 h y ↔ P h y ∨ Q h y
  rw [union_makes hu h0, hP, hQ]
 ·have ht := thenP_sem (k := a + 1) hG ha hb (by omega)
  refine ⟨ht.ok, fun h0 h y => ?_⟩
  have h0 : (thenP (a + 1) L a b).1.1 = 0 := h0
  show Makes (thenP (a + 1) L a b).2 (thenP (a + 1) L a b).1.2 h y ↔ ∃ z, P h z ∧ Q z y
  rw [then_makes hG ha hb ht h0]
  simp only [hP, hQ]

def Tm.denHead : List Tm → Hdr → Hdr → Prop
 | [], _, _ => False
 | t :: _, x, y => t.den x y
mutual
theorem termC_pol : ∀ (t : Tm) {L : List NdD}, t.right false = true → Gd L → PolSem (termC t L) t.den
 | .mk op f n ks, L, hr, hG => by
  rw [termC]
  rcases Tm.right_pol hr with ⟨rfl, hk, hra⟩ | ⟨rfl, hf0, hf1⟩ | ⟨rfl, hk, hra⟩ | ⟨hop, hk, hra⟩
  ·rw [if_neg (by decide), if_neg (by decide), if_neg (by decide), if_neg (by decide), if_neg (by decide), if_neg (by decide), if_pos rfl]
   have hh := pred_pol (headC_pred ks (L := L) (by omega) hra hG)
   refine ⟨hh.ok, fun h0 h y => ?_⟩
   rw [hh.sem h0, Tm.den, if_pos rfl]
  ·rw [if_neg (by decide), if_neg (by decide), if_neg (by decide), if_neg (by decide), if_neg (by decide), if_neg (by decide), if_neg (by decide), if_neg (by decide)]
   have hh := set_pol (L := L) (right_field hr (.inr rfl))
   refine ⟨hh.ok, fun h0 h y => ?_⟩
   rw [hh.sem h0, Tm.den, if_neg (by decide), if_pos rfl]
  ·rw [if_neg (by decide), if_neg (by decide), if_neg (by decide), if_neg (by decide), if_neg (by decide), if_neg (by decide), if_neg (by decide), if_pos rfl]
   have hh := headC_pol ks (L := L) (by omega) hra hG
   have hf := headC_fine ks hG.o
   have hg := (headC_steps ks L).good hG
   generalize headC ks L = R at *
   have hs : R.1.1 = 0 → PolSem (starP R.2 R.1.2) (Rtc (Tm.denHead ks)) := fun r1 => star_pol hg (hf.lt r1) (hh.sem r1)
   refine ⟨hh.ok.bind fun r1 => (hs r1).ok, fun h0 h y => ?_⟩
   obtain ⟨r1, e1⟩ := bindR_zero h0
   rw [e1] at h0 ⊢
   rw [(hs r1).sem h0, Tm.den, if_neg (by decide), if_neg (by decide), if_neg (by decide), if_pos rfl]
   cases ks with
   | nil => simp at hk
   | cons t ts => rw [Tm.denStar]; rfl
  ·rw [if_neg (by omega), if_neg (by omega), if_neg (by omega), if_neg (by omega)]
   by_cases h9 : op = 9
   ·subst h9
    rw [if_pos (by decide)]
    have hh := foldC_pol true ks (L := L) hk hra hG
    refine ⟨hh.ok, fun h0 h y => ?_⟩
    rw [hh.sem h0, if_pos rfl, Tm.den, if_neg (by decide), if_neg (by decide), if_pos rfl]
   ·obtain rfl : op = 8 := by omega
    rw [if_neg (by decide), if_pos (by decide)]
    have hh := foldC_pol false ks (L := L) hk hra hG
    refine ⟨hh.ok, fun h0 h y => ?_⟩
    rw [hh.sem h0, if_neg (by decide), Tm.den, if_neg (by decide), if_neg (by decide), if_neg (by decide), if_neg (by decide)]
theorem headC_pol : ∀ (ks : List Tm) {L : List NdD}, 1 ≤ ks.length → Tm.rightAll ks false = true → Gd L → PolSem (headC ks L) (Tm.denHead ks)
 | [], _, h, _, _ => absurd h (by simp)
 | t :: ts, L, _, hr, hG => by
  simp only [Tm.rightAll, Bool.and_eq_true] at hr
  rw [headC]
  exact termC_pol t hr.1 hG
theorem foldC_pol (j : Bool) : ∀ (ks : List Tm) {L : List NdD}, 1 ≤ ks.length → Tm.rightAll ks false = true → Gd L → PolSem (foldC j ks L) fun h y => if j then Tm.denThen ks h y else Tm.denAny ks h y
 | [], _, h, _, _ => absurd h (by simp)
 | t :: ts, L, _, hr, hG => by
  simp only [Tm.rightAll, Bool.and_eq_true] at hr
  rw [foldC]
  have h1 := termC_pol t hr.1 hG
  have hf := termC_fine t hG.o
  have hg := (termC_steps t L).good hG
  generalize termC t L = R at *
  have h2 : R.1.1 = 0 → _ := fun r1 => restC_pol j ts (o := R.1.2) (L := R.2) (P := t.den) hr.2 hg (hf.lt r1) (h1.sem r1)
  refine ⟨h1.ok.bind fun r1 => (h2 r1).ok, fun h0 h y => ?_⟩
  obtain ⟨r1, e1⟩ := bindR_zero h0
  rw [e1] at h0 ⊢
  rw [(h2 r1).sem h0]
  cases j <;> simp [Tm.denThen, Tm.denAny]
theorem restC_pol (j : Bool) : ∀ (ks : List Tm) {o : Nat} {L : List NdD} {P : Hdr → Hdr → Prop}, Tm.rightAll ks false = true → Gd L → o < L.length → (∀ h y, Makes L o h y ↔ P h y) → PolSem (restC j ks o L) fun h y => if j then ∃ z, P h z ∧ Tm.denThen ks z y else P h y ∨ Tm.denAny ks h y
 | [], o, L, P, _, hG, ho, hP => by
  rw [restC]
  refine ⟨.inl rfl, fun _ h y => ?_⟩
  rw [hP]
  cases j <;> simp [Tm.denThen, Tm.denAny]
 | t :: ts, o, L, P, hr, hG, ho, hP => by
  simp only [Tm.rightAll, Bool.and_eq_true] at hr
  rw [restC]
  have h1 := termC_pol t hr.1 hG
  have hf := termC_fine t hG.o
  have hg := (termC_steps t L).good hG
  generalize termC t L = R at *
  have hl := hf.pre.length_le
  have hj : R.1.1 = 0 → PolSem (joinP j R.2 o R.1.2) fun h y => if j then ∃ z, P h z ∧ t.den z y else P h y ∨ t.den h y := fun r1 => joinP_pol hg (by omega) (hf.lt r1) (fun h y => by rw [makes_pre hG.o hf.pre ho]; exact hP h y) (h1.sem r1)
  have hjf : R.1.1 = 0 → Fine R.2 (joinP j R.2 o R.1.2) := fun r1 => joinP_fine hg.o (by omega) (hf.lt r1)
  have hjg := (joinP_steps j R.2 o R.1.2).good hg
  obtain ⟨S, hS⟩ : ∃ S, S = joinP j R.2 o R.1.2 := ⟨_, rfl⟩
  rw [← hS] at hj hjf hjg
  have hE : (bindR R fun c L1 => bindR (joinP j L1 o c) fun o' L2 => restC j ts o' L2) = bindR R fun c L1 => bindR S fun o' L2 => restC j ts o' L2 := by
   unfold bindR
   split
   ·dsimp only
    rw [← hS]
   ·rfl
  rw [hE]
  have h2 : R.1.1 = 0 → S.1.1 = 0 → _ := fun r1 r2 => restC_pol j ts (o := S.1.2) (L := S.2) (P := fun h y => if j then ∃ z, P h z ∧ t.den z y else P h y ∨ t.den h y) hr.2 hjg ((hjf r1).lt r2) ((hj r1).sem r2)
  refine ⟨h1.ok.bind fun r1 => (hj r1).ok.bind fun r2 => (h2 r1 r2).ok, fun h0 h y => ?_⟩
  obtain ⟨r1, e1⟩ := bindR_zero h0
  rw [e1] at h0
  obtain ⟨r2, e2⟩ := bindR_zero h0
  rw [e2] at h0
  rw [e1, e2, (h2 r1 r2).sem h0]
  cases j
  ·simp [Tm.denAny, or_assoc]
  ·simp only [if_true, Tm.denThen]
   constructor
   ·rintro ⟨z, ⟨u, h1, h2⟩, h3⟩
    exact ⟨u, h1, z, h2, h3⟩
   ·rintro ⟨u, h1, z, h2, h3⟩
    exact ⟨z, ⟨u, h1, h2⟩, h3⟩
end
/-- what is right of what is taken -/
theorem wrongT_zero {t : Tm} (h : wrongT t = 0) : (0 ≤ t.op ∧ t.op < 6 ∧ t.right true = true) ∨ (6 ≤ t.op ∧ t.right false = true) := by
 unfold wrongT at h
 split at h
 ·rename_i ho
  left
  refine ⟨ho.1, ho.2, ?_⟩
  unfold predT at h
  split at h
  ·exact absurd h (by decide)
  ·split at h
   ·assumption
   ·exact absurd h (by decide)
 ·rename_i ho
  right
  have hr : t.right false = true := by
   unfold checkT at h
   split at h
   ·exact absurd h (by decide)
   ·split at h
    ·assumption
    ·exact absurd h (by decide)
  refine ⟨?_, hr⟩
  cases t with
  | mk op f n ks =>
   have := Tm.right_pol hr
   show 6 ≤ op
   omega
/-- what a term makes: a predicate as a filter of it -/
def Tm.denW (t : Tm) (x y : Hdr) : Prop := if t.op < 6 then t.holds x = true ∧ y = x else t.den x y
theorem termC_any {t : Tm} {L : List NdD} (h : wrongT t = 0) (hG : Gd L) : PolSem (termC t L) t.denW := by
 rcases wrongT_zero h with ⟨h0, h6, hr⟩ | ⟨h6, hr⟩
 ·have hp := pred_pol (termC_pred t (L := L) hr hG)
  have e : t.denW = fun x y => t.holds x = true ∧ y = x := by
   funext x y
   unfold Tm.denW
   rw [if_pos h6]
  rw [e]
  exact hp
 ·have hp := termC_pol t (L := L) hr hG
  have e : t.denW = t.den := by
   funext x y
   unfold Tm.denW
   rw [if_neg (by omega)]
  rw [e]
  exact hp
end Go.Proofs.YtjjbdbklbghlhaaGreatDoor
