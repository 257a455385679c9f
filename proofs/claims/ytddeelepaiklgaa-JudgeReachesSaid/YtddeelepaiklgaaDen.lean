/- What the plain meaning means: sets of headers. -/
import Derived.Test.YtddeelepaiklgaaTop
namespace Go.Proofs.Ytddeelepaiklgaa

inductive Rtc (R : Hdr → Hdr → Prop) (x : Hdr) : Hdr → Prop
  | refl : Rtc R x x
  | tail {y z : Hdr} : Rtc R x y → R y z → Rtc R x z
theorem Rtc.trans {R : Hdr → Hdr → Prop} {x y z : Hdr} (h : Rtc R x y) (k : Rtc R y z) : Rtc R x z := by
  induction k with
  | refl => exact h
  | tail _ r ih => exact ih.tail r
theorem Rtc.one {R : Hdr → Hdr → Prop} {x y : Hdr} (h : R x y) : Rtc R x y := Rtc.refl.tail h
theorem Rtc.head {R : Hdr → Hdr → Prop} {x y z : Hdr} (h : R x y) (k : Rtc R y z) : Rtc R x z := (Rtc.one h).trans k
theorem Rtc.cases_head {R : Hdr → Hdr → Prop} {x z : Hdr} (h : Rtc R x z) : x = z ∨ ∃ y, R x y ∧ Rtc R y z := by
  induction h with
  | refl => exact .inl rfl
  | tail _ r ih =>
    rcases ih with rfl | ⟨y, h1, h2⟩
    · exact .inr ⟨_, r, .refl⟩
    · exact .inr ⟨y, h1, h2.tail r⟩

mutual
/-- t makes y of x -/
def Tm.den : Tm → Hdr → Hdr → Prop
  | .mk op f n ks, x, y => if op = 6 then (Tm.holdsHead ks x = true ∧ y = x) else if op = 7 then y = x.put f.toNat n else if op = 9 then Tm.denThen ks x y else if op = 10 then Tm.denStar ks x y else Tm.denAny ks x y
def Tm.denThen : List Tm → Hdr → Hdr → Prop
  | [], x, y => y = x
  | t :: ts, x, y => ∃ z, t.den x z ∧ Tm.denThen ts z y
def Tm.denStar : List Tm → Hdr → Hdr → Prop
  | [], _, _ => False
  | t :: _, x, y => Rtc t.den x y
def Tm.denAny : List Tm → Hdr → Hdr → Prop
  | [], _, _ => False
  | t :: ts, x, y => t.den x y ∨ Tm.denAny ts x y
end

theorem putM_spec {l l' : List Hdr} {x : Hdr} (h : putM l x = some l') (hn : l.Nodup) : l'.Nodup ∧ ∀ y, y ∈ l' ↔ y ∈ l ∨ y = x := by
  unfold putM at h
  split at h
  · rename_i hx
    cases h
    exact ⟨hn, fun y => ⟨.inl, fun h => h.elim id (fun e => e ▸ hx)⟩⟩
  · rename_i hx
    split at h
    · cases h
      refine ⟨List.nodup_append.2 ⟨hn, by simp, fun a ha b hb e => hx (by simp at hb; rw [← hb, ← e]; exact ha)⟩, fun y => by simp⟩
    · cases h
theorem putAll_spec : ∀ {xs l l' : List Hdr}, putAll l xs = some l' → l.Nodup → l'.Nodup ∧ ∀ y, y ∈ l' ↔ y ∈ l ∨ y ∈ xs
  | [], l, l', h, hn => by cases h; exact ⟨hn, by simp⟩
  | x :: xs, l, l', h, hn => by
    simp only [putAll, Option.bind_eq_some_iff] at h
    obtain ⟨l1, h1, h2⟩ := h
    have a := putM_spec h1 hn
    have b := putAll_spec h2 a.1
    exact ⟨b.1, fun y => by rw [b.2, a.2, List.mem_cons]; exact or_assoc⟩

/-- what F makes is D's set, in order -/
def Spec (F : Hdr → Int → Option (List Hdr × Int)) (D : Hdr → Hdr → Prop) : Prop := ∀ x c l c', F x c = some (l, c') → Asc l ∧ ∀ y, y ∈ l ↔ D x y

theorem gather_spec {F : Hdr → Int → Option (List Hdr × Int)} {D : Hdr → Hdr → Prop} (hF : Spec F D) : ∀ {l S S' : List Hdr} {c c' : Int}, gather F l S c = some (S', c') → S.Nodup → S'.Nodup ∧ ∀ y, y ∈ S' ↔ y ∈ S ∨ ∃ z ∈ l, D z y
  | [], S, S', c, c', h, hn => by cases h; exact ⟨hn, by simp⟩
  | x :: xs, S, S', c, c', h, hn => by
    simp only [gather, Option.bind_eq_some_iff] at h
    obtain ⟨⟨r, c1⟩, h1, S1, h2, h3⟩ := h
    have a := (hF _ _ _ _ h1).2
    have b := putAll_spec h2 hn
    have d := gather_spec hF h3 b.1
    refine ⟨d.1, fun y => ?_⟩
    rw [d.2, b.2, or_assoc]
    simp only [a, List.mem_cons, exists_eq_or_imp]
theorem allF_spec {F : Hdr → Int → Option (List Hdr × Int)} {D : Hdr → Hdr → Prop} (hF : Spec F D) {l r : List Hdr} {c c' : Int} (h : allF F l c = some (r, c')) : Asc r ∧ ∀ y, y ∈ r ↔ ∃ z ∈ l, D z y := by
  simp only [allF, Option.map_eq_some_iff] at h
  obtain ⟨⟨S, c1⟩, h1, h2⟩ := h
  cases h2
  have a := gather_spec hF h1 List.nodup_nil
  refine ⟨asc_sortH a.1, fun y => ?_⟩
  rw [(sortH_perm _).mem_iff, a.2]
  simp

theorem starPut_spec : ∀ {l S nx S' nx' : List Hdr}, starPut S nx l = some (S', nx') → S.Nodup → S'.Nodup ∧ (∀ y, y ∈ S' ↔ y ∈ S ∨ y ∈ l) ∧ (∀ y, y ∈ nx → y ∈ nx') ∧ (∀ y, y ∈ nx' → y ∈ nx ∨ y ∈ l) ∧ (∀ y, y ∈ S' → y ∈ S ∨ y ∈ nx')
  | [], S, nx, S', nx', h, hn => by cases h; exact ⟨hn, by simp, by simp, by simp, fun y h => .inl h⟩
  | x :: xs, S, nx, S', nx', h, hn => by
    simp only [starPut] at h
    split at h
    · rename_i hx
      have a := starPut_spec h hn
      refine ⟨a.1, fun y => ?_, a.2.2.1, fun y hy => (a.2.2.2.1 y hy).imp id (List.mem_cons_of_mem _), a.2.2.2.2⟩
      rw [a.2.1, List.mem_cons]
      exact ⟨fun h => h.imp id .inr, fun h => h.elim .inl (fun h => h.elim (fun e => .inl (e ▸ hx)) .inr)⟩
    · rename_i hx
      split at h
      · have a := starPut_spec h (List.nodup_append.2 ⟨hn, by simp, fun a ha b hb e => hx (by simp at hb; rw [← hb, ← e]; exact ha)⟩)
        refine ⟨a.1, fun y => ?_, fun y hy => a.2.2.1 y (List.mem_append_left _ hy), fun y hy => ?_, fun y hy => ?_⟩
        · rw [a.2.1, List.mem_append, List.mem_singleton, List.mem_cons, or_assoc]
        · rcases a.2.2.2.1 y hy with h | h
          · rcases List.mem_append.1 h with h | h
            · exact .inl h
            · exact .inr (List.mem_cons.2 (.inl (List.mem_singleton.1 h)))
          · exact .inr (List.mem_cons_of_mem _ h)
        · rcases a.2.2.2.2 y hy with h | h
          · rcases List.mem_append.1 h with h | h
            · exact .inl h
            · exact .inr (a.2.2.1 y (List.mem_append_right _ h))
          · exact .inr h
      · cases h

theorem starF_spec {F : Hdr → Int → Option (List Hdr × Int)} {D : Hdr → Hdr → Prop} (hF : Spec F D) (x : Hdr) : ∀ {r : Nat} {S fresh l : List Hdr} {c c' : Int}, starF F r S fresh c = some (l, c') → S.Nodup → x ∈ S → (∀ y ∈ S, Rtc D x y) → (∀ y ∈ fresh, y ∈ S) → (∀ z ∈ S, z ∉ fresh → ∀ y, D z y → y ∈ S) →
    Asc l ∧ ∀ y, y ∈ l ↔ Rtc D x y
  | 0, S, fresh, l, c, c', h, _, _, _, _, _ => by cases h
  | r + 1, S, fresh, l, c, c', h, hn, hx, hS, hf, hc => by
    simp only [starF, Option.bind_eq_some_iff] at h
    obtain ⟨⟨l1, c1⟩, h1, ⟨S', nx⟩, h2, h3⟩ := h
    have a := (allF_spec hF h1).2
    obtain ⟨b1, b2, -, b4, b5⟩ := starPut_spec h2 hn
    have hS' : ∀ y ∈ S', Rtc D x y := fun y hy => by
      rcases (b2 y).1 hy with h | h
      · exact hS y h
      · obtain ⟨z, hz, hd⟩ := (a y).1 h
        exact (hS z (hf z hz)).tail hd
    have hcl : ∀ z ∈ S, ∀ y, D z y → y ∈ S' := fun z hz y hd => by
      by_cases hzf : z ∈ fresh
      · exact (b2 y).2 (.inr ((a y).2 ⟨z, hzf, hd⟩))
      · exact (b2 y).2 (.inl (hc z hz hzf y hd))
    simp only at h3
    split at h3
    · rename_i hnil
      cases h3
      refine ⟨asc_sortH b1, fun y => ?_⟩
      rw [(sortH_perm _).mem_iff]
      refine ⟨hS' y, fun hr => ?_⟩
      induction hr with
      | refl => exact (b2 x).2 (.inl hx)
      | tail _ hd ih =>
        rcases b5 _ ih with h | h
        · exact hcl _ h _ hd
        · rw [hnil] at h; cases h
    · refine starF_spec hF x h3 b1 ((b2 x).2 (.inl hx)) hS' (fun y hy => ?_) (fun z hz hzn y hd => ?_)
      · rcases b4 y hy with h | h
        · cases h
        · exact (b2 y).2 (.inr h)
      · rcases b5 z hz with h | h
        · exact hcl z h y hd
        · exact absurd h hzn

mutual
theorem Tm.of_spec : ∀ (t : Tm), Spec (fun x c => t.ofT x c) t.den
  | .mk op f n ks => by
    intro x c l c' h
    simp only [Tm.ofT] at h
    unfold Tm.den
    split at h
    · rename_i h6
      simp only [Option.bind_eq_some_iff] at h
      obtain ⟨c1, -, h⟩ := h
      cases h
      split
      · rename_i hh
        exact ⟨by simp [Asc], fun y => by simp [hh]⟩
      · rename_i hh
        exact ⟨by simp [Asc], fun y => by simp [hh]⟩
    rename_i h6
    split at h
    · rename_i h7
      simp only [Option.bind_eq_some_iff] at h
      obtain ⟨c1, -, h⟩ := h
      cases h
      exact ⟨by simp [Asc], fun y => by rw [if_neg h6, if_pos h7]; simp⟩
    rename_i h7
    split at h
    · rename_i h9
      have a := Tm.then_spec ks h (by simp [Asc])
      exact ⟨a.1, fun y => by rw [if_neg h6, if_neg h7, if_pos h9, a.2]; simp⟩
    rename_i h9
    split at h
    · rename_i h10
      have a := Tm.star_spec ks h
      exact ⟨a.1, fun y => by rw [if_neg h6, if_neg h7, if_neg h9, if_pos h10]; exact a.2 y⟩
    rename_i h10
    simp only [Option.map_eq_some_iff] at h
    obtain ⟨⟨S, c1⟩, h1, h2⟩ := h
    cases h2
    have a := Tm.union_spec ks h1 List.nodup_nil
    refine ⟨asc_sortH a.1, fun y => ?_⟩
    rw [if_neg h6, if_neg h7, if_neg h9, if_neg h10, (sortH_perm _).mem_iff, a.2]
    simp
theorem Tm.then_spec : ∀ (ks : List Tm) {l r : List Hdr} {c c' : Int}, Tm.thenT ks l c = some (r, c') → Asc l → Asc r ∧ ∀ y, y ∈ r ↔ ∃ z ∈ l, Tm.denThen ks z y
  | [], l, r, c, c', h, ha => by
    simp only [Tm.thenT] at h
    cases h
    exact ⟨ha, fun y => by simp [Tm.denThen]⟩
  | t :: ts, l, r, c, c', h, _ => by
    simp only [Tm.thenT, Option.bind_eq_some_iff] at h
    obtain ⟨⟨r1, c1⟩, h1, h2⟩ := h
    have a := allF_spec (Tm.of_spec t) h1
    have b := Tm.then_spec ts h2 a.1
    refine ⟨b.1, fun y => ?_⟩
    rw [b.2]
    simp only [a.2, Tm.denThen]
    exact ⟨fun ⟨z, ⟨u, hu, hd⟩, h⟩ => ⟨u, hu, z, hd, h⟩, fun ⟨u, hu, z, hd, h⟩ => ⟨z, ⟨u, hu, hd⟩, h⟩⟩
theorem Tm.star_spec : ∀ (ks : List Tm) {x : Hdr} {l : List Hdr} {c c' : Int}, Tm.starT ks x c = some (l, c') → Asc l ∧ ∀ y, y ∈ l ↔ Tm.denStar ks x y
  | [], x, l, c, c', h => by simp [Tm.starT] at h
  | t :: ts, x, l, c, c', h => by
    simp only [Tm.starT] at h
    have a := starF_spec (Tm.of_spec t) x h (by simp) (by simp) (fun y hy => by simp at hy; rw [hy]; exact .refl) (fun y hy => hy) (fun z hz hn => absurd hz hn)
    exact ⟨a.1, fun y => by rw [a.2, Tm.denStar]⟩
theorem Tm.union_spec : ∀ (ks : List Tm) {x : Hdr} {S S' : List Hdr} {c c' : Int}, Tm.unionT ks x S c = some (S', c') → S.Nodup → S'.Nodup ∧ ∀ y, y ∈ S' ↔ y ∈ S ∨ Tm.denAny ks x y
  | [], x, S, S', c, c', h, hn => by
    simp only [Tm.unionT] at h
    cases h
    exact ⟨hn, fun y => by simp [Tm.denAny]⟩
  | t :: ts, x, S, S', c, c', h, hn => by
    simp only [Tm.unionT, Option.bind_eq_some_iff] at h
    obtain ⟨⟨r, c1⟩, h1, S1, h2, h3⟩ := h
    have a := (Tm.of_spec t _ _ _ _ h1).2
    have b := putAll_spec h2 hn
    have d := Tm.union_spec ts h3 b.1
    refine ⟨d.1, fun y => ?_⟩
    rw [d.2, b.2, a, Tm.denAny, or_assoc]
end

theorem told {t : Tm} {x : Hdr} (h0 : (ofC t x).1 = 0) : Asc (ofC t x).2 ∧ ∀ y, y ∈ (ofC t x).2 ↔ t.den x y := by
  by_cases hc : checkT t = 0
  · cases hr : t.ofT x 0 with
    | none => simp [ofC, hc, hr] at h0
    | some r =>
      have e : (ofC t x).2 = r.1 := by simp [ofC, hc, hr]
      rw [e]
      exact Tm.of_spec t x 0 r.1 r.2 hr
  · rw [ofC, if_neg hc] at h0
    exact absurd h0 hc
theorem told_not {t : Tm} {x : Hdr} (h0 : (ofC t x).1 ≠ 0) : (ofC t x).2 = [] := by
  by_cases hc : checkT t = 0
  · cases hr : t.ofT x 0 with
    | none => simp [ofC, hc, hr]
    | some r => exact absurd (by simp [ofC, hc, hr]) h0
  · simp [ofC, hc]
/-- two policies that mean the same make the same, where both are told -/
theorem same_of_den {t u : Tm} {x : Hdr} (h : ∀ y, t.den x y ↔ u.den x y) : (!decide ((ofC t x).1 = 0) || !decide ((ofC u x).1 = 0) || decide ((ofC t x).2 = (ofC u x).2)) = true := by
  by_cases h1 : (ofC t x).1 = 0
  · by_cases h2 : (ofC u x).1 = 0
    · have a := told h1
      have b := told h2
      have : (ofC t x).2 = (ofC u x).2 := a.1.ext b.1 fun y => by rw [a.2, b.2, h]
      simp [this]
    · simp [h2]
  · simp [h1]
end Go.Proofs.Ytddeelepaiklgaa
