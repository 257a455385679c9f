/- Of two policies together all comes out that comes out of each: in plain words. -/
import Derived.Test.YtddeelepaiklgaaMJ2
import Derived.Test.YtddeelepaiklgaaAlg
import Derived.Test.YtddeelepaiklgaaMJ3
import Derived.Test.YtddeelepaiklgaaTwo
namespace Go.Proofs.Ytddeelepaiklgaa
set_option linter.unusedSimpArgs false

theorem mem_dd {z : Hdr} : ∀ {l : List Hdr}, z ∈ dd l ↔ z ∈ l
  | [] => Iff.rfl
  | [x] => Iff.rfl
  | x :: y :: r => by
    rw [dd_cons]
    by_cases h : x = y
    · subst h
      rw [if_pos rfl, mem_dd]
      simp
    · rw [if_neg h, List.mem_cons, mem_dd]
      simp
abbrev ovr (wires : List WireD) (z : Hdr) : Option (Int × Int) := overP (IntKind.u16.wrap (z.f 10)) (IntKind.u16.wrap (z.f 9)) wires

theorem foldX_spec (wires : List WireD) : ∀ (l thr out thr' out' : List Hdr), foldX wires l thr out = some (thr', out') → thr.length ≤ 1024 →
    (∃ ext, thr' = thr ++ ext) ∧ thr'.length ≤ 1024 ∧
    (∀ z ∈ l, headE z = 0 → (ovr wires z = none → z ∈ out') ∧ ∀ r, ovr wires z = some r → moveTo z r.1 r.2 ∈ thr') ∧
    (∀ z ∈ out', z ∈ out ∨ (z ∈ l ∧ headE z = 0 ∧ ovr wires z = none)) ∧ (∀ z ∈ out, z ∈ out') ∧
    (∀ m ∈ thr', m ∈ thr ∨ ∃ z ∈ l, headE z = 0 ∧ ∃ r, ovr wires z = some r ∧ m = moveTo z r.1 r.2)
  | [], thr, out, thr', out', h, hl => by
    rw [foldX] at h
    cases h
    exact ⟨⟨[], by simp⟩, hl, fun z hz => absurd hz (by simp), fun z hz => .inl hz, fun z hz => hz, fun m hm => .inl hm⟩
  | x :: xs, thr, out, thr', out', h, hl => by
    rw [foldX] at h
    cases hs : stepX wires x thr out with
    | none => rw [hs] at h; cases h
    | some p =>
      obtain ⟨thr1, out1⟩ := p
      rw [hs, Option.bind_some] at h
      -- the step
      have hst : (∃ ext, thr1 = thr ++ ext) ∧ thr1.length ≤ 1024 ∧ (headE x = 0 → (ovr wires x = none → x ∈ out1) ∧ ∀ r, ovr wires x = some r → moveTo x r.1 r.2 ∈ thr1) ∧
          (∀ z ∈ out1, z ∈ out ∨ (z = x ∧ headE x = 0 ∧ ovr wires x = none)) ∧ (∀ z ∈ out, z ∈ out1) ∧ (∀ m ∈ thr1, m ∈ thr ∨ (headE x = 0 ∧ ∃ r, ovr wires x = some r ∧ m = moveTo x r.1 r.2)) := by
        unfold stepX at hs
        by_cases hx : headE x = 0
        · rw [if_pos hx] at hs
          cases ho : ovr wires x with
          | none =>
            have ho' : overP (IntKind.u16.wrap (x.f 10)) (IntKind.u16.wrap (x.f 9)) wires = none := ho
            rw [ho'] at hs
            cases hs
            exact ⟨⟨[], by simp⟩, hl, fun _ => ⟨fun _ => by simp, fun r h => by cases h⟩, fun z hz => by
              rcases List.mem_append.1 hz with h | h
              · exact .inl h
              · exact .inr ⟨List.mem_singleton.1 h, hx, rfl⟩, fun z hz => List.mem_append_left _ hz, fun m hm => .inl hm⟩
          | some r =>
            have ho' : overP (IntKind.u16.wrap (x.f 10)) (IntKind.u16.wrap (x.f 9)) wires = some r := ho
            rw [ho'] at hs
            by_cases hm : moveTo x r.1 r.2 ∈ thr
            · have hs' : (if moveTo x r.1 r.2 ∈ thr then some (thr, out) else if thr.length = 1024 then none else some (thr ++ [moveTo x r.1 r.2], out)) = some (thr1, out1) := hs
              rw [if_pos hm] at hs'
              cases hs'
              exact ⟨⟨[], by simp⟩, hl, fun _ => ⟨fun h => absurd h (by simp), fun r' h => by cases h; exact hm⟩, fun z hz => .inl hz, fun z hz => hz, fun m h => .inl h⟩
            · have hs' : (if moveTo x r.1 r.2 ∈ thr then some (thr, out) else if thr.length = 1024 then none else some (thr ++ [moveTo x r.1 r.2], out)) = some (thr1, out1) := hs
              rw [if_neg hm] at hs'
              by_cases hf : thr.length = 1024
              · rw [if_pos hf] at hs'; cases hs'
              · rw [if_neg hf] at hs'
                cases hs'
                exact ⟨⟨_, rfl⟩, by simp; omega, fun _ => ⟨fun h => absurd h (by simp), fun r' h => by cases h; simp⟩, fun z hz => .inl hz, fun z hz => hz, fun m h => by
                  rcases List.mem_append.1 h with h | h
                  · exact .inl h
                  · exact .inr ⟨hx, r, rfl, List.mem_singleton.1 h⟩⟩
        · rw [if_neg hx] at hs
          cases hs
          exact ⟨⟨[], by simp⟩, hl, fun h => absurd h hx, fun z hz => .inl hz, fun z hz => hz, fun m h => .inl h⟩
      obtain ⟨⟨e1, rfl⟩, s2, s3, s4, s5, s6⟩ := hst
      obtain ⟨⟨e2, rfl⟩, t2, t3, t4, t5, t6⟩ := foldX_spec wires xs _ out1 thr' out' h s2
      refine ⟨⟨e1 ++ e2, by simp⟩, t2, fun z hz hz0 => ?_, fun z hz => ?_, fun z hz => t5 z (s5 z hz), fun m hm => ?_⟩
      · rcases List.mem_cons.1 hz with rfl | hz
        · exact ⟨fun h => t5 _ ((s3 hz0).1 h), fun r h => List.mem_append_left _ ((s3 hz0).2 r h)⟩
        · exact t3 z hz hz0
      · rcases t4 z hz with h | ⟨h1, h2⟩
        · rcases s4 z h with h | ⟨rfl, h2⟩
          · exact .inl h
          · exact .inr ⟨List.mem_cons_self, h2⟩
        · exact .inr ⟨List.mem_cons_of_mem _ h1, h2⟩
      · rcases t6 m hm with h | ⟨z, hz, h2⟩
        · rcases s6 m h with h | h
          · exact .inl h
          · exact .inr ⟨x, List.mem_cons_self, h⟩
        · exact .inr ⟨z, List.mem_cons_of_mem _ hz, h2⟩

/-- what is gone through is shut, and made step by step -/
theorem reachN_spec (t : Tm) (wires : List WireD) : ∀ (n i : Nat) (thr out O : List Hdr), reachN t wires n i thr out = (0, O) → n + i = 1025 → i ≤ thr.length → thr.length ≤ 1024 →
    ∃ T : List Hdr, (∃ ext, T = thr ++ ext) ∧ (∀ j, i ≤ j → ∀ y, T[j]? = some y → (ofC t y).1 = 0 ∧ ∀ z ∈ (ofC t y).2, headE z = 0 → (ovr wires z = none → z ∈ O) ∧ ∀ r, ovr wires z = some r → moveTo z r.1 r.2 ∈ T) ∧
      (∀ z ∈ O, z ∈ out ∨ ∃ y ∈ T, z ∈ (ofC t y).2 ∧ headE z = 0 ∧ ovr wires z = none) ∧ (∀ z ∈ out, z ∈ O) ∧
      ∀ P : Hdr → Prop, (∀ y ∈ thr, P y) → (∀ y, P y → ∀ z ∈ (ofC t y).2, headE z = 0 → ∀ r, ovr wires z = some r → P (moveTo z r.1 r.2)) → ∀ y ∈ T, P y
  | 0, i, thr, out, O, h, hn, hi, hl => by omega
  | n + 1, i, thr, out, O, h, hn, hi, hl => by
    rw [reachN] at h
    cases hy : thr[i]? with
    | none =>
      rw [hy] at h
      cases h
      exact ⟨thr, ⟨[], by simp⟩, fun j hj y hjy => by
        have h1 := List.getElem?_eq_none_iff.1 hy
        have h2 := (List.getElem?_eq_some_iff.1 hjy).1
        omega, fun z hz => .inl hz, fun z hz => hz, fun P h0 _ => h0⟩
    | some y =>
      rw [hy] at h
      have h' : (if (ofC t y).1 = 0 then (match foldX wires (ofC t y).2 thr out with | none => ((200 : Int), ([] : List Hdr)) | some r => reachN t wires n (i + 1) r.1 r.2) else ((ofC t y).1, [])) = (0, O) := h
      by_cases hc : (ofC t y).1 = 0
      · rw [if_pos hc] at h'
        cases hf : foldX wires (ofC t y).2 thr out with
        | none => rw [hf] at h'; cases h'
        | some p =>
          obtain ⟨thr1, out1⟩ := p
          rw [hf] at h'
          have h2 : reachN t wires n (i + 1) thr1 out1 = (0, O) := h'
          have hit := (List.getElem?_eq_some_iff.1 hy).1
          obtain ⟨⟨e1, rfl⟩, s2, s3, s4, s5, s6⟩ := foldX_spec wires _ _ _ _ _ hf hl
          obtain ⟨T, ⟨e2, rfl⟩, a1, a2, a3, a4⟩ := reachN_spec t wires n (i + 1) _ out1 O h2 (by omega) (by simp; omega) s2
          refine ⟨thr ++ e1 ++ e2, ⟨e1 ++ e2, by rw [List.append_assoc]⟩, fun j hj y' hy' => ?_, fun z hz => ?_, fun z hz => a3 z (s5 z hz), fun P h0 hs => ?_⟩
          · rcases Nat.lt_or_ge i j with hij | hij
            · exact a1 j hij y' hy'
            · obtain rfl : j = i := by omega
              have : ((thr ++ e1) ++ e2)[j]? = some y := by
                rw [List.append_assoc, List.getElem?_append_left hit]; exact hy
              rw [this] at hy'
              cases hy'
              exact ⟨hc, fun z hz hz0 => ⟨fun h => a3 z ((s3 z hz hz0).1 h), fun r h => List.mem_append_left _ ((s3 z hz hz0).2 r h)⟩⟩
          · rcases a2 z hz with h | h
            · rcases s4 z h with h | ⟨h1, h2⟩
              · exact .inl h
              · exact .inr ⟨y, List.mem_append_left _ (List.mem_append_left _ (List.mem_of_getElem? hy)), h1, h2⟩
            · exact .inr h
          · refine a4 P (fun m hm => ?_) hs
            rcases s6 m hm with h | ⟨z, hz, hz0, r, hr, rfl⟩
            · exact h0 m h
            · exact hs y (h0 y (List.mem_of_getElem? hy)) z hz hz0 r hr
      · rw [if_neg hc] at h'
        injection h' with h1
        exact absurd h1 hc

theorem reachP_zero {t : Tm} {qs : List Qr} {wires : List WireD} {x : Hdr} (h : (reachP t qs wires x).1 = 0) : ∃ O, reachN t wires 1025 0 [x] [] = (0, O) ∧ (reachP t qs wires x).2 = dd (sortH O) ∧ checkP t qs = 0 ∧ headE x = 0 ∧ x.f 3 = 0 := by
  unfold reachP at *
  by_cases h0 : checkP t qs = 0
  · rw [if_pos h0] at h ⊢
    by_cases h1 : headE x = 0 ∧ x.f 3 = 0
    · rw [if_pos h1] at h ⊢
      by_cases h2 : (reachN t wires 1025 0 [x] []).1 = 0
      · rw [if_pos h2]
        refine ⟨(reachN t wires 1025 0 [x] []).2, ?_, rfl, h0, h1⟩
        rw [← h2]
      · rw [if_neg h2] at h; exact absurd h h2
    · rw [if_neg h1] at h; cases h
  · rw [if_neg h0] at h; exact absurd h h0

theorem union_all {p u : Tm} {q1 q2 : List Qr} {wires : List WireD} {x : Hdr} (hu : ∀ y z, p.den y z → u.den y z) (h1 : (reachP p q1 wires x).1 = 0) (h2 : (reachP u q2 wires x).1 = 0) : ∀ z ∈ (reachP p q1 wires x).2, z ∈ (reachP u q2 wires x).2 := by
  obtain ⟨O1, r1, e1, -⟩ := reachP_zero h1
  obtain ⟨O2, r2, e2, -⟩ := reachP_zero h2
  rw [e1, e2]
  obtain ⟨T1, ⟨x1, hT1⟩, a1, b1, -, d1⟩ := reachN_spec p wires 1025 0 [x] [] O1 r1 rfl (by simp) (by simp)
  obtain ⟨T2, ⟨x2, hT2⟩, a2, b2, -, d2⟩ := reachN_spec u wires 1025 0 [x] [] O2 r2 rfl (by simp) (by simp)
  have mem2 : ∀ y ∈ T2, (ofC u y).1 = 0 ∧ ∀ z ∈ (ofC u y).2, headE z = 0 → (ovr wires z = none → z ∈ O2) ∧ ∀ r, ovr wires z = some r → moveTo z r.1 r.2 ∈ T2 := fun y hy => by
    obtain ⟨j, hj⟩ := List.getElem?_of_mem hy
    exact a2 j (Nat.zero_le _) y hj
  have sub : ∀ y ∈ T2, ∀ z ∈ (ofC p y).2, z ∈ (ofC u y).2 := fun y hy z hz => by
    have hp : (ofC p y).1 = 0 := by
      by_cases h : (ofC p y).1 = 0
      · exact h
      · rw [told_not h] at hz; cases hz
    exact ((told (mem2 y hy).1).2 z).2 (hu y z (((told hp).2 z).1 hz))
  have hT : ∀ y ∈ T1, y ∈ T2 := d1 (· ∈ T2) (fun y hy => by rw [hT2]; exact List.mem_append_left _ hy) (fun y hy z hz hz0 r hr => ((mem2 y hy).2 z (sub y hy z hz) hz0).2 r hr)
  intro z hz
  rw [mem_dd, (sortH_perm _).mem_iff] at hz ⊢
  rcases b1 z hz with h | ⟨y, hy, hz1, hz0, hn⟩
  · cases h
  · exact ((mem2 y (hT y hy)).2 z (sub y (hT y hy) z hz1) hz0).1 hn

/-! how many there can be -/
theorem putAll_len : ∀ (xs l l' : List Hdr), putAll l xs = some l' → l.length ≤ 64 → l'.length ≤ 64
  | [], l, l', h, hl => by rw [putAll] at h; cases h; exact hl
  | x :: xs, l, l', h, hl => by
    rw [putAll] at h
    cases hp : putM l x with
    | none => rw [hp] at h; cases h
    | some m =>
      rw [hp, Option.bind_some] at h
      exact putAll_len xs m l' h (putM_len hp hl)
theorem gather_len {F : Hdr → Int → Option (List Hdr × Int)} : ∀ (l S : List Hdr) (c : Int) (r : List Hdr × Int), gather F l S c = some r → S.length ≤ 64 → r.1.length ≤ 64
  | [], S, c, r, h, hl => by rw [gather] at h; cases h; exact hl
  | x :: xs, S, c, r, h, hl => by
    rw [gather] at h
    cases hf : F x c with
    | none => rw [hf] at h; cases h
    | some a =>
      rw [hf, Option.bind_some] at h
      cases hp : putAll S a.1 with
      | none => rw [hp] at h; cases h
      | some S' =>
        rw [hp, Option.bind_some] at h
        exact gather_len xs S' a.2 r h (putAll_len _ _ _ hp hl)
theorem allF_len {F : Hdr → Int → Option (List Hdr × Int)} {l : List Hdr} {c : Int} {r : List Hdr × Int} (h : allF F l c = some r) : r.1.length ≤ 64 := by
  unfold allF at h
  cases hg : gather F l [] c with
  | none => rw [hg] at h; cases h
  | some a =>
    rw [hg] at h
    cases h
    rw [length_sortH]
    exact gather_len l [] c a hg (by simp)
theorem starPut_len : ∀ (xs S nx : List Hdr) (r : List Hdr × List Hdr), starPut S nx xs = some r → S.length ≤ 64 → r.1.length ≤ 64
  | [], S, nx, r, h, hl => by rw [starPut] at h; cases h; exact hl
  | x :: xs, S, nx, r, h, hl => by
    rw [starPut] at h
    split at h
    · exact starPut_len xs S nx r h hl
    · split at h
      · exact starPut_len xs _ _ r h (by simp; omega)
      · cases h
theorem starF_len {F : Hdr → Int → Option (List Hdr × Int)} : ∀ (n : Nat) (S f : List Hdr) (c : Int) (r : List Hdr × Int), starF F n S f c = some r → S.length ≤ 64 → r.1.length ≤ 64
  | 0, _, _, _, _, h, _ => by rw [starF] at h; cases h
  | n + 1, S, f, c, r, h, hl => by
    rw [starF] at h
    cases ha : allF F f c with
    | none => rw [ha] at h; cases h
    | some a =>
      rw [ha, Option.bind_some] at h
      cases hp : starPut S [] a.1 with
      | none => rw [hp] at h; cases h
      | some q =>
        rw [hp, Option.bind_some] at h
        have hq := starPut_len _ _ _ _ hp hl
        split at h
        · cases h
          rw [length_sortH]; exact hq
        · exact starF_len n _ _ _ r h hq
theorem thenT_len : ∀ (ks : List Tm) (l : List Hdr) (c : Int) (r : List Hdr × Int), Tm.thenT ks l c = some r → l.length ≤ 64 → r.1.length ≤ 64
  | [], l, c, r, h, hl => by rw [Tm.thenT] at h; cases h; exact hl
  | t :: ts, l, c, r, h, hl => by
    rw [Tm.thenT] at h
    cases ha : allF (fun x c => t.ofT x c) l c with
    | none => rw [ha] at h; cases h
    | some a =>
      rw [ha, Option.bind_some] at h
      exact thenT_len ts a.1 a.2 r h (allF_len ha)
theorem unionT_len : ∀ (ks : List Tm) (x : Hdr) (S : List Hdr) (c : Int) (r : List Hdr × Int), Tm.unionT ks x S c = some r → S.length ≤ 64 → r.1.length ≤ 64
  | [], x, S, c, r, h, hl => by rw [Tm.unionT] at h; cases h; exact hl
  | t :: ts, x, S, c, r, h, hl => by
    rw [Tm.unionT] at h
    cases ha : t.ofT x c with
    | none => rw [ha] at h; cases h
    | some a =>
      rw [ha, Option.bind_some] at h
      cases hp : putAll S a.1 with
      | none => rw [hp] at h; cases h
      | some S' =>
        rw [hp, Option.bind_some] at h
        exact unionT_len ts x S' a.2 r h (putAll_len _ _ _ hp hl)
theorem ofT_len : ∀ (t : Tm) (x : Hdr) (c : Int) (r : List Hdr × Int), t.ofT x c = some r → r.1.length ≤ 64
  | .mk op f n ks, x, c, r, h => by
    rw [Tm.ofT] at h
    split at h
    · unfold askM at h
      split at h
      · rw [Option.bind_some] at h; cases h; show (if _ then [x] else []).length ≤ 64; split <;> simp
      · cases h
    · split at h
      · unfold askM at h
        split at h
        · rw [Option.bind_some] at h; cases h; simp
        · cases h
      · split at h
        · exact thenT_len ks [x] c r h (by simp)
        · split at h
          · cases ks with
            | nil => rw [Tm.starT] at h; cases h
            | cons t ts => rw [Tm.starT] at h; exact starF_len _ _ _ _ _ h (by simp)
          · cases hu : Tm.unionT ks x [] c with
            | none => rw [hu] at h; cases h
            | some a =>
              rw [hu] at h
              cases h
              rw [length_sortH]
              exact unionT_len ks x [] c a hu (by simp)
theorem ofC_len (t : Tm) (x : Hdr) : (ofC t x).2.length ≤ 64 := by
  unfold ofC
  split
  · cases h : t.ofT x 0 with
    | none => simp
    | some r => exact ofT_len t x 0 r h
  · simp
theorem foldX_len (wires : List WireD) : ∀ (l thr out : List Hdr) (r : List Hdr × List Hdr), foldX wires l thr out = some r → r.2.length ≤ out.length + l.length
  | [], thr, out, r, h => by rw [foldX] at h; cases h; simp
  | x :: xs, thr, out, r, h => by
    rw [foldX] at h
    cases hs : stepX wires x thr out with
    | none => rw [hs] at h; cases h
    | some p =>
      rw [hs, Option.bind_some] at h
      have h1 := foldX_len wires xs _ _ r h
      have h2 : p.2.length ≤ out.length + 1 := by
        unfold stepX at hs
        split at hs
        · split at hs
          · cases hs; simp
          · split at hs
            · cases hs; simp
            · split at hs
              · cases hs
              · cases hs; simp
        · cases hs; simp
      simp only [List.length_cons]
      omega
theorem reachN_len (t : Tm) (wires : List WireD) : ∀ (n i : Nat) (thr out : List Hdr), (reachN t wires n i thr out).2.length ≤ out.length + 64 * n
  | 0, i, thr, out => by rw [reachN]; simp
  | n + 1, i, thr, out => by
    rw [reachN]
    split
    · simp
    · rename_i y hy
      split
      · split
        · simp
        · rename_i r hr
          have h1 := foldX_len wires _ _ _ r hr
          have h2 := ofC_len t y
          have h3 := reachN_len t wires n (i + 1) r.1 r.2
          omega
      · simp
theorem dd_len : ∀ (l : List Hdr), (dd l).length ≤ l.length
  | [] => by simp [dd]
  | [x] => by simp [dd]
  | x :: y :: r => by
    have := dd_len (y :: r)
    rw [dd_cons]
    split
    · simp only [List.length_cons] at *; omega
    · simp only [List.length_cons] at *; omega
theorem reachP_len (t : Tm) (qs : List Qr) (wires : List WireD) (x : Hdr) : (reachP t qs wires x).2.length ≤ 65600 := by
  unfold reachP
  split
  · split
    · split
      · have h1 := reachN_len t wires 1025 0 [x] []
        have h2 := dd_len (sortH (reachN t wires 1025 0 [x] []).2)
        rw [length_sortH] at h2
        simp at h1
        show (dd _).length ≤ 65600
        omega
      · simp
    · simp
  · simp
end Go.Proofs.Ytddeelepaiklgaa
/- JudgeUnion, walked. -/
namespace Go.Proofs.Ytddeelepaiklgaa
open Go.RowKit Go.Maps Go.Sort Go.Lib
set_option linter.unusedSimpArgs false

theorem run_append_zero (w : World) (ty : TypeId) (p q : Option Addr) (n c k : Nat) (hn : n ≤ c) : (Builtin.append_ #[25, 25] ty #[.slice p n c, .slice q 0 k]).run Try.prog w = .ok (.slice p n c) w := by
  have hs : (sizeOf 24).run Try.prog w = .ok 11 w := by kernel_rfl
  cases p <;> cases q <;> simp [Builtin.append_, run_underlying Try.underlying25, hs, Builtin.lenOf, Builtin.firstCells, hn, Result.andThen, loadCells, loadCellsFrom, storeCells]

theorem owns_at {w : World} {base : Nat} {l : List Hdr} {v : Value} (h : w.ownsRow base 24 11 v l.length (flatH l)) : ∃ p c, v = .slice p l.length c ∧ l.length ≤ c := by
  rcases h.2 with ⟨rfl, h0⟩ | ⟨g, cap, cur, rfl, _, _, hn, _⟩
  · exact ⟨none, 0, by rw [h0], by omega⟩
  · exact ⟨_, cap, rfl, hn⟩
/-- append(l, m...) of headers, to a slice that the call owns -/
theorem wpList_append_sl {ops : Array Oper} {rest : List Oper} {o : Oper} {a : Act} {w : World} {Q : Exit → Act → World → Prop} (hgd : o.guard = none) (s x : Operand)
    (ho : o.op = .call { callee := .builtin .append, args := #[s, x], argTypes := #[25, 25] }) (base : Nat) (v : Value) (l : List Hdr) (hs : a.eval s = v) (hown : w.ownsRow base 24 11 v l.length (flatH l))
    (lo : Nat) (m : List Hdr) (u : Value) (hx : a.eval x = u) (hu : HSl w lo m u) (hlen : l.length + m.length < 1000000000) (hbase : base ≤ w.heap.size)
    (hK : ∀ v' w', w'.ownsRow base 24 11 v' (l ++ m).length (flatH (l ++ m)) → w.grownBy w' v.ownBlock → (v'.ownBlock = v.ownBlock ∨ v'.ownBlock = some w.heap.size) → wpList Try.prog ops Q rest (a.put o.dst v') w') : wpList Try.prog ops Q (o :: rest) a w := by
  obtain ⟨q, n, k, rfl, hn, hq⟩ := hu
  rcases Nat.eq_zero_or_pos n with h0 | hpos
  · subst h0
    have hm : m = [] := List.length_eq_zero_iff.1 hn.symm
    subst hm
    obtain ⟨p, c, rfl, hc⟩ := owns_at hown
    refine wpList_plain hgd fun K hK' => ?_
    unfold Oper.wp execOp
    simp only [ho, resolve, invoke, builtin, Sem.run_bind, Sem.run_pure, Result.andThen_ok, List.map_toArray, List.map_cons, List.map_nil, hs, hx, run_append_zero w o.type p q l.length c k hc]
    exact hK' _ _ (hK _ _ (by simpa using hown) ⟨rfl, rfl, rfl, Nat.le_refl _, fun _ _ _ => rfl⟩ (.inl rfl))
  · rcases hq with hq | ⟨b, o', rfl, -, hr⟩
    · exfalso; subst hq; simp at hn; omega
    obtain ⟨i0, hi0, hz0, hz1, hz2⟩ := info_parts infoH
    refine wpList_append_own_at w hgd s x 25 ho base 24 i0 _ 11 88 Try.underlying25 hi0 hz0 hz1 hz2 rfl (by omega) v l.length (flatH l) hs hown ⟨b, o', none⟩ n k (flatH m) hx (by rw [flatH_len, hn])
      (fun j u hu => by rw [Addr.add_mid]; exact hr j u hu) (fun u hu => by
        obtain ⟨h, -, hh⟩ := List.mem_flatMap.1 hu
        exact h.one u hh) (by unfold maxLen; omega) (by omega) hbase ?_
    intro v' w' hown' hg _ hat
    refine hK v' w' ?_ hg hat
    have e : flatH (l ++ m) = flatH l ++ flatH m := by simp [flatH]
    rw [e, List.length_append, ← hn]
    exact hown'

set_option maxHeartbeats 8000000 in
set_option maxRecDepth 100000 in
theorem lawUnion_any (t u : Tm) (q1 q2 : List Qr) (wires : List WireD) (x : Hdr) (v1 v2 wv : Value) (w : World) (h1 : PVal w t q1 v1) (h2 : PVal w u q2 v2) (hw : SlOf WAt 4 w wires wv) :
    Calls Try.prog 8 #[v1, v2, wv, .agg x.cs] w fun e w' => e = .returned (.bool true) ∧ Ext w w' := by
  obtain ⟨p, len, cap, qv, rfl, hvt, -⟩ := h1
  obtain ⟨p', len', cap', qv', rfl, hvu, -⟩ := h2
  have HRE := Lib.hid (fun (t : Tm) (pv : Value) W (hW : Ext w W) (hp : PVal W t [] pv) => reach_any t [] wires x pv wv W hp (by
    obtain ⟨a, b, c, e1, e2, e3, e4, e5⟩ := hw
    exact ⟨a, b, c, e1, e2, e3, e4, e5.imp id fun ⟨b, o, hp, h⟩ => ⟨b, o, hp, fun i hi => ⟨World.rangeAt.later hW.later (h i hi).1, (h i hi).2⟩⟩⟩))
  obtain ⟨wp, wl, wq, rfl⟩ : ∃ a b c, wv = .slice a b c := by obtain ⟨a, b, c, h, -⟩ := hw; exact ⟨a, b, c, h⟩
  obtain ⟨wA, hA⟩ : ∃ W : World, w.alloc (.cells #[.int .i8 t.op, .int .i8 t.fld, .int .u64 t.n, .slice p len cap, qv] 34) = W := ⟨_, rfl⟩
  have xA : Ext w wA := hA ▸ Ext.alloc _ _
  have sA : wA.heap.size = w.heap.size + 1 := by rw [← hA, World.size_alloc]
  have rA : wA.rangeAt w.heap.size 0 [.int .i8 t.op, .int .i8 t.fld, .int .u64 t.n, .slice p len cap, qv] := by rw [← hA]; exact rangeAt_new w _ _
  obtain ⟨wB, hB⟩ : ∃ W : World, wA.alloc (.cells #[.int .i8 u.op, .int .i8 u.fld, .int .u64 u.n, .slice p' len' cap', qv'] 34) = W := ⟨_, rfl⟩
  have xB : Ext wA wB := hB ▸ Ext.alloc _ _
  have sB : wB.heap.size = w.heap.size + 2 := by rw [← hB, World.size_alloc, sA]
  have rB : wB.rangeAt (w.heap.size + 1) 0 [.int .i8 u.op, .int .i8 u.fld, .int .u64 u.n, .slice p' len' cap', qv'] := by rw [← hB, ← sA]; exact rangeAt_new wA _ _
  obtain ⟨wC, hC⟩ : ∃ W : World, wB.alloc (.cells x.cs 24) = W := ⟨_, rfl⟩
  have xC : Ext wB wC := hC ▸ Ext.alloc _ _
  have sC : wC.heap.size = w.heap.size + 3 := by rw [← hC, World.size_alloc, sB]
  have rC : wC.rangeAt (w.heap.size + 2) 0 x.cs.toList := by rw [← hC, ← sB]; exact rangeAt_new wB _ _
  have HX := Lib.hid ((xA.trans xB).trans xC)
  have hvt2 := hvt.later HX.out.later
  have hvu2 := hvu.later HX.out.later
  obtain ⟨wD, hD⟩ : ∃ W : World, wC.alloc (.cells #[.int .i8 t.op, .int .i8 t.fld, .int .u64 t.n, .slice p len cap, .int .i8 u.op, .int .i8 u.fld, .int .u64 u.n, .slice p' len' cap'] 31) = W := ⟨_, rfl⟩
  have xD : Ext wC wD := hD ▸ Ext.alloc _ _
  have hboth : (unionT2 t u).Val wD (.agg #[.int .i8 8, .int .i8 0, .int .u64 0, .slice (some ⟨wC.heap.size, 0, none⟩) 2 2]) := by
    have := allAt_two hvt2 hvu2 31
    rw [hD] at this
    exact val_mk (by omega) (by omega) (by omega) _ 2 2 rfl (by omega) (by omega) this
  obtain ⟨wE, hE⟩ : ∃ W : World, wD.alloc (.cells #[.int .i8 8, .int .i8 0, .int .u64 0, .slice (some ⟨wC.heap.size, 0, none⟩) 2 2, .slice none 0 0] 34) = W := ⟨_, rfl⟩
  have xE : Ext wD wE := hE ▸ Ext.alloc _ _
  have sD : wD.heap.size = wC.heap.size + 1 := by rw [← hD, World.size_alloc]
  have rE : wE.rangeAt (wC.heap.size + 1) 0 [.int .i8 8, .int .i8 0, .int .u64 0, .slice (some ⟨wC.heap.size, 0, none⟩) 2 2, .slice none 0 0] := by rw [← hE, ← sD]; exact rangeAt_new wD _ _
  have HXE := Lib.hid (HX.out.trans (xD.trans xE))
  have HPA := Lib.hid (fun W (hW : Ext wC W) => show W.cell? ⟨w.heap.size, 0, none⟩ = some (.int .i8 t.op) ∧ W.cell? ⟨w.heap.size, 1, none⟩ = some (.int .i8 t.fld) ∧ W.cell? ⟨w.heap.size, 2, none⟩ = some (.int .u64 t.n) ∧ W.cell? ⟨w.heap.size, 3, none⟩ = some (.slice p len cap) from by
    have hr := World.rangeAt.later ((xB.trans xC).trans hW).later rA
    exact ⟨by simpa using hr 0 _ rfl, by simpa using hr 1 _ rfl, by simpa using hr 2 _ rfl, by simpa using hr 3 _ rfl⟩)
  have HPB := Lib.hid (fun W (hW : Ext wC W) => show W.cell? ⟨w.heap.size + 1, 0, none⟩ = some (.int .i8 u.op) ∧ W.cell? ⟨w.heap.size + 1, 1, none⟩ = some (.int .i8 u.fld) ∧ W.cell? ⟨w.heap.size + 1, 2, none⟩ = some (.int .u64 u.n) ∧ W.cell? ⟨w.heap.size + 1, 3, none⟩ = some (.slice p' len' cap') from by
    have hr := World.rangeAt.later (xC.trans hW).later rB
    exact ⟨by simpa using hr 0 _ rfl, by simpa using hr 1 _ rfl, by simpa using hr 2 _ rfl, by simpa using hr 3 _ rfl⟩)
  have HPE := Lib.hid (fun W (hW : Ext wE W) => show W.cell? ⟨wC.heap.size + 1, 0, none⟩ = some (.int .i8 8) ∧ W.cell? ⟨wC.heap.size + 1, 1, none⟩ = some (.int .i8 0) ∧ W.cell? ⟨wC.heap.size + 1, 2, none⟩ = some (.int .u64 0) ∧ W.cell? ⟨wC.heap.size + 1, 3, none⟩ = some (.slice (some ⟨wC.heap.size, 0, none⟩) 2 2) ∧ W.cell? ⟨wC.heap.size + 1, 4, none⟩ = some (.slice none 0 0) from by
    have hr := World.rangeAt.later hW.later rE
    exact ⟨by simpa using hr 0 _ rfl, by simpa using hr 1 _ rfl, by simpa using hr 2 _ rfl, by simpa using hr 3 _ rfl, by simpa using hr 4 _ rfl⟩)
  have HRC := Lib.hid (fun W (hW : Ext wC W) => World.rangeAt.later hW.later rC)
  have HDE := Lib.hid (xD.trans xE)
  have hq0 : ∀ W, Qs W [] (.slice none 0 0) := fun W => ⟨none, 0, 0, rfl, rfl, by omega, by omega, .inl rfl⟩
  have HV1 := Lib.hid (fun W (hW : Ext w W) => show PVal W t [] (.agg #[.int .i8 t.op, .int .i8 t.fld, .int .u64 t.n, .slice p len cap, .slice none 0 0]) from ⟨p, len, cap, _, rfl, hvt.later hW.later, hq0 W⟩)
  have HV2 := Lib.hid (fun W (hW : Ext w W) => show PVal W u [] (.agg #[.int .i8 u.op, .int .i8 u.fld, .int .u64 u.n, .slice p' len' cap', .slice none 0 0]) from ⟨p', len', cap', _, rfl, hvu.later hW.later, hq0 W⟩)
  have HV3 := Lib.hid (fun W (hW : Ext wE W) => show PVal W (unionT2 t u) [] (.agg #[.int .i8 8, .int .i8 0, .int .u64 0, .slice (some ⟨wC.heap.size, 0, none⟩) 2 2, .slice none 0 0]) from ⟨_, 2, 2, _, rfl, hboth.later (xE.trans hW).later, hq0 W⟩)
  have HEQ := Lib.hid (show w.alloc (.cells #[.int .i8 t.op, .int .i8 t.fld, .int .u64 t.n, .slice p len cap, qv] 34) = wA ∧ wA.alloc (.cells #[.int .i8 u.op, .int .i8 u.fld, .int .u64 u.n, .slice p' len' cap', qv'] 34) = wB ∧ wB.alloc (.cells x.cs 24) = wC from ⟨hA, hB, hC⟩)
  have HEQ2 := Lib.hid (show wC.alloc (.cells #[.int .i8 t.op, .int .i8 t.fld, .int .u64 t.n, .slice p len cap, .int .i8 u.op, .int .i8 u.fld, .int .u64 u.n, .slice p' len' cap'] 31) = wD ∧ wD.alloc (.cells #[.int .i8 8, .int .i8 0, .int .u64 0, .slice (some ⟨wC.heap.size, 0, none⟩) 2 2, .slice none 0 0] 34) = wE from ⟨hD, hE⟩)
  have HU1 := Lib.hid (fun h1 h2 => union_all (p := t) (u := unionT2 t u) (q1 := []) (q2 := []) (wires := wires) (x := x) (fun y z h => den_union.2 (.inl h)) h1 h2)
  have HU2 := Lib.hid (fun h1 h2 => union_all (p := u) (u := unionT2 t u) (q1 := []) (q2 := []) (wires := wires) (x := x) (fun y z h => den_union.2 (.inr h)) h1 h2)
  have HSC := Lib.hid sC
  obtain ⟨a0, a1, a2, a3⟩ := HPA.out _ (Ext.refl _)
  obtain ⟨b0, b1, b2, b3⟩ := HPB.out _ (Ext.refl _)
  clear xA rA hA xB rB hB xC rC hC xD hD xE hE rE hboth hvt2 hvu2 hvt hvu hw sA sB sC sD
  go_enter Try.func8, Try.ntmps8
  go_upto_region 1 with fail
  rw [HEQ.out.1, HEQ.out.2.1, HEQ.out.2.2]
  clear HEQ
  by_cases h30 : 30 < wl
  · go_wp2_with fail
    refine (wakes30_any wC).mono ?_
    rintro e w1 ⟨rfl, hx1⟩
    go_wp2_with fail
    go_ret
    exact ⟨rfl, HX.out.trans hx1⟩
  go_upto_region 4 with fail
  rw [HEQ2.out.1]
  rw [HEQ2.out.2]
  clear HEQ2 a0 a1 a2 a3 b0 b1 b2 b3
  obtain ⟨a0, a1, a2, a3⟩ := HPA.out _ HDE.out
  have HR1 := Lib.hid (HRC.out _ HDE.out)
  have HC1 := Lib.hid (HRE.out t _ wE HXE.out (HV1.out _ HXE.out))
  go_wp2_with (first | (refine wpList_load_H rfl _ rfl _ _ rfl x HR1.out ?_))
  refine HC1.out.mono ?_
  rintro e w1 ⟨⟨r1, rfl, hs1⟩, hx1⟩
  have HS1 := Lib.hid hs1
  have HX1 := Lib.hid hx1
  clear a0 a1 a2 a3 hs1 hx1
  obtain ⟨b0, b1, b2, b3⟩ := HPB.out _ (HDE.out.trans HX1.out)
  have HR2 := Lib.hid (HRC.out _ (HDE.out.trans HX1.out))
  have HC2 := Lib.hid (HRE.out u _ w1 (HXE.out.trans HX1.out) (HV2.out _ (HXE.out.trans HX1.out)))
  go_upto_region 5 with fail
  go_wp2_with (first | (refine wpList_load_H rfl _ rfl _ _ rfl x HR2.out ?_))
  refine HC2.out.mono ?_
  rintro e w2 ⟨⟨r2, rfl, hs2⟩, hx2⟩
  have HS2 := Lib.hid hs2
  have HX2 := Lib.hid (HX1.out.trans hx2)
  have HX12 := Lib.hid hx2
  clear b0 b1 b2 b3 hs2 hx2
  obtain ⟨c0, c1, c2, c3, c4⟩ := HPE.out _ HX2.out
  have HR3 := Lib.hid (HRC.out _ (HDE.out.trans HX2.out))
  have HC3 := Lib.hid (HRE.out (unionT2 t u) _ w2 (HXE.out.trans HX2.out) (HV3.out _ HX2.out))
  go_upto_region 6 with fail
  go_wp2_with (first | (refine wpList_load_H rfl _ rfl _ _ rfl x HR3.out ?_))
  refine HC3.out.mono ?_
  rintro e w3 ⟨⟨r3, rfl, hs3⟩, hx3⟩
  have HS3 := Lib.hid hs3
  have HX3 := Lib.hid (HX2.out.trans hx3)
  have HX23 := Lib.hid hx3
  clear c0 c1 c2 c3 c4 hs3 hx3
  have HLN := Lib.hid (And.intro (reachP_len t [] wires x) (And.intro (reachP_len u [] wires x) (reachP_len (unionT2 t u) [] wires x)))
  generalize reachP t [] wires x = A at *
  generalize reachP u [] wires x = B at *
  generalize reachP (unionT2 t u) [] wires x = C at *
  obtain ⟨ca, la⟩ := A
  obtain ⟨cb, lb⟩ := B
  obtain ⟨cc, lc⟩ := C
  go_upto_region 7 with fail
  by_cases e1 : ca = 0
  case neg =>
    go_wp2_with fail
    refine (wakes30_any w3).mono ?_
    rintro e w4 ⟨rfl, hx4⟩
    go_wp2_with fail
    go_ret
    exact ⟨rfl, HXE.out.trans (HX3.out.trans hx4)⟩
  by_cases e2 : cb = 0
  case neg =>
    subst e1
    go_wp2_with fail
    refine (wakes30_any w3).mono ?_
    rintro e w4 ⟨rfl, hx4⟩
    go_wp2_with fail
    go_ret
    exact ⟨rfl, HXE.out.trans (HX3.out.trans hx4)⟩
  by_cases e3 : cc = 0
  case neg =>
    subst e1 e2
    go_wp2_with fail
    refine (wakes30_any w3).mono ?_
    rintro e w4 ⟨rfl, hx4⟩
    go_wp2_with fail
    go_ret
    exact ⟨rfl, HXE.out.trans (HX3.out.trans hx4)⟩
  have HIN := Lib.hid (show (∀ z ∈ la, z ∈ lc) ∧ ∀ z ∈ lb, z ∈ lc from ⟨HU1.out e1 e3, HU2.out e2 e3⟩)
  subst e1 e2 e3
  have HS1' := Lib.hid (HS1.out.ext (HX12.out.trans HX23.out))
  have HS2' := Lib.hid (HS2.out.ext HX23.out)
  have hla : la.length ≤ 65600 := HLN.out.1
  have hlb : lb.length ≤ 65600 := HLN.out.2.1
  have hlc : lc.length ≤ 65600 := HLN.out.2.2
  clear HU1 HU2 HC1 HC2 HC3 HRE HLN
  go_upto_region 9 with fail
  obtain ⟨w4, h4⟩ : ∃ W : World, w3.alloc (.cells #[] 24) = W := ⟨_, rfl⟩
  have x4 : Ext w3 w4 := h4 ▸ Ext.alloc _ _
  have HO0 := Lib.hid (show w4.ownsRow w3.heap.size 24 11 (.slice (some ⟨w3.heap.size, 0, none⟩) 0 0) ([] : List Hdr).length (flatH []) from by
    rw [← h4]
    exact World.ownsRow_lit (base := w3.heap.size) (e := 24) (size := 11) w3 #[] 0 (Nat.le_refl _) (by unfold maxLen; omega) rfl)
  have HX4 := Lib.hid x4
  have hs34 : w3.heap.size ≤ w4.heap.size := x4.size
  clear x4
  go_wp2_with (first
    | (at_builtin; refine wpList_append_sl rfl _ _ rfl w3.heap.size (.slice (some ⟨w3.heap.size, 0, none⟩) 0 0) [] rfl HO0.out _ la r1 rfl (HS1'.out.ext HX4.out) (by simp; omega) hs34 ?_; intro v5 w5 hown5 hg5 hat5; have HX5 := Lib.hid (HX4.out.grow' hg5 (fun i hi => (HO0.out.lt i hi).1)); have HO5 := Lib.hid hown5; have hs35 : w3.heap.size ≤ w5.heap.size := HX5.out.size; clear hown5 hg5 hat5)
    | (at_builtin; refine wpList_append_sl rfl _ _ rfl w3.heap.size v5 ([] ++ la) rfl HO5.out _ lb r2 rfl (HS2'.out.ext HX5.out) (by simp; omega) hs35 ?_; intro v6 w6 hown6 hg6 hat6; have HX6 := Lib.hid (HX5.out.grow' hg6 (fun i hi => (HO5.out.lt i hi).1)); have HO6 := Lib.hid hown6; clear hown6 hg6 hat6))
  obtain ⟨all, hall⟩ : ∃ all : List Hdr, all = [] ++ la ++ lb := ⟨_, rfl⟩
  rw [← hall] at HO6
  have HALL := Lib.hid (show ∀ z ∈ all, z ∈ lc from fun z hz => by
    rw [hall, List.nil_append] at hz
    exact (List.mem_append.1 hz).elim (HIN.out.1 z) (HIN.out.2 z))
  have hall2 : all.length ≤ 131200 := by rw [hall]; simp; omega
  clear hall
  obtain ⟨pa, na, ka, rfl, hna, hra⟩ := HSl.of_owns HO6.out
  have HNA := Lib.hid hna
  obtain ⟨p3, n3, k3, rfl, hn3, hr3⟩ := HS3.out
  have HN3 := Lib.hid hn3
  have HRA := Lib.hid (show all = [] ∨ ∃ g, pa = some ⟨g, 0, none⟩ ∧ ∀ W, Ext w6 W → W.rangeAt g 0 (flatH all) from by
    rcases HO6.out.2 with ⟨he, h0⟩ | ⟨g, cap, cur, he, _⟩
    · exact .inl (List.length_eq_zero_iff.1 h0)
    · injection he with he1
      exact .inr ⟨g, he1, fun W hW => World.rangeAt.later hW.later (by
        have := HO6.out
        rw [he1, hna] at this
        have hr := ownsRow_range this
        exact hr)⟩)
  have HR3' := Lib.hid (show lc = [] ∨ ∃ b o, p3 = some ⟨b, o, none⟩ ∧ ∀ W, Ext w6 W → W.rangeAt b o (flatH lc) from
    hr3.imp id fun ⟨b, o, hp, _, hr⟩ => ⟨b, o, hp, fun W hW => World.rangeAt.later (HX6.out.trans hW).later hr⟩)
  have hna2 : na ≤ 131200 := by omega
  have hn32 : n3 ≤ 65600 := by omega
  clear hna hn3 hra hr3 HO6 HO5 HO0 HS1 HS2 HS1' HS2' HS3
  go_loopw [17] (fun i wr => ∃ i' : Nat, i' ≤ na ∧ i = .int .i64 i' ∧ Hid (Ext w6 wr)) (fun i _ => na - (intOf i).toNat)
  case atStart => exact ⟨0, Nat.zero_le _, rfl, Ext.refl _⟩
  case round =>
    obtain ⟨wo, rfl⟩ : ∃ wo : World, wo = wr := ⟨_, rfl⟩
    obtain ⟨i, hi, rfl, hx⟩ := hrel
    by_cases hlt : i < na
    · have hil : i < all.length := by rw [← HNA.out]; exact hlt
      rcases HRA.out with h | ⟨g, rfl, hra⟩
      · exfalso; subst h; simp at hil
      obtain ⟨y, hy⟩ : ∃ y, y = all[i] := ⟨_, rfl⟩
      have hyc : y ∈ lc := HALL.out y (by rw [hy]; exact List.getElem_mem hil)
      have HRY := Lib.hid (fun W (hW : Ext w6 W) => by
        have := rangeAt_get Hdr.len_cs (hra W hW) i hil
        rw [← hy, Nat.zero_add] at this
        exact this)
      have HYC := Lib.hid hyc
      clear hra hy hyc
      go_wp2_with fail
      go_loopw [18, 19] (fun th j wr => ∃ k : Nat, k ≤ n3 ∧ j = .int .i64 k ∧ Hid (th = .bool (decide (y ∈ lc.take k))) ∧ Hid (Ext w6 wr)) (fun _ j _ => n3 - (intOf j).toNat)
      case atStart => exact ⟨0, Nat.zero_le _, rfl, by show Value.bool false = .bool (decide (y ∈ lc.take 0)); simp, hx.out⟩
      case round =>
        obtain ⟨wn, rfl⟩ : ∃ wn : World, wn = wr := ⟨_, rfl⟩
        obtain ⟨k, hk, rfl, hth, hxn⟩ := hrel
        by_cases hlt2 : k < n3
        · have hkl : k < lc.length := by rw [← HN3.out]; exact hlt2
          rcases HR3'.out with h | ⟨b3, o3, rfl, hr3⟩
          · exfalso; subst h; simp at hkl
          have HTK := Lib.hid (show (y ∈ lc.take (k + 1)) ↔ (y ∈ lc.take k ∨ lc[k] = y) from by
            rw [List.take_succ_eq_append_getElem hkl, List.mem_append, List.mem_singleton]
            exact ⟨fun h => h.imp id Eq.symm, fun h => h.imp id Eq.symm⟩)
          have hrz := fun W (hW : Ext w6 W) => rangeAt_get Hdr.len_cs (hr3 W hW) k hkl
          generalize lc[k] = z at *
          have HSS := Lib.hid (fun W (hW : Ext wn W) => (show (fun W => W.rangeAt b3 (o3 + k * 11) z.cs.toList ∧ W.rangeAt g (i * 11) y.cs.toList) W from ⟨hrz W (hxn.out.trans hW), HRY.out W (hxn.out.trans hW)⟩))
          have huH := Try.underlying24
          have hiH : ∀ x : Hdr, (Try.prog.info? 24).map (·.size) = some x.cs.toList.length := fun x => by rw [x.len_cs]; kernel_rfl
          have hz0 : Ext wn wn.drew := Ext.drew _
          have hg := guardH
          have he : ∀ W, (Op.equalIn 10000 24 (.agg z.cs) (.agg y.cs)).run Try.prog W = .ok (decide (z = y)) W := fun W => eqH z y W
          clear hrz hr3
          have hth' := hth.out
          subst hth'
          cases hin : decide (y ∈ lc.take k) with
          | true =>
            have HD := Lib.hid (show decide (y ∈ lc.take (k + 1)) = true from by
              rw [decide_eq_true_eq, HTK.out]; exact .inl (of_decide_eq_true hin))
            clear hin hth
            go_upto_region 17 with fail
            refine wp_region_noPanic ?_
            refine wp_region_held_drew (S := (fun W => W.rangeAt b3 (o3 + k * 11) z.cs.toList ∧ W.rangeAt g (i * 11) y.cs.toList)) (by kernel_rfl) (HSS.out _ (Ext.drew _)) (fun hHeld => ?_)
            refine wpAnyH_take (i := 0) (v := .bool true) rfl (by kernel_rfl) (by kernel_rfl) (by kernel_rfl) (fun _ _ _ h => h) (Or.inl ⟨by rfl, by (intro w hSw; (try dsimp only at hSw); go_simp)⟩) (by assumption) ?_
            try simp only [List.getElem_toArray, List.getElem_cons_zero, List.getElem_cons_succ, Act.put, List.setIfInBounds_toArray, List.set_cons_zero, List.set_cons_succ, Array.toArray_toList]
            refine wpAnyH_take (i := 1) (v := .bool true) rfl (by kernel_rfl) (by kernel_rfl) (by kernel_rfl) (fun _ _ _ h => h) (Or.inl ⟨by rfl, by (intro w hSw; (try dsimp only at hSw); go_simp)⟩) (by assumption) ?_
            try simp only [List.getElem_toArray, List.getElem_cons_zero, List.getElem_cons_succ, Act.put, List.setIfInBounds_toArray, List.set_cons_zero, List.set_cons_succ, Array.toArray_toList]
            refine wpAnyH_take (i := 2) (v := undef) rfl (by kernel_rfl) (by kernel_rfl) (by kernel_rfl) (fun _ _ _ h => h) (Or.inr ⟨by rfl, rfl⟩) (by assumption) ?_
            try simp only [List.getElem_toArray, List.getElem_cons_zero, List.getElem_cons_succ, Act.put, List.setIfInBounds_toArray, List.set_cons_zero, List.set_cons_succ, Array.toArray_toList]
            refine wpAnyH_take (i := 3) (v := undef) rfl (by kernel_rfl) (by kernel_rfl) (by kernel_rfl) (fun _ _ _ h => h) (Or.inr ⟨by rfl, rfl⟩) (by assumption) ?_
            try simp only [List.getElem_toArray, List.getElem_cons_zero, List.getElem_cons_succ, Act.put, List.setIfInBounds_toArray, List.set_cons_zero, List.set_cons_succ, Array.toArray_toList]
            refine wpAnyH_take (i := 4) (v := undef) rfl (by kernel_rfl) (by kernel_rfl) (by kernel_rfl) (fun _ _ _ h => h) (Or.inr ⟨by rfl, rfl⟩) (by assumption) ?_
            try simp only [List.getElem_toArray, List.getElem_cons_zero, List.getElem_cons_succ, Act.put, List.setIfInBounds_toArray, List.set_cons_zero, List.set_cons_succ, Array.toArray_toList]
            refine wpAnyH_take (i := 5) (v := undef) rfl (by kernel_rfl) (by kernel_rfl) (by kernel_rfl) (fun _ _ _ h => h) (Or.inr ⟨by rfl, rfl⟩) (by assumption) ?_
            try simp only [List.getElem_toArray, List.getElem_cons_zero, List.getElem_cons_succ, Act.put, List.setIfInBounds_toArray, List.set_cons_zero, List.set_cons_succ, Array.toArray_toList]
            refine wpAnyH_take (i := 6) (v := undef) rfl (by kernel_rfl) (by kernel_rfl) (by kernel_rfl) (fun _ _ _ h => h) (Or.inr ⟨by rfl, rfl⟩) (by assumption) ?_
            try simp only [List.getElem_toArray, List.getElem_cons_zero, List.getElem_cons_succ, Act.put, List.setIfInBounds_toArray, List.set_cons_zero, List.set_cons_succ, Array.toArray_toList]
            refine wpAnyH_take (i := 7) (v := undef) rfl (by kernel_rfl) (by kernel_rfl) (by kernel_rfl) (fun _ _ _ h => h) (Or.inr ⟨by rfl, rfl⟩) (by assumption) ?_
            try simp only [List.getElem_toArray, List.getElem_cons_zero, List.getElem_cons_succ, Act.put, List.setIfInBounds_toArray, List.set_cons_zero, List.set_cons_succ, Array.toArray_toList]
            refine wpAnyH_take (i := 8) (v := undef) rfl (by kernel_rfl) (by kernel_rfl) (by kernel_rfl) (fun _ _ _ h => h) (Or.inr ⟨by rfl, rfl⟩) (by assumption) ?_
            try simp only [List.getElem_toArray, List.getElem_cons_zero, List.getElem_cons_succ, Act.put, List.setIfInBounds_toArray, List.set_cons_zero, List.set_cons_succ, Array.toArray_toList]
            refine wpAnyH_take (i := 9) (v := undef) rfl (by kernel_rfl) (by kernel_rfl) (by kernel_rfl) (fun _ _ _ h => h) (Or.inr ⟨by rfl, rfl⟩) (by assumption) ?_
            try simp only [List.getElem_toArray, List.getElem_cons_zero, List.getElem_cons_succ, Act.put, List.setIfInBounds_toArray, List.set_cons_zero, List.set_cons_succ, Array.toArray_toList]
            refine wpAnyH_take (i := 10) (v := undef) rfl (by kernel_rfl) (by kernel_rfl) (by kernel_rfl) (fun _ _ _ h => h) (Or.inr ⟨by rfl, rfl⟩) (by assumption) ?_
            try simp only [List.getElem_toArray, List.getElem_cons_zero, List.getElem_cons_succ, Act.put, List.setIfInBounds_toArray, List.set_cons_zero, List.set_cons_succ, Array.toArray_toList]
            refine wpAnyH_take (i := 11) (v := .bool true) rfl (by kernel_rfl) (by kernel_rfl) (by kernel_rfl) (fun _ _ _ h => h) (Or.inl ⟨by rfl, by (intro w hSw; (try dsimp only at hSw); go_simp)⟩) (by assumption) ?_
            try simp only [List.getElem_toArray, List.getElem_cons_zero, List.getElem_cons_succ, Act.put, List.setIfInBounds_toArray, List.set_cons_zero, List.set_cons_succ, Array.toArray_toList]
            refine wpAnyH_take (i := 12) (v := .bool true) rfl (by kernel_rfl) (by kernel_rfl) (by kernel_rfl) (fun _ _ _ h => h) (Or.inl ⟨by rfl, by (intro w hSw; (try dsimp only at hSw); go_simp)⟩) (by assumption) ?_
            try simp only [List.getElem_toArray, List.getElem_cons_zero, List.getElem_cons_succ, Act.put, List.setIfInBounds_toArray, List.set_cons_zero, List.set_cons_succ, Array.toArray_toList]
            refine wpAnyH_done (by kernel_rfl) ?_ _
            refine NoPanic.normal ?_
            go_wp2_with fail
            go_roundw
            case rel => exact ⟨k + 1, by omega, by go_num, by rw [HD.out]; rfl, hxn.out.trans hz0⟩
            case measure => simp [intOf]; omega
          | false =>
            have HD := Lib.hid (show decide (y ∈ lc.take (k + 1)) = decide (z = y) from by
              apply decide_eq_decide.2
              rw [HTK.out]
              exact ⟨fun h => h.elim (fun h => absurd h (of_decide_eq_false hin)) id, .inr⟩)
            clear hin hth
            go_upto_region 17 with fail
            refine wp_region_noPanic ?_
            refine wp_region_held_drew (S := (fun W => W.rangeAt b3 (o3 + k * 11) z.cs.toList ∧ W.rangeAt g (i * 11) y.cs.toList)) (by kernel_rfl) (HSS.out _ (Ext.drew _)) (fun hHeld => ?_)
            refine wpAnyH_take (i := 0) (v := .bool false) rfl (by kernel_rfl) (by kernel_rfl) (by kernel_rfl) (fun _ _ _ h => h) (Or.inl ⟨by rfl, by (intro w hSw; (try dsimp only at hSw); go_simp)⟩) (by assumption) ?_
            try simp only [List.getElem_toArray, List.getElem_cons_zero, List.getElem_cons_succ, Act.put, List.setIfInBounds_toArray, List.set_cons_zero, List.set_cons_succ, Array.toArray_toList]
            refine wpAnyH_take (i := 1) (v := .bool false) rfl (by kernel_rfl) (by kernel_rfl) (by kernel_rfl) (fun _ _ _ h => h) (Or.inl ⟨by rfl, by (intro w hSw; (try dsimp only at hSw); go_simp)⟩) (by assumption) ?_
            try simp only [List.getElem_toArray, List.getElem_cons_zero, List.getElem_cons_succ, Act.put, List.setIfInBounds_toArray, List.set_cons_zero, List.set_cons_succ, Array.toArray_toList]
            refine wpAnyH_take (i := 2) (v := .slice (some ⟨b3, o3, none⟩) n3 k3) rfl (by kernel_rfl) (by kernel_rfl) (by kernel_rfl) (fun _ _ _ h => h) (Or.inl ⟨by rfl, by (intro w hSw; (try dsimp only at hSw); go_simp)⟩) (by assumption) ?_
            try simp only [List.getElem_toArray, List.getElem_cons_zero, List.getElem_cons_succ, Act.put, List.setIfInBounds_toArray, List.set_cons_zero, List.set_cons_succ, Array.toArray_toList]
            refine wpAnyH_take (i := 3) (v := .int .i64 k) rfl (by kernel_rfl) (by kernel_rfl) (by kernel_rfl) (fun _ _ _ h => h) (Or.inl ⟨by rfl, by (intro w hSw; (try dsimp only at hSw); go_simp)⟩) (by assumption) ?_
            try simp only [List.getElem_toArray, List.getElem_cons_zero, List.getElem_cons_succ, Act.put, List.setIfInBounds_toArray, List.set_cons_zero, List.set_cons_succ, Array.toArray_toList]
            refine wpAnyH_take (i := 4) (v := .pointer (some ⟨b3, o3 + k * 11, none⟩)) rfl (by kernel_rfl) (by kernel_rfl) (by kernel_rfl) (fun _ _ _ h => h) (Or.inl ⟨by rfl, by (intro w hSw; (try dsimp only at hSw); go_simp)⟩) (by assumption) ?_
            try simp only [List.getElem_toArray, List.getElem_cons_zero, List.getElem_cons_succ, Act.put, List.setIfInBounds_toArray, List.set_cons_zero, List.set_cons_succ, Array.toArray_toList]
            refine wpAnyH_take (i := 5) (v := .agg z.cs.toList.toArray) rfl (by kernel_rfl) (by kernel_rfl) (by kernel_rfl) (fun _ _ _ h => h) ?_ (by assumption) ?_
            · try simp only [List.getElem_toArray, List.getElem_cons_zero, List.getElem_cons_succ]
              exact yieldsIf_load_mid (by rfl) _ _ rfl (b3) (o3 + k * 11) rfl z.cs.toList _ (fun w hSw => hSw.1) huH rfl (hiH z)
            try simp only [List.getElem_toArray, List.getElem_cons_zero, List.getElem_cons_succ, Act.put, List.setIfInBounds_toArray, List.set_cons_zero, List.set_cons_succ, Array.toArray_toList]
            refine wpAnyH_take (i := 6) (v := .slice (some ⟨g, 0, none⟩) na ka) rfl (by kernel_rfl) (by kernel_rfl) (by kernel_rfl) (fun _ _ _ h => h) (Or.inl ⟨by rfl, by (intro w hSw; (try dsimp only at hSw); go_simp)⟩) (by assumption) ?_
            try simp only [List.getElem_toArray, List.getElem_cons_zero, List.getElem_cons_succ, Act.put, List.setIfInBounds_toArray, List.set_cons_zero, List.set_cons_succ, Array.toArray_toList]
            refine wpAnyH_take (i := 7) (v := .int .i64 i) rfl (by kernel_rfl) (by kernel_rfl) (by kernel_rfl) (fun _ _ _ h => h) (Or.inl ⟨by rfl, by (intro w hSw; (try dsimp only at hSw); go_simp)⟩) (by assumption) ?_
            try simp only [List.getElem_toArray, List.getElem_cons_zero, List.getElem_cons_succ, Act.put, List.setIfInBounds_toArray, List.set_cons_zero, List.set_cons_succ, Array.toArray_toList]
            refine wpAnyH_take (i := 8) (v := .pointer (some ⟨g, i * 11, none⟩)) rfl (by kernel_rfl) (by kernel_rfl) (by kernel_rfl) (fun _ _ _ h => h) (Or.inl ⟨by rfl, by (intro w hSw; (try dsimp only at hSw); go_simp)⟩) (by assumption) ?_
            try simp only [List.getElem_toArray, List.getElem_cons_zero, List.getElem_cons_succ, Act.put, List.setIfInBounds_toArray, List.set_cons_zero, List.set_cons_succ, Array.toArray_toList]
            refine wpAnyH_take (i := 9) (v := .agg y.cs.toList.toArray) rfl (by kernel_rfl) (by kernel_rfl) (by kernel_rfl) (fun _ _ _ h => h) ?_ (by assumption) ?_
            · try simp only [List.getElem_toArray, List.getElem_cons_zero, List.getElem_cons_succ]
              exact yieldsIf_load_mid (by rfl) _ _ rfl (g) (i * 11) rfl y.cs.toList _ (fun w hSw => hSw.2) huH rfl (hiH y)
            try simp only [List.getElem_toArray, List.getElem_cons_zero, List.getElem_cons_succ, Act.put, List.setIfInBounds_toArray, List.set_cons_zero, List.set_cons_succ, Array.toArray_toList]
            refine wpAnyH_take (i := 10) (v := .bool (decide (z = y))) rfl (by kernel_rfl) (by kernel_rfl) (by kernel_rfl) (fun _ _ _ h => h) (Or.inl ⟨by rfl, by (intro w hSw; (try dsimp only at hSw); go_simp)⟩) (by assumption) ?_
            try simp only [List.getElem_toArray, List.getElem_cons_zero, List.getElem_cons_succ, Act.put, List.setIfInBounds_toArray, List.set_cons_zero, List.set_cons_succ, Array.toArray_toList]
            refine wpAnyH_take (i := 11) (v := .bool (decide (z = y))) rfl (by kernel_rfl) (by kernel_rfl) (by kernel_rfl) (fun _ _ _ h => h) (Or.inl ⟨by rfl, by (intro w hSw; (try dsimp only at hSw); go_simp)⟩) (by assumption) ?_
            try simp only [List.getElem_toArray, List.getElem_cons_zero, List.getElem_cons_succ, Act.put, List.setIfInBounds_toArray, List.set_cons_zero, List.set_cons_succ, Array.toArray_toList]
            refine wpAnyH_take (i := 12) (v := .bool (decide (z = y))) rfl (by kernel_rfl) (by kernel_rfl) (by kernel_rfl) (fun _ _ _ h => h) (Or.inl ⟨by rfl, by (intro w hSw; (try dsimp only at hSw); go_simp)⟩) (by assumption) ?_
            try simp only [List.getElem_toArray, List.getElem_cons_zero, List.getElem_cons_succ, Act.put, List.setIfInBounds_toArray, List.set_cons_zero, List.set_cons_succ, Array.toArray_toList]
            refine wpAnyH_done (by kernel_rfl) ?_ _
            refine NoPanic.normal ?_
            go_wp2_with fail
            go_roundw
            case rel => exact ⟨k + 1, by omega, by go_num, by rw [HD.out]; rfl, hxn.out.trans hz0⟩
            case measure => simp [intOf]; omega
        · have hth' := hth.out
          rw [List.take_of_length_le (by have := HN3.out; omega), decide_eq_true HYC.out] at hth'
          subst hth'
          clear hth
          go_wp2_with fail
          go_roundw
          case rel => exact ⟨i + 1, by omega, by go_num, hxn.out⟩
          case measure => simp [intOf]; omega
    · go_wp2_with fail
      refine (wakes30_any wo).mono ?_
      rintro e w7 ⟨rfl, hx7⟩
      go_wp2_with fail
      go_ret
      exact ⟨rfl, HXE.out.trans (HX3.out.trans (HX6.out.trans (hx.out.trans hx7)))⟩
end Go.Proofs.Ytddeelepaiklgaa
