/- Of two policies together all comes out that comes out of each: in plain words. -/
import Derived.Test.YtddeelepaiklgaaJReach0
import Derived.Test.YtddeelepaiklgaaAlg
namespace Go.Proofs.Ytddeelepaiklgaa

theorem mem_dd {z : Hdr} : ∀ {l : List Hdr}, z ∈ dd l ↔ z ∈ l
  | [] => Iff.rfl
  | [x] => Iff.rfl
  | x :: y :: r => by
    rw [dd_cons]
    by_cases h : x = y
    · subst h
      rw [if_pos rfl, mem_dd]
      simp
    · rw [if_neg h, List.mem_cons, mem_dd]
      simp
abbrev ovr (wires : List WireD) (z : Hdr) : Option (Int × Int) := overP (IntKind.u16.wrap (z.f 10)) (IntKind.u16.wrap (z.f 9)) wires

theorem foldX_spec (wires : List WireD) : ∀ (l thr out thr' out' : List Hdr), foldX wires l thr out = some (thr', out') → thr.length ≤ 1024 →
    (∃ ext, thr' = thr ++ ext) ∧ thr'.length ≤ 1024 ∧
    (∀ z ∈ l, headE z = 0 → (ovr wires z = none → z ∈ out') ∧ ∀ r, ovr wires z = some r → moveTo z r.1 r.2 ∈ thr') ∧
    (∀ z ∈ out', z ∈ out ∨ (z ∈ l ∧ headE z = 0 ∧ ovr wires z = none)) ∧ (∀ z ∈ out, z ∈ out') ∧
    (∀ m ∈ thr', m ∈ thr ∨ ∃ z ∈ l, headE z = 0 ∧ ∃ r, ovr wires z = some r ∧ m = moveTo z r.1 r.2)
  | [], thr, out, thr', out', h, hl => by
    rw [foldX] at h
    cases h
    exact ⟨⟨[], by simp⟩, hl, fun z hz => absurd hz (by simp), fun z hz => .inl hz, fun z hz => hz, fun m hm => .inl hm⟩
  | x :: xs, thr, out, thr', out', h, hl => by
    rw [foldX] at h
    cases hs : stepX wires x thr out with
    | none => rw [hs] at h; cases h
    | some p =>
      obtain ⟨thr1, out1⟩ := p
      rw [hs, Option.bind_some] at h
      -- the step
      have hst : (∃ ext, thr1 = thr ++ ext) ∧ thr1.length ≤ 1024 ∧ (headE x = 0 → (ovr wires x = none → x ∈ out1) ∧ ∀ r, ovr wires x = some r → moveTo x r.1 r.2 ∈ thr1) ∧
          (∀ z ∈ out1, z ∈ out ∨ (z = x ∧ headE x = 0 ∧ ovr wires x = none)) ∧ (∀ z ∈ out, z ∈ out1) ∧ (∀ m ∈ thr1, m ∈ thr ∨ (headE x = 0 ∧ ∃ r, ovr wires x = some r ∧ m = moveTo x r.1 r.2)) := by
        unfold stepX at hs
        by_cases hx : headE x = 0
        · rw [if_pos hx] at hs
          cases ho : ovr wires x with
          | none =>
            have ho' : overP (IntKind.u16.wrap (x.f 10)) (IntKind.u16.wrap (x.f 9)) wires = none := ho
            rw [ho'] at hs
            cases hs
            exact ⟨⟨[], by simp⟩, hl, fun _ => ⟨fun _ => by simp, fun r h => by cases h⟩, fun z hz => by
              rcases List.mem_append.1 hz with h | h
              · exact .inl h
              · exact .inr ⟨List.mem_singleton.1 h, hx, rfl⟩, fun z hz => List.mem_append_left _ hz, fun m hm => .inl hm⟩
          | some r =>
            have ho' : overP (IntKind.u16.wrap (x.f 10)) (IntKind.u16.wrap (x.f 9)) wires = some r := ho
            rw [ho'] at hs
            by_cases hm : moveTo x r.1 r.2 ∈ thr
            · have hs' : (if moveTo x r.1 r.2 ∈ thr then some (thr, out) else if thr.length = 1024 then none else some (thr ++ [moveTo x r.1 r.2], out)) = some (thr1, out1) := hs
              rw [if_pos hm] at hs'
              cases hs'
              exact ⟨⟨[], by simp⟩, hl, fun _ => ⟨fun h => absurd h (by simp), fun r' h => by cases h; exact hm⟩, fun z hz => .inl hz, fun z hz => hz, fun m h => .inl h⟩
            · have hs' : (if moveTo x r.1 r.2 ∈ thr then some (thr, out) else if thr.length = 1024 then none else some (thr ++ [moveTo x r.1 r.2], out)) = some (thr1, out1) := hs
              rw [if_neg hm] at hs'
              by_cases hf : thr.length = 1024
              · rw [if_pos hf] at hs'; cases hs'
              · rw [if_neg hf] at hs'
                cases hs'
                exact ⟨⟨_, rfl⟩, by simp; omega, fun _ => ⟨fun h => absurd h (by simp), fun r' h => by cases h; simp⟩, fun z hz => .inl hz, fun z hz => hz, fun m h => by
                  rcases List.mem_append.1 h with h | h
                  · exact .inl h
                  · exact .inr ⟨hx, r, rfl, List.mem_singleton.1 h⟩⟩
        · rw [if_neg hx] at hs
          cases hs
          exact ⟨⟨[], by simp⟩, hl, fun h => absurd h hx, fun z hz => .inl hz, fun z hz => hz, fun m h => .inl h⟩
      obtain ⟨⟨e1, rfl⟩, s2, s3, s4, s5, s6⟩ := hst
      obtain ⟨⟨e2, rfl⟩, t2, t3, t4, t5, t6⟩ := foldX_spec wires xs _ out1 thr' out' h s2
      refine ⟨⟨e1 ++ e2, by simp⟩, t2, fun z hz hz0 => ?_, fun z hz => ?_, fun z hz => t5 z (s5 z hz), fun m hm => ?_⟩
      · rcases List.mem_cons.1 hz with rfl | hz
        · exact ⟨fun h => t5 _ ((s3 hz0).1 h), fun r h => List.mem_append_left _ ((s3 hz0).2 r h)⟩
        · exact t3 z hz hz0
      · rcases t4 z hz with h | ⟨h1, h2⟩
        · rcases s4 z h with h | ⟨rfl, h2⟩
          · exact .inl h
          · exact .inr ⟨List.mem_cons_self, h2⟩
        · exact .inr ⟨List.mem_cons_of_mem _ h1, h2⟩
      · rcases t6 m hm with h | ⟨z, hz, h2⟩
        · rcases s6 m h with h | h
          · exact .inl h
          · exact .inr ⟨x, List.mem_cons_self, h⟩
        · exact .inr ⟨z, List.mem_cons_of_mem _ hz, h2⟩

/-- what is gone through is shut, and made step by step -/
theorem reachN_spec (t : Tm) (wires : List WireD) : ∀ (n i : Nat) (thr out O : List Hdr), reachN t wires n i thr out = (0, O) → n + i = 1025 → i ≤ thr.length → thr.length ≤ 1024 →
    ∃ T : List Hdr, (∃ ext, T = thr ++ ext) ∧ (∀ j, i ≤ j → ∀ y, T[j]? = some y → (ofC t y).1 = 0 ∧ ∀ z ∈ (ofC t y).2, headE z = 0 → (ovr wires z = none → z ∈ O) ∧ ∀ r, ovr wires z = some r → moveTo z r.1 r.2 ∈ T) ∧
      (∀ z ∈ O, z ∈ out ∨ ∃ y ∈ T, z ∈ (ofC t y).2 ∧ headE z = 0 ∧ ovr wires z = none) ∧ (∀ z ∈ out, z ∈ O) ∧
      ∀ P : Hdr → Prop, (∀ y ∈ thr, P y) → (∀ y, P y → ∀ z ∈ (ofC t y).2, headE z = 0 → ∀ r, ovr wires z = some r → P (moveTo z r.1 r.2)) → ∀ y ∈ T, P y
  | 0, i, thr, out, O, h, hn, hi, hl => by omega
  | n + 1, i, thr, out, O, h, hn, hi, hl => by
    rw [reachN] at h
    cases hy : thr[i]? with
    | none =>
      rw [hy] at h
      cases h
      exact ⟨thr, ⟨[], by simp⟩, fun j hj y hjy => by
        have h1 := List.getElem?_eq_none_iff.1 hy
        have h2 := (List.getElem?_eq_some_iff.1 hjy).1
        omega, fun z hz => .inl hz, fun z hz => hz, fun P h0 _ => h0⟩
    | some y =>
      rw [hy] at h
      have h' : (if (ofC t y).1 = 0 then (match foldX wires (ofC t y).2 thr out with | none => ((200 : Int), ([] : List Hdr)) | some r => reachN t wires n (i + 1) r.1 r.2) else ((ofC t y).1, [])) = (0, O) := h
      by_cases hc : (ofC t y).1 = 0
      · rw [if_pos hc] at h'
        cases hf : foldX wires (ofC t y).2 thr out with
        | none => rw [hf] at h'; cases h'
        | some p =>
          obtain ⟨thr1, out1⟩ := p
          rw [hf] at h'
          have h2 : reachN t wires n (i + 1) thr1 out1 = (0, O) := h'
          have hit := (List.getElem?_eq_some_iff.1 hy).1
          obtain ⟨⟨e1, rfl⟩, s2, s3, s4, s5, s6⟩ := foldX_spec wires _ _ _ _ _ hf hl
          obtain ⟨T, ⟨e2, rfl⟩, a1, a2, a3, a4⟩ := reachN_spec t wires n (i + 1) _ out1 O h2 (by omega) (by simp; omega) s2
          refine ⟨thr ++ e1 ++ e2, ⟨e1 ++ e2, by rw [List.append_assoc]⟩, fun j hj y' hy' => ?_, fun z hz => ?_, fun z hz => a3 z (s5 z hz), fun P h0 hs => ?_⟩
          · rcases Nat.lt_or_ge i j with hij | hij
            · exact a1 j hij y' hy'
            · obtain rfl : j = i := by omega
              have : ((thr ++ e1) ++ e2)[j]? = some y := by
                rw [List.append_assoc, List.getElem?_append_left hit]; exact hy
              rw [this] at hy'
              cases hy'
              exact ⟨hc, fun z hz hz0 => ⟨fun h => a3 z ((s3 z hz hz0).1 h), fun r h => List.mem_append_left _ ((s3 z hz hz0).2 r h)⟩⟩
          · rcases a2 z hz with h | h
            · rcases s4 z h with h | ⟨h1, h2⟩
              · exact .inl h
              · exact .inr ⟨y, List.mem_append_left _ (List.mem_append_left _ (List.mem_of_getElem? hy)), h1, h2⟩
            · exact .inr h
          · refine a4 P (fun m hm => ?_) hs
            rcases s6 m hm with h | ⟨z, hz, hz0, r, hr, rfl⟩
            · exact h0 m h
            · exact hs y (h0 y (List.mem_of_getElem? hy)) z hz hz0 r hr
      · rw [if_neg hc] at h'
        injection h' with h1
        exact absurd h1 hc

theorem reachP_zero {t : Tm} {qs : List Qr} {wires : List WireD} {x : Hdr} (h : (reachP t qs wires x).1 = 0) : ∃ O, reachN t wires 1025 0 [x] [] = (0, O) ∧ (reachP t qs wires x).2 = dd (sortH O) ∧ checkP t qs = 0 ∧ headE x = 0 ∧ x.f 3 = 0 := by
  unfold reachP at *
  by_cases h0 : checkP t qs = 0
  · rw [if_pos h0] at h ⊢
    by_cases h1 : headE x = 0 ∧ x.f 3 = 0
    · rw [if_pos h1] at h ⊢
      by_cases h2 : (reachN t wires 1025 0 [x] []).1 = 0
      · rw [if_pos h2]
        refine ⟨(reachN t wires 1025 0 [x] []).2, ?_, rfl, h0, h1⟩
        rw [← h2]
      · rw [if_neg h2] at h; exact absurd h h2
    · rw [if_neg h1] at h; cases h
  · rw [if_neg h0] at h; exact absurd h h0

theorem union_all {p u : Tm} {q1 q2 : List Qr} {wires : List WireD} {x : Hdr} (hu : ∀ y z, p.den y z → u.den y z) (h1 : (reachP p q1 wires x).1 = 0) (h2 : (reachP u q2 wires x).1 = 0) : ∀ z ∈ (reachP p q1 wires x).2, z ∈ (reachP u q2 wires x).2 := by
  obtain ⟨O1, r1, e1, -⟩ := reachP_zero h1
  obtain ⟨O2, r2, e2, -⟩ := reachP_zero h2
  rw [e1, e2]
  obtain ⟨T1, ⟨x1, hT1⟩, a1, b1, -, d1⟩ := reachN_spec p wires 1025 0 [x] [] O1 r1 rfl (by simp) (by simp)
  obtain ⟨T2, ⟨x2, hT2⟩, a2, b2, -, d2⟩ := reachN_spec u wires 1025 0 [x] [] O2 r2 rfl (by simp) (by simp)
  have mem2 : ∀ y ∈ T2, (ofC u y).1 = 0 ∧ ∀ z ∈ (ofC u y).2, headE z = 0 → (ovr wires z = none → z ∈ O2) ∧ ∀ r, ovr wires z = some r → moveTo z r.1 r.2 ∈ T2 := fun y hy => by
    obtain ⟨j, hj⟩ := List.getElem?_of_mem hy
    exact a2 j (Nat.zero_le _) y hj
  have sub : ∀ y ∈ T2, ∀ z ∈ (ofC p y).2, z ∈ (ofC u y).2 := fun y hy z hz => by
    have hp : (ofC p y).1 = 0 := by
      by_cases h : (ofC p y).1 = 0
      · exact h
      · rw [told_not h] at hz; cases hz
    exact ((told (mem2 y hy).1).2 z).2 (hu y z (((told hp).2 z).1 hz))
  have hT : ∀ y ∈ T1, y ∈ T2 := d1 (· ∈ T2) (fun y hy => by rw [hT2]; exact List.mem_append_left _ hy) (fun y hy z hz hz0 r hr => ((mem2 y hy).2 z (sub y hy z hz) hz0).2 r hr)
  intro z hz
  rw [mem_dd, (sortH_perm _).mem_iff] at hz ⊢
  rcases b1 z hz with h | ⟨y, hy, hz1, hz0, hn⟩
  · cases h
  · exact ((mem2 y (hT y hy)).2 z (sub y (hT y hy) z hz1) hz0).1 hn

/-! how many there can be -/
theorem putAll_len : ∀ (xs l l' : List Hdr), putAll l xs = some l' → l.length ≤ 64 → l'.length ≤ 64
  | [], l, l', h, hl => by rw [putAll] at h; cases h; exact hl
  | x :: xs, l, l', h, hl => by
    rw [putAll] at h
    cases hp : putM l x with
    | none => rw [hp] at h; cases h
    | some m =>
      rw [hp, Option.bind_some] at h
      exact putAll_len xs m l' h (putM_len hp hl)
theorem gather_len {F : Hdr → Int → Option (List Hdr × Int)} : ∀ (l S : List Hdr) (c : Int) (r : List Hdr × Int), gather F l S c = some r → S.length ≤ 64 → r.1.length ≤ 64
  | [], S, c, r, h, hl => by rw [gather] at h; cases h; exact hl
  | x :: xs, S, c, r, h, hl => by
    rw [gather] at h
    cases hf : F x c with
    | none => rw [hf] at h; cases h
    | some a =>
      rw [hf, Option.bind_some] at h
      cases hp : putAll S a.1 with
      | none => rw [hp] at h; cases h
      | some S' =>
        rw [hp, Option.bind_some] at h
        exact gather_len xs S' a.2 r h (putAll_len _ _ _ hp hl)
theorem allF_len {F : Hdr → Int → Option (List Hdr × Int)} {l : List Hdr} {c : Int} {r : List Hdr × Int} (h : allF F l c = some r) : r.1.length ≤ 64 := by
  unfold allF at h
  cases hg : gather F l [] c with
  | none => rw [hg] at h; cases h
  | some a =>
    rw [hg] at h
    cases h
    rw [length_sortH]
    exact gather_len l [] c a hg (by simp)
theorem starPut_len : ∀ (xs S nx : List Hdr) (r : List Hdr × List Hdr), starPut S nx xs = some r → S.length ≤ 64 → r.1.length ≤ 64
  | [], S, nx, r, h, hl => by rw [starPut] at h; cases h; exact hl
  | x :: xs, S, nx, r, h, hl => by
    rw [starPut] at h
    split at h
    · exact starPut_len xs S nx r h hl
    · split at h
      · exact starPut_len xs _ _ r h (by simp; omega)
      · cases h
theorem starF_len {F : Hdr → Int → Option (List Hdr × Int)} : ∀ (n : Nat) (S f : List Hdr) (c : Int) (r : List Hdr × Int), starF F n S f c = some r → S.length ≤ 64 → r.1.length ≤ 64
  | 0, _, _, _, _, h, _ => by rw [starF] at h; cases h
  | n + 1, S, f, c, r, h, hl => by
    rw [starF] at h
    cases ha : allF F f c with
    | none => rw [ha] at h; cases h
    | some a =>
      rw [ha, Option.bind_some] at h
      cases hp : starPut S [] a.1 with
      | none => rw [hp] at h; cases h
      | some q =>
        rw [hp, Option.bind_some] at h
        have hq := starPut_len _ _ _ _ hp hl
        split at h
        · cases h
          rw [length_sortH]; exact hq
        · exact starF_len n _ _ _ r h hq
theorem thenT_len : ∀ (ks : List Tm) (l : List Hdr) (c : Int) (r : List Hdr × Int), Tm.thenT ks l c = some r → l.length ≤ 64 → r.1.length ≤ 64
  | [], l, c, r, h, hl => by rw [Tm.thenT] at h; cases h; exact hl
  | t :: ts, l, c, r, h, hl => by
    rw [Tm.thenT] at h
    cases ha : allF (fun x c => t.ofT x c) l c with
    | none => rw [ha] at h; cases h
    | some a =>
      rw [ha, Option.bind_some] at h
      exact thenT_len ts a.1 a.2 r h (allF_len ha)
theorem unionT_len : ∀ (ks : List Tm) (x : Hdr) (S : List Hdr) (c : Int) (r : List Hdr × Int), Tm.unionT ks x S c = some r → S.length ≤ 64 → r.1.length ≤ 64
  | [], x, S, c, r, h, hl => by rw [Tm.unionT] at h; cases h; exact hl
  | t :: ts, x, S, c, r, h, hl => by
    rw [Tm.unionT] at h
    cases ha : t.ofT x c with
    | none => rw [ha] at h; cases h
    | some a =>
      rw [ha, Option.bind_some] at h
      cases hp : putAll S a.1 with
      | none => rw [hp] at h; cases h
      | some S' =>
        rw [hp, Option.bind_some] at h
        exact unionT_len ts x S' a.2 r h (putAll_len _ _ _ hp hl)
theorem ofT_len : ∀ (t : Tm) (x : Hdr) (c : Int) (r : List Hdr × Int), t.ofT x c = some r → r.1.length ≤ 64
  | .mk op f n ks, x, c, r, h => by
    rw [Tm.ofT] at h
    split at h
    · unfold askM at h
      split at h
      · rw [Option.bind_some] at h; cases h; show (if _ then [x] else []).length ≤ 64; split <;> simp
      · cases h
    · split at h
      · unfold askM at h
        split at h
        · rw [Option.bind_some] at h; cases h; simp
        · cases h
      · split at h
        · exact thenT_len ks [x] c r h (by simp)
        · split at h
          · cases ks with
            | nil => rw [Tm.starT] at h; cases h
            | cons t ts => rw [Tm.starT] at h; exact starF_len _ _ _ _ _ h (by simp)
          · cases hu : Tm.unionT ks x [] c with
            | none => rw [hu] at h; cases h
            | some a =>
              rw [hu] at h
              cases h
              rw [length_sortH]
              exact unionT_len ks x [] c a hu (by simp)
theorem ofC_len (t : Tm) (x : Hdr) : (ofC t x).2.length ≤ 64 := by
  unfold ofC
  split
  · cases h : t.ofT x 0 with
    | none => simp
    | some r => exact ofT_len t x 0 r h
  · simp
theorem foldX_len (wires : List WireD) : ∀ (l thr out : List Hdr) (r : List Hdr × List Hdr), foldX wires l thr out = some r → r.2.length ≤ out.length + l.length
  | [], thr, out, r, h => by rw [foldX] at h; cases h; simp
  | x :: xs, thr, out, r, h => by
    rw [foldX] at h
    cases hs : stepX wires x thr out with
    | none => rw [hs] at h; cases h
    | some p =>
      rw [hs, Option.bind_some] at h
      have h1 := foldX_len wires xs _ _ r h
      have h2 : p.2.length ≤ out.length + 1 := by
        unfold stepX at hs
        split at hs
        · split at hs
          · cases hs; simp
          · split at hs
            · cases hs; simp
            · split at hs
              · cases hs
              · cases hs; simp
        · cases hs; simp
      simp only [List.length_cons]
      omega
theorem reachN_len (t : Tm) (wires : List WireD) : ∀ (n i : Nat) (thr out : List Hdr), (reachN t wires n i thr out).2.length ≤ out.length + 64 * n
  | 0, i, thr, out => by rw [reachN]; simp
  | n + 1, i, thr, out => by
    rw [reachN]
    split
    · simp
    · rename_i y hy
      split
      · split
        · simp
        · rename_i r hr
          have h1 := foldX_len wires _ _ _ r hr
          have h2 := ofC_len t y
          have h3 := reachN_len t wires n (i + 1) r.1 r.2
          omega
      · simp
theorem dd_len : ∀ (l : List Hdr), (dd l).length ≤ l.length
  | [] => by simp [dd]
  | [x] => by simp [dd]
  | x :: y :: r => by
    have := dd_len (y :: r)
    rw [dd_cons]
    split
    · simp only [List.length_cons] at *; omega
    · simp only [List.length_cons] at *; omega
theorem reachP_len (t : Tm) (qs : List Qr) (wires : List WireD) (x : Hdr) : (reachP t qs wires x).2.length ≤ 65600 := by
  unfold reachP
  split
  · split
    · split
      · have h1 := reachN_len t wires 1025 0 [x] []
        have h2 := dd_len (sortH (reachN t wires 1025 0 [x] []).2)
        rw [length_sortH] at h2
        simp at h1
        show (dd _).length ≤ 65600
        omega
      · simp
    · simp
  · simp
end Go.Proofs.Ytddeelepaiklgaa
