/- What comes out: headers at spots without a wire, in order; and without wires what the policy makes: in plain words. -/
import Derived.Test.YtddeelepaiklgaaJUnionP
import Derived.Test.YtddeelepaiklgaaJHeads
namespace Go.Proofs.Ytddeelepaiklgaa

theorem dd_asc : ∀ {l : List Hdr}, l.Pairwise (fun a b => (!ltH b a) = true) → Asc (dd l)
  | [], _ => List.Pairwise.nil
  | [x], _ => by simp [dd, Asc]
  | x :: y :: r, h => by
    have h1 := List.pairwise_cons.1 h
    have ih := dd_asc h1.2
    rw [dd_cons]
    by_cases hxy : x = y
    · rw [if_pos hxy]; exact ih
    · rw [if_neg hxy]
      refine List.pairwise_cons.2 ⟨fun z hz => ?_, ih⟩
      rw [mem_dd] at hz
      have hzx : ltH z x = false := by simpa using h1.1 z hz
      cases hxz : ltH x z with
      | true => rfl
      | false =>
        exfalso
        have e : x = z := ltH_conn hxz hzx
        subst e
        have hyx : ltH y x = false := by simpa using h1.1 y List.mem_cons_self
        have h2 := List.pairwise_cons.1 h1.2
        rcases List.mem_cons.1 hz with e | hz
        · exact hxy e
        · have hxy2 : ltH x y = false := by simpa using h2.1 x hz
          exact hxy (ltH_conn hxy2 hyx)
theorem dd_of_asc : ∀ {l : List Hdr}, Asc l → dd l = l
  | [], _ => rfl
  | [x], _ => rfl
  | x :: y :: r, h => by
    have h1 := List.pairwise_cons.1 h
    rw [dd_cons, if_neg (fun e => by
      have := h1.1 y List.mem_cons_self
      rw [e, ltH_irrefl] at this
      cases this), dd_of_asc h1.2]
theorem asc_nodup {l : List Hdr} (h : Asc l) : l.Nodup := h.imp fun {a b} hab e => by
  subst e
  rw [ltH_irrefl] at hab; cases hab
theorem sortH_of_asc {l : List Hdr} (h : Asc l) : sortH l = l := (asc_sortH (asc_nodup h)).ext h fun y => (sortH_perm l).mem_iff
theorem dd_sort_asc (l : List Hdr) : Asc (dd (sortH l)) := dd_asc (sortH_sorted l)

theorem head_small {x : Hdr} (h : headE x = 0) : IntKind.u16.wrap (x.f 9) = x.f 9 ∧ IntKind.u16.wrap (x.f 10) = x.f 10 := by
  have hb : (fitsL x idx11 && kindB (x.f 2) (x.f 6) (x.f 4) (x.f 5) (x.f 7) (x.f 8)) = true := by
    unfold headE at h
    split at h
    · assumption
    · cases h
  have hf : fitsL x idx11 = true := (Bool.and_eq_true _ _ ▸ hb : _ ∧ _).1
  have h9 : fitsB 9 (x.f 9) = true ∧ fitsB 10 (x.f 10) = true := by
    simp only [idx11, fitsL, Bool.and_eq_true] at hf
    obtain ⟨-, -, -, -, -, -, -, -, -, a, b, -⟩ := hf
    exact ⟨a, b⟩
  have e9 := x.f_bd 9
  have e10 := x.f_bd 10
  have k9 : x.f 9 / 2 ^ 16 = 0 := by
    have := h9.1
    simp only [fitsB, show (widthI 9).toNat = 16 from rfl, fitsK] at this
    simpa using this
  have k10 : x.f 10 / 2 ^ 16 = 0 := by
    have := h9.2
    simp only [fitsB, show (widthI 10).toNat = 16 from rfl, fitsK] at this
    simpa using this
  rw [IntKind.wrap_u16, IntKind.wrap_u16]
  constructor <;> omega

theorem ends_all {t : Tm} {qs : List Qr} {wires : List WireD} {x : Hdr} (h : (reachP t qs wires x).1 = 0) :
    Asc (reachP t qs wires x).2 ∧ ∀ z ∈ (reachP t qs wires x).2, headE z = 0 ∧ loverL (z.f 10) (z.f 9) wires = false := by
  obtain ⟨O, r1, e1, -⟩ := reachP_zero h
  rw [e1]
  refine ⟨dd_sort_asc O, fun z hz => ?_⟩
  obtain ⟨T, -, -, b1, -⟩ := reachN_spec t wires 1025 0 [x] [] O r1 rfl (by simp) (by simp)
  rw [mem_dd, (sortH_perm _).mem_iff] at hz
  rcases b1 z hz with h | ⟨y, hy, hz1, hz0, hn⟩
  · cases h
  · have hs := head_small hz0
    have hn' : overP (IntKind.u16.wrap (z.f 10)) (IntKind.u16.wrap (z.f 9)) wires = none := hn
    rw [hs.1, hs.2] at hn'
    exact ⟨hz0, lover_none _ _ _ hn'⟩
theorem ends_code {t : Tm} {qs : List Qr} {wires : List WireD} {x : Hdr} (h : (reachP t qs wires x).1 = 0) : (ofC t x).1 = 0 := by
  obtain ⟨O, r1, e1, -⟩ := reachP_zero h
  obtain ⟨T, ⟨ext, rfl⟩, a1, -⟩ := reachN_spec t wires 1025 0 [x] [] O r1 rfl (by simp) (by simp)
  exact (a1 0 (Nat.le_refl _) x (by simp)).1
theorem foldX_nil : ∀ (l thr out : List Hdr), foldX [] l thr out = some (thr, out ++ l.filter fun z => decide (headE z = 0))
  | [], thr, out => by simp [foldX]
  | x :: xs, thr, out => by
    rw [foldX, stepX]
    by_cases hx : headE x = 0
    · rw [if_pos hx, overP, Option.bind_some, foldX_nil xs]
      simp [hx]
    · rw [if_neg hx, Option.bind_some, foldX_nil xs]
      simp [hx]
theorem ends_alone {t : Tm} {qs : List Qr} {wires : List WireD} {x : Hdr} (h : (reachP t qs wires x).1 = 0) :
    reachP t qs [] x = (0, (ofC t x).2.filter fun z => decide (headE z = 0)) := by
  have hc := ends_code h
  obtain ⟨O, -, -, h0, h1, h3⟩ := reachP_zero h
  have hN : reachN t [] 1025 0 [x] [] = (0, (ofC t x).2.filter fun z => decide (headE z = 0)) := by
    rw [reachN]
    show (if (ofC t x).1 = 0 then (match foldX [] (ofC t x).2 [x] [] with | none => ((200 : Int), ([] : List Hdr)) | some r => reachN t [] 1024 1 r.1 r.2) else ((ofC t x).1, [])) = _
    rw [if_pos hc, foldX_nil, List.nil_append]
    show reachN t [] 1024 1 [x] _ = _
    rw [reachN]
    rfl
  have ha : Asc ((ofC t x).2.filter fun z => decide (headE z = 0)) := List.Pairwise.sublist List.filter_sublist (told hc).1
  unfold reachP
  rw [if_pos h0, if_pos ⟨h1, h3⟩, hN, if_pos rfl, sortH_of_asc ha, dd_of_asc ha]
theorem reachP_not {t : Tm} {qs : List Qr} {wires : List WireD} {x : Hdr} (h : (reachP t qs wires x).1 ≠ 0) : (reachP t qs wires x).2 = [] := by
  unfold reachP at *
  split
  · split
    · split
      · rename_i h0 h1 h2
        rw [if_pos h0, if_pos h1, if_pos h2] at h
        exact absurd rfl h
      · rfl
    · rfl
  · rfl
end Go.Proofs.Ytddeelepaiklgaa
