/- JudgeFewer, the plain law: a right hop stays right with fewer headers, and is not right with one twice. -/
import Derived.Test.YtddeelepaiklgaaJHop
import Derived.Test.YtddeelepaiklgaaDen
namespace Go.Proofs.Ytddeelepaiklgaa
open Go.RowKit Go.Maps Go.Sort Go.Lib

theorem hopL_iff {l : List Hdr} : ∀ {out done : List Hdr}, hopL l done out = true ↔ (∀ y ∈ out, y ∈ l ∧ y ∉ done) ∧ out.Nodup
  | [], done => by simp [hopL]
  | y :: ys, done => by
    rw [hopL]
    simp only [Bool.and_eq_true, decide_eq_true_eq, Bool.not_eq_true', decide_eq_false_iff_not, hopL_iff (out := ys), List.mem_cons, forall_eq_or_imp, List.nodup_cons, List.mem_append, List.mem_singleton, not_or]
    constructor
    · rintro ⟨h1, h2, h3, h4⟩
      exact ⟨⟨⟨h1, h2⟩, fun z hz => ⟨(h3 z hz).1, (h3 z hz).2.1⟩⟩, fun hy => (h3 y hy).2.2.1 rfl, h4⟩
    · rintro ⟨⟨⟨h1, h2⟩, h3⟩, h4, h5⟩
      exact ⟨h1, h2, fun z hz => ⟨(h3 z hz).1, (h3 z hz).2, fun e => h4 (e ▸ hz), by simp⟩, h5⟩
theorem few_all {t : Tm} {qs : List Qr} {x : Hdr} (h1 : checkP t qs = 0) (h2 : (ofC t x).1 = 0) (h3 : x.f 3 = 0) : hopP t qs x (ofC t x).2 = true := by
  have h4 : hopL (ofC t x).2 [] (ofC t x).2 = true := hopL_iff.2 ⟨fun y hy => ⟨hy, by simp⟩, (told h2).1.nodup⟩
  simp [hopP, h1, h2, h3, h4]
theorem hopP_iff {t : Tm} {qs : List Qr} {x : Hdr} {out : List Hdr} : hopP t qs x out = true ↔ checkP t qs = 0 ∧ x.f 3 = 0 ∧ (ofC t x).1 = 0 ∧ (∀ y ∈ out, y ∈ (ofC t x).2) ∧ out.Nodup := by
  unfold hopP
  simp only [Bool.and_eq_true, decide_eq_true_eq, hopL_iff]
  simp
theorem few_less {t : Tm} {qs : List Qr} {x : Hdr} {out : List Hdr} (h : hopP t qs x out = true) (k : Nat) : hopP t qs x (out.take k ++ out.drop (k + 1)) = true := by
  obtain ⟨h1, h2, h3, h4, h5⟩ := hopP_iff.1 h
  have hs : (out.take k ++ out.drop (k + 1)).Sublist out := by
    conv => rhs; rw [← List.take_append_drop k out]
    exact (List.Sublist.refl _).append (by rw [← List.drop_drop]; exact List.drop_sublist _ _)
  exact hopP_iff.2 ⟨h1, h2, h3, fun y hy => h4 y (hs.subset hy), hs.nodup h5⟩
theorem few_twice {t : Tm} {qs : List Qr} {x : Hdr} {out : List Hdr} {k : Nat} (hk : k < out.length) : hopP t qs x (out ++ [out[k]]) = false := by
  cases h : hopP t qs x (out ++ [out[k]]) with
  | false => rfl
  | true =>
    exfalso
    obtain ⟨-, -, -, -, h5⟩ := hopP_iff.1 h
    exact (List.nodup_append.1 h5).2.2 _ (List.getElem_mem hk) _ (List.mem_singleton.2 rfl) rfl
end Go.Proofs.Ytddeelepaiklgaa
