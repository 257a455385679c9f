/- The document's sets, in order, are the program's sets put in order. -/
import Derived.Test.YtddeelepaiklgaaRef19c
import Derived.Test.YtddeelepaiklgaaMean
namespace Go.Proofs.Ytddeelepaiklgaa

theorem mem_addH {x y : Hdr} : ∀ {l : List Hdr}, y ∈ addH l x ↔ y ∈ l ∨ y = x
  | [] => by simp [addH]
  | z :: zs => by
    rw [addH]
    split
    · rw [List.mem_cons, mem_addH, List.mem_cons, or_assoc]
    · split
      · rename_i h
        subst h
        simp only [List.mem_cons]
        exact ⟨.inl, fun h => h.elim id .inl⟩
      · simp only [List.mem_cons]
        exact ⟨fun h => h.elim .inr .inl, fun h => h.elim .inr .inl⟩
theorem asc_addH {x : Hdr} : ∀ {l : List Hdr}, Asc l → Asc (addH l x)
  | [], _ => by simp [addH, Asc]
  | z :: zs, h => by
    have h1 := List.pairwise_cons.1 h
    rw [addH]
    split
    · rename_i hz
      refine List.pairwise_cons.2 ⟨fun y hy => ?_, asc_addH h1.2⟩
      rcases mem_addH.1 hy with hy | rfl
      · exact h1.1 y hy
      · exact hz
    · split
      · exact h
      · rename_i hz hne
        have hxz : ltH x z = true := by
          cases hc : ltH x z with
          | true => rfl
          | false => exact absurd (ltH_conn (by simpa using hz) hc) hne
        refine List.pairwise_cons.2 ⟨fun y hy => ?_, h⟩
        rcases List.mem_cons.1 hy with rfl | hy
        · exact hxz
        · exact ltH_trans hxz (h1.1 y hy)
theorem addH_sortH {S : List Hdr} {x : Hdr} (hn : S.Nodup) : addH (sortH S) x = if x ∈ S then sortH S else sortH (S ++ [x]) := by
  by_cases hx : x ∈ S
  · rw [if_pos hx]
    refine (asc_addH (asc_sortH hn)).ext (asc_sortH hn) fun y => ?_
    rw [mem_addH, (sortH_perm _).mem_iff]
    exact ⟨fun h => h.elim id (fun e => e ▸ hx), .inl⟩
  · rw [if_neg hx]
    refine (asc_addH (asc_sortH hn)).ext (asc_sortH (List.nodup_append.2 ⟨hn, by simp, fun a ha b hb e => hx (by simp at hb; rw [← hb, ← e]; exact ha)⟩)) fun y => ?_
    rw [mem_addH, (sortH_perm _).mem_iff, (sortH_perm _).mem_iff]
    simp
/-- P19.2's sets -/
theorem putAll_ref : ∀ (xs S : List Hdr), S.Nodup → S.length ≤ 64 → (∃ S', putAll S xs = some S' ∧ S'.Nodup ∧ S'.length ≤ 64 ∧ addAll (sortH S) xs = sortH S') ∨ (putAll S xs = none ∧ 64 < (addAll (sortH S) xs).length)
  | [], S, hn, hl => .inl ⟨S, rfl, hn, hl, rfl⟩
  | x :: xs, S, hn, hl => by
    simp only [putAll, addAll, addH_sortH hn, putM]
    by_cases hx : x ∈ S
    · rw [if_pos hx, if_pos hx]
      exact putAll_ref xs S hn hl
    · rw [if_neg hx, if_neg hx]
      have hn2 : (S ++ [x]).Nodup := List.nodup_append.2 ⟨hn, by simp, fun a ha b hb e => hx (by simp at hb; rw [← hb, ← e]; exact ha)⟩
      by_cases h64 : S.length < 64
      · rw [if_pos h64]
        exact putAll_ref xs (S ++ [x]) hn2 (by simp; omega)
      · rw [if_neg h64]
        refine .inr ⟨rfl, ?_⟩
        have h1 := (length_addAll xs (sortH (S ++ [x]))).1
        rw [length_sortH] at h1
        simp at h1
        omega
end Go.Proofs.Ytddeelepaiklgaa
