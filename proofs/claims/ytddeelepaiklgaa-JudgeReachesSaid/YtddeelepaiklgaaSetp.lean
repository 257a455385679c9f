/- Sorted rows of headers, in plain words. -/
import Derived.Test.YtddeelepaiklgaaSort
namespace Go.Proofs.Ytddeelepaiklgaa

theorem leH_trans (a b c : Hdr) (h : (!ltH b a) = true) (h' : (!ltH c b) = true) : (!ltH c a) = true := by
  simp only [Bool.not_eq_true'] at *
  exact swoH.ntrans c b a h' h
theorem leH_total (a b : Hdr) : ((!ltH b a) || (!ltH a b)) = true := by
  cases h : ltH a b with
  | false => simp
  | true => simp [ltH_asymm h]
theorem leH_anti {a b : Hdr} (h : (!ltH b a) = true) (h' : (!ltH a b) = true) : a = b := by
  simp only [Bool.not_eq_true'] at *
  exact ltH_conn h' h
theorem sortH_perm (l : List Hdr) : (sortH l).Perm l := List.mergeSort_perm _ _
theorem sortH_sorted (l : List Hdr) : (sortH l).Pairwise fun a b => (!ltH b a) = true := List.pairwise_mergeSort leH_trans leH_total l
theorem eq_of_sorted {l m : List Hdr} (h : l.Pairwise fun a b => (!ltH b a) = true) (h' : m.Pairwise fun a b => (!ltH b a) = true) (hp : l.Perm m) : l = m :=
  List.Perm.eq_of_pairwise (fun _ _ _ _ h h' => leH_anti h h') h h' hp
theorem sortH_congr {l m : List Hdr} (h : l.Perm m) : sortH l = sortH m :=
  eq_of_sorted (sortH_sorted l) (sortH_sorted m) ((sortH_perm l).trans (h.trans (sortH_perm m).symm))
theorem length_sortH (l : List Hdr) : (sortH l).length = l.length := List.length_mergeSort _
/-- in strict order -/
def Asc (l : List Hdr) : Prop := l.Pairwise fun a b => ltH a b = true
theorem Asc.le {l : List Hdr} (h : Asc l) : l.Pairwise fun a b => (!ltH b a) = true := h.imp (fun h => by simp [ltH_asymm h])
theorem Asc.nodup {l : List Hdr} (h : Asc l) : l.Nodup := h.imp (fun {a b} h e => by subst e; rw [ltH_irrefl] at h; cases h)
theorem Asc.of_nodup {l : List Hdr} (hs : l.Pairwise fun a b => (!ltH b a) = true) (hn : l.Nodup) : Asc l :=
  (hs.and hn).imp (fun {a b} h => by
    cases hab : ltH a b with
    | true => rfl
    | false => exact absurd (ltH_conn hab (by simpa using h.1)) h.2)
theorem asc_sortH {l : List Hdr} (h : l.Nodup) : Asc (sortH l) := Asc.of_nodup (sortH_sorted l) ((sortH_perm l).nodup_iff.2 h)
theorem Asc.ext {l m : List Hdr} (hl : Asc l) (hm : Asc m) (h : ∀ x, x ∈ l ↔ x ∈ m) : l = m :=
  eq_of_sorted hl.le hm.le ((List.perm_ext_iff_of_nodup hl.nodup hm.nodup).2 h)

theorem perm_of_map {α β : Type} {f : α → β} (hf : ∀ {x y}, f x = f y → x = y) {l m : List α} (h : (l.map f).Perm (m.map f)) : l.Perm m := by
  cases l with
  | nil => have := h.length_eq; simp at this; rw [List.length_eq_zero_iff.1 this.symm]
  | cons a r =>
    let g : β → α := fun b => @Classical.epsilon α ⟨a⟩ (fun x => f x = b)
    have hg : ∀ x, g (f x) = x := fun x => hf (@Classical.epsilon_spec α (fun y => f y = f x) ⟨x, rfl⟩)
    have := h.map g
    rw [List.map_map, List.map_map] at this
    have e : ∀ l : List α, l.map (g ∘ f) = l := fun l => by
      have : (g ∘ f) = id := funext hg
      rw [this, List.map_id]
    rwa [e, e] at this
end Go.Proofs.Ytddeelepaiklgaa
