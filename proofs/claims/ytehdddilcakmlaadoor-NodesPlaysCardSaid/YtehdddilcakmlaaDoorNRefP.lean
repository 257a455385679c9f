/- The document's side of law 20 in plain words. -/
import Derived.Test.YtehdddilcakmlaaDoorNRowsP
namespace Go.Proofs.YtehdddilcakmlaaDoor
open Go.RowKit Go.Sort Go.Maps Go.Lib
set_option linter.unusedSimpArgs false

def ordI : RowD → RowD → Int
  | a :: l, b :: m => if a.f = b.f then (if a.n < b.n then -1 else if b.n < a.n then 1 else ordI l m) else a.f - b.f
  | [], m => -(m.length : Int)
  | _ :: l, [] => (l.length : Int) + 1
theorem ordI_nil (m : RowD) : ordI [] m = -(m.length : Int) := by cases m <;> rfl
theorem ordI_nil' (l : RowD) : ordI l [] = (l.length : Int) := by
  cases l with
  | nil => rfl
  | cons a l => simp [ordI]
theorem ordI_neg : ∀ {r s : RowD}, ordI r s < 0 ↔ rkey r < rkey s
  | [], [] => by simp [ordI, rkey]
  | [], b :: m => by
    rw [ordI_nil]
    simp [rkey]
  | a :: l, [] => by
    simp [ordI, rkey]
    omega
  | a :: l, b :: m => by
    rw [ordI, rkey_cons, rkey_cons, List.cons_lt_cons_iff, List.cons_lt_cons_iff]
    by_cases h : a.f = b.f
    · rw [if_pos h]
      by_cases h1 : a.n < b.n
      · rw [if_pos h1]
        exact ⟨fun _ => .inr ⟨h, .inl h1⟩, fun _ => by omega⟩
      · rw [if_neg h1]
        by_cases h2 : b.n < a.n
        · rw [if_pos h2]
          refine ⟨fun h3 => by omega, ?_⟩
          rintro (h3 | ⟨-, h3 | ⟨h3, -⟩⟩) <;> omega
        · rw [if_neg h2, ordI_neg]
          have h3 : a.n = b.n := by omega
          simp [h, h3]
    · rw [if_neg h]
      constructor
      · intro h3; exact .inl (by omega)
      · rintro (h3 | ⟨h3, -⟩)
        · omega
        · exact absurd h3 h
theorem ordI_zero : ∀ {r s : RowD}, ordI r s = 0 ↔ rkey r = rkey s
  | [], [] => by simp [ordI, rkey]
  | [], b :: m => by
    rw [ordI_nil]
    simp [rkey]
    omega
  | a :: l, [] => by
    simp [ordI, rkey]
    omega
  | a :: l, b :: m => by
    rw [ordI, rkey_cons, rkey_cons, List.cons.injEq, List.cons.injEq]
    by_cases h : a.f = b.f
    · rw [if_pos h]
      by_cases h1 : a.n < b.n
      · rw [if_pos h1]
        exact ⟨fun h => by omega, fun h => by omega⟩
      · rw [if_neg h1]
        by_cases h2 : b.n < a.n
        · rw [if_pos h2]
          exact ⟨fun h => by omega, fun h => by omega⟩
        · rw [if_neg h2, ordI_zero]
          have h3 : a.n = b.n := by omega
          simp [h, h3]
    · rw [if_neg h]
      exact ⟨fun h3 => absurd (by omega) h, fun h3 => absurd h3.1 h⟩
theorem ordI_drop {r s : RowD} {i : Nat} (h1 : i < r.length) (h2 : i < s.length) : ordI (r.drop i) (s.drop i) = if r[i].f = s[i].f then (if r[i].n < s[i].n then -1 else if s[i].n < r[i].n then 1 else ordI (r.drop (i + 1)) (s.drop (i + 1))) else r[i].f - s[i].f := by
  rw [List.drop_eq_getElem_cons h1, List.drop_eq_getElem_cons h2, ordI]

/-- settings by fields -/
def fldR (r : RowD) (f : Nat) : RowD := r.filter fun a => a.f == (f : Int)
def outR (r : RowD) (F : Nat) : RowD := (List.range F).flatMap (fldR r)
theorem outR_succ (r : RowD) (F : Nat) : outR r (F + 1) = outR r F ++ fldR r F := by
  simp [outR, List.range_succ]
theorem outR_len (r : RowD) : ∀ F : Nat, (∀ f, f < F → (fldR r f).length ≤ 1) → (outR r F).length ≤ F
  | 0, _ => by simp [outR]
  | F + 1, h => by
    rw [outR_succ, List.length_append]
    have := outR_len r F fun f hf => h f (by omega)
    have := h F (by omega)
    omega
theorem outR_perm (r : RowD) : ∀ F : Nat, (outR r F).Perm (r.filter fun a => decide (0 ≤ a.f) && decide (a.f < (F : Int)))
  | 0 => by
    have e : (r.filter fun a => decide (0 ≤ a.f) && decide (a.f < ((0 : Nat) : Int))) = [] := by
      rw [List.filter_eq_nil_iff]
      intro a _
      simp
    rw [e]
    exact List.Perm.refl _
  | F + 1 => by
    rw [outR_succ]
    have h := (List.filter_append_perm (fun a : AcD => decide (a.f < (F : Int))) (r.filter fun a => decide (0 ≤ a.f) && decide (a.f < ((F + 1 : Nat) : Int)))).symm
    refine List.Perm.trans ?_ h.symm
    rw [List.filter_filter, List.filter_filter]
    refine List.Perm.append ((outR_perm r F).trans ?_) ?_
    · refine List.Perm.of_eq (List.filter_congr fun a _ => ?_)
      rw [Bool.eq_iff_iff]
      simp
      omega
    · refine List.Perm.of_eq (List.filter_congr fun a _ => ?_)
      rw [Bool.eq_iff_iff]
      simp
      omega
theorem outR_sorted (r : RowD) : ∀ F : Nat, (outR r F).Pairwise fun a b => a.f ≤ b.f
  | 0 => List.Pairwise.nil
  | F + 1 => by
    rw [outR_succ, List.pairwise_append]
    refine ⟨outR_sorted r F, ?_, fun a ha b hb => ?_⟩
    · rw [List.pairwise_iff_getElem]
      intro i j hi hj _
      have h1 := (List.mem_filter.1 (List.getElem_mem hi)).2
      have h2 := (List.mem_filter.1 (List.getElem_mem hj)).2
      simp at h1 h2
      unfold fldR at *
      omega
    · have h1 := (List.mem_filter.1 ((outR_perm r F).mem_iff.1 ha)).2
      have h2 := (List.mem_filter.1 hb).2
      simp at h1 h2
      omega
theorem fld_nodup {r : RowD} {f : Nat} (h : (r.map AcD.f).Nodup) : (fldR r f).length ≤ 1 := by
  have h1 : ((fldR r f).map AcD.f).Nodup := by
    rw [List.nodup_iff_pairwise_ne, List.pairwise_map] at *
    exact List.Pairwise.filter _ h
  rcases hc : fldR r f with _ | ⟨a, _ | ⟨b, t⟩⟩
  · simp
  · simp
  · have ha : a ∈ fldR r f := by rw [hc]; simp
    have hb : b ∈ fldR r f := by rw [hc]; simp
    have h2 := (List.mem_filter.1 ha).2
    have h3 := (List.mem_filter.1 hb).2
    rw [hc] at h1
    simp at h1 h2 h3
    exact absurd (h2.trans h3.symm) h1.1.1
theorem row_yes {r : RowD} (hok : okR r = true) (hc : ∀ f, f < 11 → (fldR r f).length ≤ 1) : rowP r = some (outR r 11) ∧ (outR r 11).length = r.length := by
  have hall : (r.filter fun a => decide (0 ≤ a.f) && decide (a.f < ((11 : Nat) : Int))) = r := by
    rw [List.filter_eq_self]
    intro a ha
    have := okA_bd (List.all_eq_true.1 hok a ha)
    simp
    omega
  have hp : (outR r 11).Perm r := by
    have := outR_perm r 11
    rwa [hall] at this
  have hn : (r.map AcD.f).Nodup := by
    rw [List.nodup_iff_pairwise_ne, List.pairwise_map, List.pairwise_iff_getElem]
    intro i j hi hj hij he
    have hb := okA_bd (List.all_eq_true.1 hok _ (List.getElem_mem hi))
    have h1 := hc (r[i].f.toNat) (by omega)
    have h2 : [r[i], r[j]].Sublist r := by
      have h3 := List.drop_eq_getElem_cons hi
      have h4 : [r[i], r[j]].Sublist (r.drop i) := by
        rw [h3]
        refine List.Sublist.cons_cons _ (List.singleton_sublist.2 ?_)
        rw [List.mem_iff_getElem]
        exact ⟨j - (i + 1), by rw [List.length_drop]; omega, by rw [List.getElem_drop]; congr 1; omega⟩
      exact h4.trans (List.drop_sublist _ _)
    have h5 := (h2.filter fun a => a.f == ((r[i].f.toNat : Nat) : Int)).length_le
    have h6 : ((r[i].f.toNat : Nat) : Int) = r[i].f := by omega
    rw [h6] at h5
    simp [he] at h5
    unfold fldR at h1
    rw [h6, he] at h1
    omega
  refine ⟨?_, hp.length_eq⟩
  unfold rowP
  rw [if_pos ⟨hok, hn⟩]
  exact congrArg some (fsorted_eq hn (sortF_perm r) (sortF_sorted r) hp (outR_sorted r 11))
theorem row_dup {r : RowD} {f : Nat} (h : 1 < (fldR r f).length) : rowP r = none := by
  unfold rowP
  rw [if_neg]
  intro h2
  have := fld_nodup (f := f) h2.2
  omega

/-- rows put in one by one -/
structure InsI (l m : List RowD) : Prop where
  asc : RAsc m
  mem : ∀ x, x ∈ m ↔ ∃ s ∈ l, rowP s = some x
  all : ∀ s ∈ l, rowP s ≠ none
  len : m.length ≤ l.length
theorem InsI.nil : InsI [] [] := ⟨List.Pairwise.nil, by simp, by simp, by simp⟩
theorem InsI.ok {l m : List RowD} (h : InsI l m) : ∀ x ∈ m, okR x = true := fun x hx => by
  obtain ⟨s, -, he⟩ := (h.mem x).1 hx
  exact rowP_ok he
theorem InsI.rows {l m : List RowD} (h : InsI l m) : rowsP l = some m := by
  cases hr : rowsP l with
  | none =>
    obtain ⟨s, hs, he⟩ := rowsP_no hr
    exact absurd he (h.all s hs)
  | some a => rw [asc_ext (rowsP_rises hr) h.asc fun x => by rw [rowsP_mem hr, h.mem]]
theorem InsI.old {l m : List RowD} (h : InsI l m) {r s : RowD} (hr : rowP r = some s) {k : Nat} (hk : k < m.length) (he : rkey m[k] = rkey s) : InsI (l ++ [r]) m := by
  have hs : m[k] = s := rkey_inj (h.ok _ (List.getElem_mem hk)) (rowP_ok hr) he
  refine ⟨h.asc, fun x => ?_, fun y hy => ?_, by have := h.len; simp; omega⟩
  · rw [h.mem]
    constructor
    · rintro ⟨y, hy, e⟩; exact ⟨y, by simp [hy], e⟩
    · rintro ⟨y, hy, e⟩
      rcases List.mem_append.1 hy with hy | hy
      · exact ⟨y, hy, e⟩
      · obtain rfl := List.mem_singleton.1 hy
        rw [hr] at e
        cases e
        exact (h.mem _).1 (hs ▸ List.getElem_mem hk)
  · rcases List.mem_append.1 hy with hy | hy
    · exact h.all y hy
    · obtain rfl := List.mem_singleton.1 hy
      rw [hr]; simp
theorem InsI.new {l m : List RowD} (h : InsI l m) {r s : RowD} (hr : rowP r = some s) {k : Nat} (hk : k ≤ m.length) (hb : ∀ i (h : i < m.length), i < k → rkey m[i] < rkey s) (ha : ∀ h : k < m.length, rkey s < rkey m[k]) : InsI (l ++ [r]) (m.take k ++ [s] ++ m.drop k) := by
  have hasc := h.asc
  refine ⟨?_, fun x => ?_, fun y hy => ?_, ?_⟩
  · have h0 := hasc
    unfold RAsc at h0 ⊢
    rw [← List.take_append_drop k m, List.pairwise_append] at h0
    rw [List.append_assoc, List.pairwise_append]
    have hs2 : ∀ y ∈ m.drop k, rkey s < rkey y := fun y hy => by
      by_cases hkl : k < m.length
      · have h3 := ha hkl
        rw [List.drop_eq_getElem_cons hkl] at hy
        rcases List.mem_cons.1 hy with rfl | hy
        · exact h3
        · have h4 := h0.2.1
          rw [List.drop_eq_getElem_cons hkl, List.pairwise_cons] at h4
          exact List.lt_trans h3 (h4.1 y hy)
      · rw [List.drop_of_length_le (by omega)] at hy
        cases hy
    have hs1 : ∀ y ∈ m.take k, rkey y < rkey s := fun y hy => by
      obtain ⟨i, hi, rfl⟩ := List.getElem_of_mem hy
      rw [List.length_take] at hi
      rw [List.getElem_take]
      exact hb i (by omega) (by omega)
    refine ⟨h0.1, ?_, fun a ha' b hb' => ?_⟩
    · rw [List.singleton_append, List.pairwise_cons]
      exact ⟨hs2, h0.2.1⟩
    · rcases List.mem_append.1 hb' with hb' | hb'
      · obtain rfl := List.mem_singleton.1 hb'
        exact hs1 a ha'
      · exact h0.2.2 a ha' b hb'
  · have e : x ∈ m.take k ++ [s] ++ m.drop k ↔ x ∈ m ∨ x = s := by
      rw [show (x ∈ m) ↔ x ∈ m.take k ++ m.drop k from by rw [List.take_append_drop]]
      simp only [List.mem_append, List.mem_singleton]
      constructor
      · rintro ((h | h) | h)
        · exact .inl (.inl h)
        · exact .inr h
        · exact .inl (.inr h)
      · rintro ((h | h) | h)
        · exact .inl (.inl h)
        · exact .inr h
        · exact .inl (.inr h)
    rw [e, h.mem]
    constructor
    · rintro (⟨y, hy, e⟩ | rfl)
      · exact ⟨y, by simp [hy], e⟩
      · exact ⟨r, by simp, hr⟩
    · rintro ⟨y, hy, e⟩
      rcases List.mem_append.1 hy with hy | hy
      · exact .inl ⟨y, hy, e⟩
      · obtain rfl := List.mem_singleton.1 hy
        rw [hr] at e
        cases e
        exact .inr rfl
  · rcases List.mem_append.1 hy with hy | hy
    · exact h.all y hy
    · obtain rfl := List.mem_singleton.1 hy
      rw [hr]; simp
  · have := h.len
    simp only [List.length_append, List.length_take, List.length_drop, List.length_singleton, List.length_cons, List.length_nil]
    omega
end Go.Proofs.YtehdddilcakmlaaDoor
