/- The plain law of NodesRows: rows in whatever order, however often. -/
import Derived.Test.YtehdddilcakmlaaDoorNAgainP
namespace Go.Proofs.YtehdddilcakmlaaDoor
open Go.RowKit Go.Sort Go.Maps Go.Lib
set_option linter.unusedSimpArgs false

theorem okR_perm {r s : RowD} (h : r.Perm s) : okR r = okR s := by
  unfold okR
  rw [Bool.eq_iff_iff, List.all_eq_true, List.all_eq_true]
  exact ⟨fun h1 x hx => h1 x (h.mem_iff.2 hx), fun h1 x hx => h1 x (h.mem_iff.1 hx)⟩
theorem rowP_perm {r s : RowD} (h : r.Perm s) : rowP r = rowP s := by
  unfold rowP
  have h1 : okR r = okR s := okR_perm h
  have h2 : (r.map AcD.f).Nodup ↔ (s.map AcD.f).Nodup := (h.map AcD.f).nodup_iff
  by_cases hc : okR r = true ∧ (r.map AcD.f).Nodup
  · rw [if_pos hc, if_pos ⟨h1 ▸ hc.1, h2.1 hc.2⟩]
    exact congrArg some (fsorted_eq hc.2 (sortF_perm r) (sortF_sorted r) ((sortF_perm s).trans h.symm) (sortF_sorted s))
  · rw [if_neg hc, if_neg fun hd => hc ⟨h1.symm ▸ hd.1, h2.2 hd.2⟩]
theorem mapM_mem {α β : Type} {f : α → Option β} : ∀ {l : List α} {m : List β}, l.mapM f = some m → ∀ x, x ∈ m ↔ ∃ s ∈ l, f s = some x
  | [], m, h, x => by cases h; simp
  | z :: l, m, h, x => by
    rw [List.mapM_cons] at h
    cases hz : f z with
    | none => rw [hz] at h; cases h
    | some u =>
      rw [hz] at h
      cases hl : l.mapM f with
      | none => rw [hl] at h; cases h
      | some m' =>
        rw [hl] at h
        have h : some (u :: m') = some m := h
        cases h
        rw [List.mem_cons, mapM_mem hl x]
        constructor
        · rintro (rfl | ⟨s, hs, he⟩)
          · exact ⟨z, List.mem_cons_self, hz⟩
          · exact ⟨s, List.mem_cons_of_mem _ hs, he⟩
        · rintro ⟨s, hs, he⟩
          rcases List.mem_cons.1 hs with rfl | hs
          · rw [hz] at he; cases he; exact .inl rfl
          · exact .inr ⟨s, hs, he⟩
theorem mapM_no {α β : Type} {f : α → Option β} : ∀ {l : List α}, l.mapM f = none → ∃ s ∈ l, f s = none
  | [], h => by cases h
  | z :: l, h => by
    cases hz : f z with
    | none => exact ⟨z, List.mem_cons_self, hz⟩
    | some u =>
      cases hl : l.mapM f with
      | none =>
        obtain ⟨s, hs, he⟩ := mapM_no hl
        exact ⟨s, List.mem_cons_of_mem _ hs, he⟩
      | some m' =>
        rw [List.mapM_cons, hz, hl] at h
        cases h
/-- rows that rise -/
def RAsc (l : List RowD) : Prop := l.Pairwise fun r s => rkey r < rkey s
theorem ddGo_asc : ∀ (l : List RowD) (x : RowD), (x :: l).Pairwise (fun r s => leR r s = true) →
    RAsc (x :: ddGo (fun r s => cmpR r s == 0) x l) ∧ ∀ z ∈ l, ∃ y ∈ x :: ddGo (fun r s => cmpR r s == 0) x l, rkey y = rkey z
  | [], x, _ => ⟨List.pairwise_singleton _ _, fun z h => by cases h⟩
  | y :: l, x, h => by
    obtain ⟨h1, h2⟩ := List.pairwise_cons.1 h
    obtain ⟨i1, i2⟩ := ddGo_asc l y h2
    have hle : leR x y = true := h1 y List.mem_cons_self
    rw [ddGo]
    by_cases hq : cmpR y x = 0
    · have hk := cmpR_zero.1 hq
      rw [if_pos (by simpa using hq)]
      obtain ⟨j1, j2⟩ := List.pairwise_cons.1 i1
      refine ⟨List.pairwise_cons.2 ⟨fun z hz => by rw [← hk]; exact j1 z hz, j2⟩, fun z hz => ?_⟩
      rcases List.mem_cons.1 hz with rfl | hz
      · exact ⟨x, List.mem_cons_self, hk.symm⟩
      · obtain ⟨u, hu, he⟩ := i2 z hz
        rcases List.mem_cons.1 hu with rfl | hu
        · exact ⟨x, List.mem_cons_self, hk.symm.trans he⟩
        · exact ⟨u, List.mem_cons_of_mem _ hu, he⟩
    · rw [if_neg (by simpa using hq)]
      have hlt : rkey x < rkey y := by
        simp only [leR, Bool.not_eq_true', decide_eq_false_iff_not, List.not_lt] at hle
        rcases List.le_iff_lt_or_eq.1 hle with h3 | h3
        · exact h3
        · exact absurd (cmpR_zero.2 h3.symm) hq
      obtain ⟨j1, j2⟩ := List.pairwise_cons.1 i1
      refine ⟨List.pairwise_cons.2 ⟨fun z hz => ?_, i1⟩, fun z hz => ?_⟩
      · rcases List.mem_cons.1 hz with rfl | hz
        · exact hlt
        · exact List.lt_trans hlt (j1 z hz)
      · rcases List.mem_cons.1 hz with rfl | hz
        · exact ⟨z, List.mem_cons_of_mem _ List.mem_cons_self, rfl⟩
        · obtain ⟨u, hu, he⟩ := i2 z hz
          exact ⟨u, List.mem_cons_of_mem _ hu, he⟩
theorem ddR_asc (l : List RowD) : RAsc (ddR (sortR l)) ∧ ∀ z ∈ l, ∃ y ∈ ddR (sortR l), rkey y = rkey z := by
  have hs := sortR_sorted l
  have hp := sortR_perm l
  generalize sortR l = m at *
  cases m with
  | nil => exact ⟨List.Pairwise.nil, fun z hz => by have := hp.mem_iff.2 hz; cases this⟩
  | cons x m =>
    obtain ⟨h1, h2⟩ := ddGo_asc m x hs
    refine ⟨h1, fun z hz => ?_⟩
    rcases List.mem_cons.1 (hp.mem_iff.2 hz) with rfl | hz
    · exact ⟨z, List.mem_cons_self, rfl⟩
    · exact h2 z hz
theorem asc_ext : ∀ {a b : List RowD}, RAsc a → RAsc b → (∀ x, x ∈ a ↔ x ∈ b) → a = b
  | [], [], _, _, _ => rfl
  | [], y :: b, _, _, h => by have := (h y).2 List.mem_cons_self; cases this
  | x :: a, [], _, _, h => by have := (h x).1 List.mem_cons_self; cases this
  | x :: a, y :: b, ha, hb, h => by
    obtain ⟨a1, a2⟩ := List.pairwise_cons.1 ha
    obtain ⟨b1, b2⟩ := List.pairwise_cons.1 hb
    have e : x = y := by
      rcases List.mem_cons.1 ((h x).1 List.mem_cons_self) with e | hx
      · exact e
      · rcases List.mem_cons.1 ((h y).2 List.mem_cons_self) with e | hy
        · exact e.symm
        · exact absurd (List.lt_trans (b1 x hx) (a1 y hy)) (List.lt_irrefl _)
    subst e
    rw [asc_ext a2 b2 fun z => ?_]
    constructor
    · intro hz
      rcases List.mem_cons.1 ((h z).1 (List.mem_cons_of_mem _ hz)) with rfl | hz2
      · exact absurd (a1 _ hz) (List.lt_irrefl _)
      · exact hz2
    · intro hz
      rcases List.mem_cons.1 ((h z).2 (List.mem_cons_of_mem _ hz)) with rfl | hz2
      · exact absurd (b1 _ hz) (List.lt_irrefl _)
      · exact hz2
theorem ddR_mem {l : List RowD} (hn : ∀ r ∈ l, okR r = true) (x : RowD) : x ∈ ddR (sortR l) ↔ x ∈ l := by
  have hsub : ∀ z, z ∈ ddR (sortR l) → z ∈ l := fun z hz => (sortR_perm l).mem_iff.1 (ddG_mem _ _ z hz)
  refine ⟨hsub x, fun hx => ?_⟩
  obtain ⟨y, hy, he⟩ := (ddR_asc l).2 x hx
  rw [← rkey_inj (hn y (hsub y hy)) (hn x hx) he]
  exact hy
theorem rowsP_mem {l m : List RowD} (h : rowsP l = some m) (x : RowD) : x ∈ m ↔ ∃ s ∈ l, rowP s = some x := by
  unfold rowsP at h
  cases hl : l.mapM rowP with
  | none => rw [hl] at h; cases h
  | some a =>
    rw [hl] at h
    have h : some (ddR (sortR a)) = some m := h
    cases h
    rw [ddR_mem (mapM_ok hl), mapM_mem hl]
theorem rowsP_rises {l m : List RowD} (h : rowsP l = some m) : RAsc m := by
  unfold rowsP at h
  cases hl : l.mapM rowP with
  | none => rw [hl] at h; cases h
  | some a =>
    rw [hl] at h
    have h : some (ddR (sortR a)) = some m := h
    cases h
    exact (ddR_asc a).1
theorem rowsP_no {l : List RowD} (h : rowsP l = none) : ∃ s ∈ l, rowP s = none := by
  unfold rowsP at h
  cases hl : l.mapM rowP with
  | none => exact mapM_no hl
  | some a => rw [hl] at h; cases h
theorem rowsP_same {l m : List RowD} (h1 : ∀ r ∈ m, ∃ s ∈ l, rowP r = rowP s) (h2 : ∀ s ∈ l, ∃ r ∈ m, rowP r = rowP s) : rowsP m = rowsP l := by
  cases hl : rowsP l with
  | none =>
    obtain ⟨s, hs, he⟩ := rowsP_no hl
    obtain ⟨r, hr, hre⟩ := h2 s hs
    exact rowsP_none hr (hre.trans he)
  | some a =>
    cases hm : rowsP m with
    | none =>
      obtain ⟨r, hr, he⟩ := rowsP_no hm
      obtain ⟨s, hs, hre⟩ := h1 r hr
      rw [rowsP_none hs (hre.symm.trans he)] at hl
      cases hl
    | some b =>
      congr 1
      refine asc_ext (rowsP_rises hm) (rowsP_rises hl) fun x => ?_
      rw [rowsP_mem hm, rowsP_mem hl]
      constructor
      · rintro ⟨r, hr, he⟩
        obtain ⟨s, hs, hre⟩ := h1 r hr
        exact ⟨s, hs, hre.symm.trans he⟩
      · rintro ⟨s, hs, he⟩
        obtain ⟨r, hr, hre⟩ := h2 s hs
        exact ⟨r, hr, hre.trans he⟩
theorem ddGo_len {α : Type} (q : α → α → Bool) : ∀ (l : List α) (x : α), (ddGo q x l).length ≤ l.length
  | [], x => by simp [ddGo]
  | y :: l, x => by
    rw [ddGo]
    have := ddGo_len q l y
    split <;> simp <;> omega
theorem rowsP_len {l m : List RowD} (h : rowsP l = some m) : m.length ≤ l.length := by
  unfold rowsP at h
  cases hl : l.mapM rowP with
  | none => rw [hl] at h; cases h
  | some a =>
    rw [hl] at h
    have h : some (ddR (sortR a)) = some m := h
    cases h
    rw [← mapM_len hl, ← (sortR_perm a).length_eq]
    generalize sortR a = b
    cases b with
    | nil => simp [ddR, ddG]
    | cons x b =>
      have := ddGo_len (fun r s => cmpR r s == 0) b x
      simp only [ddR, ddG, List.length_cons]
      omega
theorem leafP_same {l m : List RowD} (h : rowsP m = rowsP l) (L : List NdD) : leafP L m = leafP L l := by unfold leafP; rw [h]
theorem leafP_first (l : List RowD) : (∃ c, c ≠ 0 ∧ (c = 2 ∨ c = 200) ∧ leafP [] l = ((0, c), [])) ∨ ∃ r, rowsP l = some r ∧ leafP [] l = ((0, 0), [⟨-1, 0, 0, 0, r⟩]) := by
  unfold leafP
  cases h : rowsP l with
  | none => exact .inl ⟨2, by decide, .inl rfl, rfl⟩
  | some r =>
    dsimp only
    split
    · exact .inl ⟨200, by decide, .inr rfl, rfl⟩
    · exact .inr ⟨r, rfl, by simp [putN, findN, addN]⟩
theorem leafP_twice {l m : List RowD} (h : rowsP m = rowsP l) : leafP (leafP [] l).2 m = leafP [] l := by
  rw [leafP_same h]
  rcases leafP_first l with ⟨c, -, -, he⟩ | ⟨r, -, he⟩
  · rw [he]; exact he
  · have := leafP_again (L := []) (M := (leafP [] l).2) (r := l) (a := 0) (by rw [he]) (List.prefix_refl _)
    rw [this, he]
def idxR (turn : Int) (n i : Nat) : Nat := ((((wrap64 (i + turn)).tmod n) + n).tmod n).toNat
theorem tmod_two (q : Int) (n : Nat) (hn : 0 < n) : ((q.tmod n) + n).tmod n = q % n := by
  have h1 : (q.tmod n).natAbs < n := by
    have := Int.natAbs_tmod q n
    rw [this]
    exact Nat.mod_lt _ (by simpa using hn)
  rw [Int.tmod_eq_emod_of_nonneg (by omega), Int.add_emod_right, Int.tmod_def, Int.sub_mul_emod_self_left]
theorem idxR_eq (turn : Int) (n i : Nat) (hn : 0 < n) : idxR turn n i = ((wrap64 (i + turn)) % n).toNat := by
  unfold idxR
  rw [tmod_two _ _ hn]
theorem idx_wrap (X : Int) (n : Nat) (hn : 0 < n) (hb : n ≤ 1000000) : (wrap64 (X.tmod n + n)).tmod n = (((X % n).toNat : Nat) : Int) ∧ (X % n).toNat < n := by
  have hb1 := Int.natAbs_tmod X n
  have hb2 : (X.tmod n).natAbs < n := by rw [hb1]; exact Nat.mod_lt _ (by simpa using hn)
  have e : wrap64 (X.tmod n + n) = X.tmod n + n := by
    generalize X.tmod n = T at *
    unfold wrap64
    omega
  have h1 := Int.emod_nonneg X (b := n) (by omega)
  have h2 := Int.emod_lt_of_pos X (b := n) (by omega)
  rw [e, tmod_two _ _ hn]
  omega
theorem idxR_lt (turn : Int) (n i : Nat) (hn : 0 < n) : idxR turn n i < n := by
  rw [idxR_eq turn n i hn]
  have h1 := Int.emod_nonneg (wrap64 (i + turn)) (b := n) (by omega)
  have h2 := Int.emod_lt_of_pos (wrap64 (i + turn)) (b := n) (by omega)
  omega
theorem idxR_surj (turn : Int) (n j : Nat) (hj : j < n) (hn : n ≤ 1000000) (ht : -9223372036854775808 ≤ turn ∧ turn ≤ 9223372036854775807) : ∃ i, i < 2 * n ∧ idxR turn n i = j := by
  have hres : ∀ c : Int, ∃ i : Nat, i < n ∧ ((i : Int) + c) % n = j := fun c => by
    have h1 := Int.emod_nonneg (j - c) (b := n) (by omega)
    have h2 := Int.emod_lt_of_pos (j - c) (b := n) (by omega)
    refine ⟨((j - c) % n).toNat, by omega, ?_⟩
    rw [Int.toNat_of_nonneg h1, Int.emod_add_emod, Int.sub_add_cancel]
    exact Int.emod_eq_of_lt (by omega) (by omega)
  by_cases hb : turn + n ≤ 9223372036854775807
  · obtain ⟨i, hi, he⟩ := hres turn
    refine ⟨i, by omega, ?_⟩
    rw [idxR_eq turn n i (by omega)]
    rw [show wrap64 ((i : Int) + turn) = i + turn from by unfold wrap64; omega, he]
    rfl
  · obtain ⟨i, hi, he⟩ := hres (n + turn - 18446744073709551616)
    refine ⟨i + n, by omega, ?_⟩
    rw [idxR_eq turn n (i + n) (by omega)]
    rw [show wrap64 (((i + n : Nat) : Int) + turn) = (i : Int) + (n + turn - 18446744073709551616) from by unfold wrap64; omega, he]
    rfl
def othR (rows : List RowD) (turn : Int) (i : Nat) : List RowD := (List.range i).map fun i => (rows[idxR turn rows.length i]?.getD []).reverse
theorem othR_snoc (rows : List RowD) (turn : Int) (i : Nat) (r : RowD) (h : rows[idxR turn rows.length i]? = some r) : othR rows turn (i + 1) = othR rows turn i ++ [r.reverse] := by
  unfold othR
  rw [List.range_succ, List.map_append, List.map_cons, List.map_nil, h]
  rfl
theorem othR_rows (rows : List RowD) (turn : Int) (hn : rows.length ≤ 1000000) (ht : -9223372036854775808 ≤ turn ∧ turn ≤ 9223372036854775807) : rowsP (othR rows turn (2 * rows.length)) = rowsP rows := by
  refine rowsP_same (fun r hr => ?_) (fun s hs => ?_)
  · obtain ⟨i, hi, rfl⟩ := List.mem_map.1 hr
    have hi := List.mem_range.1 hi
    have hlt := idxR_lt turn rows.length i (by omega)
    rw [List.getElem?_eq_getElem hlt]
    exact ⟨_, List.getElem_mem hlt, rowP_perm (List.reverse_perm _)⟩
  · obtain ⟨j, hj, rfl⟩ := List.getElem_of_mem hs
    obtain ⟨i, hi, he⟩ := idxR_surj turn rows.length j hj hn ht
    refine ⟨(rows[j]).reverse, List.mem_map.2 ⟨i, List.mem_range.2 hi, ?_⟩, rowP_perm (List.reverse_perm _)⟩
    rw [he, List.getElem?_eq_getElem hj]
    rfl
theorem othR_len (rows : List RowD) (turn : Int) (i : Nat) : (othR rows turn i).length = i := by simp [othR]
theorem othR_short (rows : List RowD) (turn : Int) (i k : Nat) (h : ∀ r ∈ rows, r.length ≤ k) : ∀ r ∈ othR rows turn i, r.length ≤ k := fun r hr => by
  obtain ⟨i, hi, rfl⟩ := List.mem_map.1 hr
  rw [List.length_reverse]
  cases hx : rows[idxR turn rows.length i]? with
  | none => simp
  | some s => exact h s (List.mem_of_getElem? hx)
end Go.Proofs.YtehdddilcakmlaaDoor
