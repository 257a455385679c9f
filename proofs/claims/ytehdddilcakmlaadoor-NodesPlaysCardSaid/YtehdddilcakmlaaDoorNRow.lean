/- Rows of settings in plain words: their order, their normal form. -/
import Derived.Test.YtehdddilcakmlaaDoorNSort
namespace Go.Proofs.YtehdddilcakmlaaDoor
open Go.RowKit Go.Sort Go.Lib

section
variable {α : Type} (q : α → α → Bool)
/-- of neighbours that q takes for one the first -/
def ddGo : α → List α → List α
  | _, [] => []
  | x, y :: l => if q y x then ddGo y l else y :: ddGo y l
def ddG : List α → List α
  | [] => []
  | x :: l => x :: ddGo q x l
theorem ddGo_snoc (y : α) : ∀ (l : List α) (x : α), ddGo q x (l ++ [y]) = if q y ((x :: l).getLast (by simp)) then ddGo q x l else ddGo q x l ++ [y]
  | [], x => by by_cases h : q y x = true <;> simp [ddGo, h]
  | z :: l, x => by
    rw [List.cons_append, ddGo, ddGo, ddGo_snoc y l z]
    have e : (x :: z :: l).getLast (by simp) = (z :: l).getLast (by simp) := by simp
    rw [e]
    by_cases h1 : q z x = true <;> by_cases h2 : q y ((z :: l).getLast (by simp)) = true <;> simp [h1, h2]
theorem ddG_take {l : List α} {i : Nat} (h0 : 0 < i) (hi : i < l.length) : ddG q (l.take (i + 1)) = if q (l[i]) (l[i - 1]) then ddG q (l.take i) else ddG q (l.take i) ++ [l[i]] := by
  obtain ⟨k, rfl⟩ : ∃ k, i = k + 1 := ⟨i - 1, by omega⟩
  cases l with
  | nil => simp at hi
  | cons x l =>
    have hk : k < l.length := by simpa using hi
    rw [List.take_succ_cons, List.take_succ_cons, List.take_succ_eq_append_getElem hk, ddG, ddG, ddGo_snoc]
    have e : (x :: l.take k).getLast (by simp) = (x :: l)[k + 1 - 1] := by
      rw [List.getLast_eq_getElem]
      simp only [Nat.add_sub_cancel, List.length_cons, List.length_take, show min k l.length = k from by omega]
      cases k with
      | zero => rfl
      | succ k => simp
    simp only [e, List.getElem_cons_succ]
    split <;> simp
theorem ddG_rises {l : List α} : ∀ (k : Nat), k ≤ l.length → (∀ m (h : m < l.length), 0 < m → m < k → q (l[m]) (l[m - 1]) = false) → ddG q (l.take k) = l.take k
  | 0, _, _ => by simp [ddG]
  | k + 1, hk, h => by
    have ih := ddG_rises k (by omega) (fun m hm h0 hmk => h m hm h0 (by omega))
    rcases Nat.eq_zero_or_pos k with rfl | hkp
    · rw [List.take_succ_eq_append_getElem hk]; simp [ddG, ddGo]
    · rw [ddG_take q hkp hk, if_neg (by rw [h k hk hkp (by omega)]; simp), ih, List.take_succ_eq_append_getElem hk]
theorem ddGo_map {β : Type} (f : β → α) : ∀ (l : List β) (x : β), (ddGo (fun a b => q (f a) (f b)) x l).map f = ddGo q (f x) (l.map f)
  | [], x => rfl
  | y :: l, x => by
    rw [List.map_cons, ddGo, ddGo]
    by_cases h : q (f y) (f x) = true
    · simp only [h, if_true]; exact ddGo_map f l y
    · simp only [h, Bool.false_eq_true, if_false, List.map_cons]; rw [ddGo_map f l y]
theorem ddG_map {β : Type} (f : β → α) : ∀ (l : List β), (ddG (fun a b => q (f a) (f b)) l).map f = ddG q (l.map f)
  | [] => rfl
  | x :: l => by rw [ddG, List.map_cons, List.map_cons, ddG, ddGo_map]
theorem ddGo_mem : ∀ (l : List α) (x z : α), z ∈ ddGo q x l → z ∈ l
  | [], _, _, h => by simp [ddGo] at h
  | y :: l, x, z, h => by
    rw [ddGo] at h
    split at h
    · exact List.mem_cons_of_mem _ (ddGo_mem l y z h)
    · rcases List.mem_cons.1 h with rfl | h
      · exact List.mem_cons_self
      · exact List.mem_cons_of_mem _ (ddGo_mem l y z h)
theorem ddG_mem : ∀ (l : List α) (z : α), z ∈ ddG q l → z ∈ l
  | [], _, h => by simp [ddG] at h
  | x :: l, z, h => by
    rcases List.mem_cons.1 h with rfl | h
    · exact List.mem_cons_self
    · exact List.mem_cons_of_mem _ (ddGo_mem q l x z h)
end

def rkey (r : RowD) : List Int := r.flatMap fun a => [a.f, a.n]
theorem rkey_cons (a : AcD) (r : RowD) : rkey (a :: r) = a.f :: a.n :: rkey r := by simp [rkey]
theorem cmpA_neg {a b : AcD} : cmpA a b < 0 ↔ a.f < b.f ∨ (a.f = b.f ∧ a.n < b.n) := by
  unfold cmpA orI cmp1
  repeat' split
  all_goals omega
theorem cmpA_zero {a b : AcD} : cmpA a b = 0 ↔ a.f = b.f ∧ a.n = b.n := by
  unfold cmpA orI cmp1
  repeat' split
  all_goals omega
theorem cmpR_neg : ∀ {r s : RowD}, cmpR r s < 0 ↔ rkey r < rkey s
  | [], [] => by simp [cmpR, rkey]
  | [], b :: m => by simp [cmpR, rkey]
  | a :: l, [] => by simp [cmpR, rkey]
  | a :: l, b :: m => by
    rw [cmpR, rkey_cons, rkey_cons, List.cons_lt_cons_iff, List.cons_lt_cons_iff]
    by_cases h : cmpA a b = 0
    · rw [if_pos h, cmpR_neg]
      obtain ⟨h1, h2⟩ := cmpA_zero.1 h
      rw [h1, h2]
      simp
    · rw [if_neg h, cmpA_neg]
      have h2 : ¬ (a.f = b.f ∧ a.n = b.n) := fun h2 => h (cmpA_zero.2 h2)
      constructor
      · rintro (h3 | ⟨h3, h4⟩)
        · exact .inl h3
        · exact .inr ⟨h3, .inl h4⟩
      · rintro (h3 | ⟨h3, h4 | ⟨h4, -⟩⟩)
        · exact .inl h3
        · exact .inr ⟨h3, h4⟩
        · exact absurd ⟨h3, h4⟩ h2
theorem cmpR_zero : ∀ {r s : RowD}, cmpR r s = 0 ↔ rkey r = rkey s
  | [], [] => by simp [cmpR, rkey]
  | [], b :: m => by simp [cmpR, rkey]
  | a :: l, [] => by simp [cmpR, rkey]
  | a :: l, b :: m => by
    rw [cmpR, rkey_cons, rkey_cons, List.cons.injEq, List.cons.injEq]
    by_cases h : cmpA a b = 0
    · rw [if_pos h, cmpR_zero]
      obtain ⟨h1, h2⟩ := cmpA_zero.1 h
      simp [h1, h2]
    · rw [if_neg h]
      exact ⟨fun h2 => absurd h2 h, fun ⟨h1, h2, _⟩ => absurd (cmpA_zero.2 ⟨h1, h2⟩) h⟩
theorem swoRk : SWO (ltOf cmpR) where
  irrefl x := by
    unfold ltOf
    rw [decide_eq_false_iff_not, cmpR_neg]
    exact List.lt_irrefl _
  trans x y z h h' := by
    unfold ltOf at *
    rw [decide_eq_true_eq, cmpR_neg] at *
    exact List.lt_trans h h'
  ntrans x y z h h' := by
    unfold ltOf at *
    rw [decide_eq_false_iff_not, cmpR_neg, List.not_lt] at *
    exact List.le_trans h' h
/-- settings that may stand -/
def okA (a : AcD) : Bool := a.d == 0 && fitsB a.f a.n
def okR (r : RowD) : Bool := r.all okA
theorem rkey_inj : ∀ {r s : RowD}, okR r = true → okR s = true → rkey r = rkey s → r = s
  | [], [], _, _, _ => rfl
  | [], b :: m, _, _, h => by simp [rkey] at h
  | a :: l, [], _, _, h => by simp [rkey] at h
  | a :: l, b :: m, h1, h2, h => by
    simp only [okR, List.all_cons, Bool.and_eq_true] at h1 h2
    rw [rkey_cons, rkey_cons, List.cons.injEq, List.cons.injEq] at h
    have d1 : a.d = 0 := by have := h1.1; simp [okA] at this; exact this.1
    have d2 : b.d = 0 := by have := h2.1; simp [okA] at this; exact this.1
    have e : a = b := by
      cases a; cases b
      simp only [AcD.mk.injEq] at *
      exact ⟨d1.trans d2.symm, h.1, h.2.1⟩
    rw [e, rkey_inj h1.2 h2.2 h.2.2]
def sortF (r : RowD) : RowD := r.mergeSort fun a b => decide (a.f ≤ b.f)
def rowP (r : RowD) : Option RowD := if okR r = true ∧ (r.map AcD.f).Nodup then some (sortF r) else none
def leR (r s : RowD) : Bool := !decide (rkey s < rkey r)
def sortR (l : List RowD) : List RowD := l.mergeSort leR
def ddR : List RowD → List RowD := ddG fun r s => cmpR r s == 0
def rowsP (l : List RowD) : Option (List RowD) := (l.mapM rowP).map fun m => ddR (sortR m)
theorem sortF_perm (r : RowD) : (sortF r).Perm r := List.mergeSort_perm _ _
theorem sortF_sorted (r : RowD) : (sortF r).Pairwise fun a b => a.f ≤ b.f := by
  have := List.pairwise_mergeSort (le := fun (a b : AcD) => decide (a.f ≤ b.f)) (fun a b c h1 h2 => by simp at *; omega) (fun a b => by simp; omega) r
  exact this.imp fun h => by simpa using h
/-- sorted by different fields: there is but one way -/
theorem fsorted_eq {r s t : RowD} (hn : (r.map AcD.f).Nodup) (hs : s.Perm r) (hs' : s.Pairwise fun a b => a.f ≤ b.f) (ht : t.Perm r) (ht' : t.Pairwise fun a b => a.f ≤ b.f) : s = t := by
  refine List.Perm.eq_of_pairwise (le := fun a b : AcD => a.f ≤ b.f) (fun a b ha hb h1 h2 => ?_) hs' ht' (hs.trans ht.symm)
  have ha' : a ∈ r := hs.mem_iff.1 ha
  have hb' : b ∈ r := ht.mem_iff.1 hb
  have he : a.f = b.f := by omega
  obtain ⟨i, hi, rfl⟩ := List.getElem_of_mem ha'
  obtain ⟨j, hj, rfl⟩ := List.getElem_of_mem hb'
  have := (List.nodup_iff_pairwise_ne.1 hn)
  rw [List.pairwise_iff_getElem] at this
  rcases Nat.lt_trichotomy i j with h | h | h
  · exact absurd (by rw [List.getElem_map, List.getElem_map]; exact he) (this i j (by simpa using hi) (by simpa using hj) h)
  · subst h; rfl
  · exact absurd (by rw [List.getElem_map, List.getElem_map]; exact he.symm) (this j i (by simpa using hj) (by simpa using hi) h)
theorem leR_trans (a b c : RowD) (h1 : leR a b = true) (h2 : leR b c = true) : leR a c = true := by
  simp only [leR, Bool.not_eq_true', decide_eq_false_iff_not, List.not_lt] at *
  exact List.le_trans h1 h2
theorem leR_total (a b : RowD) : (leR a b || leR b a) = true := by
  simp only [leR, Bool.or_eq_true, Bool.not_eq_true', decide_eq_false_iff_not, List.not_lt]
  exact List.le_total _ _
theorem sortR_perm (l : List RowD) : (sortR l).Perm l := List.mergeSort_perm _ _
theorem sortR_sorted (l : List RowD) : (sortR l).Pairwise fun a b => leR a b = true := List.pairwise_mergeSort leR_trans leR_total l
theorem rsorted_eq {l s t : List RowD} (hn : ∀ r ∈ l, okR r = true) (hs : s.Perm l) (hs' : s.Pairwise fun a b => leR a b = true) (ht : t.Perm l) (ht' : t.Pairwise fun a b => leR a b = true) : s = t := by
  refine List.Perm.eq_of_pairwise (le := fun a b : RowD => leR a b = true) (fun a b ha hb h1 h2 => ?_) hs' ht' (hs.trans ht.symm)
  refine rkey_inj (hn a (hs.mem_iff.1 ha)) (hn b (ht.mem_iff.1 hb)) ?_
  simp only [leR, Bool.not_eq_true', decide_eq_false_iff_not, List.not_lt] at h1 h2
  exact List.le_antisymm h1 h2
theorem okR_sortF {r : RowD} (h : okR r = true) : okR (sortF r) = true := by
  unfold okR at *
  rw [List.all_eq_true] at *
  exact fun x hx => h x ((sortF_perm r).mem_iff.1 hx)
theorem rowP_ok {r s : RowD} (h : rowP r = some s) : okR s = true := by
  unfold rowP at h
  split at h
  · rename_i h1
    cases h
    exact okR_sortF h1.1
  · cases h
theorem mapM_none {α β : Type} {f : α → Option β} : ∀ {l : List α} {x : α}, x ∈ l → f x = none → l.mapM f = none
  | y :: l, x, h, hx => by
    rw [List.mapM_cons]
    rcases List.mem_cons.1 h with rfl | h
    · rw [hx]; rfl
    · rw [mapM_none h hx]
      cases f y <;> rfl
theorem mapM_snoc {α β : Type} {f : α → Option β} {x : α} {y : β} (hx : f x = some y) : ∀ {l : List α} {m : List β}, l.mapM f = some m → (l ++ [x]).mapM f = some (m ++ [y])
  | [], m, h => by
    cases h
    rw [List.nil_append, List.mapM_cons, hx]; rfl
  | z :: l, m, h => by
    rw [List.cons_append, List.mapM_cons]
    rw [List.mapM_cons] at h
    cases hz : f z with
    | none => rw [hz] at h; cases h
    | some u =>
      rw [hz] at h
      cases hl : l.mapM f with
      | none => rw [hl] at h; cases h
      | some m' =>
        rw [hl] at h
        have h : some (u :: m') = some m := h
        cases h
        rw [mapM_snoc hx hl]; rfl
theorem mapM_ok : ∀ {l m : List RowD}, l.mapM rowP = some m → ∀ r ∈ m, okR r = true
  | [], m, h, r, hr => by cases h; cases hr
  | z :: l, m, h, r, hr => by
    rw [List.mapM_cons] at h
    cases hz : rowP z with
    | none => rw [hz] at h; cases h
    | some u =>
      rw [hz] at h
      cases hl : l.mapM rowP with
      | none => rw [hl] at h; cases h
      | some m' =>
        rw [hl] at h
        have h : some (u :: m') = some m := h
        cases h
        rcases List.mem_cons.1 hr with rfl | hr
        · exact rowP_ok hz
        · exact mapM_ok hl r hr
theorem mapM_len {α β : Type} {f : α → Option β} : ∀ {l : List α} {m : List β}, l.mapM f = some m → m.length = l.length
  | [], m, h => by cases h; rfl
  | z :: l, m, h => by
    rw [List.mapM_cons] at h
    cases hz : f z with
    | none => rw [hz] at h; cases h
    | some u =>
      rw [hz] at h
      cases hl : l.mapM f with
      | none => rw [hl] at h; cases h
      | some m' =>
        rw [hl] at h
        have h : some (u :: m') = some m := h
        cases h
        simp [mapM_len hl]
/-- neighbours unlike: all unlike -/
theorem nodup_of_steps {s : RowD} (hs : s.Pairwise fun a b => a.f ≤ b.f) (h : ∀ m (h : m < s.length), 0 < m → (s[m - 1]).f ≠ (s[m]).f) : (s.map AcD.f).Nodup := by
  rw [List.nodup_iff_pairwise_ne, List.pairwise_map, List.pairwise_iff_getElem]
  rw [List.pairwise_iff_getElem] at hs
  intro i j hi hj hij he
  have h1 := h (i + 1) (by omega) (by omega)
  have h2 := hs i (i + 1) hi (by omega) (by omega)
  simp only [Nat.add_sub_cancel] at h1
  have h3 : (s[i + 1]).f ≤ (s[j]).f := by
    rcases Nat.lt_or_ge (i + 1) j with hlt | hge
    · exact hs (i + 1) j (by omega) hj hlt
    · have : j = i + 1 := by omega
      subst this; exact Int.le_refl _
  omega
theorem not_nodup {s : RowD} {m : Nat} (hm : m + 1 < s.length) (h : (s[m]).f = (s[m + 1]).f) : ¬ (s.map AcD.f).Nodup := by
  intro hn
  rw [List.nodup_iff_pairwise_ne, List.pairwise_map, List.pairwise_iff_getElem] at hn
  exact hn m (m + 1) (by omega) hm (by omega) h
end Go.Proofs.YtehdddilcakmlaaDoor
