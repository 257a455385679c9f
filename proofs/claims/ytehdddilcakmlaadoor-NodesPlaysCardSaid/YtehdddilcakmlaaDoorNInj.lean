/- The key of rows in normal form tells them apart. -/
import Derived.Test.YtehdddilcakmlaaDoorNKey
namespace Go.Proofs.YtehdddilcakmlaaDoor
open Go.RowKit Go.Sort Go.Maps Go.Lib

def isD (c : UInt8) : Bool := 48 ≤ c && c ≤ 57
theorem isD_of (k : Nat) (h : k < 10) : isD (UInt8.ofNat (48 + k)) = true := by
  have : k = 0 ∨ k = 1 ∨ k = 2 ∨ k = 3 ∨ k = 4 ∨ k = 5 ∨ k = 6 ∨ k = 7 ∨ k = 8 ∨ k = 9 := by omega
  rcases this with rfl | rfl | rfl | rfl | rfl | rfl | rfl | rfl | rfl | rfl <;> rfl
theorem dec_isD (u : Nat) : ∀ c ∈ Lib.decDigits u, isD c = true := by
  induction u using Nat.strongRecOn with
  | _ u ih =>
    intro c hc
    rw [Lib.decDigits] at hc
    split at hc
    · rename_i h
      rw [List.mem_singleton] at hc
      rw [hc]; exact isD_of u h
    · rename_i h
      rcases List.mem_append.1 hc with hc | hc
      · exact ih (u / 10) (by omega) c hc
      · rw [List.mem_singleton] at hc
        rw [hc]; exact isD_of _ (by omega)
def valD : List UInt8 → Nat → Nat
  | [], a => a
  | c :: l, a => valD l (a * 10 + (c.toNat - 48))
theorem valD_app : ∀ (l m : List UInt8) (a : Nat), valD (l ++ m) a = valD m (valD l a)
  | [], _, _ => rfl
  | c :: l, m, a => by rw [List.cons_append, valD, valD, valD_app l m]
theorem val_of (k : Nat) (h : k < 10) : (UInt8.ofNat (48 + k)).toNat - 48 = k := by
  have : k = 0 ∨ k = 1 ∨ k = 2 ∨ k = 3 ∨ k = 4 ∨ k = 5 ∨ k = 6 ∨ k = 7 ∨ k = 8 ∨ k = 9 := by omega
  rcases this with rfl | rfl | rfl | rfl | rfl | rfl | rfl | rfl | rfl | rfl <;> rfl
theorem dec_val (u : Nat) : valD (Lib.decDigits u) 0 = u := by
  induction u using Nat.strongRecOn with
  | _ u ih =>
    rw [Lib.decDigits]
    split
    · rename_i h
      simp only [valD]
      rw [val_of u h]; omega
    · rename_i h
      rw [valD_app, ih (u / 10) (by omega)]
      simp only [valD]
      rw [val_of _ (by omega)]; omega
theorem dec_inj {u v : Nat} (h : Lib.decDigits u = Lib.decDigits v) : u = v := by rw [← dec_val u, h, dec_val v]
/-- digits, then none: one way -/
theorem split_inj {x y : UInt8} (hx : isD x = false) (hy : isD y = false) : ∀ {ds es t s : List UInt8}, (∀ c ∈ ds, isD c = true) → (∀ c ∈ es, isD c = true) → ds ++ x :: t = es ++ y :: s → ds = es ∧ x = y ∧ t = s
  | [], [], t, s, _, _, h => by simp at h; exact ⟨rfl, h.1, h.2⟩
  | [], e :: es, t, s, _, he, h => by
    simp at h
    have := he e List.mem_cons_self
    rw [← h.1, hx] at this; cases this
  | d :: ds, [], t, s, hd, _, h => by
    simp at h
    have := hd d List.mem_cons_self
    rw [h.1, hy] at this; cases this
  | d :: ds, e :: es, t, s, hd, he, h => by
    simp only [List.cons_append, List.cons.injEq] at h
    obtain ⟨h1, h2⟩ := split_inj hx hy (fun c hc => hd c (List.mem_cons_of_mem _ hc)) (fun c hc => he c (List.mem_cons_of_mem _ hc)) h.2
    exact ⟨by rw [h.1, h1], h2⟩
theorem okA_bd {a : AcD} (h : okA a = true) : a.d = 0 ∧ 0 ≤ a.f ∧ a.f ≤ 10 ∧ 0 ≤ a.n := by
  simp only [okA, Bool.and_eq_true, beq_iff_eq] at h
  obtain ⟨h1, h2⟩ := h
  unfold fitsB fitsK at h2
  split at h2
  · cases h2
  rename_i h3
  have hw : widthI a.f ≠ 0 := by
    intro h4
    rw [h4] at h3
    exact h3 rfl
  have hf : 0 ≤ a.f ∧ a.f ≤ 10 := by
    unfold widthI at hw
    by_cases h5 : 0 ≤ a.f ∧ a.f ≤ 10
    · exact h5
    · exfalso
      apply hw
      repeat rw [if_neg (by omega)]
  refine ⟨h1, hf.1, hf.2, ?_⟩
  rw [beq_iff_eq] at h2
  generalize (widthI a.f).toNat = k at *
  have hp : (0 : Int) < 2 ^ k := Int.pow_pos (by omega)
  by_cases hn : 0 ≤ a.n
  · exact hn
  · exfalso
    have := Int.ediv_neg_of_neg_of_pos (a := a.n) (by omega) hp
    omega
theorem itoa_pos {f : Int} (h : 0 ≤ f) : Lib.itoa f = Lib.decDigits f.toNat := by unfold Lib.itoa; rw [if_neg (by omega)]
/-- a row's settings, read on -/
theorem acts_inj : ∀ {r s : RowD} {t u : List UInt8}, (∀ a ∈ r, okA a = true) → (∀ a ∈ s, okA a = true) → r.flatMap actK ++ 59 :: t = s.flatMap actK ++ 59 :: u → r = s ∧ t = u
  | [], [], t, u, _, _, h => by simp at h; exact ⟨rfl, h⟩
  | [], b :: s, t, u, _, _, h => by simp [actK] at h
  | a :: r, [], t, u, _, _, h => by simp [actK] at h
  | a :: r, b :: s, t, u, hr, hs, h => by
    have ha := okA_bd (hr a List.mem_cons_self)
    have hb := okA_bd (hs b List.mem_cons_self)
    simp only [List.flatMap_cons, actK, List.cons_append, List.append_assoc, List.cons.injEq, true_and] at h
    rw [itoa_pos ha.2.1, itoa_pos hb.2.1] at h
    obtain ⟨h1, -, h2⟩ := split_inj (x := 61) (y := 61) rfl rfl (dec_isD _) (dec_isD _) h
    have hf : a.f = b.f := by have := dec_inj h1; omega
    have key : ∀ (l : RowD) (v : List UInt8), ∃ c w, l.flatMap actK ++ 59 :: v = c :: w ∧ isD c = false := fun l v => by
      cases l with
      | nil => exact ⟨59, v, rfl, rfl⟩
      | cons x l => exact ⟨32, _, rfl, rfl⟩
    obtain ⟨c, w, e1, c1⟩ := key r t
    obtain ⟨c', w', e2, c2⟩ := key s u
    rw [e1, e2] at h2
    obtain ⟨h3, h4, h5⟩ := split_inj c1 c2 (dec_isD _) (dec_isD _) h2
    have hn : a.n = b.n := by have := dec_inj h3; omega
    have e3 : r.flatMap actK ++ 59 :: t = s.flatMap actK ++ 59 :: u := by rw [e1, e2, h4, h5]
    obtain ⟨h6, h7⟩ := acts_inj (fun x hx => hr x (List.mem_cons_of_mem _ hx)) (fun x hx => hs x (List.mem_cons_of_mem _ hx)) e3
    refine ⟨?_, h7⟩
    have : a = b := by
      cases a; cases b
      simp only [AcD.mk.injEq] at *
      exact ⟨ha.1.trans hb.1.symm, hf, hn⟩
    rw [this, h6]
theorem keyK_inj : ∀ {l m : List RowD}, (∀ r ∈ l, okR r = true) → (∀ r ∈ m, okR r = true) → keyK l = keyK m → l = m
  | [], [], _, _, _ => rfl
  | [], s :: m, _, _, h => by
    simp [keyK, rowK] at h
  | r :: l, [], _, _, h => by
    simp [keyK, rowK] at h
  | r :: l, s :: m, hl, hm, h => by
    have hr := List.all_eq_true.1 (hl r List.mem_cons_self)
    have hs := List.all_eq_true.1 (hm s List.mem_cons_self)
    have e : r.flatMap actK ++ 59 :: keyK l = s.flatMap actK ++ 59 :: keyK m := by
      simpa [keyK, rowK] using h
    obtain ⟨h1, h2⟩ := acts_inj hr hs e
    rw [h1, keyK_inj (fun x hx => hl x (List.mem_cons_of_mem _ hx)) (fun x hx => hm x (List.mem_cons_of_mem _ hx)) h2]
theorem rowsP_ok {l m : List RowD} (h : rowsP l = some m) : ∀ r ∈ m, okR r = true := by
  unfold rowsP at h
  obtain ⟨m', h1, rfl⟩ := Option.map_eq_some_iff.1 h
  intro r hr
  exact mapM_ok h1 r ((sortR_perm m').mem_iff.1 (ddG_mem _ _ _ hr))
theorem mapM_row : ∀ {l m : List RowD}, l.mapM rowP = some m → ∀ r ∈ m, ∃ s ∈ l, r.Perm s ∧ (r.map AcD.f).Nodup
  | [], m, h, r, hr => by cases h; cases hr
  | z :: l, m, h, r, hr => by
    rw [List.mapM_cons] at h
    cases hz : rowP z with
    | none => rw [hz] at h; cases h
    | some u =>
      rw [hz] at h
      cases hl : l.mapM rowP with
      | none => rw [hl] at h; cases h
      | some m' =>
        rw [hl] at h
        have h : some (u :: m') = some m := h
        cases h
        rcases List.mem_cons.1 hr with rfl | hr
        · unfold rowP at hz
          split at hz
          · rename_i hh
            cases hz
            exact ⟨z, List.mem_cons_self, sortF_perm z, ((sortF_perm z).map AcD.f).nodup_iff.2 hh.2⟩
          · cases hz
        · obtain ⟨s, hs, h2⟩ := mapM_row hl r hr
          exact ⟨s, List.mem_cons_of_mem _ hs, h2⟩
theorem rowsP_row {l m : List RowD} (h : rowsP l = some m) : ∀ r ∈ m, ∃ s ∈ l, r.Perm s ∧ (r.map AcD.f).Nodup := by
  unfold rowsP at h
  obtain ⟨m', h1, rfl⟩ := Option.map_eq_some_iff.1 h
  intro r hr
  exact mapM_row h1 r ((sortR_perm m').mem_iff.1 (ddG_mem _ _ _ hr))
end Go.Proofs.YtehdddilcakmlaaDoor
