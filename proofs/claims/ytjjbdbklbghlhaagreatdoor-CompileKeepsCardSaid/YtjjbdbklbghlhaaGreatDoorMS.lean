/- The law's own function sets, walked: does a term set a field to a number? -/
import Derived.Test.YtjjbdbklbghlhaaGreatDoorMN
import Derived.Test.YtjjbdbklbghlhaaGreatDoorMA
import Derived.Laws.MakeOwn
import Derived.OwnWalk
namespace Go.Proofs.YtjjbdbklbghlhaaGreatDoor
open Go.RowKit Go.Maps
set_option linter.unusedSimpArgs false

mutual
/-- some Set of t names the field i and the number m -/
def Tm.setsT : Tm → Int → Int → Bool
  | .mk op f n ks, i, m => (op == 7 && f == i && n == m) || Tm.setsAny ks i m
def Tm.setsAny : List Tm → Int → Int → Bool
  | [], _, _ => false
  | t :: ts, i, m => t.setsT i m || Tm.setsAny ts i m
end
theorem Tm.Val.cs' {w : World} {t : Tm} {v : Value} (h : t.Val w v) : ∃ p len cap, v = .agg #[.int .i8 t.op, .int .i8 t.fld, .int .u64 t.n, .slice p len cap] := by
  obtain ⟨cs, rfl, s, rfl, -, -, -, p, len, cap, rfl, -⟩ := h
  exact ⟨p, len, cap, rfl⟩
theorem cells4' {w : World} {b o : Nat} {a0 a1 a2 a3 : Value} (h : w.rangeAt b o [a0, a1, a2, a3]) : w.cell? ⟨b, o, none⟩ = some a0 ∧ w.cell? ⟨b, o + 1, none⟩ = some a1 ∧ w.cell? ⟨b, o + 2, none⟩ = some a2 ∧ w.cell? ⟨b, o + 3, none⟩ = some a3 :=
  ⟨h 0 _ rfl, h 1 _ rfl, h 2 _ rfl, h 3 _ rfl⟩
theorem Tm.setsAny_true : ∀ {ks : List Tm} {i m : Int} (j : Nat) (h : j < ks.length), (ks[j]).setsT i m = true → Tm.setsAny ks i m = true
  | t :: ts, i, m, 0, _, hv => by rw [List.getElem_cons_zero] at hv; simp [Tm.setsAny, hv]
  | t :: ts, i, m, j + 1, h, hv => by rw [List.getElem_cons_succ] at hv; simp [Tm.setsAny, Tm.setsAny_true j (by simpa using h) hv]
theorem Tm.setsAny_false : ∀ {ks : List Tm} {i m : Int}, (∀ j (h : j < ks.length), (ks[j]).setsT i m = false) → Tm.setsAny ks i m = false
  | [], _, _, _ => rfl
  | t :: ts, i, m, hv => by
    have h0 := hv 0 (by simp)
    have h1 := Tm.setsAny_false (i := i) (m := m) (ks := ts) (fun j h => by have := hv (j + 1) (by simpa using h); rwa [List.getElem_cons_succ] at this)
    rw [List.getElem_cons_zero] at h0
    simp only [Tm.setsAny, h0, h1, Bool.or_self]

end Go.Proofs.YtjjbdbklbghlhaaGreatDoor
/- The document's holds and terms. -/
namespace Go.Proofs.YtjjbdbklbghlhaaGreatDoor
open Go.RowKit Go.Maps
set_option linter.unusedSimpArgs false

theorem cellAtH {w : World} {b o : Nat} {x : Hdr} (h : w.rangeAt b o x.cs.toList) (i : Nat) (hi : i < 11) : w.cell? ⟨b, o + i, none⟩ = some (.int .u64 (x.f i)) :=
  h i _ (by rw [Array.getElem?_toList]; exact x.cell i hi)

end Go.Proofs.YtjjbdbklbghlhaaGreatDoor
/- The document's terms, Add, both. -/
namespace Go.Proofs.YtjjbdbklbghlhaaGreatDoor
open Go.RowKit Go.Maps
set_option linter.unusedSimpArgs false

/-- a set in order with one more -/
def addH : List Hdr → Hdr → List Hdr
  | [], x => [x]
  | y :: ys, x => if ltH y x then y :: addH ys x else if y = x then y :: ys else x :: y :: ys
theorem addH_there {x : Hdr} : ∀ {l : List Hdr} {k : Nat}, (∀ m (h : m < l.length), m < k → ltH (l[m]) x = true) → (hk : k < l.length) → l[k] = x → addH l x = l
  | y :: ys, 0, _, _, he => by
    rw [List.getElem_cons_zero] at he
    rw [addH, he, ltH_irrefl]
    simp
  | y :: ys, k + 1, h, hk, he => by
    have h0 := h 0 (by simp) (by omega)
    rw [List.getElem_cons_zero] at h0
    rw [List.getElem_cons_succ] at he
    rw [addH, if_pos h0, addH_there (l := ys) (k := k) (fun m hm hmk => by
      have := h (m + 1) (by simpa using hm) (by omega)
      rwa [List.getElem_cons_succ] at this) (by simpa using hk) he]
theorem addH_new {x : Hdr} : ∀ {l : List Hdr} {k : Nat}, (∀ m (h : m < l.length), m < k → ltH (l[m]) x = true) → k ≤ l.length → (∀ h : k < l.length, ltH (l[k]) x = false ∧ l[k] ≠ x) → addH l x = l.take k ++ x :: l.drop k
  | [], k, _, hk, _ => by
    obtain rfl : k = 0 := by simpa using hk
    rfl
  | y :: ys, 0, _, _, he => by
    have := he (by simp)
    rw [List.getElem_cons_zero] at this
    rw [addH, if_neg (by simp [this.1]), if_neg this.2]
    rfl
  | y :: ys, k + 1, h, hk, he => by
    have h0 := h 0 (by simp) (by omega)
    rw [List.getElem_cons_zero] at h0
    rw [addH, if_pos h0, addH_new (l := ys) (k := k) (fun m hm hmk => by
      have := h (m + 1) (by simpa using hm) (by omega)
      rwa [List.getElem_cons_succ] at this) (by simpa using hk) (fun hk2 => by
      have := he (by simpa using hk2)
      rwa [List.getElem_cons_succ] at this)]
    rfl
theorem length_addH (x : Hdr) : ∀ (l : List Hdr), l.length ≤ (addH l x).length ∧ (addH l x).length ≤ l.length + 1
  | [] => by simp [addH]
  | y :: ys => by
    have := length_addH x ys
    rw [addH]
    split
    · simp; omega
    · split <;> simp
theorem Ext.grown {w a c : World} {v : Value} (h : Ext w a) (g : a.grownBy c v.ownBlock) (hb : ∀ i, v.ownBlock = some i → w.heap.size ≤ i) : Ext w c :=
  h.trans' ⟨g.os, g.tape, g.output, g.size, fun i hi => g.block i (Nat.lt_of_lt_of_le hi h.size) (fun e => by have := hb i e.symm; omega)⟩
theorem Ext.grown0 {w a c : World} (h : Ext w a) (g : a.grownBy c none) : Ext w c :=
  h.trans' ⟨g.os, g.tape, g.output, g.size, fun i hi => g.block i (Nat.lt_of_lt_of_le hi h.size) (fun e => by cases e)⟩
theorem take_drop_one {l : List Hdr} {k j : Nat} (hk : k ≤ j) (hj : j < l.length) : (l.take (j + 1)).drop k = (l.take j).drop k ++ [l[j]] := by
  rw [List.take_succ_eq_append_getElem hj, List.drop_append_of_le_length (by simp; omega)]

theorem cellAt0 {w : World} {b : Nat} {x : Hdr} (h : w.rangeAt b 0 x.cs.toList) (i : Nat) (hi : i < 11) : w.cell? ⟨b, i, none⟩ = some (.int .u64 (x.f i)) := by
  have := cellAt h i hi
  rwa [Nat.zero_add] at this

end Go.Proofs.YtjjbdbklbghlhaaGreatDoor
/- The document's Size, Deep, Big. -/
namespace Go.Proofs.YtjjbdbklbghlhaaGreatDoor
open Go.RowKit
set_option linter.unusedSimpArgs false

mutual
def Tm.dp : Tm → Nat → Nat
  | _, 0 => 1
  | .mk _ _ _ ks, k + 1 => Tm.dpAll ks k + 1
def Tm.dpAll : List Tm → Nat → Nat
  | [], _ => 0
  | t :: ts, k => max (t.dp k) (Tm.dpAll ts k)
end
mutual
theorem Tm.dp_le : ∀ (t : Tm) (k : Nat), 1 ≤ t.dp k ∧ t.dp k ≤ k + 1
  | .mk _ _ _ _, 0 => by simp [Tm.dp]
  | .mk _ _ _ ks, k + 1 => by
    have := Tm.dpAll_le ks k
    simp only [Tm.dp]
    omega
theorem Tm.dpAll_le : ∀ (ks : List Tm) (k : Nat), Tm.dpAll ks k ≤ k + 1
  | [], k => by simp [Tm.dpAll]
  | t :: ts, k => by
    have := Tm.dp_le t k
    have := Tm.dpAll_le ts k
    simp only [Tm.dpAll]
    omega
end
mutual
theorem Tm.dp_deep : ∀ (t : Tm) (k : Nat), decide (k < t.dp k) = t.deep k
  | .mk _ _ _ _, 0 => by simp [Tm.dp, Tm.deep]
  | .mk _ _ _ ks, k + 1 => by
    have := Tm.dpAll_deep ks k
    simp only [Tm.dp, Tm.deep, ← this]
    congr 1
    simp
theorem Tm.dpAll_deep : ∀ (ks : List Tm) (k : Nat), decide (k < Tm.dpAll ks k) = Tm.deepAny ks k
  | [], k => by simp [Tm.dpAll, Tm.deepAny]
  | t :: ts, k => by
    have h1 := Tm.dp_deep t k
    have h2 := Tm.dpAll_deep ts k
    have h3 : (k < max (t.dp k) (Tm.dpAll ts k)) ↔ (k < t.dp k ∨ k < Tm.dpAll ts k) := by omega
    rw [Tm.dpAll, Tm.deepAny, ← h1, ← h2, decide_eq_decide.2 h3, Bool.decide_or]
end
theorem Tm.dpAll_append (t : Tm) (k : Nat) : ∀ (ks : List Tm), Tm.dpAll (ks ++ [t]) k = max (Tm.dpAll ks k) (t.dp k)
  | [] => by simp [Tm.dpAll]
  | u :: us => by
    have := Tm.dpAll_append t k us
    simp only [List.cons_append, Tm.dpAll, this]
    omega
theorem Tm.dpAll_take (ks : List Tm) (k j : Nat) (h : j < ks.length) : Tm.dpAll (ks.take (j + 1)) k = max (Tm.dpAll (ks.take j) k) ((ks[j]).dp k) := by
  rw [List.take_succ_eq_append_getElem h, Tm.dpAll_append]

theorem bigB_one (t : Tm) : bigB [t] = (decide (4096 < t.sz) || decide (128 < t.dp 128)) := by
  have := Tm.downAll_eq [t] 4096 (by omega)
  simp only [Tm.szAll] at this
  rw [bigB, this, Tm.dp_deep]
  simp only [Tm.deepAny, Bool.or_false]
  congr 1
  rw [Bool.eq_iff_iff]
  simp
  omega
end Go.Proofs.YtjjbdbklbghlhaaGreatDoor
/- The document's Big, right, all, Check, Pred. -/
namespace Go.Proofs.YtjjbdbklbghlhaaGreatDoor
open Go.RowKit
set_option linter.unusedSimpArgs false

def bareB (f n : Int) : Bool := f == 0 && n == 0
def mayB (f n : Int) : Bool := f == 0 || f == 1 || f == 4 || f == 5 || f == 7 || f == 8 || (f == 9 && n != 0)
theorem fieldB_2 (f n : Int) : fieldB 2 f n = (fitsB f n && f != 3) := by
  unfold fieldB fitsB fieldK fitsK
  generalize (widthI f).toNat = k
  by_cases h0 : ((k : Int) == 0) = true
  · simp [h0]
  by_cases h1 : (n / 2 ^ k != 0) = true
  · have h1' : (n / 2 ^ k == 0) = false := by simpa using h1
    simp [h0, h1, h1']
  have h1' : (n / 2 ^ k == 0) = true := by simpa using h1
  by_cases h3 : f = 3
  · simp [h3]
  have h3' : (f == 3) = false := by simpa using h3
  have h3'' : (f != 3) = true := by simpa using h3
  simp [h0, h1, h1', h3', h3'']
theorem fieldB_7 (f n : Int) : fieldB 7 f n = (mayB f n && fitsB f n) := by
  unfold fieldB fitsB fieldK fitsK mayB widthI
  by_cases hr : f = 0 ∨ f = 1 ∨ f = 2 ∨ f = 3 ∨ f = 4 ∨ f = 5 ∨ f = 6 ∨ f = 7 ∨ f = 8 ∨ f = 9 ∨ f = 10
  · rcases hr with rfl | rfl | rfl | rfl | rfl | rfl | rfl | rfl | rfl | rfl | rfl
    all_goals simp
    all_goals
      try (rw [Bool.eq_iff_iff]; simp)
      try omega
  · have e : ∀ k : Int, (k = 0 ∨ k = 1 ∨ k = 2 ∨ k = 3 ∨ k = 4 ∨ k = 5 ∨ k = 6 ∨ k = 7 ∨ k = 8 ∨ k = 9 ∨ k = 10) → f ≠ k := fun k hk e => hr (by rw [e]; exact hk)
    rw [if_neg (e 0 (by omega)), if_neg (e 1 (by omega)), if_neg (e 2 (by omega)), if_neg (e 3 (by omega)), if_neg (e 4 (by omega)), if_neg (e 5 (by omega)), if_neg (e 6 (by omega)), if_neg (e 7 (by omega)), if_neg (e 8 (by omega)), if_neg (e 9 (by omega)), if_neg (e 10 (by omega))]
    simp

def refR (op f n : Int) (ks : List Tm) (pred : Bool) : Bool :=
  if op = 0 ∨ op = 1 then pred && bareB f n && ks.length == 0
  else if op = 2 then pred && ks.length == 0 && fitsB f n && f != 3
  else if op = 3 then pred && bareB f n && ks.length == 1 && Tm.rightAll ks true
  else if op = 4 ∨ op = 5 then pred && bareB f n && decide (0 < ks.length) && Tm.rightAll ks true
  else if op = 6 then !pred && bareB f n && ks.length == 1 && Tm.rightAll ks true
  else if op = 7 then !pred && ks.length == 0 && mayB f n && fitsB f n
  else if op = 8 ∨ op = 9 then !pred && bareB f n && decide (0 < ks.length) && Tm.rightAll ks false
  else if op = 10 then !pred && bareB f n && ks.length == 1 && Tm.rightAll ks false
  else false

theorem right_plain (op f n : Int) (ks : List Tm) (pred : Bool) : (Tm.mk op f n ks).right pred = refR op f n ks pred := by
  rw [Tm.right]
  by_cases h0 : op < 0 ∨ 10 < op
  · rw [if_pos h0]
    unfold refR
    rw [if_neg (by omega), if_neg (by omega), if_neg (by omega), if_neg (by omega), if_neg (by omega), if_neg (by omega), if_neg (by omega), if_neg (by omega)]
  rw [if_neg h0]
  obtain ⟨k, rfl⟩ := Int.eq_ofNat_of_zero_le (a := op) (by omega)
  rw [Int.toNat_natCast]
  have hk : k < 11 := by omega
  have hb : (f ≠ 0 ∨ n ≠ 0) ↔ bareB f n = false := by unfold bareB; by_cases a : f = 0 <;> by_cases b : n = 0 <;> simp [a, b]
  match k, hk with
  | 0, _ | 1, _ =>
    simp only [wantsOf, refR]
    cases pred with
    | false => simp
    | true =>
      cases ks with
      | nil =>
        by_cases hq : f ≠ 0 ∨ n ≠ 0
        · have := hb.1 hq
          simp [this, hq]
        ·
          simp only [not_or, Decidable.not_not] at hq
          simp [hq.1, hq.2, Tm.rightAll, show bareB 0 0 = true from rfl]
      | cons t ts =>
        simp
        try (intros; omega)
  | 2, _ =>
    simp only [wantsOf, refR]
    cases pred with
    | false => simp
    | true =>
      cases ks with
      | nil => simp [fieldB_2]
      | cons t ts =>
        simp
        try (intros; omega)
  | 7, _ =>
    simp only [wantsOf, refR]
    cases pred with
    | true => simp
    | false =>
      cases ks with
      | nil => simp [fieldB_7]
      | cons t ts =>
        simp
        try (intros; omega)
  | 3, _ =>
    simp only [wantsOf, refR]
    cases pred with
    | false => simp
    | true =>
      by_cases hq : f ≠ 0 ∨ n ≠ 0
      · have hq2 := hb.1 hq
        simp [hq2, hq]
      · have hq2 : bareB f n = true := by simpa using fun h => hq (hb.2 h)
        clear hq2
        simp only [not_or, Decidable.not_not] at hq
        simp only [hq.1, hq.2]
        by_cases hl : ks.length = 1
        · simp [hl, show bareB 0 0 = true from rfl]
        · have hl' : (ks.length == 1) = false := by simpa using hl
          simp [hl']
          try (intros; omega)
  | 4, _ | 5, _ =>
    simp only [wantsOf, refR]
    cases pred with
    | false => simp
    | true =>
      by_cases hq : f ≠ 0 ∨ n ≠ 0
      · have hq2 := hb.1 hq
        simp [hq2, hq]
      · have hq2 : bareB f n = true := by simpa using fun h => hq (hb.2 h)
        clear hq2
        simp only [not_or, Decidable.not_not] at hq
        simp only [hq.1, hq.2]
        by_cases hl : 0 < ks.length
        · have hl1 : ¬ (ks.length : Int) < 1 := by omega
          simp [hl, hl1, show bareB 0 0 = true from rfl]
        · have hl0 : ks = [] := by simpa using hl
          subst hl0
          simp
  | 6, _ =>
    simp only [wantsOf, refR]
    cases pred with
    | true => simp
    | false =>
      by_cases hq : f ≠ 0 ∨ n ≠ 0
      · have hq2 := hb.1 hq
        simp [hq2, hq]
      · have hq2 : bareB f n = true := by simpa using fun h => hq (hb.2 h)
        clear hq2
        simp only [not_or, Decidable.not_not] at hq
        simp only [hq.1, hq.2]
        by_cases hl : ks.length = 1
        · simp [hl, show bareB 0 0 = true from rfl]
        · have hl' : (ks.length == 1) = false := by simpa using hl
          simp [hl']
          try (intros; omega)
  | 8, _ | 9, _ =>
    simp only [wantsOf, refR]
    cases pred with
    | true => simp
    | false =>
      by_cases hq : f ≠ 0 ∨ n ≠ 0
      · have hq2 := hb.1 hq
        simp [hq2, hq]
      · have hq2 : bareB f n = true := by simpa using fun h => hq (hb.2 h)
        clear hq2
        simp only [not_or, Decidable.not_not] at hq
        simp only [hq.1, hq.2]
        by_cases hl : 0 < ks.length
        · have hl1 : ¬ (ks.length : Int) < 1 := by omega
          simp [hl, hl1, show bareB 0 0 = true from rfl]
        · have hl0 : ks = [] := by simpa using hl
          subst hl0
          simp
  | 10, _ =>
    simp only [wantsOf, refR]
    cases pred with
    | true => simp
    | false =>
      by_cases hq : f ≠ 0 ∨ n ≠ 0
      · have hq2 := hb.1 hq
        simp [hq2, hq]
      · have hq2 : bareB f n = true := by simpa using fun h => hq (hb.2 h)
        clear hq2
        simp only [not_or, Decidable.not_not] at hq
        simp only [hq.1, hq.2]
        by_cases hl : ks.length = 1
        · simp [hl, show bareB 0 0 = true from rfl]
        · have hl' : (ks.length == 1) = false := by simpa using hl
          simp [hl']
          try (intros; omega)
end Go.Proofs.YtjjbdbklbghlhaaGreatDoor
/- The document's right and all, walked. -/
namespace Go.Proofs.YtjjbdbklbghlhaaGreatDoor
open Go.RowKit
set_option linter.unusedSimpArgs false

end Go.Proofs.YtjjbdbklbghlhaaGreatDoor
/- The document's Big, Check, Pred (of a policy without queries). -/
namespace Go.Proofs.YtjjbdbklbghlhaaGreatDoor
open Go.RowKit
set_option linter.unusedSimpArgs false

theorem cells5 {w : World} {b : Nat} {a0 a1 a2 a3 a4 : Value} (h : w.rangeAt b 0 [a0, a1, a2, a3, a4]) : w.cell? ⟨b, 0, none⟩ = some a0 ∧ w.cell? ⟨b, 1, none⟩ = some a1 ∧ w.cell? ⟨b, 2, none⟩ = some a2 ∧ w.cell? ⟨b, 3, none⟩ = some a3 ∧ w.cell? ⟨b, 4, none⟩ = some a4 :=
  ⟨h 0 _ rfl, h 1 _ rfl, h 2 _ rfl, h 3 _ rfl, h 4 _ rfl⟩

end Go.Proofs.YtjjbdbklbghlhaaGreatDoor
/- The document's Holds, both. -/
namespace Go.Proofs.YtjjbdbklbghlhaaGreatDoor
open Go.RowKit Go.Maps
set_option linter.unusedSimpArgs false

/-- a set and what is put in besides -/
def addAll : List Hdr → List Hdr → List Hdr
  | l, [] => l
  | l, x :: xs => addAll (addH l x) xs
theorem length_addAll : ∀ (xs l : List Hdr), l.length ≤ (addAll l xs).length ∧ (addAll l xs).length ≤ l.length + xs.length
  | [], l => by simp [addAll]
  | x :: xs, l => by
    have h1 := length_addH x l
    have h2 := length_addAll xs (addH l x)
    simp only [addAll, List.length_cons]
    omega
theorem addAll_snoc : ∀ (xs l : List Hdr) (x : Hdr), addAll l (xs ++ [x]) = addH (addAll l xs) x
  | [], _, _ => rfl
  | y :: ys, l, x => by
    simp only [List.cons_append, addAll]
    exact addAll_snoc ys (addH l y) x

end Go.Proofs.YtjjbdbklbghlhaaGreatDoor
/- The document's sets, in order, are the program's sets put in order. -/
namespace Go.Proofs.YtjjbdbklbghlhaaGreatDoor
set_option linter.unusedSimpArgs false

theorem mem_addH {x y : Hdr} : ∀ {l : List Hdr}, y ∈ addH l x ↔ y ∈ l ∨ y = x
  | [] => by simp [addH]
  | z :: zs => by
    rw [addH]
    split
    · rw [List.mem_cons, mem_addH, List.mem_cons, or_assoc]
    · split
      · rename_i h
        subst h
        simp only [List.mem_cons]
        exact ⟨.inl, fun h => h.elim id .inl⟩
      · simp only [List.mem_cons]
        exact ⟨fun h => h.elim .inr .inl, fun h => h.elim .inr .inl⟩
theorem asc_addH {x : Hdr} : ∀ {l : List Hdr}, Asc l → Asc (addH l x)
  | [], _ => by simp [addH, Asc]
  | z :: zs, h => by
    have h1 := List.pairwise_cons.1 h
    rw [addH]
    split
    · rename_i hz
      refine List.pairwise_cons.2 ⟨fun y hy => ?_, asc_addH h1.2⟩
      rcases mem_addH.1 hy with hy | rfl
      · exact h1.1 y hy
      · exact hz
    · split
      · exact h
      · rename_i hz hne
        have hxz : ltH x z = true := by
          cases hc : ltH x z with
          | true => rfl
          | false => exact absurd (ltH_conn (by simpa using hz) hc) hne
        refine List.pairwise_cons.2 ⟨fun y hy => ?_, h⟩
        rcases List.mem_cons.1 hy with rfl | hy
        · exact hxz
        · exact ltH_trans hxz (h1.1 y hy)
theorem addH_sortH {S : List Hdr} {x : Hdr} (hn : S.Nodup) : addH (sortH S) x = if x ∈ S then sortH S else sortH (S ++ [x]) := by
  by_cases hx : x ∈ S
  · rw [if_pos hx]
    refine (asc_addH (asc_sortH hn)).ext (asc_sortH hn) fun y => ?_
    rw [mem_addH, (sortH_perm _).mem_iff]
    exact ⟨fun h => h.elim id (fun e => e ▸ hx), .inl⟩
  · rw [if_neg hx]
    refine (asc_addH (asc_sortH hn)).ext (asc_sortH (List.nodup_append.2 ⟨hn, by simp, fun a ha b hb e => hx (by simp at hb; rw [← hb, ← e]; exact ha)⟩)) fun y => ?_
    rw [mem_addH, (sortH_perm _).mem_iff, (sortH_perm _).mem_iff]
    simp
/-- P19.2's sets -/
theorem putAll_ref : ∀ (xs S : List Hdr), S.Nodup → S.length ≤ 64 → (∃ S', putAll S xs = some S' ∧ S'.Nodup ∧ S'.length ≤ 64 ∧ addAll (sortH S) xs = sortH S') ∨ (putAll S xs = none ∧ 64 < (addAll (sortH S) xs).length)
  | [], S, hn, hl => .inl ⟨S, rfl, hn, hl, rfl⟩
  | x :: xs, S, hn, hl => by
    simp only [putAll, addAll, addH_sortH hn, putM]
    by_cases hx : x ∈ S
    · rw [if_pos hx, if_pos hx]
      exact putAll_ref xs S hn hl
    · rw [if_neg hx, if_neg hx]
      have hn2 : (S ++ [x]).Nodup := List.nodup_append.2 ⟨hn, by simp, fun a ha b hb e => hx (by simp at hb; rw [← hb, ← e]; exact ha)⟩
      by_cases h64 : S.length < 64
      · rw [if_pos h64]
        exact putAll_ref xs (S ++ [x]) hn2 (by simp; omega)
      · rw [if_neg h64]
        refine .inr ⟨rfl, ?_⟩
        have h1 := (length_addAll xs (sortH (S ++ [x]))).1
        rw [length_sortH] at h1
        simp at h1
        omega
end Go.Proofs.YtjjbdbklbghlhaaGreatDoor
