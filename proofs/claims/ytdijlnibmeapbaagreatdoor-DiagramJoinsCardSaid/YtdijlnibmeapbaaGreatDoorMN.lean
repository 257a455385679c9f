/- policy.table: what each Op wants. -/
import Derived.Test.YtdijlnibmeapbaaGreatDoorMA
import Derived.StillTailTactics
import Derived.Deep.RegionWith
import Derived.Deep.RegionHeld3
import Derived.Deep.DeepCutAuto
import Derived.Test.YtdijlnibmeapbaaGreatDoorMD
import Derived.Test.YtdijlnibmeapbaaGreatDoorMC
import Derived.Laws.PanicsMore
import Derived.ChangeMaps5
import Derived.Maps.RangeWalk
import Derived.Defers
import Derived.Recover
import Derived.Laws.EntriesVeiled
import Derived.Laws.StructEq
import Derived.DeepKeys
import Derived.BigQuiet
import Derived.Deep.Upon
import Derived.Test.YtdijlnibmeapbaaGreatDoorMI
namespace Go.Proofs.YtdijlnibmeapbaaGreatDoor
open Go.RowKit
set_option linter.unusedSimpArgs false

/-- what an Op wants: least, most, predicates as kids, a predicate itself, a field -/
structure Wants where
  least : Int
  most : Int
  preds : Bool
  pred : Bool
  field : Bool
def wantsOf (op : Nat) : Wants :=
  match op with
  | 0 | 1 => ⟨0, 0, false, true, false⟩
  | 2 => ⟨0, 0, false, true, true⟩
  | 3 => ⟨1, 1, true, true, false⟩
  | 4 | 5 => ⟨1, -1, true, true, false⟩
  | 6 => ⟨1, 1, true, false, false⟩
  | 7 => ⟨0, 0, false, false, true⟩
  | 8 | 9 => ⟨1, -1, false, false, false⟩
  | _ => ⟨1, 1, false, false, false⟩
def Wants.cs (x : Wants) : Array Value := #[.int .i64 x.least, .int .i64 x.most, .bool x.preds, .bool x.pred, .bool x.field]
def tabA : Array Value := #[.int .i64 0, .int .i64 (0), .bool false, .bool true, .bool false, .int .i64 0, .int .i64 (0), .bool false, .bool true, .bool false, .int .i64 0, .int .i64 (0), .bool false, .bool true, .bool true, .int .i64 1, .int .i64 (1), .bool true, .bool true, .bool false, .int .i64 1, .int .i64 (-1), .bool true, .bool true, .bool false, .int .i64 1, .int .i64 (-1), .bool true, .bool true, .bool false, .int .i64 1, .int .i64 (1), .bool true, .bool false, .bool false, .int .i64 0, .int .i64 (0), .bool false, .bool false, .bool true, .int .i64 1, .int .i64 (-1), .bool false, .bool false, .bool false, .int .i64 1, .int .i64 (-1), .bool false, .bool false, .bool false, .int .i64 1, .int .i64 (1), .bool false, .bool false, .bool false]
end Go.Proofs.YtdijlnibmeapbaaGreatDoor
/- policy.right: whether a term is a predicate, or a policy. -/
namespace Go.Proofs.YtdijlnibmeapbaaGreatDoor
open Go.RowKit
set_option linter.unusedSimpArgs false

mutual
/-- is a term a predicate (or a policy)? -/
def Tm.right : Tm → Bool → Bool
  | .mk op f n ks, pred =>
    if op < 0 ∨ 10 < op then false else
    if (wantsOf op.toNat).pred != pred then false else
    if (ks.length : Int) < (wantsOf op.toNat).least then false else
    if 0 ≤ (wantsOf op.toNat).most ∧ (wantsOf op.toNat).most < (ks.length : Int) then false else
    if (wantsOf op.toNat).field then fieldB op f n else
    if f ≠ 0 ∨ n ≠ 0 then false else Tm.rightAll ks (wantsOf op.toNat).preds
def Tm.rightAll : List Tm → Bool → Bool
  | [], _ => true
  | t :: ts, pred => t.right pred && Tm.rightAll ts pred
end
theorem Tm.rightAll_true {p : Bool} : ∀ {ks : List Tm}, (∀ m (h : m < ks.length), (ks[m]).right p = true) → Tm.rightAll ks p = true
  | [], _ => rfl
  | t :: ts, hv => by
    have h0 := hv 0 (by simp)
    have h1 := Tm.rightAll_true (p := p) (ks := ts) (fun m h => by have := hv (m + 1) (by simpa using h); rwa [List.getElem_cons_succ] at this)
    rw [List.getElem_cons_zero] at h0
    simp only [Tm.rightAll, h0, h1, Bool.and_self]
theorem Tm.rightAll_false {p : Bool} : ∀ {ks : List Tm} (j : Nat) (h : j < ks.length), (ks[j]).right p = false → Tm.rightAll ks p = false
  | t :: ts, 0, _, hv => by rw [List.getElem_cons_zero] at hv; simp [Tm.rightAll, hv]
  | t :: ts, j + 1, h, hv => by rw [List.getElem_cons_succ] at hv; simp [Tm.rightAll, Tm.rightAll_false j (by simpa using h) hv]

end Go.Proofs.YtdijlnibmeapbaaGreatDoor
/- policy.deep, size, big, Pred: whether terms are too many or too deep. -/
namespace Go.Proofs.YtdijlnibmeapbaaGreatDoor
open Go.RowKit
set_option linter.unusedSimpArgs false

mutual
def Tm.deep : Tm → Nat → Bool
  | _, 0 => true
  | .mk _ _ _ ks, k + 1 => Tm.deepAny ks k
def Tm.deepAny : List Tm → Nat → Bool
  | [], _ => false
  | t :: ts, k => t.deep k || Tm.deepAny ts k
end

theorem Tm.deepAny_true {k : Nat} : ∀ {ks : List Tm} (j : Nat) (h : j < ks.length), (ks[j]).deep k = true → Tm.deepAny ks k = true
  | t :: ts, 0, _, hv => by simp at hv; simp [Tm.deepAny, hv]
  | t :: ts, j + 1, h, hv => by simp [Tm.deepAny, Tm.deepAny_true j (by simpa using h) (by simpa using hv)]
theorem Tm.deepAny_false {k : Nat} : ∀ {ks : List Tm}, (∀ m (h : m < ks.length), (ks[m]).deep k = false) → Tm.deepAny ks k = false
  | [], _ => rfl
  | t :: ts, hv => by
    have h0 := hv 0 (by simp)
    have h1 := Tm.deepAny_false (k := k) (ks := ts) (fun m h => by have := hv (m + 1) (by simpa using h); rwa [List.getElem_cons_succ] at this)
    simp only [Tm.deepAny, h1, Bool.or_false]
    exact h0

mutual
def Tm.down : Tm → Int → Int
  | .mk _ _ _ ks, l => Tm.downAll ks (l - 1)
def Tm.downAll : List Tm → Int → Int
  | [], l => l
  | t :: ts, l => if l < 0 then l else Tm.downAll ts (t.down l)
end
mutual
theorem Tm.down_eq : ∀ (t : Tm) (l : Int), 0 ≤ l → t.down l = max (l - t.sz) (-1)
  | .mk op f n ks, l, hl => by
    rw [Tm.down, Tm.downAll_eq ks (l - 1) (by omega)]
    simp only [Tm.sz, Int.natCast_add]
    omega
theorem Tm.downAll_eq : ∀ (ks : List Tm) (l : Int), -1 ≤ l → Tm.downAll ks l = max (l - Tm.szAll ks) (-1)
  | [], l, hl => by
    simp only [Tm.downAll, Tm.szAll]
    omega
  | t :: ts, l, hl => by
    have hp := t.sz_pos
    simp only [Tm.szAll, Int.natCast_add]
    by_cases h : l < 0
    · rw [Tm.downAll, if_pos h]
      omega
    · rw [Tm.downAll, if_neg h, Tm.down_eq t l (by omega), Tm.downAll_eq ts _ (by omega)]
      omega
end
theorem Tm.down_ge (t : Tm) (l : Int) (hl : 0 ≤ l) : -1 ≤ t.down l ∧ t.down l ≤ l := by
  rw [t.down_eq l hl]
  omega
theorem Tm.downAll_take : ∀ (ks : List Tm) (l : Int) (j : Nat) (h : j < ks.length), 0 ≤ Tm.downAll (ks.take j) l → Tm.downAll (ks.take (j + 1)) l = (ks[j]).down (Tm.downAll (ks.take j) l)
  | t :: ts, l, 0, _, h0 => by
    rw [List.getElem_cons_zero]
    simp only [List.take_zero, Tm.downAll] at h0
    simp only [List.take_succ_cons, List.take_zero, Tm.downAll]
    rw [if_neg (by omega)]
  | t :: ts, l, j + 1, hj, h0 => by
    rw [List.getElem_cons_succ]
    simp only [List.take_succ_cons, Tm.downAll] at h0 ⊢
    split
    · rename_i hl; rw [if_pos hl] at h0; omega
    · rename_i hl; rw [if_neg hl] at h0
      exact Tm.downAll_take ts _ j (by simpa using hj) h0
theorem Tm.downAll_stop : ∀ (ks : List Tm) (l : Int) (j : Nat), Tm.downAll (ks.take j) l < 0 → Tm.downAll ks l = Tm.downAll (ks.take j) l
  | [], l, j, _ => by simp
  | t :: ts, l, 0, h => by simp only [List.take_zero, Tm.downAll] at h ⊢; rw [if_pos h]
  | t :: ts, l, j + 1, h => by
    simp only [List.take_succ_cons, Tm.downAll] at h ⊢
    split
    · rfl
    · rename_i hl; rw [if_neg hl] at h
      exact Tm.downAll_stop ts _ j h
theorem Tm.downAll_le (ks : List Tm) (l : Int) (hl : -1 ≤ l) : -1 ≤ Tm.downAll ks l ∧ Tm.downAll ks l ≤ l := by
  rw [Tm.downAll_eq ks l hl]
  omega

theorem Tm.downAll_take' (ks : List Tm) (l : Int) (j : Nat) (h : j < ks.length) : Tm.downAll (ks.take (j + 1)) l = if 0 ≤ Tm.downAll (ks.take j) l then (ks[j]).down (Tm.downAll (ks.take j) l) else Tm.downAll (ks.take j) l := by
  split
  · exact Tm.downAll_take ks l j h (by assumption)
  · rename_i hn
    rw [← Tm.downAll_stop ks l j (by omega)]
    have : Tm.downAll ((ks.take (j + 1)).take j) l < 0 := by rw [List.take_take, Nat.min_eq_left (by omega)]; omega
    rw [Tm.downAll_stop (ks.take (j + 1)) l j this, List.take_take, Nat.min_eq_left (by omega), ← Tm.downAll_stop ks l j (by omega)]

/-- are terms too many, or too deep? -/
def bigB (ks : List Tm) : Bool := decide (Tm.downAll ks 4096 < 0) || Tm.deepAny ks 128
theorem bigB_deep {ks : List Tm} (h : ¬ Tm.downAll ks 4096 < 0) : bigB ks = Tm.deepAny ks 128 := by simp [bigB, h]

end Go.Proofs.YtdijlnibmeapbaaGreatDoor
/- policy.Pred and policy.Check where there are no queries. -/
namespace Go.Proofs.YtdijlnibmeapbaaGreatDoor
open Go.RowKit
set_option linter.unusedSimpArgs false

def predT (t : Tm) : Int := if bigB [t] then 200 else if t.right true then 0 else 170
def checkT (t : Tm) : Int := if bigB [t] then 200 else if t.right false then 0 else 170

theorem rangeAt_take {w : World} {b o n : Nat} {cs : List Value} (h : w.rangeAt b o cs) : w.rangeAt b o (cs.take n) := fun j v hv => h j v (by
  rw [List.getElem?_take] at hv
  split at hv
  · exact hv
  · cases hv)

end Go.Proofs.YtdijlnibmeapbaaGreatDoor
/- meaning.holds: whether a right predicate holds of a header; slices.ContainsFunc at terms. -/
namespace Go.Proofs.YtdijlnibmeapbaaGreatDoor
open Go.RowKit
set_option linter.unusedSimpArgs false

def Idx (n : Nat) (q : Nat → Bool) (e : Ending) : Prop := (∃ j : Nat, j < n ∧ q j = true ∧ e = .returned (.int .i64 j)) ∨ ((∀ j, j < n → q j = false) ∧ e = .returned (.int .i64 (-1)))

end Go.Proofs.YtdijlnibmeapbaaGreatDoor
/- 'for k, v := range m' over a map that the round does not write. -/
namespace Go.Proofs.YtdijlnibmeapbaaGreatDoor
open Go.RowKit Go.Maps
set_option linter.unusedSimpArgs false

/-- block r is an iterator over block b, a map that holds m; done has come out, in this order -/
def Ranging (w : World) (r b : Nat) (m done : List (Value × Value)) : Prop :=
  ∃ es clock seen, w.heap[r]? = some (.mapIter (some b) clock seen clock) ∧ w.heap[b]? = some (.map es clock) ∧ es.toList.map (fun e => (e.key, e.val)) = m ∧
    (∀ e ∈ es.toList, e.born < clock) ∧ (es.toList.map (·.born)).Nodup ∧ (done ++ ((leftOf es seen).toList.map fun e => (e.key, e.val))).Perm m ∧ (∀ x ∈ seen.toList, x ∈ es.toList.map (·.born))

theorem nodup_of_map {α β : Type} {f : α → β} {l : List α} (h : (l.map f).Nodup) : l.Nodup := (List.pairwise_map.1 h).imp (fun hne he => hne (by rw [he]))
theorem inj_of_nodup_map {α β : Type} {f : α → β} : ∀ {l : List α}, (l.map f).Nodup → ∀ {x y : α}, x ∈ l → y ∈ l → f x = f y → x = y
  | a :: r, h, x, y, hx, hy, he => by
    rw [List.map_cons, List.nodup_cons] at h
    rcases List.mem_cons.1 hx with hxa | hxr
    · rcases List.mem_cons.1 hy with hya | hyr
      · rw [hxa, hya]
      · exact absurd (List.mem_map.2 ⟨y, hyr, by rw [← he, hxa]⟩) h.1
    · rcases List.mem_cons.1 hy with hya | hyr
      · exact absurd (List.mem_map.2 ⟨x, hxr, by rw [he, hya]⟩) h.1
      · exact inj_of_nodup_map h.2 hxr hyr he
theorem leftOf_toList (es : Array MapEntry) (seen : Array Nat) : (leftOf es seen).toList = es.toList.filter fun e => !seen.contains e.born := by simp [leftOf]

theorem Ranging.map {w : World} {r b : Nat} {m done : List (Value × Value)} (h : Ranging w r b m done) : MapRaw w b m := by
  obtain ⟨es, clock, seen, -, hb, hm, hbo, hn, -⟩ := h
  exact ⟨es, clock, hb, hm, hbo, hn⟩
theorem Ranging.lt {w : World} {r b : Nat} {m done : List (Value × Value)} (h : Ranging w r b m done) : r < w.heap.size := by
  obtain ⟨es, clock, seen, hr, _⟩ := h
  exact (Array.getElem?_eq_some_iff.1 hr).1
theorem Ranging.kept {w w' : World} {r b : Nat} {m done : List (Value × Value)} (h : Ranging w r b m done) (hr : w'.heap[r]? = w.heap[r]?) (hb : w'.heap[b]? = w.heap[b]?) : Ranging w' r b m done := by
  obtain ⟨es, clock, seen, h1, h2, rest⟩ := h
  exact ⟨es, clock, seen, hr.trans h1, hb.trans h2, rest⟩
theorem Ranging.ext {w w' : World} {r b : Nat} {m done : List (Value × Value)} (h : Ranging w r b m done) (hx : Ext w w') : Ranging w' r b m done := h.kept (Below.block hx r h.lt) (Below.block hx b h.map.lt)

theorem run_range_of {P : Program} {t k e : TypeId} (ht : P.underlying t = some (.map k e)) {w : World} {b : Nat} {m : List (Value × Value)} (h : MapRaw w b m) :
    ∃ w', (Instr.range t (.map (some b))).run P w = .ok (.pointer (some ⟨w.heap.size, 0, none⟩)) w' ∧ Ranging w' w.heap.size b m [] ∧ Ext w w' := by
  obtain ⟨es, clock, hb, hm, hbo, hn⟩ := h
  have hbl : b < w.heap.size := (Array.getElem?_eq_some_iff.1 hb).1
  refine ⟨w.alloc (.mapIter (some b) clock #[] clock), ?_, ⟨es, clock, #[], heap_alloc_new w _, ((Below.block (Ext.alloc w (.mapIter (some b) clock #[] clock)) b hbl)).trans hb, hm, hbo, hn, ?_, by simp⟩, Ext.alloc _ _⟩
  · simp only [Instr.range, Sem.run_bind, run_underlying ht, getObj, Sem.run, hb, Result.andThen, Sem.run_pure]
    rfl
  · rw [List.nil_append, leftOf_toList, ← hm]
    have : es.toList.filter (fun e => !(#[] : Array Nat).contains e.born) = es.toList := List.filter_eq_self.2 (fun _ _ => by simp)
    rw [this]

theorem run_next_of {P : Program} {w : World} {r b : Nat} {m done : List (Value × Value)} (h : Ranging w r b m done) (ty : TypeId) :
    (done.Perm m ∧ (Instr.next (.pointer (some ⟨r, 0, none⟩)) false ty).run P w = .ok (.tuple #[.bool false]) w) ∨
    ∃ p w', done.length < m.length ∧ (Instr.next (.pointer (some ⟨r, 0, none⟩)) false ty).run P w = .ok (.tuple #[.bool true, p.1, p.2]) w' ∧ Ranging w' r b m (done ++ [p]) ∧ w.grownBy w' (some r) ∧
      (∀ W : World, W.heap[r]? = w'.heap[r]? → W.heap[b]? = w'.heap[b]? → (Instr.entry (.pointer (some ⟨r, 0, none⟩))).run P W = .ok (.tuple #[p.1, p.2]) W) := by
  obtain ⟨es, clock, seen, hr, hb, hm, hbo, hn, hp, hs⟩ := h
  rcases run_next_at (P := P) w ty r b clock clock seen es clock hr hb hbo (Nat.le_refl _) with ⟨h0, hrun⟩ | ⟨e, he, w1, hw1, hrun⟩
  · refine .inl ⟨?_, hrun⟩
    have : leftOf es seen = #[] := Array.eq_empty_of_size_eq_zero h0
    rw [this] at hp
    simpa using hp
  · have hee : e ∈ es.toList := by unfold leftOf at he; simp at he ⊢; exact he.1
    have hrb : r ≠ b := fun e => by rw [e, hb] at hr; cases hr
    have hr1 : w1.heap[r]? = some (.mapIter (some b) clock seen clock) := by rcases hw1 with rfl | rfl <;> exact hr
    have hb1 : w1.heap[b]? = some (.map es clock) := by rcases hw1 with rfl | rfl <;> exact hb
    have hrl : r < w1.heap.size := (Array.getElem?_eq_some_iff.1 hr1).1
    have hset : (ChangeMaps.setBlock w1 r (.mapIter (some b) clock (seen.push e.born) clock)).heap[r]? = some (.mapIter (some b) clock (seen.push e.born) clock) := by simp [ChangeMaps.setBlock, hrl]
    have hsetb : (ChangeMaps.setBlock w1 r (.mapIter (some b) clock (seen.push e.born) clock)).heap[b]? = some (.map es clock) := by simp [ChangeMaps.setBlock, hrb, hb1]
    have hleft : ((leftOf es seen).toList).Perm (e :: (leftOf es (seen.push e.born)).toList) := by
      have hnl : ((leftOf es seen).toList).Nodup := by
        rw [leftOf_toList]
        exact List.Pairwise.filter _ (nodup_of_map hn)
      rw [List.perm_ext_iff_of_nodup hnl ?_]
      · intro x
        rw [leftOf_toList, leftOf_toList]
        simp only [List.mem_filter, List.mem_cons, Array.contains_push]
        constructor
        · rintro ⟨hx, hc⟩
          by_cases hxe : x = e
          · exact .inl hxe
          · refine .inr ⟨hx, ?_⟩
            have hb' : x.born ≠ e.born := fun hbe => hxe (inj_of_nodup_map hn hx hee hbe)
            simp only [Bool.not_eq_true', Bool.or_eq_false_iff] at hc ⊢
            exact ⟨hc, by simpa using hb'⟩
        · rintro (rfl | ⟨hx, hc⟩)
          · rw [leftOf_toList, List.mem_filter] at he
            exact he
          · simp only [Bool.not_eq_true', Bool.or_eq_false_iff] at hc ⊢
            exact ⟨hx, hc.1⟩
      · refine List.nodup_cons.2 ⟨?_, ?_⟩
        · unfold leftOf
          simp
        · rw [leftOf_toList]
          exact List.Pairwise.filter _ (nodup_of_map hn)
    have hlen : done.length < m.length := by
      have := hp.length_eq
      have h2 := hleft.length_eq
      simp at this h2
      omega
    refine .inr ⟨(e.key, e.val), _, hlen, hrun, ⟨es, clock, seen.push e.born, hset, hsetb, hm, hbo, hn, ?_, ?_⟩, ?_, ?_⟩
    · refine List.Perm.trans ?_ hp
      rw [List.append_assoc]
      refine List.Perm.append_left done ?_
      exact (hleft.map (fun e => (e.key, e.val))).symm
    · intro x hx
      simp at hx
      rcases hx with hx | rfl
      · exact hs x (by simpa using hx)
      · exact List.mem_map_of_mem hee
    · have h0 : w1.os = w.os ∧ w1.tape = w.tape ∧ w1.output = w.output ∧ w1.heap = w.heap := by rcases hw1 with rfl | rfl <;> exact ⟨rfl, rfl, rfl, rfl⟩
      refine ⟨h0.1, h0.2.1, h0.2.2.1, by simp [ChangeMaps.setBlock, h0.2.2.2], fun i hi hne => ?_⟩
      have hri : r ≠ i := fun e => hne (by rw [e])
      simp [ChangeMaps.setBlock, hri, h0.2.2.2]
    · intro W hWr hWb
      exact run_entry_at W r b clock seen es clock e (hWr.trans hset) (hWb.trans hsetb) hee hn

section
variable {P : Program} {ops : Array Oper} {rest : List Oper} {o : Oper} {a : Act} {w : World} {Q : Exit → Act → World → Prop}
theorem wpList_range_run (hgd : o.guard = none) (t : TypeId) (x : Operand) (ho : o.op = .range t x) (vx v : Value) (w' : World) (hx : a.eval x = vx)
    (hrun : (Instr.range t vx).run P w = .ok v w') (h : wpList P ops Q rest (a.put o.dst v) w') : wpList P ops Q (o :: rest) a w :=
  wpList_plain hgd fun _ hK => by
    unfold Oper.wp execOp
    simp only [ho, hx, Sem.run_bind, hrun, Result.andThen_ok]
    exact hK _ _ h
theorem wpList_next_run (hgd : o.guard = none) (x : Operand) (s : Bool) (ho : o.op = .next x s) (vx v : Value) (w' : World) (hx : a.eval x = vx)
    (hrun : (Instr.next vx s o.type).run P w = .ok v w') (h : wpList P ops Q rest (a.put o.dst v) w') : wpList P ops Q (o :: rest) a w :=
  wpList_plain hgd fun _ hK => by
    unfold Oper.wp execOp
    simp only [ho, hx, Sem.run_bind, hrun, Result.andThen_ok]
    exact hK _ _ h
theorem wpList_entry_run (hgd : o.guard = none) (x : Operand) (ho : o.op = .entry x) (vx v : Value) (w' : World) (hx : a.eval x = vx)
    (hrun : (Instr.entry vx).run P w = .ok v w') (h : wpList P ops Q rest (a.put o.dst v) w') : wpList P ops Q (o :: rest) a w :=
  wpList_plain hgd fun _ hK => by
    unfold Oper.wp execOp
    simp only [ho, hx, Sem.run_bind, hrun, Result.andThen_ok]
    exact hK _ _ h
end
end Go.Proofs.YtdijlnibmeapbaaGreatDoor
/- Sorted rows of headers, in plain words. -/
namespace Go.Proofs.YtdijlnibmeapbaaGreatDoor
set_option linter.unusedSimpArgs false

theorem leH_trans (a b c : Hdr) (h : (!ltH b a) = true) (h' : (!ltH c b) = true) : (!ltH c a) = true := by
  simp only [Bool.not_eq_true'] at *
  exact swoH.ntrans c b a h' h
theorem leH_total (a b : Hdr) : ((!ltH b a) || (!ltH a b)) = true := by
  cases h : ltH a b with
  | false => simp
  | true => simp [ltH_asymm h]
theorem leH_anti {a b : Hdr} (h : (!ltH b a) = true) (h' : (!ltH a b) = true) : a = b := by
  simp only [Bool.not_eq_true'] at *
  exact ltH_conn h' h
theorem sortH_perm (l : List Hdr) : (sortH l).Perm l := List.mergeSort_perm _ _
theorem sortH_sorted (l : List Hdr) : (sortH l).Pairwise fun a b => (!ltH b a) = true := List.pairwise_mergeSort leH_trans leH_total l
theorem eq_of_sorted {l m : List Hdr} (h : l.Pairwise fun a b => (!ltH b a) = true) (h' : m.Pairwise fun a b => (!ltH b a) = true) (hp : l.Perm m) : l = m :=
  List.Perm.eq_of_pairwise (fun _ _ _ _ h h' => leH_anti h h') h h' hp
theorem sortH_congr {l m : List Hdr} (h : l.Perm m) : sortH l = sortH m :=
  eq_of_sorted (sortH_sorted l) (sortH_sorted m) ((sortH_perm l).trans (h.trans (sortH_perm m).symm))
theorem length_sortH (l : List Hdr) : (sortH l).length = l.length := List.length_mergeSort _
/-- in strict order -/
def Asc (l : List Hdr) : Prop := l.Pairwise fun a b => ltH a b = true
theorem Asc.le {l : List Hdr} (h : Asc l) : l.Pairwise fun a b => (!ltH b a) = true := h.imp (fun h => by simp [ltH_asymm h])
theorem Asc.nodup {l : List Hdr} (h : Asc l) : l.Nodup := h.imp (fun {a b} h e => by subst e; rw [ltH_irrefl] at h; cases h)
theorem Asc.of_nodup {l : List Hdr} (hs : l.Pairwise fun a b => (!ltH b a) = true) (hn : l.Nodup) : Asc l :=
  (hs.and hn).imp (fun {a b} h => by
    cases hab : ltH a b with
    | true => rfl
    | false => exact absurd (ltH_conn hab (by simpa using h.1)) h.2)
theorem asc_sortH {l : List Hdr} (h : l.Nodup) : Asc (sortH l) := Asc.of_nodup (sortH_sorted l) ((sortH_perm l).nodup_iff.2 h)
theorem Asc.ext {l m : List Hdr} (hl : Asc l) (hm : Asc m) (h : ∀ x, x ∈ l ↔ x ∈ m) : l = m :=
  eq_of_sorted hl.le hm.le ((List.perm_ext_iff_of_nodup hl.nodup hm.nodup).2 h)

theorem perm_of_map {α β : Type} {f : α → β} (hf : ∀ {x y}, f x = f y → x = y) {l m : List α} (h : (l.map f).Perm (m.map f)) : l.Perm m := by
  cases l with
  | nil => have := h.length_eq; simp at this; rw [List.length_eq_zero_iff.1 this.symm]
  | cons a r =>
    let g : β → α := fun b => @Classical.epsilon α ⟨a⟩ (fun x => f x = b)
    have hg : ∀ x, g (f x) = x := fun x => hf (@Classical.epsilon_spec α (fun y => f y = f x) ⟨x, rfl⟩)
    have := h.map g
    rw [List.map_map, List.map_map] at this
    have e : ∀ l : List α, l.map (g ∘ f) = l := fun l => by
      have : (g ∘ f) = id := funext hg
      rw [this, List.map_id]
    rwa [e, e] at this
end Go.Proofs.YtdijlnibmeapbaaGreatDoor
/- meaning.set: add and list. -/
namespace Go.Proofs.YtdijlnibmeapbaaGreatDoor
open Go.RowKit Go.Maps
set_option linter.unusedSimpArgs false

theorem mapM_some {α β : Type} {f : α → Option β} : ∀ (l : List α), (∀ x ∈ l, ∃ y, f x = some y) → ∃ ys, l.mapM f = some ys
  | [], _ => ⟨[], rfl⟩
  | x :: r, h => by
    obtain ⟨y, hy⟩ := h x List.mem_cons_self
    obtain ⟨ys, hys⟩ := mapM_some r (fun z hz => h z (List.mem_cons_of_mem _ hz))
    exact ⟨y :: ys, by simp [List.mapM_cons, hy, hys]⟩

theorem arrH : WideMaps.ArrKey Tryz.prog 25 23 11 := ⟨Tryz.underlying25, by kernel_rfl, by kernel_rfl, by kernel_rfl⟩
theorem typesS : ∃ m, Tryz.prog.types.size = m + 1 := ⟨_, rfl⟩
theorem keyH (h : Hdr) : ∃ l, keyOf Tryz.prog 25 (.agg h.cs) = some l := by
  have hkt := arrH.keyType typesS
  obtain ⟨m, hm⟩ := typesS
  unfold keyOf
  simp only [arrH.hu]
  rw [if_pos (by simp [hkt, Value.formed, arrH.hu, arrH.size, h.size_cs]), hm]
  unfold Program.keyLits
  simp only [arrH.hu, Value.cells]
  rw [if_pos (by rw [arrH.size]; simpa using h.size_cs)]
  obtain ⟨ys, hys⟩ := mapM_some (f := fun i => Tryz.prog.keyLits (m + 1) 23 ((h.cs.toList.drop (i * Tryz.prog.cellsOf 23)).take (Tryz.prog.cellsOf 23))) (List.range 11) (fun i hi => by
    have hi' : i < 11 := by simpa using hi
    have hc := h.cell i hi'
    have e1 : (h.cs.toList.drop (i * Tryz.prog.cellsOf 23)).take (Tryz.prog.cellsOf 23) = [.int .u64 (h.f i)] := by
      rw [arrH.one, Nat.mul_one, List.drop_eq_getElem_cons (by simp [h.size_cs]; exact hi')]
      have : h.cs.toList[i]'(by simp [h.size_cs]; exact hi') = .int .u64 (h.f i) := by
        have := hc
        rw [Array.getElem?_eq_getElem (by rw [h.size_cs]; exact hi')] at this
        simpa using this
      rw [this]
      rfl
    refine ⟨[.int .u64 (h.f i)], ?_⟩
    rw [e1]
    have hb := h.f_bd i
    have wf : (Lit.int .u64 (h.f i)).wf = true := by
      simp [Lit.wf, IntKind.min, IntKind.max, IntKind.bits, IntKind.signed]
      omega
    unfold Program.keyLits
    simp [Tryz.underlying23, wf])
  rw [hys]
  exact ⟨_, rfl⟩

def kvH (h : Hdr) : Value := .agg h.cs
theorem codedH : Coded Tryz.prog 25 kvH where
  keyed := Keyed.of_law arrH.law
  key := keyH
  inj := fun h => Hdr.cs_inj (by simpa [kvH] using h)

/-- block b is the set l -/
def SetIs (w : World) (b : Nat) (l : List Hdr) : Prop := MapOf w kvH (fun _ : Unit => Value.agg #[.bool true]) b (l.map fun h => (h, ())) ∧ l.Nodup
theorem SetIs.ext {w w' : World} {b : Nat} {l : List Hdr} (h : SetIs w b l) (hx : Ext w w') : SetIs w' b l := ⟨MapRaw.ext h.1 hx, h.2⟩
theorem SetIs.keep {S : Nat → Prop} {w w' : World} {b : Nat} {l : List Hdr} (h : SetIs w b l) (hx : Keep S w w') (hs : ¬ S b) : SetIs w' b l := ⟨MapRaw.kept h.1 (hx.block b (MapRaw.lt h.1) hs), h.2⟩
theorem SetIs.lt {w : World} {b : Nat} {l : List Hdr} (h : SetIs w b l) : b < w.heap.size := MapRaw.lt h.1
theorem SetIs.nd {w : World} {b : Nat} {l : List Hdr} (h : SetIs w b l) : ((l.map fun h => (h, ())).map (·.1)).Nodup := by
  rw [List.map_map]
  exact (by simpa using h.2 : (l.map fun h => h).Nodup)
theorem SetIs.made (w : World) : SetIs (w.alloc (.map #[] 0)) w.heap.size [] := ⟨MapRaw.made w, List.nodup_nil⟩
theorem look_set (x : Hdr) (l : List Hdr) : look x (l.map fun h => (h, ())) = if x ∈ l then some () else none := by
  induction l with
  | nil => rfl
  | cons y r ih =>
    simp only [List.map_cons, look, ih, List.mem_cons]
    by_cases h : y = x
    · simp [h]
    · have : ¬ x = y := fun e => h e.symm
      simp [h, this]
theorem store_set {x : Hdr} {l : List Hdr} (h : x ∉ l) : store x () (l.map fun h => (h, ())) = (l ++ [x]).map fun h => (h, ()) := by
  rw [store_new (by intro p hp; obtain ⟨y, hy, rfl⟩ := List.mem_map.1 hp; exact fun e => h (by rw [← e]; exact hy))]
  simp
/-- a header out of the block that holds just it -/
theorem wpList_load_H {ops : Array Oper} {rest : List Oper} {op : Oper} {a : Act} {w : World} {Q : Exit → Act → World → Prop} (hgd : op.guard = none) (x : Operand) (ho : op.op = .load 25 x)
    (b o : Nat) (hx : a.eval x = .pointer (some ⟨b, o, none⟩)) (y : Hdr) (hc : w.rangeAt b o y.cs.toList)
    (h : wpList Tryz.prog ops Q rest (a.put op.dst (.agg y.cs)) w) : wpList Tryz.prog ops Q (op :: rest) a w :=
  wpList_load_mid hgd 25 x ho b o hx y.cs.toList _ hc Tryz.underlying25 rfl (by rw [y.len_cs]; kernel_rfl) (by rwa [Array.toArray_toList])

theorem sizeH (w : World) : (Go.sizeOf 25).run Tryz.prog w = .ok 11 w := by kernel_rfl
theorem zeroH (w : World) : (zeroValue 25).run Tryz.prog w = .ok (.agg (Array.replicate 11 (.int .u64 0))) w := by kernel_rfl
/-- []Header{y} -/
theorem wpList_one_H {ops : Array Oper} {rest : List Oper} {o : Oper} {a : Act} {w : World} {Q : Exit → Act → World → Prop} (hgd : o.guard = none) (x : Operand) (ho : o.op = .buildSlice 34 1 #[(0, x)]) (y : Hdr) (hx : a.eval x = .agg y.cs)
    (h : wpList Tryz.prog ops Q rest (a.put o.dst (.slice (some ⟨w.heap.size, 0, none⟩) 1 1)) (w.alloc (.cells y.cs 25))) : wpList Tryz.prog ops Q (o :: rest) a w :=
  wpList_buildSlice_run hgd 34 1 x ho _ _ _ hx (run_buildSlice_one Tryz.underlying34 sizeH zeroH (by omega) (by omega) y.size_cs w) h
theorem infoH : (Tryz.prog.info? 25).map (fun i => (i.zero, i.size, i.bytes)) = some (some (.agg (Array.replicate 11 (.int .u64 0))), 11, 88) := by kernel_rfl

/-- append(l, y) of headers, to a slice that the call owns -/
theorem wpList_append_H {ops : Array Oper} {rest : List Oper} {o : Oper} {a : Act} {w : World} {Q : Exit → Act → World → Prop} (hgd : o.guard = none) (s x : Operand)
    (ho : o.op = .call { callee := .builtin .append, args := #[s, x], argTypes := #[34, 34] }) (base : Nat) (v : Value) (l : List Hdr) (hs : a.eval s = v) (hown : w.ownsRow base 25 11 v l.length (flatH l))
    (b : Nat) (y : Hdr) (hx : a.eval x = .slice (some ⟨b, 0, none⟩) 1 1) (hc : w.rangeAt b 0 y.cs.toList) (hlen : l.length < 1000000000) (hbase : base ≤ w.heap.size)
    (hK : ∀ v' w', w'.ownsRow base 25 11 v' (l ++ [y]).length (flatH (l ++ [y])) → w.grownBy w' v.ownBlock → wpList Tryz.prog ops Q rest (a.put o.dst v') w') : wpList Tryz.prog ops Q (o :: rest) a w := by
  obtain ⟨i0, hi0, hz0, hz1, hz2⟩ := info_parts infoH
  refine wpList_append_own w hgd s x 34 ho base 25 i0 _ 11 88 Tryz.underlying34 hi0 hz0 hz1 hz2 rfl (by omega) v l.length (flatH l) hs hown ⟨b, 0, none⟩ 1 1 y.cs.toList hx (by rw [y.len_cs])
    (fun j u hu => by rw [Addr.add_mid]; exact hc j u hu) y.one (by unfold maxLen; omega) (by omega) hbase ?_
  intro v' w' hown' hg _
  refine hK v' w' ?_ hg
  have e : flatH (l ++ [y]) = flatH l ++ y.cs.toList := by simp [flatH]
  rw [e, List.length_append]
  exact hown'

theorem pairs_in {l : List Hdr} {p : Value × Value} (h : p ∈ l.map fun h => (kvH h, Value.agg #[.bool true])) : ∃ x ∈ l, p = (.agg x.cs, .agg #[.bool true]) := by
  obtain ⟨x, hx, rfl⟩ := List.mem_map.1 h
  exact ⟨x, hx, rfl⟩

def lenOf : Value → Nat
  | .slice _ n _ => n
  | _ => 0
theorem lenOf_owns {w : World} {base : Nat} {e : TypeId} {size : Nat} {v : Value} {n : Nat} {xs : List Value} (h : w.ownsRow base e size v n xs) : lenOf v = n := by
  rcases h.2 with ⟨rfl, rfl⟩ | ⟨g, cap, cur, rfl, _⟩ <;> rfl

end Go.Proofs.YtdijlnibmeapbaaGreatDoor
/- meaning.holds: whether a right predicate holds of a header. -/
namespace Go.Proofs.YtdijlnibmeapbaaGreatDoor
open Go.RowKit
set_option linter.unusedSimpArgs false

mutual
/-- does a right predicate hold of a header? -/
def Tm.holds : Tm → Hdr → Bool
  | .mk op f n ks, h => if op = 1 then true else if op = 2 then h.f f.toNat == n else if op = 3 then !(Tm.holdsHead ks h) else if op = 4 then Tm.holdsAll ks h else if op = 5 then Tm.holdsAny ks h else false
def Tm.holdsHead : List Tm → Hdr → Bool
  | [], _ => false
  | t :: _, h => t.holds h
def Tm.holdsAll : List Tm → Hdr → Bool
  | [], _ => true
  | t :: ts, h => t.holds h && Tm.holdsAll ts h
def Tm.holdsAny : List Tm → Hdr → Bool
  | [], _ => false
  | t :: ts, h => t.holds h || Tm.holdsAny ts h
end
theorem Tm.holdsAll_true {x : Hdr} : ∀ {ks : List Tm}, (∀ m (h : m < ks.length), (ks[m]).holds x = true) → Tm.holdsAll ks x = true
  | [], _ => rfl
  | t :: ts, hv => by
    have h0 := hv 0 (by simp)
    have h1 := Tm.holdsAll_true (x := x) (ks := ts) (fun m h => by have := hv (m + 1) (by simpa using h); rwa [List.getElem_cons_succ] at this)
    rw [List.getElem_cons_zero] at h0
    simp only [Tm.holdsAll, h0, h1, Bool.and_self]
theorem Tm.holdsAll_false {x : Hdr} : ∀ {ks : List Tm} (j : Nat) (h : j < ks.length), (ks[j]).holds x = false → Tm.holdsAll ks x = false
  | t :: ts, 0, _, hv => by rw [List.getElem_cons_zero] at hv; simp [Tm.holdsAll, hv]
  | t :: ts, j + 1, h, hv => by rw [List.getElem_cons_succ] at hv; simp [Tm.holdsAll, Tm.holdsAll_false j (by simpa using h) hv]
theorem Tm.holdsAny_false {x : Hdr} : ∀ {ks : List Tm}, (∀ m (h : m < ks.length), (ks[m]).holds x = false) → Tm.holdsAny ks x = false
  | [], _ => rfl
  | t :: ts, hv => by
    have h0 := hv 0 (by simp)
    have h1 := Tm.holdsAny_false (x := x) (ks := ts) (fun m h => by have := hv (m + 1) (by simpa using h); rwa [List.getElem_cons_succ] at this)
    rw [List.getElem_cons_zero] at h0
    simp only [Tm.holdsAny, h0, h1, Bool.or_self]
theorem Tm.holdsAny_true {x : Hdr} : ∀ {ks : List Tm} (j : Nat) (h : j < ks.length), (ks[j]).holds x = true → Tm.holdsAny ks x = true
  | t :: ts, 0, _, hv => by rw [List.getElem_cons_zero] at hv; simp [Tm.holdsAny, hv]
  | t :: ts, j + 1, h, hv => by rw [List.getElem_cons_succ] at hv; simp [Tm.holdsAny, Tm.holdsAny_true j (by simpa using h) hv]

theorem Tm.rightAll_get {p : Bool} : ∀ {ks : List Tm}, Tm.rightAll ks p = true → ∀ i (h : i < ks.length), (ks[i]).right p = true
  | t :: ts, hr, 0, _ => by
    simp only [Tm.rightAll, Bool.and_eq_true] at hr
    rw [List.getElem_cons_zero]; exact hr.1
  | t :: ts, hr, i + 1, h => by
    simp only [Tm.rightAll, Bool.and_eq_true] at hr
    rw [List.getElem_cons_succ]; exact Tm.rightAll_get hr.2 i (by simpa using h)

/-- what a right predicate looks like -/
theorem Tm.right_pred {op f n : Int} {ks : List Tm} (h : (Tm.mk op f n ks).right true = true) :
    (op = 0 ∨ op = 1) ∨ (op = 2 ∧ 0 ≤ f ∧ f ≤ 10) ∨ ((op = 3 ∨ op = 4 ∨ op = 5) ∧ 1 ≤ ks.length ∧ Tm.rightAll ks true = true) := by
  rw [Tm.right] at h
  by_cases h0 : op < 0 ∨ 10 < op
  · rw [if_pos h0] at h; cases h
  rw [if_neg h0] at h
  obtain ⟨k, rfl⟩ := Int.eq_ofNat_of_zero_le (a := op) (by omega)
  rw [Int.toNat_natCast] at h
  have hk : k < 11 := by omega
  match k, hk with
  | 0, _ => exact .inl (.inl rfl)
  | 1, _ => exact .inl (.inr rfl)
  | 2, _ =>
    refine .inr (.inl ⟨rfl, ?_⟩)
    simp only [wantsOf, bne_self_eq_false, Bool.false_eq_true, if_false, if_true] at h
    split at h
    · cases h
    split at h
    · cases h
    have hw : widthI f ≠ 0 := fun e => by
      rw [fieldB, e] at h
      simp [fieldK] at h
    unfold widthI at hw
    constructor
    · rcases Int.lt_or_le f 0 with hl | hl
      · exfalso; revert hw; repeat rw [if_neg (by omega)]
        simp
      · exact hl
    · rcases Int.lt_or_le 10 f with hl | hl
      · exfalso; revert hw; repeat rw [if_neg (by omega)]
        simp
      · exact hl
  | 3, _ | 4, _ | 5, _ =>
    refine .inr (.inr ⟨by omega, ?_⟩)
    simp only [wantsOf, bne_self_eq_false, Bool.false_eq_true, if_false] at h
    split at h
    · cases h
    rename_i h1
    split at h
    · cases h
    split at h
    · cases h
    exact ⟨by omega, h⟩
  | 6, _ | 7, _ | 8, _ | 9, _ | 10, _ => simp [wantsOf] at h

end Go.Proofs.YtdijlnibmeapbaaGreatDoor
/- What a policy makes of a header, in plain words: with the bounds on sets, rounds and work. -/
namespace Go.Proofs.YtdijlnibmeapbaaGreatDoor
set_option linter.unusedSimpArgs false

/-- one header more; none: too many -/
def putM (l : List Hdr) (x : Hdr) : Option (List Hdr) := if x ∈ l then some l else if l.length < 64 then some (l ++ [x]) else none
def putAll : List Hdr → List Hdr → Option (List Hdr)
  | l, [] => some l
  | l, x :: xs => (putM l x).bind fun l' => putAll l' xs
/-- what F makes of many headers, gathered -/
def gather (F : Hdr → Int → Option (List Hdr × Int)) : List Hdr → List Hdr → Int → Option (List Hdr × Int)
  | [], S, c => some (S, c)
  | x :: xs, S, c => (F x c).bind fun r => (putAll S r.1).bind fun S' => gather F xs S' r.2
def allF (F : Hdr → Int → Option (List Hdr × Int)) (l : List Hdr) (c : Int) : Option (List Hdr × Int) := (gather F l [] c).map fun r => (sortH r.1, r.2)
/-- a round's new ones -/
def starPut : List Hdr → List Hdr → List Hdr → Option (List Hdr × List Hdr)
  | S, nx, [] => some (S, nx)
  | S, nx, x :: xs => if x ∈ S then starPut S nx xs else if S.length < 64 then starPut (S ++ [x]) (nx ++ [x]) xs else none
def starF (F : Hdr → Int → Option (List Hdr × Int)) : Nat → List Hdr → List Hdr → Int → Option (List Hdr × Int)
  | 0, _, _, _ => none
  | r + 1, S, fresh, c => (allF F fresh c).bind fun a => (starPut S [] a.1).bind fun p => if p.2 = [] then some (sortH p.1, a.2) else starF F r p.1 p.2 a.2
def askM (c k : Int) : Option Int := if c + k ≤ 65536 then some (c + k) else none

mutual
def Tm.ofT : Tm → Hdr → Int → Option (List Hdr × Int)
  | .mk op f n ks, x, c =>
    if op = 6 then (askM c (Tm.szAll ks + 1 : Nat)).bind fun c' => some (if Tm.holdsHead ks x then [x] else [], c')
    else if op = 7 then (askM c 1).bind fun c' => some ([x.put f.toNat n], c')
    else if op = 9 then Tm.thenT ks [x] c
    else if op = 10 then Tm.starT ks x c
    else (Tm.unionT ks x [] c).map fun r => (sortH r.1, r.2)
def Tm.thenT : List Tm → List Hdr → Int → Option (List Hdr × Int)
  | [], l, c => some (l, c)
  | t :: ts, l, c => (allF (fun x c => t.ofT x c) l c).bind fun r => Tm.thenT ts r.1 r.2
def Tm.starT : List Tm → Hdr → Int → Option (List Hdr × Int)
  | [], _, _ => none
  | t :: _, x, c => starF (fun x c => t.ofT x c) 64 [x] [x] c
def Tm.unionT : List Tm → Hdr → List Hdr → Int → Option (List Hdr × Int)
  | [], _, S, c => some (S, c)
  | t :: ts, x, S, c => (t.ofT x c).bind fun r => (putAll S r.1).bind fun S' => Tm.unionT ts x S' r.2
end

theorem putM_len {l l' : List Hdr} {x : Hdr} (h : putM l x = some l') (hl : l.length ≤ 64) : l'.length ≤ 64 := by
  unfold putM at h
  split at h
  · cases h; exact hl
  · split at h
    · cases h; simp; omega
    · cases h

/-- what a right policy looks like -/
theorem Tm.right_pol {op f n : Int} {ks : List Tm} (h : (Tm.mk op f n ks).right false = true) :
    (op = 6 ∧ ks.length = 1 ∧ Tm.rightAll ks true = true) ∨ (op = 7 ∧ 0 ≤ f ∧ f ≤ 10) ∨ (op = 10 ∧ ks.length = 1 ∧ Tm.rightAll ks false = true) ∨ ((op = 8 ∨ op = 9) ∧ 1 ≤ ks.length ∧ Tm.rightAll ks false = true) := by
  rw [Tm.right] at h
  by_cases h0 : op < 0 ∨ 10 < op
  · rw [if_pos h0] at h; cases h
  rw [if_neg h0] at h
  obtain ⟨k, rfl⟩ := Int.eq_ofNat_of_zero_le (a := op) (by omega)
  rw [Int.toNat_natCast] at h
  have hk : k < 11 := by omega
  match k, hk with
  | 0, _ | 1, _ | 2, _ | 3, _ | 4, _ | 5, _ => simp [wantsOf] at h
  | 6, _ =>
    refine .inl ⟨rfl, ?_⟩
    simp only [wantsOf, bne_self_eq_false, Bool.false_eq_true, if_false] at h
    split at h
    · cases h
    rename_i h1
    split at h
    · cases h
    rename_i h2
    split at h
    · cases h
    exact ⟨by omega, h⟩
  | 7, _ =>
    refine .inr (.inl ⟨rfl, ?_⟩)
    simp only [wantsOf, bne_self_eq_false, Bool.false_eq_true, if_false, if_true] at h
    split at h
    · cases h
    split at h
    · cases h
    have hw : widthI f ≠ 0 := fun e => by
      rw [fieldB, e] at h
      simp [fieldK] at h
    unfold widthI at hw
    constructor
    · rcases Int.lt_or_le f 0 with hl | hl
      · exfalso; revert hw; repeat rw [if_neg (by omega)]
        simp
      · exact hl
    · rcases Int.lt_or_le 10 f with hl | hl
      · exfalso; revert hw; repeat rw [if_neg (by omega)]
        simp
      · exact hl
  | 8, _ | 9, _ =>
    refine .inr (.inr (.inr ⟨by omega, ?_⟩))
    simp only [wantsOf, bne_self_eq_false, Bool.false_eq_true, if_false] at h
    split at h
    · cases h
    rename_i h1
    split at h
    · cases h
    split at h
    · cases h
    exact ⟨by omega, h⟩
  | 10, _ =>
    refine .inr (.inr (.inl ⟨rfl, ?_⟩))
    simp only [wantsOf, bne_self_eq_false, Bool.false_eq_true, if_false] at h
    split at h
    · cases h
    rename_i h1
    split at h
    · cases h
    rename_i h2
    split at h
    · cases h
    exact ⟨by omega, h⟩
end Go.Proofs.YtdijlnibmeapbaaGreatDoor
/- meaning.holds: the walk. -/
namespace Go.Proofs.YtdijlnibmeapbaaGreatDoor
open Go.RowKit
set_option linter.unusedSimpArgs false

end Go.Proofs.YtdijlnibmeapbaaGreatDoor
/- meaning.holds and meaning.Holds; meaning.terms; work.ask. -/
namespace Go.Proofs.YtdijlnibmeapbaaGreatDoor
open Go.RowKit
set_option linter.unusedSimpArgs false

/-- P19.1 -/
def holdsT (t : Tm) (x : Hdr) : Bool := decide (predT t = 0) && t.holds x
theorem predT_zero {t : Tm} (h : predT t = 0) : t.right true = true ∧ bigB [t] = false := by
  unfold predT at h
  split at h
  · cases h
  · rename_i hb
    split at h
    · rename_i hr; exact ⟨hr, by simpa using hb⟩
    · cases h

end Go.Proofs.YtdijlnibmeapbaaGreatDoor
/- work.all, from what work.of does. -/
namespace Go.Proofs.YtdijlnibmeapbaaGreatDoor
open Go.RowKit
set_option linter.unusedSimpArgs false

/-- a slice of headers whose memory lies from block lo on -/
def HSl (w : World) (lo : Nat) (l : List Hdr) (v : Value) : Prop :=
  ∃ p len cap, v = .slice p len cap ∧ len = l.length ∧ (l = [] ∨ ∃ b o, p = some ⟨b, o, none⟩ ∧ lo ≤ b ∧ w.rangeAt b o (flatH l))
theorem HSl.of_owns {w : World} {base : Nat} {l : List Hdr} {v : Value} (h : w.ownsRow base 25 11 v l.length (flatH l)) : HSl w base l v := by
  rcases h.2 with ⟨rfl, h0⟩ | ⟨g, cap, cur, rfl, hb, _⟩
  · exact ⟨none, 0, 0, rfl, h0.symm, .inl (List.length_eq_zero_iff.1 h0)⟩
  · exact ⟨_, _, _, rfl, rfl, .inr ⟨g, 0, rfl, hb, ownsRow_range h⟩⟩
theorem HSl.keep {S : Nat → Prop} {w w' : World} {lo : Nat} {l : List Hdr} {v : Value} (h : HSl w lo l v) (hk : Keep S w w') (hs : ∀ b, lo ≤ b → ¬ S b) : HSl w' lo l v := by
  obtain ⟨p, len, cap, rfl, hlen, hl⟩ := h
  exact ⟨p, len, cap, rfl, hlen, hl.imp id fun ⟨b, o, hp, hb, hr⟩ => ⟨b, o, hp, hb, hk.range hr (hs b hb)⟩⟩
theorem HSl.ext {w w' : World} {lo : Nat} {l : List Hdr} {v : Value} (h : HSl w lo l v) (hx : Ext w w') : HSl w' lo l v := h.keep (hx.keep fun _ => False) (fun _ _ h => h)
theorem HSl.mono {w : World} {lo lo' : Nat} {l : List Hdr} {v : Value} (h : HSl w lo l v) (hl : lo' ≤ lo) : HSl w lo' l v := by
  obtain ⟨p, len, cap, rfl, hlen, hh⟩ := h
  exact ⟨p, len, cap, rfl, hlen, hh.imp id fun ⟨b, o, hp, hb, hr⟩ => ⟨b, o, hp, by omega, hr⟩⟩

/-- the terms lie below, the counter lies above them -/
structure OfPre (t : Tm) (wb : Nat) (c : Int) (b o : Nat) (w0 w : World) : Prop where
  right : t.right false = true
  size : t.sz ≤ 4096
  at_ : t.At w0 b o
  ext : Ext w0 w
  above : w0.heap.size ≤ wb
  bd : 0 ≤ c ∧ c ≤ 65536
  cell : w.cell? ⟨wb, 0, none⟩ = some (.int .i64 c)
  fr : w.frozen? ⟨wb, 0, none⟩ = false
theorem OfPre.later {t : Tm} {wb : Nat} {c c' : Int} {b o : Nat} {w0 w w' : World} (h : OfPre t wb c b o w0 w) (hk : Keep (· = wb) w w') (hb : 0 ≤ c' ∧ c' ≤ 65536) (hc : w'.cell? ⟨wb, 0, none⟩ = some (.int .i64 c')) (hf : w'.frozen? ⟨wb, 0, none⟩ = false) : OfPre t wb c' b o w0 w' :=
  ⟨h.right, h.size, h.at_, h.ext.andKeep hk (fun i hi => by rw [hi]; exact h.above), h.above, hb, hc, hf⟩

/-- what is done to new blocks alone is kept, too -/
theorem Keep.trans' {S T : Nat → Prop} {a b c : World} (h : Keep S a b) (k : Keep T b c) (ht : ∀ i, T i → a.heap.size ≤ i) : Keep S a c :=
  ⟨k.os.trans h.os, k.tape.trans h.tape, k.output.trans h.output, Nat.le_trans h.size k.size, fun i hi hs => (k.block i (Nat.lt_of_lt_of_le hi h.size) (fun hti => by have := ht i hti; omega)).trans (h.block i hi hs)⟩
theorem ownsRow_base {w : World} {base base' : Nat} {e : TypeId} {size : Nat} {v : Value} {n : Nat} {xs : List Value} (h : w.ownsRow base e size v n xs) (hb : base' ≤ base) : w.ownsRow base' e size v n xs :=
  ⟨h.1, h.2.imp id fun ⟨g, cap, cur, hv, hg, rest⟩ => ⟨g, cap, cur, hv, Nat.le_trans hb hg, rest⟩⟩
theorem drop_get {α : Type} {l : List α} {j : Nat} (h : j < l.length) : l.drop j = l[j] :: l.drop (j + 1) := List.drop_eq_getElem_cons h

end Go.Proofs.YtdijlnibmeapbaaGreatDoor
/- work.of: filters and settings. -/
namespace Go.Proofs.YtdijlnibmeapbaaGreatDoor
open Go.RowKit
set_option linter.unusedSimpArgs false

theorem Tm.ofT_filter (f n : Int) (ks : List Tm) (x : Hdr) (c : Int) : (Tm.mk 6 f n ks).ofT x c = (askM c (Tm.szAll ks + 1 : Nat)).bind fun c' => some (if Tm.holdsHead ks x then [x] else [], c') := by
  rw [Tm.ofT, if_pos rfl]
theorem Tm.ofT_set (f n : Int) (ks : List Tm) (x : Hdr) (c : Int) : (Tm.mk 7 f n ks).ofT x c = (askM c 1).bind fun c' => some ([x.put f.toNat n], c') := by
  rw [Tm.ofT, if_neg (by omega), if_pos rfl]
theorem Tm.ofT_then (f n : Int) (ks : List Tm) (x : Hdr) (c : Int) : (Tm.mk 9 f n ks).ofT x c = Tm.thenT ks [x] c := by
  rw [Tm.ofT, if_neg (by omega), if_neg (by omega), if_pos rfl]
theorem Tm.ofT_star (f n : Int) (ks : List Tm) (x : Hdr) (c : Int) : (Tm.mk 10 f n ks).ofT x c = Tm.starT ks x c := by
  rw [Tm.ofT, if_neg (by omega), if_neg (by omega), if_neg (by omega), if_pos rfl]
theorem Tm.ofT_union (f n : Int) (ks : List Tm) (x : Hdr) (c : Int) : (Tm.mk 8 f n ks).ofT x c = (Tm.unionT ks x [] c).map fun r => (sortH r.1, r.2) := by
  rw [Tm.ofT, if_neg (by omega), if_neg (by omega), if_neg (by omega), if_neg (by omega)]

/-- a list of one header, made anew -/
theorem owns_one {w w' : World} {x : Hdr} (hb : w'.heap.size ≤ w.heap.size) : (w.alloc (.cells x.cs 25)).ownsRow w'.heap.size 25 11 (.slice (some ⟨w.heap.size, 0, none⟩) 1 1) [x].length (flatH [x]) := by
  have := World.ownsRow_lit (base := w'.heap.size) (e := 25) (size := 11) w x.cs 1 hb (by unfold maxLen; omega) (by rw [x.size_cs])
  simpa [flatH] using this

theorem rangeAt_set {w : World} {b f : Nat} {cs : Array Value} (h : w.rangeAt b 0 cs.toList) (hf : f < cs.size) (u : Value) : (w.setCell ⟨b, f, none⟩ u).rangeAt b 0 (cs.setIfInBounds f u).toList := fun j v hv => by
  rw [Nat.zero_add]
  rw [Array.getElem?_toList, Array.getElem?_setIfInBounds] at hv
  by_cases hj : f = j
  · subst hj
    rw [if_pos rfl, if_pos hf] at hv
    cases hv
    have h0 := h f (cs[f]) (by rw [Array.getElem?_toList]; exact Array.getElem?_eq_getElem hf)
    rw [Nat.zero_add] at h0
    exact World.cell?_setCell_same w ⟨b, f, none⟩ _ h0
  · rw [if_neg hj] at hv
    rw [World.cell?_setCell_other _ _ _ _ (fun e => hj (by injection e))]
    have := h j v (by rw [Array.getElem?_toList]; exact hv)
    rwa [Nat.zero_add] at this

end Go.Proofs.YtdijlnibmeapbaaGreatDoor
/- work.of: sequences and unions. -/
namespace Go.Proofs.YtdijlnibmeapbaaGreatDoor
open Go.RowKit
set_option linter.unusedSimpArgs false

theorem OfPre.kid {op f n : Int} {ks : List Tm} {wb : Nat} {c : Int} {b o : Nat} {w0 w : World} (h : OfPre (.mk op f n ks) wb c b o w0 w) (hra : Tm.rightAll ks false = true) (i : Nat) (hi : i < ks.length) {b' o' : Nat} (hall : Tm.AllAt w0 ks b' o') :
    OfPre (ks[i]) wb c b' (o' + i * 4) w0 w :=
  ⟨Tm.rightAll_get hra i hi, by have := h.size; have := Tm.sz_get i hi; simp only [Tm.sz] at *; omega, Tm.AllAt_get hall i hi, h.ext, h.above, h.bd, h.cell, h.fr⟩

theorem HSl.owned {w : World} {base lo : Nat} {l : List Hdr} {v : Value} (h : w.ownsRow base 25 11 v l.length (flatH l)) (hb : lo ≤ base) : HSl w lo l v := (HSl.of_owns h).mono hb

theorem Keep.owns {S : Nat → Prop} {w w' : World} {base : Nat} {e : TypeId} {size : Nat} {v : Value} {n : Nat} {xs : List Value} (hk : Keep S w w') (h : w.ownsRow base e size v n xs) (hs : ∀ i, base ≤ i → ¬ S i) : w'.ownsRow base e size v n xs :=
  ⟨h.1, h.2.imp id fun ⟨g, cap, cur, hv, hg, hc, rest⟩ => ⟨g, cap, cur, hv, hg, (hk.block g (Array.getElem?_eq_some_iff.1 hc).1 (hs g hg)).trans hc, rest⟩⟩

end Go.Proofs.YtdijlnibmeapbaaGreatDoor
/- work.of: unions. -/
namespace Go.Proofs.YtdijlnibmeapbaaGreatDoor
open Go.RowKit
set_option linter.unusedSimpArgs false

theorem Hdr.cs_eq (x : Hdr) : x.cs = #[.int .u64 (x.f 0), .int .u64 (x.f 1), .int .u64 (x.f 2), .int .u64 (x.f 3), .int .u64 (x.f 4), .int .u64 (x.f 5), .int .u64 (x.f 6), .int .u64 (x.f 7), .int .u64 (x.f 8), .int .u64 (x.f 9), .int .u64 (x.f 10)] := by
  apply Array.ext_getElem?
  intro i
  by_cases h : i < 11
  · rw [x.cell i h]
    match i, h with
    | 0, _ | 1, _ | 2, _ | 3, _ | 4, _ | 5, _ | 6, _ | 7, _ | 8, _ | 9, _ | 10, _ => rfl
  · rw [Array.getElem?_eq_none (by rw [x.size_cs]; omega), Array.getElem?_eq_none (by simp; omega)]
theorem loadH {W : World} {b o : Nat} {x : Hdr} (h : W.rangeAt b o x.cs.toList) : (Instr.loadAt 25 (.pointer (some ⟨b, o, none⟩))).run Tryz.prog W = .ok (.agg x.cs) W := by
  have := run_loadAt_mid (P := Tryz.prog) W b o 25 x.cs.toList _ h Tryz.underlying25 rfl (by rw [x.len_cs]; kernel_rfl)
  rwa [Array.toArray_toList] at this

theorem execLoadH {a : Act} {o : Oper} {x : Operand} {b f : Nat} {y : Hdr} {W : World} (ho : o.op = .load 25 x) (hx : a.eval x = .pointer (some ⟨b, f, none⟩)) (h : W.rangeAt b f y.cs.toList) : (execOp a.eval o).run Tryz.prog W = .ok (.value (.agg y.cs)) W := by
  have := loadH h
  unfold execOp
  simp only [ho, hx, Sem.run_bind, this, Result.andThen_ok]
  rfl

end Go.Proofs.YtdijlnibmeapbaaGreatDoor
/- work.of: stars. -/
namespace Go.Proofs.YtdijlnibmeapbaaGreatDoor
open Go.RowKit
set_option linter.unusedSimpArgs false

theorem starT_one (t : Tm) (x : Hdr) (c : Int) : Tm.starT [t] x c = starF (fun x c => t.ofT x c) 64 [x] [x] c := by rw [Tm.starT]

/-- behind an append to a row of one's own -/
theorem Keep.appended {S : Nat → Prop} {a b c : World} (h : Keep S a b) {o : Option Nat} (g : b.grownBy c o) (ho : ∀ i, o = some i → a.heap.size ≤ i) : Keep S a c :=
  h.trans' (T := fun i => o = some i) ⟨g.os, g.tape, g.output, g.size, fun i hi hs => g.block i hi (fun e => hs e.symm)⟩ (fun i hi => ho i hi)
theorem Keep.of_grown {b c : World} {o : Option Nat} (g : b.grownBy c o) : Keep (fun i => o = some i) b c := ⟨g.os, g.tape, g.output, g.size, fun i hi hs => g.block i hi (fun e => hs e.symm)⟩
theorem OfPre.other {T : Nat → Prop} {t : Tm} {wb : Nat} {c : Int} {b o : Nat} {w0 w w' : World} (h : OfPre t wb c b o w0 w) (hk : Keep T w w') (hT : ∀ i, T i → wb < i) : OfPre t wb c b o w0 w' :=
  ⟨h.right, h.size, h.at_, h.ext.andKeep hk (fun i hi => by have := hT i hi; have := h.above; omega), h.above, h.bd, hk.cell h.cell (fun e => by have := hT wb e; omega),
    by rw [World.frozen?_of_block (hk.block wb (World.block_lt_of_cell? _ _ h.cell) (fun e => by have := hT _ e; omega))]; exact h.fr⟩

end Go.Proofs.YtdijlnibmeapbaaGreatDoor
/- work.of, all kinds together. -/
namespace Go.Proofs.YtdijlnibmeapbaaGreatDoor
open Go.RowKit
set_option linter.unusedSimpArgs false

end Go.Proofs.YtdijlnibmeapbaaGreatDoor
/- meaning.Of: what is too big leaves the work by a panic that the deferred closure recovers. -/
namespace Go.Proofs.YtdijlnibmeapbaaGreatDoor
open Go.RowKit
set_option linter.unusedSimpArgs false

theorem checkT_zero {t : Tm} (h : checkT t = 0) : t.right false = true ∧ t.sz ≤ 4096 ∧ bigB [t] = false := by
  unfold checkT at h
  split at h
  · cases h
  · rename_i hb
    split at h
    · rename_i hr
      refine ⟨hr, ?_, by simpa using hb⟩
      have hb' : ¬ Tm.downAll [t] 4096 < 0 := fun h => hb (by simp [bigB, h])
      have := Tm.downAll_eq [t] 4096 (by omega)
      simp only [Tm.szAll] at this
      omega
    · cases h

/-- P19.2 -/
def ofC (t : Tm) (x : Hdr) : Int × List Hdr :=
  if checkT t = 0 then (match t.ofT x 0 with | some r => (0, r.1) | none => (200, [])) else (checkT t, [])

end Go.Proofs.YtdijlnibmeapbaaGreatDoor
/- The laws' own small functions: Same, alike. -/
namespace Go.Proofs.YtdijlnibmeapbaaGreatDoor
open Go.RowKit Go.Maps
set_option linter.unusedSimpArgs false

theorem eqH (x y : Hdr) (w : World) : (Op.equalIn 10000 25 (.agg x.cs) (.agg y.cs)).run Tryz.prog w = .ok (decide (x = y)) w := by
  obtain ⟨lx, hx⟩ := keyH x
  obtain ⟨ly, hy⟩ := keyH y
  obtain ⟨r, hr, hiff⟩ := run_equal_deep (P := Tryz.prog) w (m := 3) (by omega) (k := 25) (by kernel_rfl) (by kernel_rfl) hx hy
  have hd : r = decide (x = y) := by
    rw [Bool.eq_iff_iff, hiff, decide_eq_true_iff]
    constructor
    · rintro rfl
      exact codedH.inj (codedH.keyed.inj hx hy)
    · rintro rfl
      exact Option.some.inj (hx.symm.trans hy)
  rw [hd] at hr
  exact hr
theorem cellAt {w : World} {b o : Nat} {x : Hdr} (h : w.rangeAt b o x.cs.toList) (i : Nat) (hi : i < 11) : w.cell? ⟨b, o + i, none⟩ = some (.int .u64 (x.f i)) :=
  h i _ (by rw [Array.getElem?_toList]; exact x.cell i hi)
theorem guardH : Program.eqGuardType Tryz.prog Tryz.prog.depth 25 = false := by kernel_rfl

set_option maxRecDepth 100000 in
set_option maxHeartbeats 2000000 in
theorem same_any (l m : List Hdr) (u v : Value) (lo lo' : Nat) (w : World) (hu : HSl w lo l u) (hv : HSl w lo' m v) (h64 : l.length ≤ 64) :
    Calls Tryz.prog 14 #[u, v] w fun e w' => e = .returned (.bool (decide (l = m))) ∧ Ext w w' := by
  obtain ⟨p, len, cap, rfl, hlen, hl⟩ := hu
  obtain ⟨p', len', cap', rfl, hlen', hm⟩ := hv
  have HL := Lib.hid hlen
  have HL' := Lib.hid hlen'
  clear hlen hlen'
  have hlen64 : len ≤ 64 := by have := HL.out; omega
  by_cases hn : len = len'
  · subst hn
    have hd : ((len : Int) != len) = false := by simp
    go_enter Tryz.func14, Tryz.ntmps14
    go_wp2_with fail
    go_loopw [13] (fun i wr => ∃ (j n : Nat), j ≤ len ∧ i = .int .i64 j ∧ Hid (decide (l = m) = decide (l.drop j = m.drop j)) ∧ wr = w.drewN n) (fun i _ => len - (intOf i).toNat)
    case atStart => exact ⟨0, 0, Nat.zero_le _, rfl, rfl, rfl⟩
    case round =>
      obtain ⟨j, n, hj, rfl, hR, rfl⟩ := hrel
      by_cases hlt : j < len
      · have hjl : j < l.length := by rw [← HL.out]; exact hlt
        have hjm : j < m.length := by rw [← HL'.out]; exact hlt
        rcases hl with hl | ⟨b, o, rfl, -, hr⟩
        · exfalso; subst hl; simp at hjl
        rcases hm with hm | ⟨b', o', rfl, -, hr'⟩
        · exfalso; subst hm; simp at hjm
        have hrj := rangeAt_get Hdr.len_cs hr j hjl
        have hrj' := rangeAt_get Hdr.len_cs hr' j hjm
        have p0 : w.cell? ⟨b, o + j * 11, none⟩ = some (.int .u64 ((l[j]).f 0)) := cellAt hrj 0 (by omega)
        have p1 : w.cell? ⟨b, o + j * 11 + 1, none⟩ = some (.int .u64 ((l[j]).f 1)) := cellAt hrj 1 (by omega)
        have p2 : w.cell? ⟨b, o + j * 11 + 2, none⟩ = some (.int .u64 ((l[j]).f 2)) := cellAt hrj 2 (by omega)
        have p3 : w.cell? ⟨b, o + j * 11 + 3, none⟩ = some (.int .u64 ((l[j]).f 3)) := cellAt hrj 3 (by omega)
        have p4 : w.cell? ⟨b, o + j * 11 + 4, none⟩ = some (.int .u64 ((l[j]).f 4)) := cellAt hrj 4 (by omega)
        have p5 : w.cell? ⟨b, o + j * 11 + 5, none⟩ = some (.int .u64 ((l[j]).f 5)) := cellAt hrj 5 (by omega)
        have p6 : w.cell? ⟨b, o + j * 11 + 6, none⟩ = some (.int .u64 ((l[j]).f 6)) := cellAt hrj 6 (by omega)
        have p7 : w.cell? ⟨b, o + j * 11 + 7, none⟩ = some (.int .u64 ((l[j]).f 7)) := cellAt hrj 7 (by omega)
        have p8 : w.cell? ⟨b, o + j * 11 + 8, none⟩ = some (.int .u64 ((l[j]).f 8)) := cellAt hrj 8 (by omega)
        have p9 : w.cell? ⟨b, o + j * 11 + 9, none⟩ = some (.int .u64 ((l[j]).f 9)) := cellAt hrj 9 (by omega)
        have p10 : w.cell? ⟨b, o + j * 11 + 10, none⟩ = some (.int .u64 ((l[j]).f 10)) := cellAt hrj 10 (by omega)
        have q0 : w.cell? ⟨b', o' + j * 11, none⟩ = some (.int .u64 ((m[j]).f 0)) := cellAt hrj' 0 (by omega)
        have q1 : w.cell? ⟨b', o' + j * 11 + 1, none⟩ = some (.int .u64 ((m[j]).f 1)) := cellAt hrj' 1 (by omega)
        have q2 : w.cell? ⟨b', o' + j * 11 + 2, none⟩ = some (.int .u64 ((m[j]).f 2)) := cellAt hrj' 2 (by omega)
        have q3 : w.cell? ⟨b', o' + j * 11 + 3, none⟩ = some (.int .u64 ((m[j]).f 3)) := cellAt hrj' 3 (by omega)
        have q4 : w.cell? ⟨b', o' + j * 11 + 4, none⟩ = some (.int .u64 ((m[j]).f 4)) := cellAt hrj' 4 (by omega)
        have q5 : w.cell? ⟨b', o' + j * 11 + 5, none⟩ = some (.int .u64 ((m[j]).f 5)) := cellAt hrj' 5 (by omega)
        have q6 : w.cell? ⟨b', o' + j * 11 + 6, none⟩ = some (.int .u64 ((m[j]).f 6)) := cellAt hrj' 6 (by omega)
        have q7 : w.cell? ⟨b', o' + j * 11 + 7, none⟩ = some (.int .u64 ((m[j]).f 7)) := cellAt hrj' 7 (by omega)
        have q8 : w.cell? ⟨b', o' + j * 11 + 8, none⟩ = some (.int .u64 ((m[j]).f 8)) := cellAt hrj' 8 (by omega)
        have q9 : w.cell? ⟨b', o' + j * 11 + 9, none⟩ = some (.int .u64 ((m[j]).f 9)) := cellAt hrj' 9 (by omega)
        have q10 : w.cell? ⟨b', o' + j * 11 + 10, none⟩ = some (.int .u64 ((m[j]).f 10)) := cellAt hrj' 10 (by omega)
        have hg := guardH
        have HE := Lib.hid (show decide (l = m) = if l[j] = m[j] then decide (l.drop (j + 1) = m.drop (j + 1)) else false from by
          rw [hR.out, drop_get hjl, drop_get hjm]
          rw [Bool.eq_iff_iff]
          by_cases h : l[j] = m[j]
          · rw [if_pos h, decide_eq_true_iff, decide_eq_true_iff, List.cons.injEq]; exact ⟨fun a => a.2, fun a => ⟨h, a⟩⟩
          · rw [if_neg h, decide_eq_true_iff, List.cons.injEq]; exact ⟨fun a => absurd a.1 h, fun a => by cases a⟩)
        have he := eqH (l[j]) (m[j])
        simp only [Hdr.cs_eq] at he
        generalize l[j] = x at *
        generalize m[j] = y at *
        by_cases hxy : x = y
        · have HF := Lib.hid (HE.out.trans (if_pos hxy))
          rw [show decide (x = y) = true from by simpa using hxy] at he
          clear hxy HE
          go_wp2_with fail
          go_quiet (fail)
          go_wp2_with fail
          go_roundw
          case rel => exact ⟨j + 1, _, by omega, by go_num, HF.out, rfl⟩
          case measure => simp [intOf]; omega
        · have HF := Lib.hid (HE.out.trans (if_neg hxy))
          rw [show decide (x = y) = false from by simpa using hxy] at he
          clear hxy HE
          go_wp2_with fail
          go_quiet (fail)
          go_wp2_with fail
          go_ret
          exact ⟨by rw [HF.out]; rfl, (Ext.drewN _ _).andDrewN _⟩
      · have HF := Lib.hid (show decide (l = m) = true from by
          rw [hR.out, List.drop_of_length_le (by have := HL.out; omega), List.drop_of_length_le (by have := HL'.out; omega)]; rfl)
        go_wp2_with fail
        go_ret
        exact ⟨by rw [HF.out]; rfl, Ext.drewN _ _⟩
  · have HF := Lib.hid (show decide (l = m) = false from by
      simp only [decide_eq_false_iff_not]
      rintro rfl
      exact hn (HL.out.trans HL'.out.symm))
    have hd : ((len : Int) != len') = true := by simp; omega
    go_enter Tryz.func14, Tryz.ntmps14
    go_wp2_with fail
    go_ret
    exact ⟨by rw [HF.out]; rfl, Ext.refl _⟩
end Go.Proofs.YtdijlnibmeapbaaGreatDoor
/- Equal neighbours of headers once; rows of headers in memory. (The plain parts of XJCompact and XJCompact2, which the diagrams' texts cannot import beside the nodes'.) -/
namespace Go.Proofs.YtdijlnibmeapbaaGreatDoor
open Go.RowKit Go.Maps Go.Sort
set_option linter.unusedSimpArgs false

/-- equal neighbours once -/
def dd : List Hdr → List Hdr
  | [] => []
  | [x] => [x]
  | x :: y :: r => if x = y then dd (y :: r) else x :: dd (y :: r)
theorem dd_cons (x y : Hdr) (r : List Hdr) : dd (x :: y :: r) = if x = y then dd (y :: r) else x :: dd (y :: r) := by rw [dd]
theorem dd_snoc (z : Hdr) : ∀ (l : List Hdr) (y : Hdr), dd ((l ++ [y]) ++ [z]) = if y = z then dd (l ++ [y]) else dd (l ++ [y]) ++ [z]
  | [], y => by
    show dd [y, z] = _
    rw [dd]
    split <;> simp_all [dd]
  | [x], y => by
    have ih := dd_snoc z [] y
    show dd (x :: y :: [z]) = if y = z then dd (x :: y :: []) else dd (x :: y :: []) ++ [z]
    rw [dd_cons x y [z], dd_cons x y []]
    have ih' : dd [y, z] = if y = z then dd [y] else dd [y] ++ [z] := ih
    by_cases hxy : x = y
    · rw [if_pos hxy, if_pos hxy]; exact ih'
    · rw [if_neg hxy, if_neg hxy, ih']
      split <;> rfl
  | x :: w :: r, y => by
    have ih := dd_snoc z (w :: r) y
    show dd (x :: w :: ((r ++ [y]) ++ [z])) = if y = z then dd (x :: w :: (r ++ [y])) else dd (x :: w :: (r ++ [y])) ++ [z]
    rw [dd_cons, dd_cons]
    have ih' : dd (w :: ((r ++ [y]) ++ [z])) = if y = z then dd (w :: (r ++ [y])) else dd (w :: (r ++ [y])) ++ [z] := ih
    by_cases hxw : x = w
    · rw [if_pos hxw, if_pos hxw]; exact ih'
    · rw [if_neg hxw, if_neg hxw, ih']
      split <;> rfl
theorem dd_take {l : List Hdr} {i : Nat} (h0 : 0 < i) (hi : i < l.length) : dd (l.take (i + 1)) = if l[i - 1] = l[i] then dd (l.take i) else dd (l.take i) ++ [l[i]] := by
  obtain ⟨k, rfl⟩ : ∃ k, i = k + 1 := ⟨i - 1, by omega⟩
  have e1 : l.take (k + 1) = l.take k ++ [l[k]] := List.take_succ_eq_append_getElem (by omega)
  have e2 : l.take (k + 1 + 1) = l.take (k + 1) ++ [l[k + 1]] := List.take_succ_eq_append_getElem hi
  rw [e2, e1, dd_snoc]
  rfl
theorem dd_rises {l : List Hdr} : ∀ (k : Nat), k ≤ l.length → (∀ m (h : m < l.length), 0 < m → m < k → l[m - 1] ≠ l[m]) → dd (l.take k) = l.take k
  | 0, _, _ => by simp [dd]
  | k + 1, hk, h => by
    have ih := dd_rises k (by omega) (fun m hm h0 hmk => h m hm h0 (by omega))
    rcases Nat.eq_zero_or_pos k with rfl | hkp
    · rw [List.take_succ_eq_append_getElem hk]; simp [dd]
    · rw [dd_take hkp hk, if_neg (h k hk hkp (by omega)), ih, List.take_succ_eq_append_getElem hk]

theorem run_clear_H (w : World) (b o n c : Nat) (ht : w.there b o (n * 11)) :
    ∃ vs : List Value, vs.length = n * 11 ∧ ∀ ty : TypeId, (Builtin.clear_ #[34] ty #[.slice (some ⟨b, o, none⟩) n c]).run Tryz.prog w = .ok (.tuple #[]) (w.setCells b o vs) := by
  have hz : ∀ w : World, (zeroValue 25).run Tryz.prog w = .ok (.agg (Array.replicate 11 (.int .u64 0))) w := fun w => by kernel_rfl
  rcases Nat.eq_zero_or_pos n with rfl | hn
  · exact ⟨[], by simp, fun ty => by simp [Builtin.clear_, run_underlying Tryz.underlying34]; rfl⟩
  refine ⟨(Builtin.zeroCells (Value.agg (Array.replicate 11 (.int .u64 0))).cells n).toList, by simp [Builtin.zeroCells, Value.cells], fun ty => ?_⟩
  have hl : (Builtin.zeroCells (Value.agg (Array.replicate 11 (.int .u64 0))).cells n).toList.length = n * 11 := by simp [Builtin.zeroCells, Value.cells]
  have h1 : ∀ v ∈ (Builtin.zeroCells (Value.agg (Array.replicate 11 (.int .u64 0))).cells n).toList, v.oneCell' = true := by
    intro v hv
    simp only [Builtin.zeroCells, Value.cells, Array.toList_map, List.mem_map] at hv
    obtain ⟨i, -, rfl⟩ := hv
    have : i % 11 < 11 := Nat.mod_lt _ (by omega)
    simp [getElem!_pos, this]
    rfl
  have hst := run_storeCells_cells (P := Tryz.prog) b o (Builtin.zeroCells (Value.agg (Array.replicate 11 (.int .u64 0))).cells n).toList 0 w (fun j hj => (ht j (by rw [← hl]; exact hj)).1) (fun j hj => (ht j (by rw [← hl]; exact hj)).2) h1
  simp only [Nat.add_zero] at hst
  obtain ⟨m, rfl⟩ : ∃ m, n = m + 1 := ⟨n - 1, by omega⟩
  simp [Builtin.clear_, run_underlying Tryz.underlying34, hz, hst]

theorem there_keep {w w' : World} {g o n : Nat} (h : w.there g o n) (hx : Ext w w') : w'.there g o n := fun j hj => by
  obtain ⟨v, hv⟩ := Option.isSome_iff_exists.1 (h j hj).1
  refine ⟨by rw [hx.later _ _ hv]; rfl, ?_⟩
  rw [Below.frozen hx (World.block_lt_of_cell? w _ hv)]
  exact (h j hj).2
theorem flatH_len (l : List Hdr) : (flatH l).length = l.length * 11 := by
  induction l with
  | nil => rfl
  | cons x xs ih =>
    have e : flatH (x :: xs) = x.cs.toList ++ flatH xs := by simp [flatH]
    rw [e, List.length_append, ih, Hdr.len_cs, List.length_cons]; omega
/-- a row with one header set anew -/
theorem range_set {w : World} {g : Nat} {M : List Hdr} (h : w.rangeAt g 0 (flatH M)) (k : Nat) (hk : k < M.length) (x : Hdr) (ht : w.there g 0 (M.length * 11)) :
    (w.setCells g (k * 11) x.cs.toList).rangeAt g 0 (flatH (M.set k x)) := by
  have hl := x.len_cs
  have h1 : (w.setCells g (k * 11) x.cs.toList).rangeAt g (k * 11) x.cs.toList := World.rangeAt_setCells_same w g (k * 11) _ (fun j hj => by
    rw [hl] at hj
    have := ht (k * 11 + j) (by omega)
    simpa using this)
  have hM : M = M.take k ++ M[k] :: M.drop (k + 1) := by rw [← List.drop_eq_getElem_cons hk, List.take_append_drop]
  have hset : M.set k x = M.take k ++ x :: M.drop (k + 1) := by rw [List.set_eq_take_append_cons_drop, if_pos hk]
  have e0 : flatH M = flatH (M.take k) ++ ((M[k]).cs.toList ++ flatH (M.drop (k + 1))) := by
    refine (congrArg flatH hM).trans ?_
    simp only [flatH, List.flatMap_append, List.flatMap_cons]
  have e1 : flatH (M.set k x) = flatH (M.take k) ++ (x.cs.toList ++ flatH (M.drop (k + 1))) := by rw [hset]; simp [flatH]
  have l0 : (flatH (M.take k)).length = k * 11 := by rw [flatH_len, List.length_take]; congr 1; omega
  rw [e0] at h
  rw [e1]
  have ha : w.rangeAt g 0 (flatH (M.take k)) := fun j v hv => h j v (by rw [List.getElem?_append_left (List.getElem?_eq_some_iff.1 hv).1]; exact hv)
  have hb : w.rangeAt g (k * 11 + 11) (flatH (M.drop (k + 1))) := fun j v hv => by
    have := h (k * 11 + (11 + j)) v (by
      rw [List.getElem?_append_right (by omega), l0, show k * 11 + (11 + j) - k * 11 = 11 + j from by omega, List.getElem?_append_right (by rw [Hdr.len_cs]; omega), Hdr.len_cs, show 11 + j - 11 = j from by omega]
      exact hv)
    rwa [Nat.zero_add, ← Nat.add_assoc] at this
  have ha2 := World.rangeAt_setCells_apart ha g (k * 11) x.cs.toList (.inr (.inl (by rw [l0]; omega)))
  have hb2 := World.rangeAt_setCells_apart hb g (k * 11) x.cs.toList (.inr (.inr (by rw [hl]; omega)))
  intro j v hv
  rcases Nat.lt_or_ge j (k * 11) with hj | hj
  · refine ha2 j v ?_
    rwa [List.getElem?_append_left (by rw [l0]; exact hj)] at hv
  · rw [List.getElem?_append_right (by rw [l0]; exact hj), l0] at hv
    rcases Nat.lt_or_ge (j - k * 11) 11 with hj2 | hj2
    · rw [List.getElem?_append_left (by rw [hl]; exact hj2)] at hv
      have := h1 (j - k * 11) v hv
      rwa [show k * 11 + (j - k * 11) = 0 + j from by omega] at this
    · rw [List.getElem?_append_right (by rw [hl]; exact hj2), hl] at hv
      have := hb2 (j - k * 11 - 11) v hv
      rwa [show k * 11 + 11 + (j - k * 11 - 11) = 0 + j from by omega] at this
theorem range_head {w : World} {g : Nat} {M D : List Hdr} (h : w.rangeAt g 0 (flatH M)) (hD : M.take D.length = D) : w.rangeAt g 0 (flatH D) := fun j v hv => h j v (by
  have e : flatH M = flatH D ++ flatH (M.drop D.length) := by
    conv => lhs; rw [← List.take_append_drop D.length M, hD]
    simp [flatH]
  rw [e, List.getElem?_append_left (List.getElem?_eq_some_iff.1 hv).1]; exact hv)

end Go.Proofs.YtdijlnibmeapbaaGreatDoor
/- What a diagram makes of a header, in plain words. -/
namespace Go.Proofs.YtdijlnibmeapbaaGreatDoor
open Go.RowKit Go.Sort Go.Maps Go.Lib
set_option linter.unusedSimpArgs false

/-- the leaf that a header comes to -/
def downP : Nat → List NdD → Nat → Hdr → Nat
  | 0, _, a, _ => a
  | k + 1, L, a, h => if (nodeP L a).f < 0 then a else downP k L (if h.f (nodeP L a).f.toNat = (nodeP L a).n then (nodeP L a).hi.toNat else (nodeP L a).lo.toNat) h
def setRow (row : RowD) (h : Hdr) : Hdr := row.foldl (fun k y => k.put y.f.toNat y.n) h
def makeL (L : List NdD) (c : Nat) (h : Hdr) : List Hdr := dd (sortH ((nodeP L c).leaf.map fun r => setRow r h))
def runH (L : List NdD) (a : Int) (h : Hdr) : Int × List Hdr := if (getP L a).isSome then (0, makeL L (downP (a.toNat + 1) L a.toNat h) h) else (5, [])
theorem downP_fuel {L : List NdD} (hI : InvO L) {h : Hdr} : ∀ {k k' a : Nat}, a < L.length → a < k → a < k' → downP k L a h = downP k' L a h
  | 0, _, _, _, h1, _ => absurd h1 (Nat.not_lt_zero _)
  | _, 0, _, _, _, h1 => absurd h1 (Nat.not_lt_zero _)
  | k + 1, k' + 1, a, ha, h1, h2 => by
    rw [downP, downP]
    split
    · rfl
    · rename_i hf
      have hk := hI.kids ha (by omega)
      split
      · exact downP_fuel hI (by omega) (by omega) (by omega)
      · exact downP_fuel hI (by omega) (by omega) (by omega)
theorem dd_len_le : ∀ l : List Hdr, (dd l).length ≤ l.length
  | [] => by simp [dd]
  | [x] => by simp [dd]
  | x :: y :: r => by
    have ih := dd_len_le (y :: r)
    rw [dd_cons]
    split
    · simp only [List.length_cons] at *; omega
    · simp only [List.length_cons] at *; omega
theorem makeL_len {L : List NdD} {c : Nat} {h : Hdr} (hc : (nodeP L c).leaf.length ≤ 64) : (makeL L c h).length ≤ 64 := by
  unfold makeL
  refine Nat.le_trans (dd_len_le _) ?_
  unfold sortH
  rw [List.length_mergeSort, List.length_map]
  exact hc
end Go.Proofs.YtdijlnibmeapbaaGreatDoor
/- slices.Compact of headers, walked. -/
namespace Go.Proofs.YtdijlnibmeapbaaGreatDoor
open Go.RowKit Go.Maps Go.Sort
set_option linter.unusedSimpArgs false

set_option maxHeartbeats 4000000 in
set_option maxRecDepth 100000 in
theorem dcompact_any (l : List Hdr) (g len cap : Nat) (w : World) (hlen : len = l.length) (hcap : len ≤ cap) (hmax : cap ≤ 9223372036854775807) (hr : w.rangeAt g 0 (flatH l)) (ht : w.there g 0 (len * 11)) :
    Calls Tryz.prog 38 #[.slice (some ⟨g, 0, none⟩) len cap] w fun e w' => e = .returned (.slice (some ⟨g, 0, none⟩) (dd l).length cap) ∧ w'.rangeAt g 0 (flatH (dd l)) ∧ Keep (· = g) w w' := by
  have HL := Lib.hid hlen
  have HR := Lib.hid (fun W (hW : Ext w W) => World.rangeAt.later hW.later hr)
  have HTH := Lib.hid (fun W (hW : Ext w W) => there_keep ht hW)
  have HHU := Lib.hid (show Tryz.prog.underlying 25 = some (.array 11 23) from Tryz.underlying25)
  have HHI := Lib.hid (fun (x : Hdr) => show (Tryz.prog.info? 25).map (·.size) = some x.cs.toList.length from by rw [x.len_cs]; kernel_rfl)
  clear hlen hr ht
  by_cases h2 : len < 2
  · have HF := Lib.hid (show dd l = l from by
      have hll : l.length < 2 := by rw [← HL.out]; exact h2
      match l, hll with
      | [], _ => rfl
      | [x], _ => rfl)
    go_enter Tryz.func38, Tryz.ntmps38
    go_wp2_with fail
    go_ret
    exact ⟨by rw [HF.out, ← HL.out]; rfl, by rw [HF.out]; exact HR.out _ (Ext.refl _), Keep.refl _ _⟩
  go_enter Tryz.func38, Tryz.ntmps38
  go_wp2_with fail
  go_loopw [3] (fun i wr => ∃ k : Nat, k + 1 ≤ len ∧ i = .int .i64 (k + 1 : Nat) ∧ Hid (∀ m (h : m < l.length), 0 < m → m < k + 1 → l[m - 1] ≠ l[m]) ∧ Hid (Ext w wr)) (fun i _ => len - (intOf i).toNat)
  case atStart => exact ⟨0, by omega, rfl, fun m h h0 h1 => by omega, Ext.refl _⟩
  case round =>
    obtain ⟨wo, rfl⟩ : ∃ wo : World, wo = wr := ⟨_, rfl⟩
    obtain ⟨k, hk, rfl, hd, hx⟩ := hrel
    by_cases hlt : k + 1 < len
    · have hkl : k + 1 < l.length := by rw [← HL.out]; exact hlt
      have hrx := fun W (hW : Ext wo W) => rangeAt_get Hdr.len_cs (HR.out W (hx.out.trans hW)) (k + 1) hkl
      have hry := fun W (hW : Ext wo W) => rangeAt_get Hdr.len_cs (HR.out W (hx.out.trans hW)) k (by omega)
      simp only [Nat.zero_add] at hrx hry
      have HXK := Lib.hid (show ∃ x, x = l[k + 1] from ⟨_, rfl⟩)
      obtain ⟨x, hxe⟩ := HXK.out
      obtain ⟨y, hye⟩ : ∃ y, y = l[k]'(by omega) := ⟨_, rfl⟩
      rw [← hxe] at hrx
      rw [← hye] at hry
      have HXE := Lib.hid hxe
      have HYE := Lib.hid hye
      have HSS := Lib.hid (fun W (hW : Ext wo W) => (show (fun W => W.rangeAt g ((k + 1) * 11) x.cs.toList ∧ W.rangeAt g (k * 11) y.cs.toList) W from ⟨hrx W hW, hry W hW⟩))
      have he := fun w => eqH x y w
      have hg := guardH
      have hxd := Ext.drew wo
      have huH := HHU.out
      have hiH := HHI.out
      have hadd : ((k : Int) + 1 - 1) = k := by omega
      clear hrx hry hxe hye HXK
      go_upto_region 6 with fail
      refine wp_region_noPanic ?_
      refine wp_region_held_drew (S := (fun W => W.rangeAt g ((k + 1) * 11) x.cs.toList ∧ W.rangeAt g (k * 11) y.cs.toList)) (by kernel_rfl) (HSS.out _ hxd) (fun hHeld => ?_)
      refine wpAnyH_take (i := 0) (v := .slice (some ⟨g, 0, none⟩) len cap) rfl (by kernel_rfl) (by kernel_rfl) (by kernel_rfl) (fun _ _ _ h => h) (Or.inl ⟨by rfl, by (intro w hSw; (try dsimp only at hSw); go_simp; try (first | omega | (rw [IntKind.wrap_i64]; omega)))⟩) (by assumption) ?_
      try simp only [List.getElem_toArray, List.getElem_cons_zero, List.getElem_cons_succ, Act.put, List.setIfInBounds_toArray, List.set_cons_zero, List.set_cons_succ, Array.toArray_toList]
      refine wpAnyH_take (i := 1) (v := .int .i64 (k + 1 : Nat)) rfl (by kernel_rfl) (by kernel_rfl) (by kernel_rfl) (fun _ _ _ h => h) (Or.inl ⟨by rfl, by (intro w hSw; (try dsimp only at hSw); go_simp; try (first | omega | (rw [IntKind.wrap_i64]; omega)))⟩) (by assumption) ?_
      try simp only [List.getElem_toArray, List.getElem_cons_zero, List.getElem_cons_succ, Act.put, List.setIfInBounds_toArray, List.set_cons_zero, List.set_cons_succ, Array.toArray_toList]
      refine wpAnyH_take (i := 2) (v := .pointer (some ⟨g, (k + 1) * 11, none⟩)) rfl (by kernel_rfl) (by kernel_rfl) (by kernel_rfl) (fun _ _ _ h => h) (Or.inl ⟨by rfl, by (intro w hSw; (try dsimp only at hSw); go_simp; try (first | omega | (rw [IntKind.wrap_i64]; omega)))⟩) (by assumption) ?_
      try simp only [List.getElem_toArray, List.getElem_cons_zero, List.getElem_cons_succ, Act.put, List.setIfInBounds_toArray, List.set_cons_zero, List.set_cons_succ, Array.toArray_toList]
      refine wpAnyH_take (i := 3) (v := .agg x.cs.toList.toArray) rfl (by kernel_rfl) (by kernel_rfl) (by kernel_rfl) (fun _ _ _ h => h) ?_ (by assumption) ?_
      · try simp only [List.getElem_toArray, List.getElem_cons_zero, List.getElem_cons_succ]
        exact yieldsIf_load_mid (by rfl) _ _ rfl g ((k + 1) * 11) rfl x.cs.toList _ (fun w hSw => hSw.1) huH rfl (hiH x)
      try simp only [List.getElem_toArray, List.getElem_cons_zero, List.getElem_cons_succ, Act.put, List.setIfInBounds_toArray, List.set_cons_zero, List.set_cons_succ, Array.toArray_toList]
      refine wpAnyH_take (i := 4) (v := .slice (some ⟨g, 0, none⟩) len cap) rfl (by kernel_rfl) (by kernel_rfl) (by kernel_rfl) (fun _ _ _ h => h) (Or.inl ⟨by rfl, by (intro w hSw; (try dsimp only at hSw); go_simp; try (first | omega | (rw [IntKind.wrap_i64]; omega)))⟩) (by assumption) ?_
      try simp only [List.getElem_toArray, List.getElem_cons_zero, List.getElem_cons_succ, Act.put, List.setIfInBounds_toArray, List.set_cons_zero, List.set_cons_succ, Array.toArray_toList]
      refine wpAnyH_take (i := 5) (v := .int .i64 (k + 1 : Nat)) rfl (by kernel_rfl) (by kernel_rfl) (by kernel_rfl) (fun _ _ _ h => h) (Or.inl ⟨by rfl, by (intro w hSw; (try dsimp only at hSw); go_simp; try (first | omega | (rw [IntKind.wrap_i64]; omega)))⟩) (by assumption) ?_
      try simp only [List.getElem_toArray, List.getElem_cons_zero, List.getElem_cons_succ, Act.put, List.setIfInBounds_toArray, List.set_cons_zero, List.set_cons_succ, Array.toArray_toList]
      refine wpAnyH_take (i := 6) (v := .int .i64 k) rfl (by kernel_rfl) (by kernel_rfl) (by kernel_rfl) (fun _ _ _ h => h) (Or.inl ⟨by rfl, by (intro w hSw; (try dsimp only at hSw); go_simp; try (first | omega | (rw [IntKind.wrap_i64]; omega)))⟩) (by assumption) ?_
      try simp only [List.getElem_toArray, List.getElem_cons_zero, List.getElem_cons_succ, Act.put, List.setIfInBounds_toArray, List.set_cons_zero, List.set_cons_succ, Array.toArray_toList]
      refine wpAnyH_take (i := 7) (v := .pointer (some ⟨g, k * 11, none⟩)) rfl (by kernel_rfl) (by kernel_rfl) (by kernel_rfl) (fun _ _ _ h => h) (Or.inl ⟨by rfl, by (intro w hSw; (try dsimp only at hSw); go_simp; try (first | omega | (rw [IntKind.wrap_i64]; omega)))⟩) (by assumption) ?_
      try simp only [List.getElem_toArray, List.getElem_cons_zero, List.getElem_cons_succ, Act.put, List.setIfInBounds_toArray, List.set_cons_zero, List.set_cons_succ, Array.toArray_toList]
      refine wpAnyH_take (i := 8) (v := .agg y.cs.toList.toArray) rfl (by kernel_rfl) (by kernel_rfl) (by kernel_rfl) (fun _ _ _ h => h) ?_ (by assumption) ?_
      · try simp only [List.getElem_toArray, List.getElem_cons_zero, List.getElem_cons_succ]
        exact yieldsIf_load_mid (by rfl) _ _ rfl g (k * 11) rfl y.cs.toList _ (fun w hSw => hSw.2) huH rfl (hiH y)
      try simp only [List.getElem_toArray, List.getElem_cons_zero, List.getElem_cons_succ, Act.put, List.setIfInBounds_toArray, List.set_cons_zero, List.set_cons_succ, Array.toArray_toList]
      refine wpAnyH_take (i := 9) (v := .bool (decide (x = y))) rfl (by kernel_rfl) (by kernel_rfl) (by kernel_rfl) (fun _ _ _ h => h) (Or.inl ⟨by rfl, by (intro w hSw; (try dsimp only at hSw); go_simp; try (first | omega | (rw [IntKind.wrap_i64]; omega)))⟩) (by assumption) ?_
      try simp only [List.getElem_toArray, List.getElem_cons_zero, List.getElem_cons_succ, Act.put, List.setIfInBounds_toArray, List.set_cons_zero, List.set_cons_succ, Array.toArray_toList]
      refine wpAnyH_done (by kernel_rfl) ?_ _
      refine NoPanic.normal ?_
      obtain ⟨w5, hx5e⟩ : ∃ W : World, W = wo.drew := ⟨_, rfl⟩
      rw [← hx5e]
      have hx5 : Ext wo.drew w5 := hx5e ▸ Ext.refl _
      clear hx5e he hg
      have HX5 := Lib.hid (hx.out.trans (hxd.trans hx5))
      cases hxy : decide (x = y) with
      | false =>
        have HNE := Lib.hid (show l[k]'(by omega) ≠ l[k + 1] from by rw [← HXE.out, ← HYE.out]; exact fun e => by simp [e] at hxy)
        clear hxy
        go_wp2_with fail
        go_roundw
        case rel => exact ⟨k + 1, by omega, by go_num, fun m h h0 h1 => by
          rcases Nat.lt_succ_iff_lt_or_eq.1 h1 with h2 | rfl
          · exact hd.out m h h0 h2
          · exact HNE.out, HX5.out⟩
        case measure => simp [intOf]; omega
      | true =>
        have HK := Lib.hid (show dd (l.take (k + 1 + 1)) = l.take (k + 1) from by
          rw [dd_take (by omega) hkl, if_pos (by
            have := of_decide_eq_true hxy
            show l[k]'(by omega) = l[k + 1]
            rw [← HXE.out, ← HYE.out, this])]
          exact dd_rises (k + 1) (by omega) hd.out)
        have HR5 := Lib.hid (HR.out _ HX5.out)
        have HT5 := Lib.hid (HTH.out _ HX5.out)
        clear hxy hd HSS HXE HYE
        go_wp2_with fail
        try rw [show ((k + 1 : Nat) : Int) = (k : Int) + 1 from by omega]
        rw [show decide (((k : Int) + 1) < (len : Int)) = true from decide_eq_true (by omega)]
        go_loopw [3, 5] (fun i j wr => ∃ (kk k2 : Nat) (M : List Hdr), k + 1 + (k2 + 1) ≤ len ∧ kk ≤ k + 1 + k2 ∧ i = .int .i64 kk ∧ j = .int .i64 (k2 + 1 : Nat) ∧ Hid (kk = (dd (l.take (k + 1 + (k2 + 1)))).length) ∧ M.length = len ∧ Hid (M.take kk = dd (l.take (k + 1 + (k2 + 1)))) ∧ Hid (∀ i (h : i < l.length) (h' : i < M.length), k + 1 + k2 ≤ i → M[i] = l[i]) ∧ Hid (wr.rangeAt g 0 (flatH M)) ∧ Hid (wr.there g 0 (len * 11)) ∧ Hid (Keep (· = g) w wr)) (fun _ j _ => len - (intOf j).toNat)
        case atStart => exact ⟨k + 1, 0, l, by omega, by omega, rfl, rfl, by show k + 1 = (dd (l.take (k + 1 + 1))).length; rw [HK.out, List.length_take]; omega, HL.out.symm, HK.out.symm, fun i h h' hi => rfl, HR5.out, HT5.out, HX5.out.keep _⟩
        case round =>
          obtain ⟨wi, rfl⟩ : ∃ wi : World, wi = wr := ⟨_, rfl⟩
          obtain ⟨kk, k2, M, hk2, hkk, rfl, rfl, hkl2, hML, hMt, hMi, hMr, hMth, hMk⟩ := hrel
          by_cases hlt2 : k + 1 + (k2 + 1) < len
          · have hil : k + 1 + (k2 + 1) < l.length := by rw [← HL.out]; exact hlt2
            have hrx := fun W (hW : Ext wi W) => rangeAt_get Hdr.len_cs (World.rangeAt.later hW.later hMr.out) (k + 1 + (k2 + 1)) (by omega)
            have hry := fun W (hW : Ext wi W) => rangeAt_get Hdr.len_cs (World.rangeAt.later hW.later hMr.out) (k + 1 + k2) (by omega)
            simp only [Nat.zero_add] at hrx hry
            obtain ⟨x, hxe⟩ : ∃ x, x = M[k + 1 + (k2 + 1)]'(by omega) := ⟨_, rfl⟩
            obtain ⟨y, hye⟩ : ∃ y, y = M[k + 1 + k2]'(by omega) := ⟨_, rfl⟩
            rw [← hxe, show (k + 1 + (k2 + 1)) * 11 = (k + 1) * 11 + (k2 + 1) * 11 from by omega] at hrx
            rw [← hye, show (k + 1 + k2) * 11 = (k + 1) * 11 + k2 * 11 from by omega] at hry
            have HXE := Lib.hid (show x = l[k + 1 + (k2 + 1)] from by rw [hxe]; exact hMi.out _ hil (by omega) (by omega))
            have HYE := Lib.hid (show y = l[k + 1 + k2]'(by omega) from by rw [hye]; exact hMi.out _ (by omega) (by omega) (by omega))
            have HSS := Lib.hid (fun W (hW : Ext wi W) => (show (fun W => W.rangeAt g ((k + 1) * 11 + (k2 + 1) * 11) x.cs.toList ∧ W.rangeAt g ((k + 1) * 11 + k2 * 11) y.cs.toList) W from ⟨hrx W hW, hry W hW⟩))
            have he := fun w => eqH x y w
            have hg := guardH
            have hxd := Ext.drew wi
            have huH := HHU.out
            have hiH := HHI.out
            have hadd : ((k2 : Int) + 1 - 1) = k2 := by omega
            clear hrx hry hxe hye
            go_upto_region 11 with fail
            refine wp_region_noPanic ?_
            refine wp_region_held_drew (S := (fun W => W.rangeAt g ((k + 1) * 11 + (k2 + 1) * 11) x.cs.toList ∧ W.rangeAt g ((k + 1) * 11 + k2 * 11) y.cs.toList)) (by kernel_rfl) (HSS.out _ hxd) (fun hHeld => ?_)
            refine wpAnyH_take (i := 0) (v := .slice (some ⟨g, (k + 1) * 11, none⟩) (len - (k + 1)) (cap - (k + 1))) rfl (by kernel_rfl) (by kernel_rfl) (by kernel_rfl) (fun _ _ _ h => h) (Or.inl ⟨by rfl, by (intro w hSw; (try dsimp only at hSw); go_simp; try (first | omega | (rw [IntKind.wrap_i64]; omega)))⟩) (by assumption) ?_
            try simp only [List.getElem_toArray, List.getElem_cons_zero, List.getElem_cons_succ, Act.put, List.setIfInBounds_toArray, List.set_cons_zero, List.set_cons_succ, Array.toArray_toList]
            refine wpAnyH_take (i := 1) (v := .int .i64 (k2 + 1 : Nat)) rfl (by kernel_rfl) (by kernel_rfl) (by kernel_rfl) (fun _ _ _ h => h) (Or.inl ⟨by rfl, by (intro w hSw; (try dsimp only at hSw); go_simp; try (first | omega | (rw [IntKind.wrap_i64]; omega)))⟩) (by assumption) ?_
            try simp only [List.getElem_toArray, List.getElem_cons_zero, List.getElem_cons_succ, Act.put, List.setIfInBounds_toArray, List.set_cons_zero, List.set_cons_succ, Array.toArray_toList]
            refine wpAnyH_take (i := 2) (v := .pointer (some ⟨g, (k + 1) * 11 + (k2 + 1) * 11, none⟩)) rfl (by kernel_rfl) (by kernel_rfl) (by kernel_rfl) (fun _ _ _ h => h) (Or.inl ⟨by rfl, by (intro w hSw; (try dsimp only at hSw); go_simp; try (first | omega | (rw [IntKind.wrap_i64]; omega)))⟩) (by assumption) ?_
            try simp only [List.getElem_toArray, List.getElem_cons_zero, List.getElem_cons_succ, Act.put, List.setIfInBounds_toArray, List.set_cons_zero, List.set_cons_succ, Array.toArray_toList]
            refine wpAnyH_take (i := 3) (v := .agg x.cs.toList.toArray) rfl (by kernel_rfl) (by kernel_rfl) (by kernel_rfl) (fun _ _ _ h => h) ?_ (by assumption) ?_
            · try simp only [List.getElem_toArray, List.getElem_cons_zero, List.getElem_cons_succ]
              exact yieldsIf_load_mid (by rfl) _ _ rfl g ((k + 1) * 11 + (k2 + 1) * 11) rfl x.cs.toList _ (fun w hSw => hSw.1) huH rfl (hiH x)
            try simp only [List.getElem_toArray, List.getElem_cons_zero, List.getElem_cons_succ, Act.put, List.setIfInBounds_toArray, List.set_cons_zero, List.set_cons_succ, Array.toArray_toList]
            refine wpAnyH_take (i := 4) (v := .slice (some ⟨g, (k + 1) * 11, none⟩) (len - (k + 1)) (cap - (k + 1))) rfl (by kernel_rfl) (by kernel_rfl) (by kernel_rfl) (fun _ _ _ h => h) (Or.inl ⟨by rfl, by (intro w hSw; (try dsimp only at hSw); go_simp; try (first | omega | (rw [IntKind.wrap_i64]; omega)))⟩) (by assumption) ?_
            try simp only [List.getElem_toArray, List.getElem_cons_zero, List.getElem_cons_succ, Act.put, List.setIfInBounds_toArray, List.set_cons_zero, List.set_cons_succ, Array.toArray_toList]
            refine wpAnyH_take (i := 5) (v := .int .i64 (k2 + 1 : Nat)) rfl (by kernel_rfl) (by kernel_rfl) (by kernel_rfl) (fun _ _ _ h => h) (Or.inl ⟨by rfl, by (intro w hSw; (try dsimp only at hSw); go_simp; try (first | omega | (rw [IntKind.wrap_i64]; omega)))⟩) (by assumption) ?_
            try simp only [List.getElem_toArray, List.getElem_cons_zero, List.getElem_cons_succ, Act.put, List.setIfInBounds_toArray, List.set_cons_zero, List.set_cons_succ, Array.toArray_toList]
            refine wpAnyH_take (i := 6) (v := .int .i64 k2) rfl (by kernel_rfl) (by kernel_rfl) (by kernel_rfl) (fun _ _ _ h => h) (Or.inl ⟨by rfl, by (intro w hSw; (try dsimp only at hSw); go_simp; try (first | omega | (rw [IntKind.wrap_i64]; omega)))⟩) (by assumption) ?_
            try simp only [List.getElem_toArray, List.getElem_cons_zero, List.getElem_cons_succ, Act.put, List.setIfInBounds_toArray, List.set_cons_zero, List.set_cons_succ, Array.toArray_toList]
            refine wpAnyH_take (i := 7) (v := .pointer (some ⟨g, (k + 1) * 11 + k2 * 11, none⟩)) rfl (by kernel_rfl) (by kernel_rfl) (by kernel_rfl) (fun _ _ _ h => h) (Or.inl ⟨by rfl, by (intro w hSw; (try dsimp only at hSw); go_simp; try (first | omega | (rw [IntKind.wrap_i64]; omega)))⟩) (by assumption) ?_
            try simp only [List.getElem_toArray, List.getElem_cons_zero, List.getElem_cons_succ, Act.put, List.setIfInBounds_toArray, List.set_cons_zero, List.set_cons_succ, Array.toArray_toList]
            refine wpAnyH_take (i := 8) (v := .agg y.cs.toList.toArray) rfl (by kernel_rfl) (by kernel_rfl) (by kernel_rfl) (fun _ _ _ h => h) ?_ (by assumption) ?_
            · try simp only [List.getElem_toArray, List.getElem_cons_zero, List.getElem_cons_succ]
              exact yieldsIf_load_mid (by rfl) _ _ rfl g ((k + 1) * 11 + k2 * 11) rfl y.cs.toList _ (fun w hSw => hSw.2) huH rfl (hiH y)
            try simp only [List.getElem_toArray, List.getElem_cons_zero, List.getElem_cons_succ, Act.put, List.setIfInBounds_toArray, List.set_cons_zero, List.set_cons_succ, Array.toArray_toList]
            refine wpAnyH_take (i := 9) (v := .bool (!decide (x = y))) rfl (by kernel_rfl) (by kernel_rfl) (by kernel_rfl) (fun _ _ _ h => h) (Or.inl ⟨by rfl, by (intro w hSw; (try dsimp only at hSw); go_simp; try (first | omega | (rw [IntKind.wrap_i64]; omega)))⟩) (by assumption) ?_
            try simp only [List.getElem_toArray, List.getElem_cons_zero, List.getElem_cons_succ, Act.put, List.setIfInBounds_toArray, List.set_cons_zero, List.set_cons_succ, Array.toArray_toList]
            refine wpAnyH_done (by kernel_rfl) ?_ _
            refine NoPanic.normal ?_
            obtain ⟨w5, hx5e⟩ : ∃ W : World, W = wi.drew := ⟨_, rfl⟩
            rw [← hx5e]
            have hx5 : Ext wi.drew w5 := hx5e ▸ Ext.refl _
            clear hx5e he hg
            have hx5' : Ext wi w5 := hxd.trans hx5
            have HMR5 := Lib.hid (World.rangeAt.later hx5'.later hMr.out)
            have HMT5 := Lib.hid (there_keep hMth.out hx5')
            have HMK5 := Lib.hid (hMk.out.trans (hx5'.keep _))
            have HRX5 := Lib.hid (HSS.out w5 hx5').1
            cases hxy : decide (x = y) with
            | true =>
              have HDT := Lib.hid (show dd (l.take (k + 1 + (k2 + 1 + 1))) = dd (l.take (k + 1 + (k2 + 1))) from by
                have := dd_take (l := l) (i := k + 1 + (k2 + 1)) (by omega) hil
                rw [show k + 1 + (k2 + 1) + 1 = k + 1 + (k2 + 1 + 1) from by omega, if_pos (by
                  have := of_decide_eq_true hxy
                  show l[k + 1 + k2]'(by omega) = l[k + 1 + (k2 + 1)]
                  rw [← HXE.out, ← HYE.out, this])] at this
                exact this)
              clear hxy HSS HXE HYE hMr hMth hMk
              go_wp2_with fail
              go_roundw
              case rel => exact ⟨kk, k2 + 1, M, by omega, by omega, rfl, by go_num, by rw [HDT.out]; exact hkl2.out, hML, by rw [HDT.out]; exact hMt.out, fun i h h' hi => hMi.out i h h' (by omega), HMR5.out, HMT5.out, HMK5.out⟩
              case measure => simp [intOf]; omega
            | false =>
              have HDT := Lib.hid (show dd (l.take (k + 1 + (k2 + 1 + 1))) = dd (l.take (k + 1 + (k2 + 1))) ++ [x] from by
                have := dd_take (l := l) (i := k + 1 + (k2 + 1)) (by omega) hil
                rw [show k + 1 + (k2 + 1) + 1 = k + 1 + (k2 + 1 + 1) from by omega, if_neg (by
                  have := of_decide_eq_false hxy
                  show ¬ l[k + 1 + k2]'(by omega) = l[k + 1 + (k2 + 1)]
                  rw [← HXE.out, ← HYE.out]
                  exact fun e => this e.symm), ← HXE.out] at this
                exact this)
              have hkM : kk < M.length := by omega
              have HMR6 := Lib.hid (range_set HMR5.out kk hkM x (by rw [hML]; exact HMT5.out))
              have hthk : w5.there g (kk * 11) x.cs.size := fun j hj => by
                rw [x.size_cs] at hj
                have := HMT5.out (kk * 11 + j) (by omega)
                simpa using this
              have HTK := Lib.hid hthk
              have HMT6 := Lib.hid (World.there_setCells HMT5.out g (kk * 11) x.cs.toList)
              have HMK6 := Lib.hid (HMK5.out.trans (keep_setCells g (kk * 11) x.cs.toList))
              have HMt6 := Lib.hid (show (M.set kk x).take (kk + 1) = dd (l.take (k + 1 + (k2 + 1 + 1))) from by
                rw [HDT.out, ← hMt.out, List.take_succ_eq_append_getElem (by rw [List.length_set]; exact hkM), List.getElem_set_self, List.take_set_of_le (Nat.le_refl _)])
              have HMi6 := Lib.hid (show ∀ i (h : i < l.length) (h' : i < (M.set kk x).length), k + 1 + (k2 + 1) ≤ i → (M.set kk x)[i] = l[i] from fun i h h' hi => by
                rw [List.getElem_set_ne (by omega)]
                exact hMi.out i h (by rw [List.length_set] at h'; exact h') (by omega))
              have HHS := Lib.hid (show (Tryz.prog.info? 25).map (·.size) = some x.cs.size from by rw [x.size_cs]; kernel_rfl)
              clear hxy HSS HXE HYE hMr hMth hMk hthk hMt hMi
              go_wp2_with (first
                | (refine wpList_load_H rfl _ rfl g ((k + 1) * 11 + (k2 + 1) * 11) rfl x HRX5.out ?_)
                | (refine wpList_store_mid rfl 25 _ _ rfl g (kk * 11) x.cs rfl rfl HTK.out HHS.out (all_oneCell_toArray x.one) ?_))
              go_roundw
              case rel => exact ⟨kk + 1, k2 + 1, M.set kk x, by omega, by omega, by go_num, by go_num, by rw [HDT.out, List.length_append, ← hkl2.out]; rfl, by rw [List.length_set]; exact hML, HMt6.out, HMi6.out, HMR6.out, HMT6.out, HMK6.out⟩
              case measure => simp [intOf]; omega
          · have hfull : k + 1 + (k2 + 1) = l.length := by have := HL.out; omega
            have HDL := Lib.hid (show dd (l.take (k + 1 + (k2 + 1))) = dd l from by rw [hfull, List.take_length])
            have HKL := Lib.hid (show (dd l).length = kk from by rw [← HDL.out]; exact hkl2.out.symm)
            have hths : wi.there g (kk * 11) ((len - kk) * 11) := fun j hj => by
              have := hMth.out (kk * 11 + j) (by omega)
              simpa using this
            obtain ⟨vs, hvs, hcl⟩ := run_clear_H wi g (kk * 11) (len - kk) (cap - kk) hths
            have HF1 := Lib.hid (World.rangeAt_setCells_apart (range_head (D := dd l) hMr.out (by rw [HKL.out, ← HDL.out]; exact hMt.out)) g (kk * 11) vs (.inr (.inl (by rw [flatH_len, HKL.out]; omega))))
            have HF2 := Lib.hid (hMk.out.trans (keep_setCells g (kk * 11) vs))
            clear hMr hMth hMk hMt hMi hths hvs hkl2
            go_wp2_with fail
            go_ret
            exact ⟨by rw [HKL.out]; rfl, HF1.out, HF2.out⟩
    · have HF := Lib.hid (show dd l = l from by
        have := dd_rises (l := l) l.length (Nat.le_refl _) (fun m h h0 _ => hd.out m h h0 (by have := HL.out; omega))
        rwa [List.take_length] at this)
      clear hd
      go_wp2_with fail
      go_ret
      exact ⟨by rw [HF.out, ← HL.out]; rfl, by rw [HF.out]; exact HR.out _ hx.out, hx.out.keep _⟩
end Go.Proofs.YtdijlnibmeapbaaGreatDoor
