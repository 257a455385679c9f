/- 'for k, v := range m' over a map that the round does not write. -/
import Derived.Test.YtddeelepaiklgaaMap
namespace Go.Proofs.Ytddeelepaiklgaa
open Go.RowKit Go.Maps

/-- block r is an iterator over block b, a map that holds m; done has come out, in this order -/
def Ranging (w : World) (r b : Nat) (m done : List (Value × Value)) : Prop :=
  ∃ es clock seen, w.heap[r]? = some (.mapIter (some b) clock seen clock) ∧ w.heap[b]? = some (.map es clock) ∧ es.toList.map (fun e => (e.key, e.val)) = m ∧
    (∀ e ∈ es.toList, e.born < clock) ∧ (es.toList.map (·.born)).Nodup ∧ (done ++ ((leftOf es seen).toList.map fun e => (e.key, e.val))).Perm m ∧ (∀ x ∈ seen.toList, x ∈ es.toList.map (·.born))

theorem nodup_of_map {α β : Type} {f : α → β} {l : List α} (h : (l.map f).Nodup) : l.Nodup := (List.pairwise_map.1 h).imp (fun hne he => hne (by rw [he]))
theorem inj_of_nodup_map {α β : Type} {f : α → β} : ∀ {l : List α}, (l.map f).Nodup → ∀ {x y : α}, x ∈ l → y ∈ l → f x = f y → x = y
  | a :: r, h, x, y, hx, hy, he => by
    rw [List.map_cons, List.nodup_cons] at h
    rcases List.mem_cons.1 hx with hxa | hxr
    · rcases List.mem_cons.1 hy with hya | hyr
      · rw [hxa, hya]
      · exact absurd (List.mem_map.2 ⟨y, hyr, by rw [← he, hxa]⟩) h.1
    · rcases List.mem_cons.1 hy with hya | hyr
      · exact absurd (List.mem_map.2 ⟨x, hxr, by rw [he, hya]⟩) h.1
      · exact inj_of_nodup_map h.2 hxr hyr he
theorem leftOf_toList (es : Array MapEntry) (seen : Array Nat) : (leftOf es seen).toList = es.toList.filter fun e => !seen.contains e.born := by simp [leftOf]

theorem Ranging.map {w : World} {r b : Nat} {m done : List (Value × Value)} (h : Ranging w r b m done) : MapRaw w b m := by
  obtain ⟨es, clock, seen, -, hb, hm, hbo, hn, -⟩ := h
  exact ⟨es, clock, hb, hm, hbo, hn⟩
theorem Ranging.lt {w : World} {r b : Nat} {m done : List (Value × Value)} (h : Ranging w r b m done) : r < w.heap.size := by
  obtain ⟨es, clock, seen, hr, _⟩ := h
  exact (Array.getElem?_eq_some_iff.1 hr).1
theorem Ranging.kept {w w' : World} {r b : Nat} {m done : List (Value × Value)} (h : Ranging w r b m done) (hr : w'.heap[r]? = w.heap[r]?) (hb : w'.heap[b]? = w.heap[b]?) : Ranging w' r b m done := by
  obtain ⟨es, clock, seen, h1, h2, rest⟩ := h
  exact ⟨es, clock, seen, hr.trans h1, hb.trans h2, rest⟩
theorem Ranging.ext {w w' : World} {r b : Nat} {m done : List (Value × Value)} (h : Ranging w r b m done) (hx : Ext w w') : Ranging w' r b m done := h.kept (Below.block hx r h.lt) (Below.block hx b h.map.lt)

theorem run_range_of {P : Program} {t k e : TypeId} (ht : P.underlying t = some (.map k e)) {w : World} {b : Nat} {m : List (Value × Value)} (h : MapRaw w b m) :
    ∃ w', (Instr.range t (.map (some b))).run P w = .ok (.pointer (some ⟨w.heap.size, 0, none⟩)) w' ∧ Ranging w' w.heap.size b m [] ∧ Ext w w' := by
  obtain ⟨es, clock, hb, hm, hbo, hn⟩ := h
  have hbl : b < w.heap.size := (Array.getElem?_eq_some_iff.1 hb).1
  refine ⟨w.alloc (.mapIter (some b) clock #[] clock), ?_, ⟨es, clock, #[], heap_alloc_new w _, ((Below.block (Ext.alloc w (.mapIter (some b) clock #[] clock)) b hbl)).trans hb, hm, hbo, hn, ?_, by simp⟩, Ext.alloc _ _⟩
  · simp only [Instr.range, Sem.run_bind, run_underlying ht, getObj, Sem.run, hb, Result.andThen, Sem.run_pure]
    rfl
  · rw [List.nil_append, leftOf_toList, ← hm]
    have : es.toList.filter (fun e => !(#[] : Array Nat).contains e.born) = es.toList := List.filter_eq_self.2 (fun _ _ => by simp)
    rw [this]

theorem run_next_of {P : Program} {w : World} {r b : Nat} {m done : List (Value × Value)} (h : Ranging w r b m done) (ty : TypeId) :
    (done.Perm m ∧ (Instr.next (.pointer (some ⟨r, 0, none⟩)) false ty).run P w = .ok (.tuple #[.bool false]) w) ∨
    ∃ p w', done.length < m.length ∧ (Instr.next (.pointer (some ⟨r, 0, none⟩)) false ty).run P w = .ok (.tuple #[.bool true, p.1, p.2]) w' ∧ Ranging w' r b m (done ++ [p]) ∧ w.grownBy w' (some r) ∧
      (∀ W : World, W.heap[r]? = w'.heap[r]? → W.heap[b]? = w'.heap[b]? → (Instr.entry (.pointer (some ⟨r, 0, none⟩))).run P W = .ok (.tuple #[p.1, p.2]) W) := by
  obtain ⟨es, clock, seen, hr, hb, hm, hbo, hn, hp, hs⟩ := h
  rcases run_next_at (P := P) w ty r b clock clock seen es clock hr hb hbo (Nat.le_refl _) with ⟨h0, hrun⟩ | ⟨e, he, w1, hw1, hrun⟩
  · refine .inl ⟨?_, hrun⟩
    have : leftOf es seen = #[] := Array.eq_empty_of_size_eq_zero h0
    rw [this] at hp
    simpa using hp
  · have hee : e ∈ es.toList := by unfold leftOf at he; simp at he ⊢; exact he.1
    have hrb : r ≠ b := fun e => by rw [e, hb] at hr; cases hr
    have hr1 : w1.heap[r]? = some (.mapIter (some b) clock seen clock) := by rcases hw1 with rfl | rfl <;> exact hr
    have hb1 : w1.heap[b]? = some (.map es clock) := by rcases hw1 with rfl | rfl <;> exact hb
    have hrl : r < w1.heap.size := (Array.getElem?_eq_some_iff.1 hr1).1
    have hset : (ChangeMaps.setBlock w1 r (.mapIter (some b) clock (seen.push e.born) clock)).heap[r]? = some (.mapIter (some b) clock (seen.push e.born) clock) := by simp [ChangeMaps.setBlock, hrl]
    have hsetb : (ChangeMaps.setBlock w1 r (.mapIter (some b) clock (seen.push e.born) clock)).heap[b]? = some (.map es clock) := by simp [ChangeMaps.setBlock, hrb, hb1]
    have hleft : ((leftOf es seen).toList).Perm (e :: (leftOf es (seen.push e.born)).toList) := by
      have hnl : ((leftOf es seen).toList).Nodup := by
        rw [leftOf_toList]
        exact List.Pairwise.filter _ (nodup_of_map hn)
      rw [List.perm_ext_iff_of_nodup hnl ?_]
      · intro x
        rw [leftOf_toList, leftOf_toList]
        simp only [List.mem_filter, List.mem_cons, Array.contains_push]
        constructor
        · rintro ⟨hx, hc⟩
          by_cases hxe : x = e
          · exact .inl hxe
          · refine .inr ⟨hx, ?_⟩
            have hb' : x.born ≠ e.born := fun hbe => hxe (inj_of_nodup_map hn hx hee hbe)
            simp only [Bool.not_eq_true', Bool.or_eq_false_iff] at hc ⊢
            exact ⟨hc, by simpa using hb'⟩
        · rintro (rfl | ⟨hx, hc⟩)
          · rw [leftOf_toList, List.mem_filter] at he
            exact he
          · simp only [Bool.not_eq_true', Bool.or_eq_false_iff] at hc ⊢
            exact ⟨hx, hc.1⟩
      · refine List.nodup_cons.2 ⟨?_, ?_⟩
        · unfold leftOf
          simp
        · rw [leftOf_toList]
          exact List.Pairwise.filter _ (nodup_of_map hn)
    have hlen : done.length < m.length := by
      have := hp.length_eq
      have h2 := hleft.length_eq
      simp at this h2
      omega
    refine .inr ⟨(e.key, e.val), _, hlen, hrun, ⟨es, clock, seen.push e.born, hset, hsetb, hm, hbo, hn, ?_, ?_⟩, ?_, ?_⟩
    · refine List.Perm.trans ?_ hp
      rw [List.append_assoc]
      refine List.Perm.append_left done ?_
      exact (hleft.map (fun e => (e.key, e.val))).symm
    · intro x hx
      simp at hx
      rcases hx with hx | rfl
      · exact hs x (by simpa using hx)
      · exact List.mem_map_of_mem hee
    · have h0 : w1.os = w.os ∧ w1.tape = w.tape ∧ w1.output = w.output ∧ w1.heap = w.heap := by rcases hw1 with rfl | rfl <;> exact ⟨rfl, rfl, rfl, rfl⟩
      refine ⟨h0.1, h0.2.1, h0.2.2.1, by simp [ChangeMaps.setBlock, h0.2.2.2], fun i hi hne => ?_⟩
      have hri : r ≠ i := fun e => hne (by rw [e])
      simp [ChangeMaps.setBlock, hri, h0.2.2.2]
    · intro W hWr hWb
      exact run_entry_at W r b clock seen es clock e (hWr.trans hset) (hWb.trans hsetb) hee hn

section
variable {P : Program} {ops : Array Oper} {rest : List Oper} {o : Oper} {a : Act} {w : World} {Q : Exit → Act → World → Prop}
theorem wpList_range_run (hgd : o.guard = none) (t : TypeId) (x : Operand) (ho : o.op = .range t x) (vx v : Value) (w' : World) (hx : a.eval x = vx)
    (hrun : (Instr.range t vx).run P w = .ok v w') (h : wpList P ops Q rest (a.put o.dst v) w') : wpList P ops Q (o :: rest) a w :=
  wpList_plain hgd fun _ hK => by
    unfold Oper.wp execOp
    simp only [ho, hx, Sem.run_bind, hrun, Result.andThen_ok]
    exact hK _ _ h
theorem wpList_next_run (hgd : o.guard = none) (x : Operand) (s : Bool) (ho : o.op = .next x s) (vx v : Value) (w' : World) (hx : a.eval x = vx)
    (hrun : (Instr.next vx s o.type).run P w = .ok v w') (h : wpList P ops Q rest (a.put o.dst v) w') : wpList P ops Q (o :: rest) a w :=
  wpList_plain hgd fun _ hK => by
    unfold Oper.wp execOp
    simp only [ho, hx, Sem.run_bind, hrun, Result.andThen_ok]
    exact hK _ _ h
theorem wpList_entry_run (hgd : o.guard = none) (x : Operand) (ho : o.op = .entry x) (vx v : Value) (w' : World) (hx : a.eval x = vx)
    (hrun : (Instr.entry vx).run P w = .ok v w') (h : wpList P ops Q rest (a.put o.dst v) w') : wpList P ops Q (o :: rest) a w :=
  wpList_plain hgd fun _ hK => by
    unfold Oper.wp execOp
    simp only [ho, hx, Sem.run_bind, hrun, Result.andThen_ok]
    exact hK _ _ h
end
end Go.Proofs.Ytddeelepaiklgaa
