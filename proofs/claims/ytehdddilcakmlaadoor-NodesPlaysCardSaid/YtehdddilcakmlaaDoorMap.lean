/- Maps in the model's own words: a block that is a map holds entries; look-up, store, range. -/
import Derived.Test.YtehdddilcakmlaaDoorBase
import Derived.Maps.Keyed
import Derived.Maps.RangeRun
import Derived.DeepKeys4
import Derived.WideKeyArr
import Derived.Carry
namespace Go.Proofs.YtehdddilcakmlaaDoor
open Go.RowKit Go.Maps

/-- block b of w is a map with these entries -/
def MapRaw (w : World) (b : Nat) (m : List (Value × Value)) : Prop :=
  ∃ es clock, w.heap[b]? = some (.map es clock) ∧ es.toList.map (fun e => (e.key, e.val)) = m ∧ (∀ e ∈ es.toList, e.born < clock) ∧ (es.toList.map (·.born)).Nodup

theorem MapRaw.lt {w : World} {b : Nat} {m : List (Value × Value)} (h : MapRaw w b m) : b < w.heap.size := by
  obtain ⟨es, clock, hb, _⟩ := h
  exact (Array.getElem?_eq_some_iff.1 hb).1
theorem MapRaw.kept {w w' : World} {b : Nat} {m : List (Value × Value)} (h : MapRaw w b m) (hk : w'.heap[b]? = w.heap[b]?) : MapRaw w' b m := by
  obtain ⟨es, clock, hb, r⟩ := h
  exact ⟨es, clock, hk.trans hb, r⟩
theorem MapRaw.ext {w w' : World} {b : Nat} {m : List (Value × Value)} (h : MapRaw w b m) (hx : Ext w w') : MapRaw w' b m := h.kept (Below.block hx b h.lt)
theorem MapRaw.made (w : World) : MapRaw (w.alloc (.map #[] 0)) w.heap.size [] := ⟨#[], 0, heap_alloc_new w _, rfl, by simp, by simp⟩

/-- encoded keys and values -/
structure Coded (P : Program) (k : TypeId) {κ : Type} (kv : κ → Value) : Prop where
  keyed : Keyed P k
  key : ∀ x : κ, ∃ l, keyOf P k (kv x) = some l
  inj : ∀ {x y : κ}, kv x = kv y → x = y

/-- block b of w is a map that holds l -/
def MapOf (w : World) {κ α : Type} (kv : κ → Value) (vv : α → Value) (b : Nat) (l : List (κ × α)) : Prop := MapRaw w b (l.map fun p => (kv p.1, vv p.2))

section
variable {P : Program} {k : TypeId} {κ α : Type} [DecidableEq κ] {kv : κ → Value} {vv : α → Value}

def look (x : κ) : List (κ × α) → Option α
  | [] => none
  | p :: r => if p.1 = x then some p.2 else look x r
def store (x : κ) (a : α) : List (κ × α) → List (κ × α)
  | [] => [(x, a)]
  | p :: r => if p.1 = x then (x, a) :: r else p :: store x a r

theorem look_none {x : κ} : ∀ {l : List (κ × α)}, (∀ p ∈ l, p.1 ≠ x) → look x l = none
  | [], _ => rfl
  | p :: r, h => by
    have h1 := look_none (x := x) (l := r) (fun q hq => h q (List.mem_cons_of_mem _ hq))
    simp [look, h p (by simp), h1]
theorem store_new {x : κ} {a : α} : ∀ {l : List (κ × α)}, (∀ p ∈ l, p.1 ≠ x) → store x a l = l ++ [(x, a)]
  | [], _ => rfl
  | p :: r, h => by
    have h1 := store_new (x := x) (a := a) (l := r) (fun q hq => h q (List.mem_cons_of_mem _ hq))
    simp [store, h p (by simp), h1]
theorem look_at {x : κ} {a : α} : ∀ {l : List (κ × α)} (j : Nat), (l.map (·.1)).Nodup → l[j]? = some (x, a) → look x l = some a
  | p :: r, 0, _, h => by simp at h; subst h; simp [look]
  | p :: r, j + 1, hn, h => by
    simp at h hn
    have hm : (x, a) ∈ r := List.mem_of_getElem? h
    have hne : p.1 ≠ x := fun e => (hn.1 a (by rw [e]; exact hm)).elim
    simp only [look, hne, if_false]
    exact look_at j hn.2 h
theorem store_at {x : κ} {a b : α} : ∀ {l : List (κ × α)} (j : Nat), (l.map (·.1)).Nodup → l[j]? = some (x, b) → store x a l = l.modify j fun _ => (x, a)
  | p :: r, 0, _, h => by simp at h; subst h; simp [store]
  | p :: r, j + 1, hn, h => by
    simp at h hn
    have hm : (x, b) ∈ r := List.mem_of_getElem? h
    have hne : p.1 ≠ x := fun e => (hn.1 b (by rw [e]; exact hm)).elim
    simp only [store, hne, if_false, List.modify_succ_cons]
    rw [store_at j hn.2 h]

omit [DecidableEq κ] in
/-- the finding, in words of the list -/
theorem Coded.find (K : Coded P k kv) {l : List (κ × α)} {es : Array MapEntry} (hes : es.toList.map (fun e => (e.key, e.val)) = l.map fun p => (kv p.1, vv p.2)) (x : κ) (w : World) :
    ((Instr.findKey k (kv x) es.toList).run P w = .ok none w ∧ ∀ p ∈ l, p.1 ≠ x) ∨
    ∃ j a, (Instr.findKey k (kv x) es.toList).run P w = .ok (some (j, vv a)) w ∧ l[j]? = some (x, a) ∧ ∃ e, es.toList[j]? = some e ∧ e.key = kv x := by
  obtain ⟨lx, hlx⟩ := K.key x
  have hget : ∀ (j : Nat) (e : MapEntry), es.toList[j]? = some e → ∃ p : κ × α, l[j]? = some p ∧ e.key = kv p.1 ∧ e.val = vv p.2 := by
    intro j e he
    have h1 : (es.toList.map (fun e => (e.key, e.val)))[j]? = some (e.key, e.val) := by rw [List.getElem?_map, he]; rfl
    rw [hes, List.getElem?_map] at h1
    cases hl : l[j]? with
    | none => rw [hl] at h1; cases h1
    | some p =>
      rw [hl] at h1
      simp at h1
      exact ⟨p, rfl, h1.1.symm, h1.2.symm⟩
  have hk : ∀ e ∈ es.toList, ∃ l, keyOf P k e.key = some l := by
    intro e he
    obtain ⟨j, hj⟩ := List.getElem?_of_mem he
    obtain ⟨p, _, hp, _⟩ := hget j e hj
    rw [hp]
    exact K.key p.1
  rcases K.keyed.find w hlx es.toList hk with ⟨h1, h2⟩ | ⟨j, e, h1, h2, h3⟩
  · refine .inl ⟨h1, fun p hp he => ?_⟩
    obtain ⟨j, hj⟩ := List.getElem?_of_mem hp
    have h4 : (l.map fun p => (kv p.1, vv p.2))[j]? = some (kv p.1, vv p.2) := by rw [List.getElem?_map, hj]; rfl
    rw [← hes, List.getElem?_map] at h4
    cases he' : es.toList[j]? with
    | none => rw [he'] at h4; cases h4
    | some e =>
      rw [he'] at h4
      simp at h4
      exact h2 e (List.mem_of_getElem? he') (by rw [h4.1, he])
  · obtain ⟨p, hp1, hp2, hp3⟩ := hget j e h2
    have hpx : p.1 = x := K.inj (hp2.symm.trans h3)
    refine .inr ⟨j, p.2, ?_, ?_, e, h2, h3⟩
    · rw [← hp3]; exact h1
    · rw [hp1, ← hpx]

theorem run_lookup_of (K : Coded P k kv) {t e : TypeId} (ht : P.underlying t = some (.map k e)) {w : World} {b : Nat} {l : List (κ × α)} (hm : MapOf w kv vv b l) (hn : (l.map (·.1)).Nodup) (x : κ) (z : Value) (hz : (zeroValue e).run P w = .ok z w) (c : Bool) :
    (Instr.lookup t (.map (some b)) (kv x) c).run P w = .ok (if c then .tuple #[((look x l).map vv).getD z, .bool (look x l).isSome] else ((look x l).map vv).getD z) w := by
  obtain ⟨es, clock, hb, hes, -, -⟩ := hm
  obtain ⟨lx, hlx⟩ := K.key x
  have hck := K.keyed.check w es.isEmpty hlx
  rcases K.find hes x w with ⟨h1, h2⟩ | ⟨j, a, h1, h2, -⟩
  · rw [look_none h2]
    simp only [Instr.lookup, Sem.run_bind, run_underlying ht, getObj, Sem.run, hb, Result.andThen, hck, h1, hz, Sem.run_pure]
    rfl
  · rw [look_at j hn h2]
    simp only [Instr.lookup, Sem.run_bind, run_underlying ht, getObj, Sem.run, hb, Result.andThen, hck, h1, Sem.run_pure]
    rfl


theorem store_keys {x : κ} {a : α} : ∀ {l : List (κ × α)}, (l.map (·.1)).Nodup → ((store x a l).map (·.1)).Nodup
  | [], _ => by simp [store]
  | p :: r, h => by
    simp only [store]
    simp at h
    split
    · rename_i e
      subst e
      simpa using h
    · rename_i e
      have ih := store_keys (x := x) (a := a) (l := r) (by simpa using h.2)
      simp only [List.map_cons, List.nodup_cons]
      refine ⟨fun hm => ?_, ih⟩
      obtain ⟨q, hq, hqp⟩ := List.mem_map.1 hm
      have : q ∈ r ∨ q = (x, a) := by
        clear h ih hm hqp
        induction r with
        | nil => simp [store] at hq; exact .inr hq
        | cons y r ih =>
          simp only [store] at hq
          split at hq
          · rcases List.mem_cons.1 hq with hq | hq
            · exact .inr hq
            · exact .inl (List.mem_cons_of_mem _ hq)
          · rcases List.mem_cons.1 hq with hq | hq
            · exact .inl (by rw [hq]; exact List.mem_cons_self)
            · exact (ih hq).imp (List.mem_cons_of_mem _) id
      rcases this with hr | rfl
      · exact h.1 q.2 (by rw [← hqp]; exact hr)
      · exact e hqp.symm

/-- behind a store: only that block has changed -/
theorem run_update_of (K : Coded P k kv) {t e : TypeId} (ht : P.underlying t = some (.map k e)) {w : World} {b : Nat} {l : List (κ × α)} (hm : MapOf w kv vv b l) (hn : (l.map (·.1)).Nodup) (x : κ) (a : α) :
    ∃ w', (Instr.mapUpdate t (.map (some b)) (kv x) (vv a)).run P w = .ok () w' ∧ MapOf w' kv vv b (store x a l) ∧ w.grownBy w' (some b) := by
  obtain ⟨es, clock, hb, hes, hborn, hnd⟩ := hm
  obtain ⟨lx, hlx⟩ := K.key x
  have hck := K.keyed.check w false hlx
  have hset : ∀ o : Obj, (setObj b o).run P w = .ok () (ChangeMaps.setBlock w b o) := fun o => by simp [setObj, Sem.run, hb, ChangeMaps.setBlock]
  have hbl : b < w.heap.size := (Array.getElem?_eq_some_iff.1 hb).1
  have hat : ∀ o : Obj, (ChangeMaps.setBlock w b o).heap[b]? = some o := fun o => by simp [ChangeMaps.setBlock, hbl]
  have hgrow : ∀ o : Obj, w.grownBy (ChangeMaps.setBlock w b o) (some b) := fun o => ⟨rfl, rfl, rfl, by simp [ChangeMaps.setBlock], fun i _ hne => by
    have : b ≠ i := fun e => hne (by rw [e])
    simp [ChangeMaps.setBlock, this]⟩
  rcases K.find hes x w with ⟨h1, h2⟩ | ⟨j, a', h1, h2, e', he1, he2⟩
  · refine ⟨_, by simp only [Instr.mapUpdate, Sem.run_bind, run_underlying ht, getObj, Sem.run, hb, Result.andThen, hck, h1]; exact hset _, ?_, hgrow _⟩
    refine ⟨_, _, hat _, ?_, ?_, ?_⟩
    · rw [store_new h2]
      simp [hes]
    · intro e he
      simp at he
      rcases he with he | rfl
      · have := hborn e (by simpa using he); omega
      · show clock < clock + 1; omega
    · simp only [Array.toList_push, List.map_append, List.map_cons, List.map_nil]
      refine List.nodup_append.2 ⟨hnd, by simp, fun y hy z hz hyz => ?_⟩
      simp at hz
      subst hz
      obtain ⟨e, he, rfl⟩ := List.mem_map.1 hy
      have := hborn e he
      omega
  · have hst : (Instr.keyThatStays (kv x) (kv x)).run P w = .ok (kv x) w := K.keyed.stays w hlx
    have hkey : ((es[j]?).map (·.key)).getD (kv x) = kv x := by
      rw [show es[j]? = es.toList[j]? from by simp, he1]
      exact he2
    refine ⟨_, by simp only [Instr.mapUpdate, Sem.run_bind, run_underlying ht, getObj, Sem.run, hb, Result.andThen, hck, h1, hkey, hst]; exact hset _, ?_, hgrow _⟩
    have hmod : (es.modify j fun e => { e with key := kv x, val := vv a }).toList = es.toList.modify j fun e => { e with key := kv x, val := vv a } := by simp
    have hb2 : (es.toList.modify j fun e => { e with key := kv x, val := vv a }).map (·.born) = es.toList.map (·.born) := by
      apply List.ext_getElem?
      intro i
      simp only [List.getElem?_map, List.getElem?_modify]
      split <;> cases es.toList[i]? <;> rfl
    refine ⟨_, _, hat _, ?_, ?_, ?_⟩
    · rw [hmod, store_at j hn h2]
      apply List.ext_getElem?
      intro i
      have hi : (es.toList.map (fun e => (e.key, e.val)))[i]? = (l.map fun p => (kv p.1, vv p.2))[i]? := by rw [hes]
      simp only [List.getElem?_map, List.getElem?_modify] at hi ⊢
      by_cases hij : j = i
      · subst hij
        simp only [if_true]
        rw [h2, he1]
        rfl
      · simp only [hij, if_false]
        cases h5 : es.toList[i]? <;> cases h6 : l[i]? <;> simp [h5, h6] at hi ⊢
        exact hi
    · rw [hmod]
      intro e he
      have : e.born ∈ (es.toList.modify j fun e => { e with key := kv x, val := vv a }).map (·.born) := List.mem_map_of_mem he
      rw [hb2] at this
      obtain ⟨e2, he2', hbe⟩ := List.mem_map.1 this
      rw [← hbe]
      exact hborn e2 he2'
    · rw [hmod, hb2]
      exact hnd

end
section
variable {P : Program} {ops : Array Oper} {rest : List Oper} {o : Oper} {a : Act} {w : World} {Q : Exit → Act → World → Prop}
theorem wpList_lookup_run (hgd : o.guard = none) (t : TypeId) (m x : Operand) (c : Bool) (ho : o.op = .lookup t m x c) (vm vx v : Value) (hm : a.eval m = vm) (hx : a.eval x = vx)
    (hrun : (Instr.lookup t vm vx c).run P w = .ok v w) (h : wpList P ops Q rest (a.put o.dst v) w) : wpList P ops Q (o :: rest) a w :=
  wpList_plain hgd fun _ hK => by
    unfold Oper.wp execOp
    simp only [ho, hm, hx, Sem.run_bind, hrun, Result.andThen_ok]
    exact hK _ _ h
theorem wpList_update_run (hgd : o.guard = none) (t : TypeId) (m x y : Operand) (ho : o.op = .mapUpdate t m x y ∨ o.op = .insert t m x y) (vm vx vy : Value) (w' : World) (hm : a.eval m = vm) (hx : a.eval x = vx) (hy : a.eval y = vy)
    (hrun : (Instr.mapUpdate t vm vx vy).run P w = .ok () w') (h : wpList P ops Q rest (a.put o.dst undef) w') : wpList P ops Q (o :: rest) a w :=
  wpList_plain hgd fun _ hK => by
    unfold Oper.wp execOp
    rcases ho with ho | ho
    · simp only [ho, hm, hx, hy, Sem.run_bind, hrun, Result.andThen_ok]
      exact hK _ _ h
    · simp only [ho, hm, hx, hy, Sem.run_bind, hrun, Result.andThen_ok]
      exact hK _ _ h
end
end Go.Proofs.YtehdddilcakmlaaDoor
