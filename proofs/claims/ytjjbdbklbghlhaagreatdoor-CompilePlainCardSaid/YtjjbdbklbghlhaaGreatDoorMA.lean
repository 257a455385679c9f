/- Words shared by all walks of this seat: headers, terms, how they lie in memory. -/
import Derived.Test.YtjjbdbklbghlhaaGreatDoorProg
import Derived.WalkKit
import Derived.WalkSpells
import Derived.WalkLawsBesides
import Derived.Lib.Hide
import Derived.Deep.QuietTactic
import Derived.BigQuiet
import Derived.Laws.EntriesVeiled
import Derived.Deep.MidRow
import Derived.Deep.WholeRow
import Derived.Deep.RegionHeld3
import Derived.Deep.DeepCutAuto
import Derived.Sort.Grow
import Derived.Deep.Cut
import Derived.Laws.StructEq
import Derived.OwnWalk
import Derived.Laws.MakeOwn
namespace Go.Proofs.YtjjbdbklbghlhaaGreatDoor
open Go.RowKit
/-- kept from the walk -/
theorem Hd {p : Prop} (h : p) : Go.RowKit.Hid p := h
set_option linter.unusedSimpArgs false

/-- a header: eleven numbers -/
abbrev Hdr := Vector UInt64 11
def Hdr.l (h : Hdr) : List Int := h.toList.map fun x => (x.toNat : Int)
def Hdr.cs (h : Hdr) : Array Value := (h.l.map (Value.int .u64)).toArray
def Hdr.f (h : Hdr) (i : Nat) : Int := h.l.getD i 0
theorem Hdr.length_l (h : Hdr) : h.l.length = 11 := by simp [Hdr.l]
theorem Hdr.size_cs (h : Hdr) : h.cs.size = 11 := by simp [Hdr.cs, Hdr.l]
theorem Hdr.cell (h : Hdr) (i : Nat) (hi : i < 11) : h.cs[i]? = some (.int .u64 (h.f i)) := by
 have hl : i < h.l.length := by rw [h.length_l]; exact hi
 simp [Hdr.cs, Hdr.f, List.getD, List.getElem?_eq_getElem hl]
theorem Hdr.l_inj {a b : Hdr} (h : a.l = b.l) : a = b := by
 have : a.toList = b.toList := by
  unfold Hdr.l at h
  exact (List.map_inj_right (fun x y h => by exact UInt64.toNat_inj.1 (by exact_mod_cast h))).1 h
 exact Vector.toList_inj.1 this
theorem Hdr.ext {a b : Hdr} (h : ∀ i, i < 11 → a.f i = b.f i) : a = b := by
 apply Hdr.l_inj
 apply List.ext_getElem (by rw [a.length_l, b.length_l])
 intro i h1 h2
 have := h i (by rw [a.length_l] at h1; exact h1)
 simpa [Hdr.f, List.getD, List.getElem?_eq_getElem h1, List.getElem?_eq_getElem h2] using this
theorem Hdr.f_bd (h : Hdr) (i : Nat) : 0 ≤ h.f i ∧ h.f i ≤ 18446744073709551615 := by
 unfold Hdr.f Hdr.l
 rw [List.getD_eq_getElem?_getD, List.getElem?_map]
 cases h.toList[i]? with
 | none => simp
 | some x =>
  have := x.toNat_lt
  simp
  omega
theorem Hdr.cs_inj {a b : Hdr} (h : a.cs = b.cs) : a = b := by
 apply Hdr.l_inj
 have : a.l.map (Value.int .u64) = b.l.map (Value.int .u64) := by simpa [Hdr.cs] using h
 exact (List.map_inj_right (fun x y h => by cases h; rfl)).1 this
theorem Hdr.one (h : Hdr) : ∀ v ∈ h.cs.toList, v.oneCell' = true := by
 intro v hv
 simp [Hdr.cs] at hv
 obtain ⟨x, _, rfl⟩ := hv
 rfl
def Hdr.put (h : Hdr) (i : Nat) (n : Int) : Hdr := h.setIfInBounds i (UInt64.ofNat n.toNat)
theorem Hdr.l_put (h : Hdr) (i : Nat) (n : Int) (hn : 0 ≤ n ∧ n ≤ 18446744073709551615) : (h.put i n).l = h.l.set i n := by
 have e : (((UInt64.ofNat n.toNat).toNat : Nat) : Int) = n := by
  rw [UInt64.toNat_ofNat', Nat.mod_eq_of_lt (by omega)]
  omega
 unfold Hdr.put Hdr.l
 rw [Vector.toList_setIfInBounds, List.map_set, e]
theorem Hdr.cs_put (h : Hdr) (i : Nat) (n : Int) (hn : 0 ≤ n ∧ n ≤ 18446744073709551615) : (h.put i n).cs = h.cs.setIfInBounds i (.int .u64 n) := by
 simp [Hdr.cs, h.l_put i n hn]
theorem Hdr.f_put (h : Hdr) (i j : Nat) (n : Int) (hn : 0 ≤ n ∧ n ≤ 18446744073709551615) (hi : i < 11) : (h.put i n).f j = if i = j then n else h.f j := by
 have hl : i < h.l.length := by rw [h.length_l]; exact hi
 unfold Hdr.f
 rw [h.l_put i n hn, List.getD_eq_getElem?_getD, List.getD_eq_getElem?_getD, List.getElem?_set]
 split
 ·rfl
 ·rfl

/-- a term -/
inductive Tm where
 | mk (op fld n : Int) (kids : List Tm)
def Tm.op : Tm → Int | .mk o _ _ _ => o
def Tm.fld : Tm → Int | .mk _ o _ _ => o
def Tm.n : Tm → Int | .mk _ _ o _ => o
def Tm.kids : Tm → List Tm | .mk _ _ _ o => o

mutual
/-- how many terms there are -/
def Tm.sz : Tm → Nat
 | .mk _ _ _ ks => Tm.szAll ks + 1
def Tm.szAll : List Tm → Nat
 | [] => 0
 | t :: ts => t.sz + Tm.szAll ts
end
theorem Tm.sz_get : ∀ {ks : List Tm} (i : Nat) (h : i < ks.length), (ks[i]).sz ≤ Tm.szAll ks
 | t :: ts, 0, _ => by rw [List.getElem_cons_zero]; simp [Tm.szAll]
 | t :: ts, i + 1, h => by
  have := Tm.sz_get (ks := ts) i (by simpa using h)
  rw [List.getElem_cons_succ]
  simp only [Tm.szAll]
  omega
theorem Tm.szAll_take : ∀ (ks : List Tm) (j : Nat) (h : j < ks.length), Tm.szAll (ks.take (j + 1)) = Tm.szAll (ks.take j) + (ks[j]).sz
 | t :: ts, 0, _ => by rw [List.getElem_cons_zero]; simp [Tm.szAll]
 | t :: ts, j + 1, h => by
  rw [List.getElem_cons_succ]
  simp only [List.take_succ_cons, Tm.szAll]
  rw [Tm.szAll_take ts j (by simpa using h)]
  omega
theorem Tm.szAll_take_le : ∀ (ks : List Tm) (j : Nat), Tm.szAll (ks.take j) ≤ Tm.szAll ks
 | [], j => by simp
 | t :: ts, 0 => by simp [Tm.szAll]
 | t :: ts, j + 1 => by
  simp only [List.take_succ_cons, Tm.szAll]
  have := Tm.szAll_take_le ts j
  omega
theorem Tm.sz_kid {op f n : Int} {ks : List Tm} {m : Nat} (hm : (Tm.mk op f n ks).sz ≤ m + 1) (i : Nat) (h : i < ks.length) : (ks[i]).sz ≤ m := by
 have := Tm.sz_get i h
 simp only [Tm.sz] at hm
 omega
theorem Tm.sz_pos : ∀ (t : Tm), 1 ≤ t.sz
 | .mk _ _ _ _ => by simp [Tm.sz]

mutual
/-- the four cells from ⟨b, o⟩ on read as a term -/
def Tm.At (w : World) : Tm → Nat → Nat → Prop
 | .mk op f n ks, b, o => (-128 ≤ op ∧ op ≤ 127) ∧ (-128 ≤ f ∧ f ≤ 127) ∧ (0 ≤ n ∧ n ≤ 18446744073709551615) ∧
  w.cell? ⟨b, o, none⟩ = some (.int .i8 op) ∧ w.cell? ⟨b, o + 1, none⟩ = some (.int .i8 f) ∧ w.cell? ⟨b, o + 2, none⟩ = some (.int .u64 n) ∧
  ∃ p len cap, w.cell? ⟨b, o + 3, none⟩ = some (.slice p len cap) ∧ len = ks.length ∧ len ≤ cap ∧ cap ≤ 9223372036854775807 ∧
   (ks = [] ∨ ∃ b' o', p = some ⟨b', o', none⟩ ∧ Tm.AllAt w ks b' o')
def Tm.AllAt (w : World) : List Tm → Nat → Nat → Prop
 | [], _, _ => True
 | t :: ts, b, o => Tm.At w t b o ∧ Tm.AllAt w ts b (o + 4)
end

theorem Tm.AllAt_get {w : World} : ∀ {ks : List Tm} {b o : Nat}, Tm.AllAt w ks b o → ∀ i (h : i < ks.length), (ks[i]).At w b (o + i * 4)
 | t :: ts, b, o, h, 0, _ => by simpa using h.1
 | t :: ts, b, o, h, i + 1, hi => by
  have := Tm.AllAt_get h.2 i (by simpa using hi)
  simpa [Nat.add_mul, Nat.add_assoc, Nat.add_comm 4] using this
theorem Tm.AllAt_of {w : World} : ∀ {ks : List Tm} {b o : Nat}, (∀ i (h : i < ks.length), (ks[i]).At w b (o + i * 4)) → Tm.AllAt w ks b o
 | [], _, _, _ => trivial
 | t :: ts, b, o, h => ⟨by have := h 0 (by simp); rwa [List.getElem_cons_zero, Nat.zero_mul, Nat.add_zero] at this, Tm.AllAt_of (fun i hi => by
   have := h (i + 1) (by simpa using hi)
   rwa [List.getElem_cons_succ, show o + (i + 1) * 4 = o + 4 + i * 4 from by omega] at this)⟩

/-- what was there in w reads alike in w' -/
def Later (w w' : World) : Prop := ∀ a v, w.cell? a = some v → w'.cell? a = some v
theorem Later.refl (w : World) : Later w w := fun _ _ h => h
theorem Later.trans {a b c : World} (h : Later a b) (k : Later b c) : Later a c := fun x v hx => k x v (h x v hx)
theorem Later.below {w w' : World} (h : Below w.heap.size w w') : Later w w' := fun a v hv => by
 rw [h.cell (World.block_lt_of_cell? w a hv)]; exact hv

/-- w' is w and new memory beside it -/
def Ext (w w' : World) : Prop := Below w.heap.size w w'
theorem Ext.refl (w : World) : Ext w w := Below.refl _ _
theorem Ext.trans {a b c : World} (h : Ext a b) (k : Ext b c) : Ext a c := Below.trans h (Below.mono k h.size)
theorem Ext.trans' {a b c : World} (h : Ext a b) (k : Below a.heap.size b c) : Ext a c := Below.trans h k
theorem Ext.later {w w' : World} (h : Ext w w') : Later w w' := Later.below h
theorem Ext.alloc (w : World) (o : Obj) : Ext w (w.alloc o) := (Below.refl _ _).alloc (Nat.le_refl _) _
theorem Ext.drewN (w : World) (n : Nat) : Ext w (w.drewN n) := ⟨rfl, rfl, rfl, Nat.le_refl _, fun _ _ => rfl⟩
theorem Ext.drew (w : World) : Ext w w.drew := Ext.drewN w 1
theorem Ext.andAlloc {a w : World} (h : Ext a w) (o : Obj) : Ext a (w.alloc o) := h.trans (Ext.alloc _ _)
theorem Ext.andDrewN {a w : World} (h : Ext a w) (n : Nat) : Ext a (w.drewN n) := h.trans (Ext.drewN _ _)
theorem Ext.andDrew {a w : World} (h : Ext a w) : Ext a w.drew := h.trans (Ext.drew _)
theorem Ext.andSet {a w : World} (h : Ext a w) {p : Addr} (hp : a.heap.size ≤ p.block) (u : Value) : Ext a (w.setCell p u) := Below.setCell h hp u
theorem Ext.size {w w' : World} (h : Ext w w') : w.heap.size ≤ w'.heap.size := Below.size h

mutual
theorem Tm.At.later {w w' : World} (hl : Later w w') : ∀ {t : Tm} {b o : Nat}, t.At w b o → t.At w' b o
 | .mk _ _ _ _, _, _, ⟨h1, h2, h3, c0, c1, c2, p, len, cap, c3, hlen, hlc, hcm, hks⟩ =>
  ⟨h1, h2, h3, hl _ _ c0, hl _ _ c1, hl _ _ c2, p, len, cap, hl _ _ c3, hlen, hlc, hcm, hks.imp id fun ⟨b', o', hp, hall⟩ => ⟨b', o', hp, Tm.AllAt.later hl hall⟩⟩
theorem Tm.AllAt.later {w w' : World} (hl : Later w w') : ∀ {ks : List Tm} {b o : Nat}, Tm.AllAt w ks b o → Tm.AllAt w' ks b o
 | [], _, _, _ => trivial
 | _ :: _, _, _, ⟨h, hs⟩ => ⟨Tm.At.later hl h, Tm.AllAt.later hl hs⟩
end

theorem Tm.At.lt {w : World} : ∀ {t : Tm} {b o : Nat}, t.At w b o → b < w.heap.size
 | .mk _ _ _ _, b, o, h => World.block_lt_of_cell? w ⟨b, o, none⟩ h.2.2.2.1

/-- a term by value -/
def Tm.Val (w : World) (t : Tm) (v : Value) : Prop := ∃ cs : Array Value, v = .agg cs ∧ ∃ s, cs = #[.int .i8 t.op, .int .i8 t.fld, .int .u64 t.n, s] ∧ (-128 ≤ t.op ∧ t.op ≤ 127) ∧ (-128 ≤ t.fld ∧ t.fld ≤ 127) ∧ (0 ≤ t.n ∧ t.n ≤ 18446744073709551615) ∧
  ∃ p len cap, s = .slice p len cap ∧ len = t.kids.length ∧ len ≤ cap ∧ cap ≤ 9223372036854775807 ∧ (t.kids = [] ∨ ∃ b' o', p = some ⟨b', o', none⟩ ∧ Tm.AllAt w t.kids b' o')
theorem Tm.Val.later {w w' : World} (hl : Later w w') {t : Tm} {v : Value} (h : t.Val w v) : t.Val w' v := by
 obtain ⟨cs, hv, s, hcs, h1, h2, h3, p, len, cap, hs, hlen, hlc, hcm, hks⟩ := h
 exact ⟨cs, hv, s, hcs, h1, h2, h3, p, len, cap, hs, hlen, hlc, hcm, hks.imp id fun ⟨b', o', hp, hall⟩ => ⟨b', o', hp, Tm.AllAt.later hl hall⟩⟩
/-- a value that lies in memory is a term there -/
theorem Tm.Val.at {w : World} {t : Tm} {cs : Array Value} (h : t.Val w (.agg cs)) {b o : Nat} (hc : w.rangeAt b o cs.toList) : t.At w b o := by
 obtain ⟨cs', hv, s, rfl, h1, h2, h3, p, len, cap, rfl, hlen, hlc, hcm, hks⟩ := h
 cases hv
 cases t with | mk op f n ks =>
 exact ⟨h1, h2, h3, hc 0 _ rfl, hc 1 _ rfl, hc 2 _ rfl, p, len, cap, hc 3 _ rfl, hlen, hlc, hcm, hks⟩
theorem Tm.At.val {w : World} {t : Tm} {b o : Nat} (h : t.At w b o) : ∃ cs, t.Val w (.agg cs) ∧ w.rangeAt b o cs.toList ∧ cs.size = 4 := by
 cases t with | mk op f n ks =>
 obtain ⟨h1, h2, h3, c0, c1, c2, p, len, cap, c3, hlen, hlc, hcm, hks⟩ := h
 refine ⟨_, ⟨_, rfl, _, rfl, h1, h2, h3, p, len, cap, rfl, hlen, hlc, hcm, hks⟩, ?_, rfl⟩
 intro j v hv
 match j, hv with
 | 0, hv => simp at hv; subst hv; exact c0
 | 1, hv => simp at hv; subst hv; exact c1
 | 2, hv => simp at hv; subst hv; exact c2
 | 3, hv => simp at hv; subst hv; exact c3
 | j + 4, hv => simp at hv
theorem rangeAt_new (w : World) (cs : Array Value) (t : TypeId) : (w.alloc (.cells cs t)).rangeAt w.heap.size 0 cs.toList := fun j v hv => by
 rw [Nat.zero_add, World.cell?_alloc_new]
 simpa using hv
theorem World.rangeAt.later {w w' : World} (hl : Later w w') {b o : Nat} {cs : List Value} (h : w.rangeAt b o cs) : w'.rangeAt b o cs := fun j v hv => hl _ _ (h j v hv)

/-- but for the blocks of S nothing that was there has changed -/
structure Keep (S : Nat → Prop) (w w' : World) : Prop where
 os : w'.os = w.os
 tape : w'.tape = w.tape
 output : w'.output = w.output
 size : w.heap.size ≤ w'.heap.size
 block : ∀ k, k < w.heap.size → ¬ S k → w'.heap[k]? = w.heap[k]?
theorem Keep.refl (S : Nat → Prop) (w : World) : Keep S w w := ⟨rfl, rfl, rfl, Nat.le_refl _, fun _ _ _ => rfl⟩
theorem Keep.trans {S : Nat → Prop} {a b c : World} (h : Keep S a b) (k : Keep S b c) : Keep S a c :=
 ⟨k.os.trans h.os, k.tape.trans h.tape, k.output.trans h.output, Nat.le_trans h.size k.size, fun i hi hs => (k.block i (Nat.lt_of_lt_of_le hi h.size) hs).trans (h.block i hi hs)⟩
theorem Keep.mono {S T : Nat → Prop} {w w' : World} (h : Keep S w w') (hst : ∀ k, k < w.heap.size → S k → T k) : Keep T w w' :=
 ⟨h.os, h.tape, h.output, h.size, fun i hi ht => h.block i hi (fun hs => ht (hst i hi hs))⟩
theorem Ext.keep {w w' : World} (h : Ext w w') (S : Nat → Prop) : Keep S w w' := ⟨Below.os h, Below.tape h, Below.output h, Below.size h, fun i hi _ => Below.block h i hi⟩
theorem Keep.ext {S : Nat → Prop} {w w' : World} (h : Keep S w w') (hs : ∀ k, k < w.heap.size → ¬ S k) : Ext w w' := ⟨h.os, h.tape, h.output, h.size, fun i hi => h.block i hi (hs i hi)⟩
theorem Keep.grown {w w' : World} {b : Nat} (h : w.grownBy w' (some b)) : Keep (· = b) w w' := ⟨h.os, h.tape, h.output, h.size, fun i hi hn => h.block i hi (fun e => hn (by injection e))⟩
theorem Keep.grownBy {w w' : World} {b : Nat} (h : Keep (· = b) w w') : w.grownBy w' (some b) := ⟨h.os, h.tape, h.output, h.size, fun i hi hn => h.block i hi (fun e => hn (by rw [e]))⟩
theorem Keep.cell {S : Nat → Prop} {w w' : World} (h : Keep S w w') {a : Addr} {v : Value} (hc : w.cell? a = some v) (hs : ¬ S a.block) : w'.cell? a = some v := by
 rw [World.cell?_of_block (h.block a.block (World.block_lt_of_cell? w a hc) hs)]; exact hc
theorem Keep.range {S : Nat → Prop} {w w' : World} (h : Keep S w w') {b o : Nat} {cs : List Value} (hc : w.rangeAt b o cs) (hs : ¬ S b) : w'.rangeAt b o cs := fun j v hv => h.cell (hc j v hv) hs
/-- a store into a block of S -/
theorem Keep.set {S : Nat → Prop} (w : World) (p : Addr) (u : Value) (hp : S p.block) : Keep S w (w.setCell p u) :=
 ⟨rfl, rfl, rfl, by simp, fun i _ hs => Below.heap_setCell _ _ _ _ (fun e => hs (by rw [e]; exact hp))⟩
/-- what is kept beside new blocks alone, seen from further back -/
theorem Ext.andKeep {S : Nat → Prop} {a w w' : World} (h : Ext a w) (k : Keep S w w') (hs : ∀ i, S i → a.heap.size ≤ i) : Ext a w' :=
 h.trans' ⟨k.os, k.tape, k.output, k.size, fun i hi => k.block i (Nat.lt_of_lt_of_le hi h.size) (fun hsi => absurd (hs i hsi) (by omega))⟩

/-- a slice of terms -/
def Tms (w : World) (ks : List Tm) (v : Value) : Prop :=
 ∃ p len cap, v = .slice p len cap ∧ len = ks.length ∧ len ≤ cap ∧ cap ≤ 9223372036854775807 ∧ (ks = [] ∨ ∃ b' o', p = some ⟨b', o', none⟩ ∧ Tm.AllAt w ks b' o')

/-- an operation whose value is known beforehand -/
theorem wpList_by {P : Program} {ops : Array Oper} {rest : List Oper} {o : Oper} {a : Act} {w : World} {Q : Exit → Act → World → Prop} (hgd : o.guard = none) (op : Op) (_ho : o.op = op) (v : Value) (w' : World)
  (hrun : (execOp a.eval o).run P w = .ok (.value v) w') (h : wpList P ops Q rest (a.put o.dst v) w') : wpList P ops Q (o :: rest) a w :=
 wpList_plain hgd fun _ hK => by
  unfold Oper.wp
  rw [hrun, Oper.upon_value]
  exact hK _ _ h
/-- a whole value into the block that was made last -/
theorem wpList_store_new {P : Program} {ops : Array Oper} {rest : List Oper} {op : Oper} {a : Act} {w : World} {Q : Exit → Act → World → Prop} (hgd : op.guard = none) (ty : TypeId) (x y : Operand) (ho : op.op = .store ty x y)
  (c cells : Array Value) (hx : a.eval x = .pointer (some ⟨w.heap.size, 0, none⟩)) (hy : a.eval y = .agg cells)
  (hi : (P.info? ty).map (·.size) = some cells.size) (hs : c.size = cells.size) (h1 : cells.all (·.oneCell') = true)
  (h : wpList P ops Q rest (a.put op.dst undef) (w.alloc (.cells cells ty))) : wpList P ops Q (op :: rest) a (w.alloc (.cells c ty)) :=
 wpList_plain hgd fun _ hK => by
  unfold Oper.wp execOp
  simp only [ho, hx, hy, Instr.storeAt, Instr.sureAddr, Sem.run_bind, Sem.run_pure, Result.andThen_ok, run_storeVar_new w ty c cells hi hs h1]
  exact hK _ _ h


theorem fold_set : ∀ (l : List Value) (k : Nat) (acc : Array Value), k + l.length ≤ acc.size →
  (l.zipIdx k).foldl (fun (a : Array Value) (p : Value × Nat) => a.setIfInBounds p.2 p.1) acc = (acc.toList.take k ++ l ++ acc.toList.drop (k + l.length)).toArray
 | [], k, acc, h => by simp
 | v :: r, k, acc, h => by
  simp only [List.length_cons] at h
  rw [List.zipIdx_cons, List.foldl_cons, fold_set r (k + 1) _ (by simp; omega)]
  congr 1
  have hk : k < acc.toList.length := by simp; omega
  simp only [Array.toList_setIfInBounds, List.length_cons]
  rw [List.take_succ_eq_append_getElem (by simpa using hk), List.take_set_of_le (Nat.le_refl k), List.getElem_set_self, List.drop_set_of_lt (by omega), show k + 1 + r.length = k + (r.length + 1) from by omega]
  simp
/-- []T{x}: one element of several cells -/
theorem run_buildSlice_one {P : Program} {t e : TypeId} {k : Nat} (ht : P.underlying t = some (.slice e)) (hs : ∀ w, (sizeOf e).run P w = .ok k w) {z : Value} (hz : ∀ w, (zeroValue e).run P w = .ok z w) (hk : 0 < k) (hk2 : k ≤ 16777216)
  {cs : Array Value} (hc : cs.size = k) (w : World) : (Instr.buildSlice t 1 #[(0, .agg cs)]).run P w = .ok (.slice (some ⟨w.heap.size, 0, none⟩) 1 1) (w.alloc (.cells cs e)) := by
 have h1 : ¬ (1 * k > 2 ^ 24) := by omega
 have h2 : ¬ (1 * k = 0) := by omega
 have hf : ∀ cells : Array Value, cells.size = k → Instr.fill (fun i => some (i * k, k)) cells [(0, .agg cs)] = some cs := by
  intro cells hcs
  have e1 : (cs.toList.zipIdx 0).foldl (fun (a : Array Value) (p : Value × Nat) => a.setIfInBounds p.2 p.1) cells = cs := by
   rw [fold_set cs.toList 0 cells (by simp; omega)]
   simp
   rw [List.drop_of_length_le (by simp; omega)]
   simp
  have e2 : cs.zipIdx.foldl (fun (a : Array Value) (p : Value × Nat) => a.setIfInBounds (0 + p.2) p.1) cells = cs := by
   rw [← Array.foldl_toList, Array.toList_zipIdx]
   simpa using e1
  unfold Instr.fill
  simp only [Value.cells, hc, hcs, Nat.zero_mul, Nat.zero_add, ne_eq, not_true_eq_false, decide_false, Bool.false_or, Nat.lt_irrefl, gt_iff_lt, if_false, Bool.false_eq_true]
  unfold Instr.fill
  simpa using e2
 simp only [Instr.buildSlice, Sem.run_bind, run_underlying ht, hs, h1, h2, if_false, hz, Sem.run_pure, Result.andThen]
 rw [hf _ (by simp)]
 rfl
theorem wpList_buildSlice_run {P : Program} {ops : Array Oper} {rest : List Oper} {o : Oper} {a : Act} {w : World} {Q : Exit → Act → World → Prop} (hgd : o.guard = none) (t : TypeId) (n : Nat) (x : Operand) (ho : o.op = .buildSlice t n #[(0, x)]) (vx v : Value) (w' : World) (hx : a.eval x = vx)
  (hrun : (Instr.buildSlice t n #[(0, vx)]).run P w = .ok v w') (h : wpList P ops Q rest (a.put o.dst v) w') : wpList P ops Q (o :: rest) a w :=
 wpList_plain hgd fun _ hK => by
  unfold Oper.wp execOp
  simp only [ho, hx, Sem.run_bind, List.map_toArray, List.map_cons, List.map_nil, hrun, Result.andThen_ok]
  exact hK _ _ h
end Go.Proofs.YtjjbdbklbghlhaaGreatDoor
/- header.Width and the reference's Width: a field's width in bits. -/
namespace Go.Proofs.YtjjbdbklbghlhaaGreatDoor
open Go.RowKit
set_option linter.unusedSimpArgs false

def widthI (f : Int) : Int :=
 if f = 0 then 48 else if f = 1 then 48 else if f = 2 then 16 else if f = 3 then 12 else if f = 4 then 32 else if f = 5 then 32 else
 if f = 6 then 8 else if f = 7 then 16 else if f = 8 then 16 else if f = 9 then 16 else if f = 10 then 16 else 0

def widA : Array Value := #[.int .i64 48, .int .i64 48, .int .i64 16, .int .i64 12, .int .i64 32, .int .i64 32, .int .i64 8, .int .i64 16, .int .i64 16, .int .i64 16, .int .i64 16]
set_option maxHeartbeats 400000 in
theorem widths_any (w : World) : Calls Tryz.prog 123 #[] w fun e w' => e = .returned (.agg widA) ∧ w.alloc (.cells widA 186) = w' := by
 go_enter Tryz.func123, Tryz.ntmps123
 go_wp2
 exact bodyPost_ret (v := .agg widA) (by simp [results, Tryz.results123, go_sem, widA]) rfl ⟨rfl, rfl⟩

theorem wid_i0 (w : World) : (Instr.index 186 (.agg widA) (.int .i8 0)).run Tryz.prog w = .ok (.int .i64 48) w := by kernel_rfl
theorem wid_i1 (w : World) : (Instr.index 186 (.agg widA) (.int .i8 1)).run Tryz.prog w = .ok (.int .i64 48) w := by kernel_rfl
theorem wid_i2 (w : World) : (Instr.index 186 (.agg widA) (.int .i8 2)).run Tryz.prog w = .ok (.int .i64 16) w := by kernel_rfl
theorem wid_i3 (w : World) : (Instr.index 186 (.agg widA) (.int .i8 3)).run Tryz.prog w = .ok (.int .i64 12) w := by kernel_rfl
theorem wid_i4 (w : World) : (Instr.index 186 (.agg widA) (.int .i8 4)).run Tryz.prog w = .ok (.int .i64 32) w := by kernel_rfl
theorem wid_i5 (w : World) : (Instr.index 186 (.agg widA) (.int .i8 5)).run Tryz.prog w = .ok (.int .i64 32) w := by kernel_rfl
theorem wid_i6 (w : World) : (Instr.index 186 (.agg widA) (.int .i8 6)).run Tryz.prog w = .ok (.int .i64 8) w := by kernel_rfl
theorem wid_i7 (w : World) : (Instr.index 186 (.agg widA) (.int .i8 7)).run Tryz.prog w = .ok (.int .i64 16) w := by kernel_rfl
theorem wid_i8 (w : World) : (Instr.index 186 (.agg widA) (.int .i8 8)).run Tryz.prog w = .ok (.int .i64 16) w := by kernel_rfl
theorem wid_i9 (w : World) : (Instr.index 186 (.agg widA) (.int .i8 9)).run Tryz.prog w = .ok (.int .i64 16) w := by kernel_rfl
theorem wid_i10 (w : World) : (Instr.index 186 (.agg widA) (.int .i8 10)).run Tryz.prog w = .ok (.int .i64 16) w := by kernel_rfl
theorem wid_idx (k : Nat) (hk : k < 11) (w : World) : (Instr.index 186 (.agg widA) (.int .i8 k)).run Tryz.prog w = .ok (.int .i64 (widthI k)) w := by
 match k, hk with
 | 0, _ => exact wid_i0 w
 | 1, _ => exact wid_i1 w
 | 2, _ => exact wid_i2 w
 | 3, _ => exact wid_i3 w
 | 4, _ => exact wid_i4 w
 | 5, _ => exact wid_i5 w
 | 6, _ => exact wid_i6 w
 | 7, _ => exact wid_i7 w
 | 8, _ => exact wid_i8 w
 | 9, _ => exact wid_i9 w
 | 10, _ => exact wid_i10 w

set_option maxHeartbeats 400000 in
theorem width_any (f : Int) (hf : -128 ≤ f ∧ f ≤ 127) (w : World) : Calls Tryz.prog 91 #[.int .i8 f] w fun e w' => e = .returned (.int .i64 (widthI f)) ∧ Ext w w' := by
 by_cases h1 : f < 0
 ·have HF : Hid (widthI f = 0) := by simp only [Hid, widthI]; repeat rw [if_neg (by omega)]
  go_enter Tryz.func91, Tryz.ntmps91
  go_wp2_with fail
  go_ret
  exact ⟨by rw [HF.out]; rfl, Ext.refl _⟩
 by_cases h2 : 11 ≤ f
 ·have HF : Hid (widthI f = 0) := by simp only [Hid, widthI]; repeat rw [if_neg (by omega)]
  go_enter Tryz.func91, Tryz.ntmps91
  go_wp2_with fail
  go_ret
  exact ⟨by rw [HF.out]; rfl, Ext.refl _⟩
 obtain ⟨k, rfl⟩ := Int.eq_ofNat_of_zero_le (Int.not_lt.1 h1)
 have hi := wid_idx k (by omega)
 go_enter Tryz.func91, Tryz.ntmps91
 go_wp2_with fail
 refine (widths_any _).mono ?_
 rintro e w' ⟨rfl, rfl⟩
 go_wp2_with fail
 go_ret
 exact ⟨rfl, Ext.alloc _ _⟩

end Go.Proofs.YtjjbdbklbghlhaaGreatDoor
/- policy.field and the reference's fits: whether a field and a number may stand in a term. -/
namespace Go.Proofs.YtjjbdbklbghlhaaGreatDoor
open Go.RowKit
set_option linter.unusedSimpArgs false

def fieldK (k : Nat) (op f n : Int) : Bool :=
 if (k : Int) == 0 then false else if n / 2 ^ k != 0 then false else if f == 3 then false else if f == 2 then op == 2 else if f == 6 then op == 2 else if f == 10 then op == 2
 else if f == 9 then (op == 2 || n != 0) else true
def fieldB (op f n : Int) : Bool := fieldK (widthI f).toNat op f n
def fitsK (k : Nat) (n : Int) : Bool := if (k : Int) == 0 then false else n / 2 ^ k == 0
def fitsB (f n : Int) : Bool := fitsK (widthI f).toNat n

theorem widthI_le (f : Int) : ∃ k : Nat, widthI f = k ∧ k ≤ 48 := by
 unfold widthI
 repeat' split
 all_goals first | exact ⟨48, rfl, by omega⟩ | exact ⟨16, rfl, by omega⟩ | exact ⟨12, rfl, by omega⟩ | exact ⟨32, rfl, by omega⟩ | exact ⟨8, rfl, by omega⟩ | exact ⟨0, rfl, by omega⟩

set_option maxHeartbeats 1000000 in
theorem field_any (op f n : Int) (b o : Nat) (w : World) (hf : -128 ≤ f ∧ f ≤ 127) (_hn : 0 ≤ n ∧ n ≤ 18446744073709551615) (c0 : w.cell? ⟨b, o, none⟩ = some (.int .i8 op)) (c1 : w.cell? ⟨b, o + 1, none⟩ = some (.int .i8 f)) (c2 : w.cell? ⟨b, o + 2, none⟩ = some (.int .u64 n)) :
   Calls Tryz.prog 54 #[.pointer (some ⟨b, o, none⟩)] w fun e w' => e = .returned (.bool (fieldB op f n)) ∧ Ext w w' := by
  have HW := Hd (fun w => width_any f hf w)
  obtain ⟨k, hk, hk2⟩ := widthI_le f
  unfold fieldB
  rw [hk] at HW
  rw [hk, Int.toNat_natCast]
  clear hk
  go_enter Tryz.func54, Tryz.ntmps54
  go_wp2_with fail
  refine (HW.out _).mono ?_
  rintro e w1 ⟨rfl, hx⟩
  have d0 := hx.later _ _ c0
  have d1 := hx.later _ _ c1
  have d2 := hx.later _ _ c2
  clear c0 c1 c2
  by_cases hz : (k : Int) = 0
  · have h1 : ((k : Int) == 0) = true := by simpa using hz
    have HF : Hid (fieldK k op f n = false) := by simp only [Hid, fieldK, h1, if_true]
    clear hz
    go_wp2_with fail
    go_ret
    exact ⟨by rw [HF.out]; rfl, hx⟩
  · have h1 : ((k : Int) == 0) = false := by simpa using hz
    clear hz
    go_wp2_with fail
    all_goals (go_ret; refine ⟨?_, hx⟩; simp_all [fieldK])

end Go.Proofs.YtjjbdbklbghlhaaGreatDoor
/- Short names for the moves of a walk through a region that draws its order. -/
namespace Go.Proofs.YtjjbdbklbghlhaaGreatDoor
set_option linter.unusedSimpArgs false


section
variable {P : Program} {md : Region.Mode} {ops : Array Oper} {Q : Exit → Act → World → Prop} {S : World → Prop}
theorem tk (i : Nat) {oi : Oper} (v : Value) {fuel : Nat} {listed : Array Bool} {a : Act} {w : World}
  (h : wpAnyH P md ops Q S fuel (listed.setIfInBounds i true) (a.put oi.dst v) w)
  (hi : ops[i]? = some oi := by rfl)
  (h1 : Region.noSelect ops = true := by kernel_rfl) (h2 : Region.free md ops listed i = true := by kernel_rfl) (h3 : (Region.ready md ops listed).contains i = true := by kernel_rfl)
  (hQ : ∀ c a w, Q (.panic c) (a.put oi.dst v) w → Q (.panic c) a w := by exact fun _ _ _ h => h)
  (hy : YieldsIf P ops S oi v a := by exact Or.inl ⟨by rfl, by (intro w hSw; (try dsimp only at hSw); go_simp; try (first | omega | (rw [IntKind.wrap_i64]; omega)))⟩) (hS : S w := by assumption) :
  wpAnyH P md ops Q S (fuel + 1) listed a w := wpAnyH_take hi h1 h2 h3 hQ hy hS h
/-- one that its guard leaves out -/
theorem tk0 (i : Nat) {oi : Oper} {fuel : Nat} {listed : Array Bool} {a : Act} {w : World}
  (h : wpAnyH P md ops Q S fuel (listed.setIfInBounds i true) (a.put oi.dst undef) w)
  (hi : ops[i]? = some oi := by rfl)
  (h1 : Region.noSelect ops = true := by kernel_rfl) (h2 : Region.free md ops listed i = true := by kernel_rfl) (h3 : (Region.ready md ops listed).contains i = true := by kernel_rfl)
  (hQ : ∀ c a w, Q (.panic c) (a.put oi.dst undef) w → Q (.panic c) a w := by exact fun _ _ _ h => h)
  (hy : YieldsIf P ops S oi undef a := by exact Or.inr ⟨by rfl, rfl⟩) (hS : S w := by assumption) :
  wpAnyH P md ops Q S (fuel + 1) listed a w := wpAnyH_take hi h1 h2 h3 hQ hy hS h
/-- one alone is ready -/
theorem tk1 (i : Nat) {oi : Oper} {fuel : Nat} {listed : Array Bool} {a : Act} {w : World} (_hi : ops[i]? = some oi)
  (h : AllReadyH P md ops Q S fuel listed a w [i]) (hr : Region.ready md ops listed = [i] := by kernel_rfl) : wpAnyH P md ops Q S (fuel + 1) listed a w := wpAnyH_ready hr (by simp) h
end
/-- the frame written out -/
theorem tkN : (∀ (α : Type) (xs : List α) (i : Nat) (h : i < xs.toArray.size), xs.toArray[i]'h = xs[i]'(by simpa using h)) ∧
  (∀ (α : Type) (x : α) (xs : List α) (h : 0 < (x :: xs).length), (x :: xs)[0]'h = x) ∧
  (∀ (α : Type) (x : α) (xs : List α) (i : Nat) (h : i + 1 < (x :: xs).length), (x :: xs)[i + 1]'h = xs[i]'(by simpa using h)) ∧
  (∀ (a : Act) (d : Tmp) (v : Value), a.put (some d) v = { a with tmps := a.tmps.setIfInBounds d v }) ∧ (∀ (a : Act) (v : Value), a.put none v = a) ∧
  (∀ (α : Type) (xs : List α) (i : Nat) (x : α), xs.toArray.setIfInBounds i x = (xs.set i x).toArray) ∧
  (∀ (α : Type) (x y : α) (xs : List α), (x :: xs).set 0 y = y :: xs) ∧ (∀ (α : Type) (x y : α) (xs : List α) (i : Nat), (x :: xs).set (i + 1) y = x :: xs.set i y) ∧
  (∀ (α : Type) (xs : Array α), xs.toList.toArray = xs) :=
 ⟨fun _ xs i h => by simp, fun _ _ _ _ => rfl, fun _ _ _ _ _ => rfl, fun _ _ _ => rfl, fun _ _ => rfl, fun _ xs i x => by simp, fun _ _ _ _ => rfl, fun _ _ _ _ _ => rfl, fun _ xs => by simp⟩
end Go.Proofs.YtjjbdbklbghlhaaGreatDoor
/- Settings, rows of settings, nodes: plain, and how they lie in memory. -/
namespace Go.Proofs.YtjjbdbklbghlhaaGreatDoor
open Go.RowKit Go.Sort
set_option linter.unusedSimpArgs false

/-- a setting -/
structure AcD where
 d : Int
 f : Int
 n : Int
 deriving DecidableEq
abbrev RowD := List AcD
def AcD.cs (x : AcD) : List Value := [.int .i8 x.d, .int .i8 x.f, .int .u64 x.n]
def AcD.ok (x : AcD) : Prop := (-128 ≤ x.d ∧ x.d ≤ 127) ∧ (-128 ≤ x.f ∧ x.f ≤ 127) ∧ (0 ≤ x.n ∧ x.n ≤ 18446744073709551615)
instance : Inhabited AcD := ⟨⟨0, 0, 0⟩⟩
theorem AcD.len_cs (x : AcD) : x.cs.length = 3 := rfl
theorem AcD.one (x : AcD) : ∀ v ∈ x.cs, v.oneCell' = true := by
 intro v hv
 simp [AcD.cs] at hv
 rcases hv with rfl | rfl | rfl <;> rfl
def flatA (r : RowD) : List Value := r.flatMap AcD.cs
theorem flatA_len (r : RowD) : (flatA r).length = r.length * 3 := by
 induction r with
 | nil => rfl
 | cons x xs ih => simp only [flatA, List.flatMap_cons, List.length_append, AcD.len_cs, List.length_cons] at *; omega
theorem flatA_app (l m : RowD) : flatA (l ++ m) = flatA l ++ flatA m := by simp [flatA]
/-- a node -/
structure NdD where
 f : Int
 n : Int
 hi : Int
 lo : Int
 leaf : List RowD
 deriving DecidableEq
def NdD.cs (x : NdD) (lv : Value) : List Value := [.int .i8 x.f, .int .u64 x.n, .int .i64 x.hi, .int .i64 x.lo, lv]

/-- a row of settings, read in blocks that B lets -/
def RowOn (B : Nat → Prop) (w : World) (r : RowD) (v : Value) : Prop :=
 ∃ p len cap, v = .slice p len cap ∧ len = r.length ∧ len ≤ cap ∧ cap ≤ 9223372036854775807 ∧ (∀ x ∈ r, x.ok) ∧ (r = [] ∨ ∃ b o, p = some ⟨b, o, none⟩ ∧ B b ∧ b < w.heap.size ∧ w.rangeAt b o (flatA r))
/-- rows of settings -/
def RowsOn (B : Nat → Prop) (w : World) (l : List RowD) (v : Value) : Prop :=
 ∃ p len cap, v = .slice p len cap ∧ len = l.length ∧ len ≤ cap ∧ cap ≤ 9223372036854775807 ∧ (l = [] ∨ ∃ b o vs, p = some ⟨b, o, none⟩ ∧ B b ∧ b < w.heap.size ∧ vs.length = l.length ∧ w.rangeAt b o vs ∧ ∀ i (h : i < l.length) (h' : i < vs.length), RowOn B w (l[i]) (vs[i]))
def AnyB : Nat → Prop := fun _ => True
theorem RowOn.keep {B : Nat → Prop} {w w' : World} {r : RowD} {v : Value} (h : RowOn B w r v) (hs : w.heap.size ≤ w'.heap.size) (hk : ∀ b, B b → b < w.heap.size → w'.heap[b]? = w.heap[b]?) : RowOn B w' r v := by
 obtain ⟨p, len, cap, e1, e2, e3, e4, e5, e6⟩ := h
 refine ⟨p, len, cap, e1, e2, e3, e4, e5, e6.imp id fun ⟨b, o, hp, hb, hlt, hr⟩ => ⟨b, o, hp, hb, by omega, fun j u hu => ?_⟩⟩
 rw [World.cell?_of_block (a := ⟨b, o + j, none⟩) (hk b hb hlt)]
 exact hr j u hu
theorem RowsOn.keep {B : Nat → Prop} {w w' : World} {l : List RowD} {v : Value} (h : RowsOn B w l v) (hs : w.heap.size ≤ w'.heap.size) (hk : ∀ b, B b → b < w.heap.size → w'.heap[b]? = w.heap[b]?) : RowsOn B w' l v := by
 obtain ⟨p, len, cap, e1, e2, e3, e4, e6⟩ := h
 refine ⟨p, len, cap, e1, e2, e3, e4, e6.imp id fun ⟨b, o, vs, hp, hb, hlt, hl, hr, hrow⟩ => ⟨b, o, vs, hp, hb, by omega, hl, fun j u hu => ?_, fun i h h' => (hrow i h h').keep hs hk⟩⟩
 rw [World.cell?_of_block (a := ⟨b, o + j, none⟩) (hk b hb hlt)]
 exact hr j u hu
theorem RowOn.mono {B C : Nat → Prop} {w : World} {r : RowD} {v : Value} (h : RowOn B w r v) (hBC : ∀ b, b < w.heap.size → B b → C b) : RowOn C w r v := by
 obtain ⟨p, len, cap, e1, e2, e3, e4, e5, e6⟩ := h
 exact ⟨p, len, cap, e1, e2, e3, e4, e5, e6.imp id fun ⟨b, o, hp, hb, hlt, hr⟩ => ⟨b, o, hp, hBC b hlt hb, hlt, hr⟩⟩
theorem RowsOn.mono {B C : Nat → Prop} {w : World} {l : List RowD} {v : Value} (h : RowsOn B w l v) (hBC : ∀ b, b < w.heap.size → B b → C b) : RowsOn C w l v := by
 obtain ⟨p, len, cap, e1, e2, e3, e4, e6⟩ := h
 exact ⟨p, len, cap, e1, e2, e3, e4, e6.imp id fun ⟨b, o, vs, hp, hb, hlt, hl, hr, hrow⟩ => ⟨b, o, vs, hp, hBC b hlt hb, hlt, hl, hr, fun i h h' => (hrow i h h').mono hBC⟩⟩
theorem RowOn.ext {B : Nat → Prop} {w w' : World} {r : RowD} {v : Value} (h : RowOn B w r v) (hx : Ext w w') : RowOn B w' r v := h.keep hx.size fun b _ hlt => Below.block hx b hlt
theorem RowsOn.ext {B : Nat → Prop} {w w' : World} {l : List RowD} {v : Value} (h : RowsOn B w l v) (hx : Ext w w') : RowsOn B w' l v := h.keep hx.size fun b _ hlt => Below.block hx b hlt
theorem RowOn.nil {B : Nat → Prop} {w : World} : RowOn B w [] (.slice none 0 0) := ⟨none, 0, 0, rfl, rfl, Nat.le_refl _, by omega, (fun _ h => by cases h), .inl rfl⟩
theorem RowsOn.nil {B : Nat → Prop} {w : World} : RowsOn B w [] (.slice none 0 0) := ⟨none, 0, 0, rfl, rfl, Nat.le_refl _, by omega, .inl rfl⟩
theorem RowOn.form {B : Nat → Prop} {w : World} {r : RowD} {v : Value} (h : RowOn B w r v) : ∃ p cap, v = .slice p r.length cap ∧ r.length ≤ cap ∧ cap ≤ 9223372036854775807 := by
 obtain ⟨p, len, cap, rfl, rfl, e3, e4, -⟩ := h
 exact ⟨p, cap, rfl, e3, e4⟩

/-- w' is w, draws, new blocks -/
def Grown (w w' : World) : Prop := ∃ (q : Nat) (os : Array Obj), w' = grow (w.drewN q) os
theorem Grown.refl (w : World) : Grown w w := ⟨0, #[], by simp [World.drewN]⟩
theorem grow_drewN (w : World) (os : Array Obj) (q : Nat) : (grow w os).drewN q = grow (w.drewN q) os := rfl
theorem Grown.alloc {a w : World} (h : Grown a w) (o : Obj) : Grown a (w.alloc o) := by
 obtain ⟨q, os, rfl⟩ := h
 exact ⟨q, os ++ #[o], by rw [alloc_eq_grow, grow_grow]⟩
theorem drewN_drewN (w : World) (p q : Nat) : (w.drewN p).drewN q = w.drewN (p + q) := by simp [World.drewN, Nat.add_assoc]
theorem Grown.drewN {a w : World} (h : Grown a w) (n : Nat) : Grown a (w.drewN n) := by
 obtain ⟨q, os, rfl⟩ := h
 exact ⟨q + n, os, by rw [grow_drewN, drewN_drewN]⟩
theorem Grown.drew {a w : World} (h : Grown a w) : Grown a w.drew := h.drewN 1
theorem Grown.trans {a b c : World} (h : Grown a b) (k : Grown b c) : Grown a c := by
 obtain ⟨q, os, rfl⟩ := h
 obtain ⟨q', os', rfl⟩ := k
 exact ⟨q + q', os ++ os', by rw [grow_drewN, drewN_drewN, grow_grow]⟩
theorem grow_below (w : World) (os : Array Obj) : Below w.heap.size w (grow w os) := ⟨rfl, rfl, rfl, by simp [grow], fun i hi => by simp [grow, Array.getElem?_append, hi]⟩
theorem Grown.ext {a b : World} (h : Grown a b) : Ext a b := by
 obtain ⟨q, os, rfl⟩ := h
 exact (Ext.drewN a q).trans (grow_below _ _)
end Go.Proofs.YtjjbdbklbghlhaaGreatDoor
