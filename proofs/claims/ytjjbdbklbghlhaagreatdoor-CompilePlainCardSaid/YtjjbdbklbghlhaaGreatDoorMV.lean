/- How many terms, sets and unlike tests there are: in plain words, and its memory. -/
import Derived.Test.YtjjbdbklbghlhaaGreatDoorMP
import Derived.Test.YtjjbdbklbghlhaaGreatDoorMA
namespace Go.Proofs.YtjjbdbklbghlhaaGreatDoor
open Go.RowKit Go.Sort Go.Maps Go.Lib
set_option linter.unusedSimpArgs false

/-- terms, sets, tests -/
structure TS where
 t : Int
 s : Int
 l : List (Int × Int)
mutual
def tallyP : Tm → TS → TS
 | .mk op f n ks, S => tallyAll ks ⟨S.t + 1, if op = 7 then S.s + 1 else S.s, if op = 2 then (if (f, n) ∈ S.l then S.l else S.l ++ [(f, n)]) else S.l⟩
def tallyAll : List Tm → TS → TS
 | [], S => S
 | t :: ts, S => if S.t ≤ 60 then tallyAll ts (tallyP t S) else S
end
structure TSok (S : TS) : Prop where
 t0 : 0 ≤ S.t
 t1 : S.t ≤ 61
 s0 : 0 ≤ S.s
 s1 : S.s ≤ S.t
 l1 : (S.l.length : Int) ≤ S.t
mutual
theorem tallyP_ok : ∀ (t : Tm) {S : TS}, TSok S → S.t ≤ 60 → TSok (tallyP t S)
 | .mk op f n ks, S, h, h60 => by
  rw [tallyP]
  refine tallyAll_ok ks ⟨?_, ?_, ?_, ?_, ?_⟩
  ·have := h.t0; show 0 ≤ S.t + 1; omega
  ·show S.t + 1 ≤ 61; omega
  ·have := h.s0
   show 0 ≤ (if op = 7 then S.s + 1 else S.s)
   split <;> omega
  ·have := h.s1
   show (if op = 7 then S.s + 1 else S.s) ≤ S.t + 1
   split <;> omega
  ·have := h.l1
   show (((if op = 2 then (if (f, n) ∈ S.l then S.l else S.l ++ [(f, n)]) else S.l) : List (Int × Int)).length : Int) ≤ S.t + 1
   split
   ·split
    ·omega
    ·rw [List.length_append]; simp only [List.length_cons, List.length_nil]; omega
   ·omega
theorem tallyAll_ok : ∀ (ks : List Tm) {S : TS}, TSok S → TSok (tallyAll ks S)
 | [], S, h => by rw [tallyAll]; exact h
 | t :: ts, S, h => by
  rw [tallyAll]
  split
  ·rename_i h60
   exact tallyAll_ok ts (tallyP_ok t h h60)
  ·exact h
end
/-- tests as terms -/
def flatT2 (l : List (Int × Int)) : List Value := l.flatMap fun x => [.int .i8 0, .int .i8 x.1, .int .u64 x.2, .slice none 0 0]
theorem flatT2_len (l : List (Int × Int)) : (flatT2 l).length = l.length * 4 := by
 induction l with
 | nil => rfl
 | cons x xs ih =>
  have : flatT2 (x :: xs) = [.int .i8 0, .int .i8 x.1, .int .u64 x.2, .slice none 0 0] ++ flatT2 xs := by simp [flatT2]
  rw [this, List.length_append, ih]
  simp only [List.length_cons, List.length_nil]
  omega
theorem flatT2_at : ∀ (l : List (Int × Int)) (i : Nat) (h : i < l.length), (flatT2 l)[i * 4 + 1]? = some (.int .i8 (l[i]).1) ∧ (flatT2 l)[i * 4 + 2]? = some (.int .u64 (l[i]).2)
 | x :: xs, 0, _ => ⟨rfl, rfl⟩
 | x :: xs, i + 1, h => by
  have ih := flatT2_at xs i (by simpa using h)
  have e : flatT2 (x :: xs) = [.int .i8 0, .int .i8 x.1, .int .u64 x.2, .slice none 0 0] ++ flatT2 xs := by simp [flatT2]
  rw [e, List.getElem_cons_succ]
  constructor
  ·rw [List.getElem?_append_right (by simp; omega)]
   rw [show (i + 1) * 4 + 1 - ([.int .i8 0, .int .i8 x.1, .int .u64 x.2, .slice none 0 0] : List Value).length = i * 4 + 1 from by simp only [List.length_cons, List.length_nil]; omega]
   exact ih.1
  ·rw [List.getElem?_append_right (by simp; omega)]
   rw [show (i + 1) * 4 + 2 - ([.int .i8 0, .int .i8 x.1, .int .u64 x.2, .slice none 0 0] : List Value).length = i * 4 + 2 from by simp only [List.length_cons, List.length_nil]; omega]
   exact ih.2
theorem elemT : Elem Tryz.prog 24 26 4 40 :=
 ⟨Tryz.underlying24, by obtain ⟨i, h1, h2, h3, h4⟩ := info_parts (show (Tryz.prog.info? 26).map (fun i => (i.zero, i.size, i.bytes)) = some (some (.agg #[.int .i8 0, .int .i8 0, .int .u64 0, .slice none 0 0]), 4, 40) from by kernel_rfl); exact ⟨i, _, h1, h2, h3, h4, rfl⟩, by omega, fun w => by kernel_rfl, by omega⟩

/-- the blocks that a tally writes -/
def OwnT (bt bs bl : Nat) (u : Value) : Nat → Prop := fun b => b = bt ∨ b = bs ∨ b = bl ∨ u.ownBlock = some b
structure TyAt (w : World) (bt bs bl : Nat) (u : Value) (S : TS) : Prop where
 ct : w.cell? ⟨bt, 0, none⟩ = some (.int .i64 S.t)
 cs : w.cell? ⟨bs, 0, none⟩ = some (.int .i64 S.s)
 cl : w.cell? ⟨bl, 0, none⟩ = some u
 ft : w.frozen? ⟨bt, 0, none⟩ = false
 fs : w.frozen? ⟨bs, 0, none⟩ = false
 fl : w.frozen? ⟨bl, 0, none⟩ = false
 own : w.ownsRow 0 26 4 u S.l.length (flatT2 S.l)
 ne : bt ≠ bs ∧ bt ≠ bl ∧ bs ≠ bl ∧ ∀ g, u.ownBlock = some g → g ≠ bt ∧ g ≠ bs ∧ g ≠ bl
theorem TyAt.lt {w : World} {bt bs bl : Nat} {u : Value} {S : TS} (h : TyAt w bt bs bl u S) : ∀ b, OwnT bt bs bl u b → b < w.heap.size := fun b hb => by
 rcases hb with rfl | rfl | rfl | hb
 ·exact World.block_lt_of_cell? w _ h.ct
 ·exact World.block_lt_of_cell? w _ h.cs
 ·exact World.block_lt_of_cell? w _ h.cl
 ·exact (h.own.lt b hb).2
theorem TyAt.ext {w w' : World} {bt bs bl : Nat} {u : Value} {S : TS} (h : TyAt w bt bs bl u S) (hx : Ext w w') : TyAt w' bt bs bl u S :=
 ⟨hx.later _ _ h.ct, hx.later _ _ h.cs, hx.later _ _ h.cl, by rw [Below.frozen hx (World.block_lt_of_cell? w _ h.ct)]; exact h.ft, by rw [Below.frozen hx (World.block_lt_of_cell? w _ h.cs)]; exact h.fs, by rw [Below.frozen hx (World.block_lt_of_cell? w _ h.cl)]; exact h.fl, owns_ext h.own hx, h.ne⟩
theorem ownsSet {w : World} {base : Nat} {e : TypeId} {k n : Nat} {u : Value} {xs : List Value} (h : w.ownsRow base e k u n xs) (a : Addr) (v : Value) (hne : u.ownBlock = none ∨ u.ownBlock ≠ some a.block) : (w.setCell a v).ownsRow base e k u n xs :=
 h.kept (Keep.grownBy (Keep.set (S := fun b => b = a.block) w a v rfl)) hne
theorem TyAt.setT {w : World} {bt bs bl : Nat} {u : Value} {S : TS} (h : TyAt w bt bs bl u S) (k : Int) : TyAt (w.setCell ⟨bt, 0, none⟩ (.int .i64 k)) bt bs bl u ⟨k, S.s, S.l⟩ := by
 obtain ⟨n1, n2, n3, n4⟩ := h.ne
 refine ⟨World.cell?_setCell_same _ _ _ h.ct, ?_, ?_, by rw [World.frozen?_setCell]; exact h.ft, by rw [World.frozen?_setCell]; exact h.fs, by rw [World.frozen?_setCell]; exact h.fl, ownsSet h.own _ _ ?_, h.ne⟩
 ·rw [World.cell?_setCell_other _ _ _ _ (fun e => by injection e; omega)]; exact h.cs
 ·rw [World.cell?_setCell_other _ _ _ _ (fun e => by injection e; omega)]; exact h.cl
 ·exact .inr (fun e => (n4 _ e).1 rfl)
theorem TyAt.setS {w : World} {bt bs bl : Nat} {u : Value} {S : TS} (h : TyAt w bt bs bl u S) (k : Int) : TyAt (w.setCell ⟨bs, 0, none⟩ (.int .i64 k)) bt bs bl u ⟨S.t, k, S.l⟩ := by
 obtain ⟨n1, n2, n3, n4⟩ := h.ne
 refine ⟨?_, World.cell?_setCell_same _ _ _ h.cs, ?_, by rw [World.frozen?_setCell]; exact h.ft, by rw [World.frozen?_setCell]; exact h.fs, by rw [World.frozen?_setCell]; exact h.fl, ownsSet h.own _ _ ?_, h.ne⟩
 ·rw [World.cell?_setCell_other _ _ _ _ (fun e => by injection e; omega)]; exact h.ct
 ·rw [World.cell?_setCell_other _ _ _ _ (fun e => by injection e; omega)]; exact h.cl
 ·exact .inr (fun e => (n4 _ e).2.1 rfl)
theorem flatT2_set (l : List (Int × Int)) (f n : Int) : ((((flatT2 l ++ ([.int .i8 0, .int .i8 0, .int .u64 0, .slice none 0 0] : List Value)).set (l.length * 4) (Value.int .i8 0)).set (l.length * 4 + 1) (Value.int .i8 f)).set (l.length * 4 + 2) (Value.int .u64 n)).set (l.length * 4 + 3) (Value.slice none 0 0) = flatT2 (l ++ [(f, n)]) := by
 have e : flatT2 (l ++ [(f, n)]) = flatT2 l ++ [.int .i8 0, .int .i8 f, .int .u64 n, .slice none 0 0] := by simp [flatT2]
 have hl := flatT2_len l
 rw [e]
 repeat rw [List.set_append_right _ _ (by omega)]
 rw [← hl]
 congr 1
 simp
/-- the new test's cells set -/
theorem owns_setT {w : World} {g cap : Nat} {l : List (Int × Int)} (f n : Int) (h : w.ownsRow 0 26 4 (.slice (some ⟨g, 0, none⟩) (l.length + 1) cap) (l.length + 1) (flatT2 l ++ [.int .i8 0, .int .i8 0, .int .u64 0, .slice none 0 0])) :
  (w.setCells g (l.length * 4) [.int .i8 0, .int .i8 f, .int .u64 n, .slice none 0 0]).ownsRow 0 26 4 (.slice (some ⟨g, 0, none⟩) (l.length + 1) cap) (l.length + 1) (flatT2 (l ++ [(f, n)])) := by
 have h1 := (((((h.stored (l.length * 4) (.int .i8 0)).1.stored (l.length * 4 + 1) (.int .i8 f)).1).stored (l.length * 4 + 1 + 1) (.int .u64 n)).1.stored (l.length * 4 + 1 + 1 + 1) (.slice none 0 0)).1
 rw [← flatT2_set]
 exact h1
theorem owns_there {w : World} {g cap : Nat} {l : List (Int × Int)} (h : w.ownsRow 0 26 4 (.slice (some ⟨g, 0, none⟩) (l.length + 1) cap) (l.length + 1) (flatT2 l ++ [.int .i8 0, .int .i8 0, .int .u64 0, .slice none 0 0])) : w.there g (l.length * 4) 4 := fun j hj => by
 refine ⟨?_, h.frozenAt _⟩
 rw [h.cellAt _ (by omega), List.getElem?_eq_getElem (by rw [List.length_append, flatT2_len]; simp only [List.length_cons, List.length_nil]; omega)]
 rfl
theorem keepCells (S : Nat → Prop) (b : Nat) (hb : S b) : ∀ (vs : List Value) (o : Nat) (w : World), Keep S w (w.setCells b o vs)
 | [], _, _ => Keep.refl _ _
 | v :: r, o, w => (Keep.set w ⟨b, o, none⟩ v hb).trans (keepCells S b hb r (o + 1) _)
theorem ty_app {w y2 : World} {bt bs bl : Nat} {u v : Value} (g2 : w.grownBy y2 u.ownBlock) (t2 : v.ownBlock = u.ownBlock ∨ v.ownBlock = some w.heap.size) : WentC (OwnT bt bs bl u) w (OwnT bt bs bl v) y2 := by
 refine ⟨fun b hb => ?_, ⟨g2.os, g2.tape, g2.output, g2.size, fun i hi hn => g2.block i hi (fun e => hn (.inr (.inr (.inr e.symm))))⟩⟩
 rcases hb with h | h | h | h
 ·exact .inl (.inl h)
 ·exact .inl (.inr (.inl h))
 ·exact .inl (.inr (.inr (.inl h)))
 ·rcases t2 with e | e
  ·exact .inl (.inr (.inr (.inr (e ▸ h))))
  ·rw [e] at h
   injection h with h
   exact .inr (by omega)
structure TyPush (w y2 : World) (bt bs bl g c2 m : Nat) (u : Value) (t s : Int) (l : List (Int × Int)) (f n : Int) : Prop where
 cl : (y2.setCells g (m * 4) [.int .i8 0, .int .i8 f, .int .u64 n, .slice none 0 0]).cell? ⟨bl, 0, none⟩ = some u
 fl : (y2.setCells g (m * 4) [.int .i8 0, .int .i8 f, .int .u64 n, .slice none 0 0]).frozen? ⟨bl, 0, none⟩ = false
 th : y2.there g (m * 4) 4
 w2 : WentC (OwnT bt bs bl u) w (OwnT bt bs bl (.slice (some ⟨g, 0, none⟩) (m + 1) c2)) y2
 w3 : WentC (OwnT bt bs bl u) w (OwnT bt bs bl (.slice (some ⟨g, 0, none⟩) (m + 1) c2)) (y2.setCells g (m * 4) [.int .i8 0, .int .i8 f, .int .u64 n, .slice none 0 0])
 w4 : WentC (OwnT bt bs bl u) w (OwnT bt bs bl (.slice (some ⟨g, 0, none⟩) (m + 1) c2)) ((y2.setCells g (m * 4) [.int .i8 0, .int .i8 f, .int .u64 n, .slice none 0 0]).setCell ⟨bl, 0, none⟩ (.slice (some ⟨g, 0, none⟩) (m + 1) c2))
 ty : TyAt ((y2.setCells g (m * 4) [.int .i8 0, .int .i8 f, .int .u64 n, .slice none 0 0]).setCell ⟨bl, 0, none⟩ (.slice (some ⟨g, 0, none⟩) (m + 1) c2)) bt bs bl (.slice (some ⟨g, 0, none⟩) (m + 1) c2) ⟨t, s, l ++ [(f, n)]⟩
theorem ty_push {w y2 : World} {bt bs bl g c2 m : Nat} {u : Value} {t s : Int} {l : List (Int × Int)} (f n : Int) (h : TyAt w bt bs bl u ⟨t, s, l⟩) (hm : m = l.length)
  (o2 : y2.ownsRow 0 26 4 (.slice (some ⟨g, 0, none⟩) (m + 1) c2) (m + 1) (flatT2 l ++ [.int .i8 0, .int .i8 0, .int .u64 0, .slice none 0 0])) (g2 : w.grownBy y2 u.ownBlock) (t2 : (Value.slice (some ⟨g, 0, none⟩) (m + 1) c2).ownBlock = u.ownBlock ∨ (Value.slice (some ⟨g, 0, none⟩) (m + 1) c2).ownBlock = some w.heap.size) : TyPush w y2 bt bs bl g c2 m u t s l f n := by
 subst hm
 have hlt := h.lt
 obtain ⟨n1, n2, n3, n4⟩ := h.ne
 have lt := hlt bt (.inl rfl)
 have ls := hlt bs (.inr (.inl rfl))
 have ll := hlt bl (.inr (.inr (.inl rfl)))
 have hgb : (Value.slice (some ⟨g, 0, none⟩) (l.length + 1) c2).ownBlock = some g := rfl
 have hg : g ≠ bt ∧ g ≠ bs ∧ g ≠ bl := by
  rw [hgb] at t2
  rcases t2 with e | e
  ·exact n4 g e.symm
  ·injection e with e
   omega
 have blk : ∀ b, b < w.heap.size → b = bt ∨ b = bs ∨ b = bl → y2.heap[b]? = w.heap[b]? := fun b hb hbb => g2.block b hb (fun e => by
  have := n4 b e.symm
  omega)
 have cel : ∀ b, b < w.heap.size → (b = bt ∨ b = bs ∨ b = bl) → (y2.setCells g (l.length * 4) [.int .i8 0, .int .i8 f, .int .u64 n, .slice none 0 0]).cell? ⟨b, 0, none⟩ = w.cell? ⟨b, 0, none⟩ := fun b hb hbb => by
  rw [World.cell?_setCells_out g _ _ _ _ (fun e => by have e : b = g := e; omega)]
  exact World.cell?_of_block (blk b hb hbb)
 have frz : ∀ b, b < w.heap.size → (b = bt ∨ b = bs ∨ b = bl) → (y2.setCells g (l.length * 4) [.int .i8 0, .int .i8 f, .int .u64 n, .slice none 0 0]).frozen? ⟨b, 0, none⟩ = w.frozen? ⟨b, 0, none⟩ := fun b hb hbb => by
  rw [World.frozen?_setCells]
  exact World.frozen?_of_block (blk b hb hbb)
 have o3 := owns_setT f n o2
 have hw2 : WentC (OwnT bt bs bl u) w (OwnT bt bs bl (.slice (some ⟨g, 0, none⟩) (l.length + 1) c2)) y2 := ty_app g2 t2
 have hw3 := hw2.trans (show WentC (OwnT bt bs bl (.slice (some ⟨g, 0, none⟩) (l.length + 1) c2)) y2 (OwnT bt bs bl (.slice (some ⟨g, 0, none⟩) (l.length + 1) c2)) (y2.setCells g (l.length * 4) [.int .i8 0, .int .i8 f, .int .u64 n, .slice none 0 0]) from ⟨fun _ h => .inl h, keepCells _ g (.inr (.inr (.inr rfl))) _ _ _⟩)
 have hcl := cel bl ll (.inr (.inr rfl))
 have hfl := frz bl ll (.inr (.inr rfl))
 refine ⟨hcl.trans h.cl, hfl.trans h.fl, owns_there o2, hw2, hw3, hw3.trans ⟨fun _ h => .inl h, Keep.set _ _ _ (.inr (.inr (.inl rfl)))⟩, ?_⟩
 refine ⟨?_, ?_, World.cell?_setCell_same _ _ _ (hcl.trans h.cl), ?_, ?_, ?_, ?_, n1, n2, n3, fun g' e => ?_⟩
 ·rw [World.cell?_setCell_other _ _ _ _ (fun e => by injection e; omega)]
  exact (cel bt lt (.inl rfl)).trans h.ct
 ·rw [World.cell?_setCell_other _ _ _ _ (fun e => by injection e; omega)]
  exact (cel bs ls (.inr (.inl rfl))).trans h.cs
 ·rw [World.frozen?_setCell]
  exact (frz bt lt (.inl rfl)).trans h.ft
 ·rw [World.frozen?_setCell]
  exact (frz bs ls (.inr (.inl rfl))).trans h.fs
 ·rw [World.frozen?_setCell]
  exact hfl.trans h.fl
 ·have := ownsSet o3 ⟨bl, 0, none⟩ (.slice (some ⟨g, 0, none⟩) (l.length + 1) c2) (.inr (fun e => by rw [hgb] at e; injection e with e; exact hg.2.2 e))
  simpa using this
 ·rw [hgb] at e
  injection e with e
  omega
/-- the other order: the slice first, then the element -/
structure TyPush2 (w y2 : World) (bt bs bl g c2 m : Nat) (u : Value) (t s : Int) (l : List (Int × Int)) (f n : Int) : Prop where
 cl : y2.cell? ⟨bl, 0, none⟩ = some u
 fl : y2.frozen? ⟨bl, 0, none⟩ = false
 w3 : WentC (OwnT bt bs bl u) w (OwnT bt bs bl (.slice (some ⟨g, 0, none⟩) (m + 1) c2)) (y2.setCell ⟨bl, 0, none⟩ (.slice (some ⟨g, 0, none⟩) (m + 1) c2))
 th : (y2.setCell ⟨bl, 0, none⟩ (.slice (some ⟨g, 0, none⟩) (m + 1) c2)).there g (m * 4) 4
 w4 : WentC (OwnT bt bs bl u) w (OwnT bt bs bl (.slice (some ⟨g, 0, none⟩) (m + 1) c2)) ((y2.setCell ⟨bl, 0, none⟩ (.slice (some ⟨g, 0, none⟩) (m + 1) c2)).setCells g (m * 4) [.int .i8 0, .int .i8 f, .int .u64 n, .slice none 0 0])
 ty : TyAt ((y2.setCell ⟨bl, 0, none⟩ (.slice (some ⟨g, 0, none⟩) (m + 1) c2)).setCells g (m * 4) [.int .i8 0, .int .i8 f, .int .u64 n, .slice none 0 0]) bt bs bl (.slice (some ⟨g, 0, none⟩) (m + 1) c2) ⟨t, s, l ++ [(f, n)]⟩
theorem ty_push2 {w y2 : World} {bt bs bl g c2 m : Nat} {u : Value} {t s : Int} {l : List (Int × Int)} (f n : Int) (h : TyAt w bt bs bl u ⟨t, s, l⟩) (hm : m = l.length)
  (o2 : y2.ownsRow 0 26 4 (.slice (some ⟨g, 0, none⟩) (m + 1) c2) (m + 1) (flatT2 l ++ [.int .i8 0, .int .i8 0, .int .u64 0, .slice none 0 0])) (g2 : w.grownBy y2 u.ownBlock) (t2 : (Value.slice (some ⟨g, 0, none⟩) (m + 1) c2).ownBlock = u.ownBlock ∨ (Value.slice (some ⟨g, 0, none⟩) (m + 1) c2).ownBlock = some w.heap.size) : TyPush2 w y2 bt bs bl g c2 m u t s l f n := by
 subst hm
 have hlt := h.lt
 obtain ⟨n1, n2, n3, n4⟩ := h.ne
 have lt := hlt bt (.inl rfl)
 have ls := hlt bs (.inr (.inl rfl))
 have ll := hlt bl (.inr (.inr (.inl rfl)))
 have hgb : (Value.slice (some ⟨g, 0, none⟩) (l.length + 1) c2).ownBlock = some g := rfl
 have hg : g ≠ bt ∧ g ≠ bs ∧ g ≠ bl := by
  rw [hgb] at t2
  rcases t2 with e | e
  ·exact n4 g e.symm
  ·injection e with e
   omega
 have blk : ∀ b, b < w.heap.size → b = bt ∨ b = bs ∨ b = bl → y2.heap[b]? = w.heap[b]? := fun b hb hbb => g2.block b hb (fun e => by
  have := n4 b e.symm
  omega)
 have hcl : y2.cell? ⟨bl, 0, none⟩ = some u := (World.cell?_of_block (blk bl ll (.inr (.inr rfl)))).trans h.cl
 have hfl : y2.frozen? ⟨bl, 0, none⟩ = false := (World.frozen?_of_block (blk bl ll (.inr (.inr rfl)))).trans h.fl
 have o2' := ownsSet o2 ⟨bl, 0, none⟩ (.slice (some ⟨g, 0, none⟩) (l.length + 1) c2) (.inr (fun e => by rw [hgb] at e; injection e with e; exact hg.2.2 e))
 have o3 := owns_setT f n o2'
 have hw2 : WentC (OwnT bt bs bl u) w (OwnT bt bs bl (.slice (some ⟨g, 0, none⟩) (l.length + 1) c2)) y2 := ty_app g2 t2
 have hw3 := hw2.trans (show WentC (OwnT bt bs bl (.slice (some ⟨g, 0, none⟩) (l.length + 1) c2)) y2 (OwnT bt bs bl (.slice (some ⟨g, 0, none⟩) (l.length + 1) c2)) (y2.setCell ⟨bl, 0, none⟩ (.slice (some ⟨g, 0, none⟩) (l.length + 1) c2)) from ⟨fun _ h => .inl h, Keep.set _ _ _ (.inr (.inr (.inl rfl)))⟩)
 have hw4 := hw3.trans (show WentC (OwnT bt bs bl (.slice (some ⟨g, 0, none⟩) (l.length + 1) c2)) _ (OwnT bt bs bl (.slice (some ⟨g, 0, none⟩) (l.length + 1) c2)) ((y2.setCell ⟨bl, 0, none⟩ (.slice (some ⟨g, 0, none⟩) (l.length + 1) c2)).setCells g (l.length * 4) [.int .i8 0, .int .i8 f, .int .u64 n, .slice none 0 0]) from ⟨fun _ h => .inl h, keepCells _ g (.inr (.inr (.inr rfl))) _ _ _⟩)
 have cel : ∀ b, b = bt ∨ b = bs ∨ b = bl → ((y2.setCell ⟨bl, 0, none⟩ (.slice (some ⟨g, 0, none⟩) (l.length + 1) c2)).setCells g (l.length * 4) [.int .i8 0, .int .i8 f, .int .u64 n, .slice none 0 0]).cell? ⟨b, 0, none⟩ = (y2.setCell ⟨bl, 0, none⟩ (.slice (some ⟨g, 0, none⟩) (l.length + 1) c2)).cell? ⟨b, 0, none⟩ := fun b hbb => World.cell?_setCells_out g _ _ _ _ (fun e => by have e : b = g := e; omega)
 refine ⟨hcl, hfl, hw3, owns_there o2', hw4, ?_⟩
 refine ⟨?_, ?_, (cel bl (.inr (.inr rfl))).trans (World.cell?_setCell_same _ _ _ hcl), ?_, ?_, ?_, ?_, n1, n2, n3, fun g' e => ?_⟩
 ·rw [cel bt (.inl rfl), World.cell?_setCell_other _ _ _ _ (fun e => by injection e; omega)]
  exact (World.cell?_of_block (blk bt lt (.inl rfl))).trans h.ct
 ·rw [cel bs (.inr (.inl rfl)), World.cell?_setCell_other _ _ _ _ (fun e => by injection e; omega)]
  exact (World.cell?_of_block (blk bs ls (.inr (.inl rfl)))).trans h.cs
 ·rw [World.frozen?_setCells, World.frozen?_setCell]
  exact (World.frozen?_of_block (blk bt lt (.inl rfl))).trans h.ft
 ·rw [World.frozen?_setCells, World.frozen?_setCell]
  exact (World.frozen?_of_block (blk bs ls (.inr (.inl rfl)))).trans h.fs
 ·rw [World.frozen?_setCells, World.frozen?_setCell]
  exact hfl
 ·simpa using o3
 ·rw [hgb] at e
  injection e with e
  omega
end Go.Proofs.YtjjbdbklbghlhaaGreatDoor
/- The law's tally: terms, sets and unlike tests counted. -/
namespace Go.Proofs.YtjjbdbklbghlhaaGreatDoor
open Go.RowKit Go.Sort Go.Maps Go.Lib
set_option linter.unusedSimpArgs false

def TyPost (w : World) (bt bs bl : Nat) (u : Value) (S : TS) (e : Ending) (w' : World) : Prop := e = .returned (.tuple #[]) ∧ ∃ u', TyAt w' bt bs bl u' S ∧ WentC (OwnT bt bs bl u) w (OwnT bt bs bl u') w'
def TallyOf (t : Tm) : Prop := ∀ (bt bs bl : Nat) (u v : Value) (S : TS) (w : World), TSok S → S.t ≤ 60 → TyAt w bt bs bl u S → TermIn (OwnT bt bs bl u) w t v →
 Calls Tryz.prog 25 #[v, .pointer (some ⟨bt, 0, none⟩), .pointer (some ⟨bs, 0, none⟩), .pointer (some ⟨bl, 0, none⟩)] w (TyPost w bt bs bl u (tallyP t S))
theorem infoTm (a b c d : Value) : (Tryz.prog.info? 26).map (·.size) = some (#[a, b, c, d] : Array Value).size := by
 show _ = some 4
 kernel_rfl
theorem tm_one (a b c : Int) : (#[.int .i8 a, .int .i8 b, .int .u64 c, .slice none 0 0] : Array Value).all (·.oneCell') = true := by
 simp [Value.oneCell']
theorem OwnT.setW {w : World} {bt bs bl : Nat} {u : Value} (b : Nat) (hb : OwnT bt bs bl u b) (o : Nat) (v : Value) : WentC (OwnT bt bs bl u) w (OwnT bt bs bl u) (w.setCell ⟨b, o, none⟩ v) := ⟨fun _ h => .inl h, Keep.set w _ _ hb⟩

set_option maxHeartbeats 16000000 in
set_option maxRecDepth 100000 in
theorem ctally_step (op f n : Int) (ks : List Tm) (IH : ∀ i (h : i < ks.length), TallyOf (ks[i])) : TallyOf (.mk op f n ks) := by
 intro bt bs bl u v S w hS h60 hT hv
 obtain ⟨w0, hx0, hF0, hv0⟩ := id hv
 obtain ⟨cs, rfl, s, hcs, r1, r2, r3, q, len, cap, rfl, hlen, hlc, hcap, hks⟩ := hv0
 subst hcs
 dsimp only [Tm.op, Tm.fld, Tm.n, Tm.kids] at *
 obtain ⟨z, hz⟩ : ∃ z, z = w.heap.size := ⟨_, rfl⟩
 obtain ⟨wA, hA⟩ : ∃ W : World, w.alloc (.cells #[.int .i8 op, .int .i8 f, .int .u64 n, .slice q len cap] 26) = W := ⟨_, rfl⟩
 have xA : Ext w wA := hA ▸ Ext.alloc _ _
 have d0 : wA.cell? ⟨z, 0, none⟩ = some (.int .i8 op) := by rw [← hA, hz]; simp [go_sem]
 have d1 : wA.cell? ⟨z, 1, none⟩ = some (.int .i8 f) := by rw [← hA, hz]; simp [go_sem]
 have d2 : wA.cell? ⟨z, 2, none⟩ = some (.int .u64 n) := by rw [← hA, hz]; simp [go_sem]
 have d3 : wA.cell? ⟨z, 3, none⟩ = some (.slice q len cap) := by rw [← hA, hz]; simp [go_sem]
 have sA : wA.heap.size = w.heap.size + 1 := by rw [← hA, World.size_alloc]
 have HXA := Hd (WentC.ofExt (F := OwnT bt bs bl u) xA)
 have HTA := Hd (hT.ext xA)
 have HNZ := Hd (show ¬ OwnT bt bs bl u z from fun e => by have := hT.lt _ e; omega)
 have HZL := Hd (show z < wA.heap.size from by omega)
 have HKS := Hd (show ks = [] ∨ ∃ b o, q = some ⟨b, o, none⟩ ∧ TermsIn (OwnT bt bs bl u) wA ks b o from hks.imp id fun ⟨b, o, hq, h⟩ => ⟨b, o, hq, (show TermsIn (OwnT bt bs bl u) w ks b o from ⟨w0, hx0, hF0, h⟩).went HXA.out⟩)
 have HBX := Hd (And.intro d0 (And.intro d1 (And.intro d2 d3)))
 have HIH := Hd IH
 have HOK := Hd hS
 have HEQ := Hd hA
 have HLN := Hd hlen
 obtain ⟨t0, s0, l0⟩ := S
 have h60 : t0 ≤ 60 := h60
 have ht0 : 0 ≤ t0 := hS.t0
 have hs0 : 0 ≤ s0 := hS.s0
 have hs1 : s0 ≤ 60 := by have := hS.s1; dsimp only at this; omega
 have hl60 : (l0.length : Int) ≤ 60 := by have := hS.l1; dsimp only at this; omega
 obtain ⟨R, hR⟩ : ∃ R, R = tallyP (.mk op f n ks) ⟨t0, s0, l0⟩ := ⟨_, rfl⟩
 rw [← hR]
 have HRR := Hd (show R = tallyAll ks ⟨t0 + 1, if op = 7 then s0 + 1 else s0, if op = 2 then (if (f, n) ∈ l0 then l0 else l0 ++ [(f, n)]) else l0⟩ from by rw [hR, tallyP])
 obtain ⟨wB, hB⟩ : ∃ W : World, wA.setCell ⟨bt, 0, none⟩ (.int .i64 (t0 + 1)) = W := ⟨_, rfl⟩
 have HTB := Hd (show TyAt wB bt bs bl u ⟨t0 + 1, s0, l0⟩ from hB ▸ HTA.out.setT (t0 + 1))
 have HWB := Hd (show WentC (OwnT bt bs bl u) wA (OwnT bt bs bl u) wB from hB ▸ OwnT.setW bt (.inl rfl) 0 _)
 have HEB := Hd hB
 have HR23 := Hd (And.intro r2 r3)
 have ct := HTA.out.ct
 have ft := HTA.out.ft
 dsimp only at ct
 have hcap2 : len ≤ cap ∧ cap ≤ 9223372036854775807 := ⟨hlc, hcap⟩
 clear hR hS hT hv hx0 hF0 hks hlc hcap hlen IH xA hA hB sA r1 r2 r3
 go_enter Tryz.func25, Tryz.ntmps25
 go_upto_region 1 with fail
 rw [HEQ.out, ← hz]
 clear HEQ hz
 go_upto_region 2 with fail
 rw [HEB.out]
 clear HEB ct ft d0 d1 d2 d3
 have b0 : wB.cell? ⟨z, 0, none⟩ = some (.int .i8 op) := HWB.out.cell HBX.out.1 HNZ.out
 by_cases h7 : op = 7
 case pos =>
  subst h7
  obtain ⟨wC, hC⟩ : ∃ W : World, wB.setCell ⟨bs, 0, none⟩ (.int .i64 (s0 + 1)) = W := ⟨_, rfl⟩
  have HTL := Hd (show TyAt wC bt bs bl u ⟨t0 + 1, s0 + 1, l0⟩ from hC ▸ HTB.out.setS (s0 + 1))
  have HWL := Hd (show WentC (OwnT bt bs bl u) wA (OwnT bt bs bl u) wC from HWB.out.trans (hC ▸ OwnT.setW bs (.inr (.inl rfl)) 0 _))
  have HRL := Hd (show R = tallyAll (ks.drop 0) ⟨t0 + 1, s0 + 1, l0⟩ from by rw [HRR.out, if_pos rfl, if_neg (by decide)]; rfl)
  have HOL := Hd (show TSok ⟨t0 + 1, s0 + 1, l0⟩ from by
   have h := HOK.out
   exact ⟨by have := h.t0; dsimp only at *; omega, by have := h.t0; dsimp only at *; omega, by have := h.s0; dsimp only at *; omega, by have := h.s1; dsimp only at *; omega, by have := h.l1; dsimp only at *; omega⟩)
  have c1 : wB.cell? ⟨bs, 0, none⟩ = some (.int .i64 s0) := HTB.out.cs
  have g1 := HTB.out.fs
  have b0' : wC.cell? ⟨z, 0, none⟩ = some (.int .i8 7) := HWL.out.cell HBX.out.1 HNZ.out
  have HEC := Hd hC
  clear hC
  go_upto_region 4 with fail
  rw [HEC.out]
  clear HEC c1 g1 b0
  go_upto_region 12 with fail
  clear b0'
  go_upto_region 13 with fail
  go_loopw [10] (fun i wr => ∃ (I : Nat) (u2 : Value) (t2 s2 : Int) (l2 : List (Int × Int)), I ≤ len ∧ i = .int .i64 I ∧ Hid (R = tallyAll (ks.drop I) ⟨t2, s2, l2⟩) ∧ Hid (TyAt wr bt bs bl u2 ⟨t2, s2, l2⟩) ∧ Hid (WentC (OwnT bt bs bl u) wA (OwnT bt bs bl u2) wr) ∧ Hid (TSok ⟨t2, s2, l2⟩)) (fun i _ => len - (intOf i).toNat)
  case atStart => exact ⟨0, _, _, _, _, Nat.zero_le _, rfl, HRL.out, HTL.out, HWL.out, HOL.out⟩
  case round =>
   obtain ⟨wo, rfl⟩ : ∃ wo : World, wo = wr := ⟨_, rfl⟩
   obtain ⟨I, u2, t2, s2, l2, hI, rfl, hRI, hTI, hWI, hOI⟩ := hrel
   have e3 : wo.cell? ⟨z, 3, none⟩ = some (.slice q len cap) := hWI.out.cell HBX.out.2.2.2 HNZ.out
   have et : wo.cell? ⟨bt, 0, none⟩ = some (.int .i64 t2) := hTI.out.ct
   by_cases h1 : I < len
   case neg =>
    have HFIN := Hd (show TyPost w bt bs bl u R (.returned (.tuple #[])) wo from by
     rw [hRI.out, List.drop_of_length_le (by have := HLN.out; omega), tallyAll]
     exact ⟨rfl, u2, hTI.out, HXA.out.trans hWI.out⟩)
    clear et
    go_wp2_with fail
    go_end0
    exact HFIN.out
   have hIk : I < ks.length := by rw [← HLN.out]; exact h1
   by_cases h2 : t2 ≤ 60
   case neg =>
    have HFIN := Hd (show TyPost w bt bs bl u R (.returned (.tuple #[])) wo from by
     rw [hRI.out, List.drop_eq_getElem_cons hIk, tallyAll, if_neg (by exact h2)]
     exact ⟨rfl, u2, hTI.out, HXA.out.trans hWI.out⟩)
    have h2' : decide (t2 ≤ 60) = false := decide_eq_false h2
    clear h2
    go_wp2_with fail
    go_end0
    exact HFIN.out
   have h2' : decide (t2 ≤ 60) = true := decide_eq_true h2
   obtain ⟨b, o, rfl, hk⟩ : ∃ b o, q = some ⟨b, o, none⟩ ∧ TermsIn (OwnT bt bs bl u) wA ks b o := by
    rcases HKS.out with e | h
    ·rw [e] at hIk; simp at hIk
    ·exact h
   obtain ⟨ok, fk, nk, qk, lk, ek, e5, e6, e7, e8, hvk⟩ := (hk.went hWI.out).at I hIk
   have HCK := Hd (HIH.out I hIk bt bs bl u2 _ ⟨t2, s2, l2⟩ wo hOI.out h2 hTI.out hvk)
   obtain ⟨S3, hS3⟩ : ∃ S3, S3 = tallyP (ks[I]) ⟨t2, s2, l2⟩ := ⟨_, rfl⟩
   rw [← hS3] at HCK
   have HR3 := Hd (show R = tallyAll (ks.drop (I + 1)) S3 from by rw [hRI.out, List.drop_eq_getElem_cons hIk, tallyAll, if_pos (by exact h2), hS3])
   have HO3 := Hd (show TSok S3 from by rw [hS3]; exact tallyP_ok _ hOI.out h2)
   have HWo := Hd hWI.out
   clear hvk hk hS3 hIk hRI hTI hOI hWI h2
   go_wp2_with fail
   refine HCK.out.mono ?_
   rintro e w5 ⟨rfl, u3, hT3, hW3⟩
   have HT3 := Hd hT3
   have HW3 := Hd (HWo.out.trans hW3)
   obtain ⟨t3, s3, l3⟩ := S3
   clear hT3 hW3 e3 et e5 e6 e7 e8
   go_wp2_with fail
   go_roundw
   case rel => exact ⟨I + 1, u3, t3, s3, l3, by omega, by go_num, HR3.out, HT3.out, HW3.out, HO3.out⟩
   case measure => simp [intOf]; omega
 have h7b : (op == 7) = false := by rw [beq_eq_false_iff_ne]; exact h7
 by_cases h2 : op = 2
 case neg =>
  have h2b : (op == 2) = false := by rw [beq_eq_false_iff_ne]; exact h2
  have HTL := HTB
  have HWL := HWB
  have HRL := Hd (show R = tallyAll (ks.drop 0) ⟨t0 + 1, s0, l0⟩ from by rw [HRR.out, if_neg h7, if_neg h2]; rfl)
  have HOL := Hd (show TSok ⟨t0 + 1, s0, l0⟩ from by
   have h := HOK.out
   exact ⟨by have := h.t0; dsimp only at *; omega, by have := h.t0; dsimp only at *; omega, by have := h.s0; dsimp only at *; omega, by have := h.s1; dsimp only at *; omega, by have := h.l1; dsimp only at *; omega⟩)
  clear h7 h2
  go_upto_region 12 with fail
  clear b0 h7b h2b
  go_upto_region 13 with fail
  go_loopw [10] (fun i wr => ∃ (I : Nat) (u2 : Value) (t2 s2 : Int) (l2 : List (Int × Int)), I ≤ len ∧ i = .int .i64 I ∧ Hid (R = tallyAll (ks.drop I) ⟨t2, s2, l2⟩) ∧ Hid (TyAt wr bt bs bl u2 ⟨t2, s2, l2⟩) ∧ Hid (WentC (OwnT bt bs bl u) wA (OwnT bt bs bl u2) wr) ∧ Hid (TSok ⟨t2, s2, l2⟩)) (fun i _ => len - (intOf i).toNat)
  case atStart => exact ⟨0, _, _, _, _, Nat.zero_le _, rfl, HRL.out, HTL.out, HWL.out, HOL.out⟩
  case round =>
   obtain ⟨wo, rfl⟩ : ∃ wo : World, wo = wr := ⟨_, rfl⟩
   obtain ⟨I, u2, t2, s2, l2, hI, rfl, hRI, hTI, hWI, hOI⟩ := hrel
   have e3 : wo.cell? ⟨z, 3, none⟩ = some (.slice q len cap) := hWI.out.cell HBX.out.2.2.2 HNZ.out
   have et : wo.cell? ⟨bt, 0, none⟩ = some (.int .i64 t2) := hTI.out.ct
   by_cases h1 : I < len
   case neg =>
    have HFIN := Hd (show TyPost w bt bs bl u R (.returned (.tuple #[])) wo from by
     rw [hRI.out, List.drop_of_length_le (by have := HLN.out; omega), tallyAll]
     exact ⟨rfl, u2, hTI.out, HXA.out.trans hWI.out⟩)
    clear et
    go_wp2_with fail
    go_end0
    exact HFIN.out
   have hIk : I < ks.length := by rw [← HLN.out]; exact h1
   by_cases h2 : t2 ≤ 60
   case neg =>
    have HFIN := Hd (show TyPost w bt bs bl u R (.returned (.tuple #[])) wo from by
     rw [hRI.out, List.drop_eq_getElem_cons hIk, tallyAll, if_neg (by exact h2)]
     exact ⟨rfl, u2, hTI.out, HXA.out.trans hWI.out⟩)
    have h2' : decide (t2 ≤ 60) = false := decide_eq_false h2
    clear h2
    go_wp2_with fail
    go_end0
    exact HFIN.out
   have h2' : decide (t2 ≤ 60) = true := decide_eq_true h2
   obtain ⟨b, o, rfl, hk⟩ : ∃ b o, q = some ⟨b, o, none⟩ ∧ TermsIn (OwnT bt bs bl u) wA ks b o := by
    rcases HKS.out with e | h
    ·rw [e] at hIk; simp at hIk
    ·exact h
   obtain ⟨ok, fk, nk, qk, lk, ek, e5, e6, e7, e8, hvk⟩ := (hk.went hWI.out).at I hIk
   have HCK := Hd (HIH.out I hIk bt bs bl u2 _ ⟨t2, s2, l2⟩ wo hOI.out h2 hTI.out hvk)
   obtain ⟨S3, hS3⟩ : ∃ S3, S3 = tallyP (ks[I]) ⟨t2, s2, l2⟩ := ⟨_, rfl⟩
   rw [← hS3] at HCK
   have HR3 := Hd (show R = tallyAll (ks.drop (I + 1)) S3 from by rw [hRI.out, List.drop_eq_getElem_cons hIk, tallyAll, if_pos (by exact h2), hS3])
   have HO3 := Hd (show TSok S3 from by rw [hS3]; exact tallyP_ok _ hOI.out h2)
   have HWo := Hd hWI.out
   clear hvk hk hS3 hIk hRI hTI hOI hWI h2
   go_wp2_with fail
   refine HCK.out.mono ?_
   rintro e w5 ⟨rfl, u3, hT3, hW3⟩
   have HT3 := Hd hT3
   have HW3 := Hd (HWo.out.trans hW3)
   obtain ⟨t3, s3, l3⟩ := S3
   clear hT3 hW3 e3 et e5 e6 e7 e8
   go_wp2_with fail
   go_roundw
   case rel => exact ⟨I + 1, u3, t3, s3, l3, by omega, by go_num, HR3.out, HT3.out, HW3.out, HO3.out⟩
   case measure => simp [intOf]; omega
 subst h2
 clear h7
 have HRS := Hd (show R = tallyAll (ks.drop 0) ⟨t0 + 1, s0, if (f, n) ∈ l0 then l0 else l0 ++ [(f, n)]⟩ from by rw [HRR.out, if_neg (by decide), if_pos rfl]; rfl)
 obtain ⟨m, hm⟩ : ∃ m, m = l0.length := ⟨_, rfl⟩
 have HM := Hd hm
 have hm60 : m ≤ 60 := by omega
 obtain ⟨p, uc, rfl, hmc, hpo⟩ : ∃ p uc, u = .slice p m uc ∧ m ≤ uc ∧ (0 < m → ∃ g, p = some ⟨g, 0, none⟩) := by
  rw [hm]
  rcases HTB.out.own.2 with ⟨rfl, h0⟩ | ⟨g, c, cur, rfl, -, -, hc, -⟩
  ·have h0 : l0.length = 0 := h0
   exact ⟨none, 0, by rw [h0], by omega, fun h => by omega⟩
  ·exact ⟨_, c, rfl, hc, fun _ => ⟨g, rfl⟩⟩
 have HPO := Hd hpo
 have HEL := Hd (show ∀ g, p = some ⟨g, 0, none⟩ → ∀ W, Ext wB W → ∀ i (hi : i < l0.length), W.cell? ⟨g, i * 4 + 1, none⟩ = some (.int .i8 (l0[i]).1) ∧ W.cell? ⟨g, i * 4 + 2, none⟩ = some (.int .u64 (l0[i]).2) from fun g hg W hW i hi => by
  have ho := HTB.out.own
  rw [hg] at ho
  dsimp only at ho
  rw [← hm] at ho
  obtain ⟨h1, h2⟩ := flatT2_at l0 i hi
  refine ⟨hW.later _ _ ?_, hW.later _ _ ?_⟩
  ·rw [ho.cellAt _ (by omega)]; exact h1
  ·rw [ho.cellAt _ (by omega)]; exact h2)
 clear hm hpo
 go_upto_region 7 with fail
 clear b0 h7b
 go_loopw [8, 9] (fun th i wr => ∃ I : Nat, I ≤ m ∧ i = .int .i64 I ∧ th = .bool (decide ((f, n) ∈ l0.take I)) ∧ Hid (Ext wB wr)) (fun _ i _ => m - (intOf i).toNat)
 case atStart => exact ⟨0, Nat.zero_le _, rfl, by rw [List.take_zero]; rfl, Ext.refl _⟩
 case round =>
  obtain ⟨wo, rfl⟩ : ∃ wo : World, wo = wr := ⟨_, rfl⟩
  obtain ⟨I, hI, rfl, rfl, hx⟩ := hrel
  have cl : wo.cell? ⟨bl, 0, none⟩ = some (.slice p m uc) := hx.out.later _ _ HTB.out.cl
  by_cases h1 : I < m
  case pos =>
   obtain ⟨tb, htb⟩ : ∃ tb, tb = decide ((f, n) ∈ l0.take I) := ⟨_, rfl⟩
   rw [← htb]
   obtain ⟨g, rfl⟩ := HPO.out (by omega)
   have hIl : I < l0.length := by rw [← HM.out]; exact h1
   have xd : Ext wo wo.drew := Ext.drew _
   have HXD := Hd (hx.out.trans xd)
   obtain ⟨tI, htI⟩ : ∃ tI, tI = l0[I] := ⟨_, rfl⟩
   have HTK := Hd (show decide ((f, n) ∈ l0.take (I + 1)) = (tb || decide ((f, n) = tI)) from by
    rw [htb, List.take_succ_eq_append_getElem hIl, ← htI]
    simp only [List.mem_append, List.mem_singleton, Bool.decide_or])
   obtain ⟨fi, hfi⟩ : ∃ fi, fi = tI.1 := ⟨_, rfl⟩
   obtain ⟨ni, hni⟩ : ∃ ni, ni = tI.2 := ⟨_, rfl⟩
   have HSS := Hd (show (fun W : World => W.cell? ⟨bl, 0, none⟩ = some (.slice (some ⟨g, 0, none⟩) m uc) ∧ W.cell? ⟨z, 1, none⟩ = some (.int .i8 f) ∧ W.cell? ⟨z, 2, none⟩ = some (.int .u64 n) ∧ W.cell? ⟨g, I * 4 + 1, none⟩ = some (.int .i8 fi) ∧ W.cell? ⟨g, I * 4 + 2, none⟩ = some (.int .u64 ni)) wo.drew from by
    obtain ⟨h1, h2⟩ := HEL.out g rfl wo.drew HXD.out I hIl
    rw [← htI, ← hfi] at h1
    rw [← htI, ← hni] at h2
    have hw := HWB.out.trans (WentC.ofExt HXD.out)
    exact ⟨xd.later _ _ cl, hw.cell HBX.out.2.1 HNZ.out, hw.cell HBX.out.2.2.1 HNZ.out, h1, h2⟩)
   have HEQI := Hd (show decide ((f, n) = tI) = (decide (fi = f) && decide (ni = n)) from by
    rw [hfi, hni, ← Bool.decide_and]
    apply decide_eq_decide.2
    constructor
    ·intro e; rw [← e]; exact ⟨rfl, rfl⟩
    ·rintro ⟨e1, e2⟩; rw [← e1, ← e2])
   have hS0 := HSS.out
   clear hfi hni htI hIl xd htb hx
   go_upto_region 9 with fail
   clear cl
   cases tb with
   | true =>
    have HNW := Hd (show decide ((f, n) ∈ l0.take (I + 1)) = true from by rw [HTK.out]; rfl)
    refine wp_region_held_drew (S := (fun W : World => W.cell? ⟨bl, 0, none⟩ = some (.slice (some ⟨g, 0, none⟩) m uc) ∧ W.cell? ⟨z, 1, none⟩ = some (.int .i8 f) ∧ W.cell? ⟨z, 2, none⟩ = some (.int .u64 n) ∧ W.cell? ⟨g, I * 4 + 1, none⟩ = some (.int .i8 fi) ∧ W.cell? ⟨g, I * 4 + 2, none⟩ = some (.int .u64 ni))) (by kernel_rfl) (hS0) (fun hHeld => ?_)
    refine tk 0 (.bool true) ?_
    try simp only [tkN]
    refine tk 1 (.bool true) ?_
    try simp only [tkN]
    refine tk0 2 ?_
    try simp only [tkN]
    refine tk0 3 ?_
    try simp only [tkN]
    refine tk0 4 ?_
    try simp only [tkN]
    refine tk0 5 ?_
    try simp only [tkN]
    refine tk0 6 ?_
    try simp only [tkN]
    refine tk0 7 ?_
    try simp only [tkN]
    refine tk0 8 ?_
    try simp only [tkN]
    refine tk0 9 ?_
    try simp only [tkN]
    refine tk0 10 ?_
    try simp only [tkN]
    refine tk0 11 ?_
    try simp only [tkN]
    refine tk0 12 ?_
    try simp only [tkN]
    refine tk0 13 ?_
    try simp only [tkN]
    refine tk0 14 ?_
    try simp only [tkN]
    refine tk0 15 ?_
    try simp only [tkN]
    refine tk0 16 ?_
    try simp only [tkN]
    refine tk0 17 ?_
    try simp only [tkN]
    refine tk0 18 ?_
    try simp only [tkN]
    refine tk0 19 ?_
    try simp only [tkN]
    refine tk0 20 ?_
    try simp only [tkN]
    refine tk0 21 ?_
    try simp only [tkN]
    refine tk0 22 ?_
    try simp only [tkN]
    refine tk0 23 ?_
    try simp only [tkN]
    refine tk 24 (.bool true) ?_
    try simp only [tkN]
    refine tk 25 (.bool true) ?_
    try simp only [tkN]
    refine wpAnyH_done (by kernel_rfl) ?_ _
    go_wp2_with fail
    go_roundw
    case rel => exact ⟨I + 1, by omega, by go_num, by rw [HNW.out], HXD.out⟩
    case measure => simp [intOf]; omega
   | false =>
    by_cases hef : fi = f
    case neg =>
     have hfb : (fi == f) = false := by rw [beq_eq_false_iff_ne]; exact hef
     have HNW := Hd (show decide ((f, n) ∈ l0.take (I + 1)) = false from by rw [HTK.out, HEQI.out, decide_eq_false hef]; rfl)
     clear hef
     refine wp_region_held_drew (S := (fun W : World => W.cell? ⟨bl, 0, none⟩ = some (.slice (some ⟨g, 0, none⟩) m uc) ∧ W.cell? ⟨z, 1, none⟩ = some (.int .i8 f) ∧ W.cell? ⟨z, 2, none⟩ = some (.int .u64 n) ∧ W.cell? ⟨g, I * 4 + 1, none⟩ = some (.int .i8 fi) ∧ W.cell? ⟨g, I * 4 + 2, none⟩ = some (.int .u64 ni))) (by kernel_rfl) (hS0) (fun hHeld => ?_)
     refine tk 0 (.bool false) ?_
     try simp only [tkN]
     refine tk 1 (.bool false) ?_
     try simp only [tkN]
     refine tk 2 (.pointer (some ⟨bl, 0, none⟩)) ?_
     try simp only [tkN]
     refine tk 3 (.pointer (some ⟨bl, 0, none⟩)) ?_
     try simp only [tkN]
     refine tk 4 (.slice (some ⟨g, 0, none⟩) m uc) ?_
     try simp only [tkN]
     refine tk 5 (.int .i64 I) ?_
     try simp only [tkN]
     refine tk 6 (.pointer (some ⟨g, I * 4, none⟩)) ?_
     try simp only [tkN]
     refine tk 7 (.pointer (some ⟨g, I * 4 + 1, none⟩)) ?_
     try simp only [tkN]
     refine tk 8 (.int .i8 fi) ?_
     try simp only [tkN]
     refine tk 9 (.pointer (some ⟨z, 1, none⟩)) ?_
     try simp only [tkN]
     refine tk 10 (.int .i8 f) ?_
     try simp only [tkN]
     refine tk 11 (.bool false) ?_
     try simp only [tkN]
     refine tk 12 (.bool false) ?_
     try simp only [tkN]
     refine tk0 13 ?_
     try simp only [tkN]
     refine tk0 14 ?_
     try simp only [tkN]
     refine tk0 15 ?_
     try simp only [tkN]
     refine tk0 16 ?_
     try simp only [tkN]
     refine tk0 17 ?_
     try simp only [tkN]
     refine tk0 18 ?_
     try simp only [tkN]
     refine tk0 19 ?_
     try simp only [tkN]
     refine tk0 20 ?_
     try simp only [tkN]
     refine tk0 21 ?_
     try simp only [tkN]
     refine tk0 22 ?_
     try simp only [tkN]
     refine tk 23 (.bool false) ?_
     try simp only [tkN]
     refine tk 24 (.bool false) ?_
     try simp only [tkN]
     refine tk 25 (.bool false) ?_
     try simp only [tkN]
     refine wpAnyH_done (by kernel_rfl) ?_ _
     go_wp2_with fail
     go_roundw
     case rel => exact ⟨I + 1, by omega, by go_num, by rw [HNW.out], HXD.out⟩
     case measure => simp [intOf]; omega
    have hfb : (fi == f) = true := by rw [beq_iff_eq]; exact hef
    by_cases hen : ni = n
    case neg =>
     have hnb : (ni == n) = false := by rw [beq_eq_false_iff_ne]; exact hen
     have HNW := Hd (show decide ((f, n) ∈ l0.take (I + 1)) = false from by rw [HTK.out, HEQI.out, decide_eq_false hen, Bool.and_false]; rfl)
     clear hef hen
     refine wp_region_held_drew (S := (fun W : World => W.cell? ⟨bl, 0, none⟩ = some (.slice (some ⟨g, 0, none⟩) m uc) ∧ W.cell? ⟨z, 1, none⟩ = some (.int .i8 f) ∧ W.cell? ⟨z, 2, none⟩ = some (.int .u64 n) ∧ W.cell? ⟨g, I * 4 + 1, none⟩ = some (.int .i8 fi) ∧ W.cell? ⟨g, I * 4 + 2, none⟩ = some (.int .u64 ni))) (by kernel_rfl) (hS0) (fun hHeld => ?_)
     refine tk 0 (.bool false) ?_
     try simp only [tkN]
     refine tk 1 (.bool false) ?_
     try simp only [tkN]
     refine tk 2 (.pointer (some ⟨bl, 0, none⟩)) ?_
     try simp only [tkN]
     refine tk 3 (.pointer (some ⟨bl, 0, none⟩)) ?_
     try simp only [tkN]
     refine tk 4 (.slice (some ⟨g, 0, none⟩) m uc) ?_
     try simp only [tkN]
     refine tk 5 (.int .i64 I) ?_
     try simp only [tkN]
     refine tk 6 (.pointer (some ⟨g, I * 4, none⟩)) ?_
     try simp only [tkN]
     refine tk 7 (.pointer (some ⟨g, I * 4 + 1, none⟩)) ?_
     try simp only [tkN]
     refine tk 8 (.int .i8 fi) ?_
     try simp only [tkN]
     refine tk 9 (.pointer (some ⟨z, 1, none⟩)) ?_
     try simp only [tkN]
     refine tk 10 (.int .i8 f) ?_
     try simp only [tkN]
     refine tk 11 (.bool true) ?_
     try simp only [tkN]
     refine tk 12 (.bool true) ?_
     try simp only [tkN]
     refine tk 13 (.pointer (some ⟨bl, 0, none⟩)) ?_
     try simp only [tkN]
     refine tk 14 (.pointer (some ⟨bl, 0, none⟩)) ?_
     try simp only [tkN]
     refine tk 15 (.slice (some ⟨g, 0, none⟩) m uc) ?_
     try simp only [tkN]
     refine tk 16 (.int .i64 I) ?_
     try simp only [tkN]
     refine tk 17 (.pointer (some ⟨g, I * 4, none⟩)) ?_
     try simp only [tkN]
     refine tk 18 (.pointer (some ⟨g, I * 4 + 2, none⟩)) ?_
     try simp only [tkN]
     refine tk 19 (.int .u64 ni) ?_
     try simp only [tkN]
     refine tk 20 (.pointer (some ⟨z, 2, none⟩)) ?_
     try simp only [tkN]
     refine tk 21 (.int .u64 n) ?_
     try simp only [tkN]
     refine tk 22 (.bool false) ?_
     try simp only [tkN]
     refine tk 23 (.bool false) ?_
     try simp only [tkN]
     refine tk 24 (.bool false) ?_
     try simp only [tkN]
     refine tk 25 (.bool false) ?_
     try simp only [tkN]
     refine wpAnyH_done (by kernel_rfl) ?_ _
     go_wp2_with fail
     go_roundw
     case rel => exact ⟨I + 1, by omega, by go_num, by rw [HNW.out], HXD.out⟩
     case measure => simp [intOf]; omega
    have hnb : (ni == n) = true := by rw [beq_iff_eq]; exact hen
    have HNW := Hd (show decide ((f, n) ∈ l0.take (I + 1)) = true from by rw [HTK.out, HEQI.out, decide_eq_true hef, decide_eq_true hen]; rfl)
    clear hef hen
    refine wp_region_held_drew (S := (fun W : World => W.cell? ⟨bl, 0, none⟩ = some (.slice (some ⟨g, 0, none⟩) m uc) ∧ W.cell? ⟨z, 1, none⟩ = some (.int .i8 f) ∧ W.cell? ⟨z, 2, none⟩ = some (.int .u64 n) ∧ W.cell? ⟨g, I * 4 + 1, none⟩ = some (.int .i8 fi) ∧ W.cell? ⟨g, I * 4 + 2, none⟩ = some (.int .u64 ni))) (by kernel_rfl) (hS0) (fun hHeld => ?_)
    refine tk 0 (.bool false) ?_
    try simp only [tkN]
    refine tk 1 (.bool false) ?_
    try simp only [tkN]
    refine tk 2 (.pointer (some ⟨bl, 0, none⟩)) ?_
    try simp only [tkN]
    refine tk 3 (.pointer (some ⟨bl, 0, none⟩)) ?_
    try simp only [tkN]
    refine tk 4 (.slice (some ⟨g, 0, none⟩) m uc) ?_
    try simp only [tkN]
    refine tk 5 (.int .i64 I) ?_
    try simp only [tkN]
    refine tk 6 (.pointer (some ⟨g, I * 4, none⟩)) ?_
    try simp only [tkN]
    refine tk 7 (.pointer (some ⟨g, I * 4 + 1, none⟩)) ?_
    try simp only [tkN]
    refine tk 8 (.int .i8 fi) ?_
    try simp only [tkN]
    refine tk 9 (.pointer (some ⟨z, 1, none⟩)) ?_
    try simp only [tkN]
    refine tk 10 (.int .i8 f) ?_
    try simp only [tkN]
    refine tk 11 (.bool true) ?_
    try simp only [tkN]
    refine tk 12 (.bool true) ?_
    try simp only [tkN]
    refine tk 13 (.pointer (some ⟨bl, 0, none⟩)) ?_
    try simp only [tkN]
    refine tk 14 (.pointer (some ⟨bl, 0, none⟩)) ?_
    try simp only [tkN]
    refine tk 15 (.slice (some ⟨g, 0, none⟩) m uc) ?_
    try simp only [tkN]
    refine tk 16 (.int .i64 I) ?_
    try simp only [tkN]
    refine tk 17 (.pointer (some ⟨g, I * 4, none⟩)) ?_
    try simp only [tkN]
    refine tk 18 (.pointer (some ⟨g, I * 4 + 2, none⟩)) ?_
    try simp only [tkN]
    refine tk 19 (.int .u64 ni) ?_
    try simp only [tkN]
    refine tk 20 (.pointer (some ⟨z, 2, none⟩)) ?_
    try simp only [tkN]
    refine tk 21 (.int .u64 n) ?_
    try simp only [tkN]
    refine tk 22 (.bool true) ?_
    try simp only [tkN]
    refine tk 23 (.bool true) ?_
    try simp only [tkN]
    refine tk 24 (.bool true) ?_
    try simp only [tkN]
    refine tk 25 (.bool true) ?_
    try simp only [tkN]
    refine wpAnyH_done (by kernel_rfl) ?_ _
    go_wp2_with fail
    go_roundw
    case rel => exact ⟨I + 1, by omega, by go_num, by rw [HNW.out], HXD.out⟩
    case measure => simp [intOf]; omega
  have HWX := Hd (HWB.out.trans (WentC.ofExt (F := OwnT bt bs bl (.slice p m uc)) hx.out))
  have HTX := Hd (HTB.out.ext hx.out)
  have htk : l0.take I = l0 := List.take_of_length_le (by have := HM.out; omega)
  rw [htk]
  by_cases hin : (f, n) ∈ l0
  case pos =>
   have hdb : decide ((f, n) ∈ l0) = true := decide_eq_true hin
   have HTL := HTX
   have HWL := HWX
   have HRL := Hd (show R = tallyAll (ks.drop 0) ⟨t0 + 1, s0, l0⟩ from by rw [HRS.out, if_pos hin])
   have HOL := Hd (show TSok ⟨t0 + 1, s0, l0⟩ from by
    have h := HOK.out
    exact ⟨by have := h.t0; dsimp only at *; omega, by have := h.t0; dsimp only at *; omega, by have := h.s0; dsimp only at *; omega, by have := h.s1; dsimp only at *; omega, by have := h.l1; dsimp only at *; omega⟩)
   clear hin htk hx
   go_upto_region 12 with fail
   clear hdb cl
   go_upto_region 13 with fail
   go_loopw [10] (fun i wr => ∃ (I : Nat) (u2 : Value) (t2 s2 : Int) (l2 : List (Int × Int)), I ≤ len ∧ i = .int .i64 I ∧ Hid (R = tallyAll (ks.drop I) ⟨t2, s2, l2⟩) ∧ Hid (TyAt wr bt bs bl u2 ⟨t2, s2, l2⟩) ∧ Hid (WentC (OwnT bt bs bl (.slice p m uc)) wA (OwnT bt bs bl u2) wr) ∧ Hid (TSok ⟨t2, s2, l2⟩)) (fun i _ => len - (intOf i).toNat)
   case atStart => exact ⟨0, _, _, _, _, Nat.zero_le _, rfl, HRL.out, HTL.out, HWL.out, HOL.out⟩
   case round =>
    obtain ⟨wo, rfl⟩ : ∃ wo : World, wo = wr := ⟨_, rfl⟩
    obtain ⟨I, u2, t2, s2, l2, hI, rfl, hRI, hTI, hWI, hOI⟩ := hrel
    have e3 : wo.cell? ⟨z, 3, none⟩ = some (.slice q len cap) := hWI.out.cell HBX.out.2.2.2 HNZ.out
    have et : wo.cell? ⟨bt, 0, none⟩ = some (.int .i64 t2) := hTI.out.ct
    by_cases h1 : I < len
    case neg =>
     have HFIN := Hd (show TyPost w bt bs bl (.slice p m uc) R (.returned (.tuple #[])) wo from by
      rw [hRI.out, List.drop_of_length_le (by have := HLN.out; omega), tallyAll]
      exact ⟨rfl, u2, hTI.out, HXA.out.trans hWI.out⟩)
     clear et
     go_wp2_with fail
     go_end0
     exact HFIN.out
    have hIk : I < ks.length := by rw [← HLN.out]; exact h1
    by_cases h2 : t2 ≤ 60
    case neg =>
     have HFIN := Hd (show TyPost w bt bs bl (.slice p m uc) R (.returned (.tuple #[])) wo from by
      rw [hRI.out, List.drop_eq_getElem_cons hIk, tallyAll, if_neg (by exact h2)]
      exact ⟨rfl, u2, hTI.out, HXA.out.trans hWI.out⟩)
     have h2' : decide (t2 ≤ 60) = false := decide_eq_false h2
     clear h2
     go_wp2_with fail
     go_end0
     exact HFIN.out
    have h2' : decide (t2 ≤ 60) = true := decide_eq_true h2
    obtain ⟨b, o, rfl, hk⟩ : ∃ b o, q = some ⟨b, o, none⟩ ∧ TermsIn (OwnT bt bs bl (.slice p m uc)) wA ks b o := by
     rcases HKS.out with e | h
     ·rw [e] at hIk; simp at hIk
     ·exact h
    obtain ⟨ok, fk, nk, qk, lk, ek, e5, e6, e7, e8, hvk⟩ := (hk.went hWI.out).at I hIk
    have HCK := Hd (HIH.out I hIk bt bs bl u2 _ ⟨t2, s2, l2⟩ wo hOI.out h2 hTI.out hvk)
    obtain ⟨S3, hS3⟩ : ∃ S3, S3 = tallyP (ks[I]) ⟨t2, s2, l2⟩ := ⟨_, rfl⟩
    rw [← hS3] at HCK
    have HR3 := Hd (show R = tallyAll (ks.drop (I + 1)) S3 from by rw [hRI.out, List.drop_eq_getElem_cons hIk, tallyAll, if_pos (by exact h2), hS3])
    have HO3 := Hd (show TSok S3 from by rw [hS3]; exact tallyP_ok _ hOI.out h2)
    have HWo := Hd hWI.out
    clear hvk hk hS3 hIk hRI hTI hOI hWI h2
    go_wp2_with fail
    refine HCK.out.mono ?_
    rintro e w5 ⟨rfl, u3, hT3, hW3⟩
    have HT3 := Hd hT3
    have HW3 := Hd (HWo.out.trans hW3)
    obtain ⟨t3, s3, l3⟩ := S3
    clear hT3 hW3 e3 et e5 e6 e7 e8
    go_wp2_with fail
    go_roundw
    case rel => exact ⟨I + 1, u3, t3, s3, l3, by omega, by go_num, HR3.out, HT3.out, HW3.out, HO3.out⟩
    case measure => simp [intOf]; omega
  have hdb : decide ((f, n) ∈ l0) = false := decide_eq_false hin
  have HRL := Hd (show R = tallyAll (ks.drop 0) ⟨t0 + 1, s0, l0 ++ [(f, n)]⟩ from by rw [HRS.out, if_neg hin])
  have HOL := Hd (show TSok ⟨t0 + 1, s0, l0 ++ [(f, n)]⟩ from by
   have h := HOK.out
   exact ⟨by have := h.t0; dsimp only at *; omega, by have := h.t0; dsimp only at *; omega, by have := h.s0; dsimp only at *; omega, by have := h.s1; dsimp only at *; omega, by have := h.l1; dsimp only at *; rw [List.length_append]; simp only [List.length_cons, List.length_nil]; omega⟩)
  clear hin htk hx
  have xd : Ext wo wo.drew := Ext.drew _
  have HTD := Hd (HTX.out.ext xd)
  have HWD := Hd (HWX.out.trans (WentC.ofExt (F := OwnT bt bs bl (.slice p m uc)) xd))
  have HSW := Hd (show ∀ (F2 : Nat → Prop) (W : World), WentC (OwnT bt bs bl (.slice p m uc)) wA F2 W → ((fun W : World => W.cell? ⟨z, 1, none⟩ = some (.int .i8 f) ∧ W.cell? ⟨z, 2, none⟩ = some (.int .u64 n))) W from fun F2 W hw => ⟨hw.cell HBX.out.2.1 HNZ.out, hw.cell HBX.out.2.2.1 HNZ.out⟩)
  obtain ⟨y1, hy1⟩ : ∃ W : World, (wo.alloc (.cells #[.int .i8 0, .int .i8 0, .int .u64 0, .slice none 0 0] 26)).drew = W := ⟨_, rfl⟩
  have x1 : Ext wo y1 := hy1 ▸ (Ext.alloc _ _).andDrew
  have HT1 := Hd (HTX.out.ext x1)
  have HW1 := Hd (HWX.out.trans (WentC.ofExt (F := OwnT bt bs bl (.slice p m uc)) x1))
  have HO1 := Hd (show y1.ownsRow 0 26 4 (.slice p m uc) m (flatT2 l0) from by
   have h := HT1.out.own
   dsimp only at h
   rwa [← HM.out] at h)
  have HN1 := Hd (show ∀ j u, ([.int .i8 0, .int .i8 0, .int .u64 0, .slice none 0 0] : List Value)[j]? = some u → y1.cell? ((⟨wo.heap.size, 0, none⟩ : Addr).add j) = some u from fun j u hu => by
   rw [Addr.add_mid, ← hy1]
   exact rangeAt_new wo #[.int .i8 0, .int .i8 0, .int .u64 0, .slice none 0 0] 26 j u hu)
  have HE1 := Hd hy1
  have cl1 := HT1.out.cl
  have cld := HTD.out.cl
  have hS0 := HSW.out _ _ HWD.out
  clear xd x1 hy1
  go_upto_region 11 with fail
  clear cl hdb
  refine wp_region_held_drew (S := (fun W : World => W.cell? ⟨z, 1, none⟩ = some (.int .i8 f) ∧ W.cell? ⟨z, 2, none⟩ = some (.int .u64 n))) (by kernel_rfl) (hS0) (fun hHeld => ?_)
  refine tk 0 (.pointer (some ⟨bl, 0, none⟩)) ?_
  try simp only [tkN]
  refine tk 1 (.pointer (some ⟨bl, 0, none⟩)) ?_
  try simp only [tkN]
  refine tk 3 (.pointer (some ⟨z, 1, none⟩)) ?_
  try simp only [tkN]
  refine tk 4 (.int .i8 f) ?_
  try simp only [tkN]
  refine tk 5 (.pointer (some ⟨z, 2, none⟩)) ?_
  try simp only [tkN]
  refine tk 6 (.int .u64 n) ?_
  try simp only [tkN]
  refine tk 7 (.agg #[.int .i8 0, .int .i8 f, .int .u64 n, .slice none 0 0]) ?_
  try simp only [tkN]
  refine wpAnyH_ready (rs := [2, 9]) (by kernel_rfl) (by simp) ?_
  refine AllReadyH.cons (i := 2) rfl (fun K hK => ?_) (AllReadyH.cons (i := 9) rfl (fun K hK => ?_) AllReadyH.nil)
  ·skip
   go_simp
   refine hK.out _ _ (HSW.out _ _ HWD.out) (fun hh2 => ?_)
   clear hK K
   try simp only [tkN]
   refine tk 8 (.int .i64 m) ?_
   try simp only [tkN]
   refine tk1 9 rfl (AllReadyH.cons rfl (fun K hK => ?_) AllReadyH.nil)
   go_simp
   rw [HE1.out]
   refine hK.out _ _ (HSW.out _ _ HW1.out) (fun hh9 => ?_)
   clear hK K
   try simp only [tkN]
   refine tk1 10 rfl (AllReadyH.cons rfl (fun K hK => ?_) AllReadyH.nil)
   refine step_append_E elemT rfl (.tmp 66) (.tmp 73) (by rfl) 0 (.slice p m uc) m (flatT2 l0) (by rfl) HO1.out (some ⟨wo.heap.size, 0, none⟩) 1 1 [.int .i8 0, .int .i8 0, .int .u64 0, .slice none 0 0] (by rfl) (by rfl) (.inr ⟨_, rfl, HN1.out⟩) (by simp [Value.oneCell']) (by omega) (by omega) (Nat.zero_le _) ?_
   intro v2 y2 o2 g2 t2
   obtain ⟨gg, c2, rfl⟩ : ∃ gg c2, v2 = .slice (some ⟨gg, 0, none⟩) (m + 1) c2 := by
    rcases o2.2 with ⟨e, h0⟩ | ⟨gg, c2, cur, e, -⟩
    ·omega
    ·exact ⟨gg, c2, e⟩
   have HPU := Hd (ty_push f n HT1.out HM.out o2 g2 t2)
   have HPV := Hd (ty_push2 f n HT1.out HM.out o2 g2 t2)
   clear o2 g2 t2
   refine hK.out _ _ (HSW.out _ _ (HW1.out.trans HPU.out.w2)) (fun hh10 => ?_)
   clear hK K
   try simp only [tkN]
   refine tk 11 (.pointer (some ⟨gg, m * 4, none⟩)) ?_
   try simp only [tkN]
   refine tk 13 (.pointer (some ⟨bl, 0, none⟩)) ?_
   try simp only [tkN]
   refine wpAnyH_ready (rs := [12, 14]) (by kernel_rfl) (by simp) ?_
   refine AllReadyH.cons (i := 12) rfl (fun K hK => ?_) (AllReadyH.cons (i := 14) rfl (fun K hK => ?_) AllReadyH.nil)
   ·skip
    refine step_store rfl 26 _ _ rfl gg (m * 4) #[.int .i8 0, .int .i8 f, .int .u64 n, .slice none 0 0] rfl rfl HPU.out.th (infoTm _ _ _ _) (tm_one _ _ _) ?_
    refine hK.out _ _ (HSW.out _ _ (HW1.out.trans HPU.out.w3)) (fun hh12 => ?_)
    clear hK K
    try simp only [tkN]
    have cl3 := HPU.out.cl
    have fl3 := HPU.out.fl
    refine tk1 14 rfl (AllReadyH.cons rfl (fun K hK => ?_) AllReadyH.nil)
    try dsimp only at cl3 fl3
    go_simp
    refine hK.out _ _ (HSW.out _ _ (HW1.out.trans HPU.out.w4)) (fun hh14 => ?_)
    clear hK K
    try simp only [tkN]
    refine wpAnyH_done (by kernel_rfl) ?_ _
    obtain ⟨uL, huL⟩ : ∃ uL, uL = Value.slice (some ⟨gg, 0, none⟩) (m + 1) c2 := ⟨_, rfl⟩
    obtain ⟨y4, hy4⟩ : ∃ W : World, ((y2.setCells gg (m * 4) [.int .i8 0, .int .i8 f, .int .u64 n, .slice none 0 0]).setCell ⟨bl, 0, none⟩ (.slice (some ⟨gg, 0, none⟩) (m + 1) c2)) = W := ⟨_, rfl⟩
    have HTL := Hd (hy4 ▸ HPU.out.ty)
    have HWL := Hd (hy4 ▸ (HW1.out.trans HPU.out.w4))
    rw [← huL] at HTL HWL
    have HE4 := Hd hy4
    clear hy4 cl3 fl3 cl1 cld hh14 hh12 hh10
    go_upto_region 12 with fail
    rw [HE4.out]
    clear HE4
    go_upto_region 13 with fail
    go_loopw [10] (fun i wr => ∃ (I : Nat) (u2 : Value) (t2 s2 : Int) (l2 : List (Int × Int)), I ≤ len ∧ i = .int .i64 I ∧ Hid (R = tallyAll (ks.drop I) ⟨t2, s2, l2⟩) ∧ Hid (TyAt wr bt bs bl u2 ⟨t2, s2, l2⟩) ∧ Hid (WentC (OwnT bt bs bl (.slice p m uc)) wA (OwnT bt bs bl u2) wr) ∧ Hid (TSok ⟨t2, s2, l2⟩)) (fun i _ => len - (intOf i).toNat)
    case atStart => exact ⟨0, _, _, _, _, Nat.zero_le _, rfl, HRL.out, HTL.out, HWL.out, HOL.out⟩
    case round =>
     obtain ⟨wo, rfl⟩ : ∃ wo : World, wo = wr := ⟨_, rfl⟩
     obtain ⟨I, u2, t2, s2, l2, hI, rfl, hRI, hTI, hWI, hOI⟩ := hrel
     have e3 : wo.cell? ⟨z, 3, none⟩ = some (.slice q len cap) := hWI.out.cell HBX.out.2.2.2 HNZ.out
     have et : wo.cell? ⟨bt, 0, none⟩ = some (.int .i64 t2) := hTI.out.ct
     by_cases h1 : I < len
     case neg =>
      have HFIN := Hd (show TyPost w bt bs bl (.slice p m uc) R (.returned (.tuple #[])) wo from by
       rw [hRI.out, List.drop_of_length_le (by have := HLN.out; omega), tallyAll]
       exact ⟨rfl, u2, hTI.out, HXA.out.trans hWI.out⟩)
      clear et
      go_wp2_with fail
      go_end0
      exact HFIN.out
     have hIk : I < ks.length := by rw [← HLN.out]; exact h1
     by_cases h2 : t2 ≤ 60
     case neg =>
      have HFIN := Hd (show TyPost w bt bs bl (.slice p m uc) R (.returned (.tuple #[])) wo from by
       rw [hRI.out, List.drop_eq_getElem_cons hIk, tallyAll, if_neg (by exact h2)]
       exact ⟨rfl, u2, hTI.out, HXA.out.trans hWI.out⟩)
      have h2' : decide (t2 ≤ 60) = false := decide_eq_false h2
      clear h2
      go_wp2_with fail
      go_end0
      exact HFIN.out
     have h2' : decide (t2 ≤ 60) = true := decide_eq_true h2
     obtain ⟨b, o, rfl, hk⟩ : ∃ b o, q = some ⟨b, o, none⟩ ∧ TermsIn (OwnT bt bs bl (.slice p m uc)) wA ks b o := by
      rcases HKS.out with e | h
      ·rw [e] at hIk; simp at hIk
      ·exact h
     obtain ⟨ok, fk, nk, qk, lk, ek, e5, e6, e7, e8, hvk⟩ := (hk.went hWI.out).at I hIk
     have HCK := Hd (HIH.out I hIk bt bs bl u2 _ ⟨t2, s2, l2⟩ wo hOI.out h2 hTI.out hvk)
     obtain ⟨S3, hS3⟩ : ∃ S3, S3 = tallyP (ks[I]) ⟨t2, s2, l2⟩ := ⟨_, rfl⟩
     rw [← hS3] at HCK
     have HR3 := Hd (show R = tallyAll (ks.drop (I + 1)) S3 from by rw [hRI.out, List.drop_eq_getElem_cons hIk, tallyAll, if_pos (by exact h2), hS3])
     have HO3 := Hd (show TSok S3 from by rw [hS3]; exact tallyP_ok _ hOI.out h2)
     have HWo := Hd hWI.out
     clear hvk hk hS3 hIk hRI hTI hOI hWI h2
     go_wp2_with fail
     refine HCK.out.mono ?_
     rintro e w5 ⟨rfl, u3, hT3, hW3⟩
     have HT3 := Hd hT3
     have HW3 := Hd (HWo.out.trans hW3)
     obtain ⟨t3, s3, l3⟩ := S3
     clear hT3 hW3 e3 et e5 e6 e7 e8
     go_wp2_with fail
     go_roundw
     case rel => exact ⟨I + 1, u3, t3, s3, l3, by omega, by go_num, HR3.out, HT3.out, HW3.out, HO3.out⟩
     case measure => simp [intOf]; omega
   ·skip
    have cl3 := HPV.out.cl
    have fl3 := HPV.out.fl
    go_simp
    refine hK.out _ _ (HSW.out _ _ (HW1.out.trans HPV.out.w3)) (fun hh14 => ?_)
    clear hK K
    try simp only [tkN]
    refine tk1 12 rfl (AllReadyH.cons rfl (fun K hK => ?_) AllReadyH.nil)
    refine step_store rfl 26 _ _ rfl gg (m * 4) #[.int .i8 0, .int .i8 f, .int .u64 n, .slice none 0 0] rfl rfl HPV.out.th (infoTm _ _ _ _) (tm_one _ _ _) ?_
    refine hK.out _ _ (HSW.out _ _ (HW1.out.trans HPV.out.w4)) (fun hh12 => ?_)
    clear hK K
    try simp only [tkN]
    refine wpAnyH_done (by kernel_rfl) ?_ _
    obtain ⟨uL, huL⟩ : ∃ uL, uL = Value.slice (some ⟨gg, 0, none⟩) (m + 1) c2 := ⟨_, rfl⟩
    obtain ⟨y4, hy4⟩ : ∃ W : World, ((y2.setCell ⟨bl, 0, none⟩ (.slice (some ⟨gg, 0, none⟩) (m + 1) c2)).setCells gg (m * 4) [.int .i8 0, .int .i8 f, .int .u64 n, .slice none 0 0]) = W := ⟨_, rfl⟩
    have HTL := Hd (hy4 ▸ HPV.out.ty)
    have HWL := Hd (hy4 ▸ (HW1.out.trans HPV.out.w4))
    rw [← huL] at HTL HWL
    have HE4 := Hd hy4
    clear hy4 cl3 fl3 cl1 cld hh14 hh12 hh10
    go_upto_region 12 with fail
    rw [HE4.out]
    clear HE4
    go_upto_region 13 with fail
    go_loopw [10] (fun i wr => ∃ (I : Nat) (u2 : Value) (t2 s2 : Int) (l2 : List (Int × Int)), I ≤ len ∧ i = .int .i64 I ∧ Hid (R = tallyAll (ks.drop I) ⟨t2, s2, l2⟩) ∧ Hid (TyAt wr bt bs bl u2 ⟨t2, s2, l2⟩) ∧ Hid (WentC (OwnT bt bs bl (.slice p m uc)) wA (OwnT bt bs bl u2) wr) ∧ Hid (TSok ⟨t2, s2, l2⟩)) (fun i _ => len - (intOf i).toNat)
    case atStart => exact ⟨0, _, _, _, _, Nat.zero_le _, rfl, HRL.out, HTL.out, HWL.out, HOL.out⟩
    case round =>
     obtain ⟨wo, rfl⟩ : ∃ wo : World, wo = wr := ⟨_, rfl⟩
     obtain ⟨I, u2, t2, s2, l2, hI, rfl, hRI, hTI, hWI, hOI⟩ := hrel
     have e3 : wo.cell? ⟨z, 3, none⟩ = some (.slice q len cap) := hWI.out.cell HBX.out.2.2.2 HNZ.out
     have et : wo.cell? ⟨bt, 0, none⟩ = some (.int .i64 t2) := hTI.out.ct
     by_cases h1 : I < len
     case neg =>
      have HFIN := Hd (show TyPost w bt bs bl (.slice p m uc) R (.returned (.tuple #[])) wo from by
       rw [hRI.out, List.drop_of_length_le (by have := HLN.out; omega), tallyAll]
       exact ⟨rfl, u2, hTI.out, HXA.out.trans hWI.out⟩)
      clear et
      go_wp2_with fail
      go_end0
      exact HFIN.out
     have hIk : I < ks.length := by rw [← HLN.out]; exact h1
     by_cases h2 : t2 ≤ 60
     case neg =>
      have HFIN := Hd (show TyPost w bt bs bl (.slice p m uc) R (.returned (.tuple #[])) wo from by
       rw [hRI.out, List.drop_eq_getElem_cons hIk, tallyAll, if_neg (by exact h2)]
       exact ⟨rfl, u2, hTI.out, HXA.out.trans hWI.out⟩)
      have h2' : decide (t2 ≤ 60) = false := decide_eq_false h2
      clear h2
      go_wp2_with fail
      go_end0
      exact HFIN.out
     have h2' : decide (t2 ≤ 60) = true := decide_eq_true h2
     obtain ⟨b, o, rfl, hk⟩ : ∃ b o, q = some ⟨b, o, none⟩ ∧ TermsIn (OwnT bt bs bl (.slice p m uc)) wA ks b o := by
      rcases HKS.out with e | h
      ·rw [e] at hIk; simp at hIk
      ·exact h
     obtain ⟨ok, fk, nk, qk, lk, ek, e5, e6, e7, e8, hvk⟩ := (hk.went hWI.out).at I hIk
     have HCK := Hd (HIH.out I hIk bt bs bl u2 _ ⟨t2, s2, l2⟩ wo hOI.out h2 hTI.out hvk)
     obtain ⟨S3, hS3⟩ : ∃ S3, S3 = tallyP (ks[I]) ⟨t2, s2, l2⟩ := ⟨_, rfl⟩
     rw [← hS3] at HCK
     have HR3 := Hd (show R = tallyAll (ks.drop (I + 1)) S3 from by rw [hRI.out, List.drop_eq_getElem_cons hIk, tallyAll, if_pos (by exact h2), hS3])
     have HO3 := Hd (show TSok S3 from by rw [hS3]; exact tallyP_ok _ hOI.out h2)
     have HWo := Hd hWI.out
     clear hvk hk hS3 hIk hRI hTI hOI hWI h2
     go_wp2_with fail
     refine HCK.out.mono ?_
     rintro e w5 ⟨rfl, u3, hT3, hW3⟩
     have HT3 := Hd hT3
     have HW3 := Hd (HWo.out.trans hW3)
     obtain ⟨t3, s3, l3⟩ := S3
     clear hT3 hW3 e3 et e5 e6 e7 e8
     go_wp2_with fail
     go_roundw
     case rel => exact ⟨I + 1, u3, t3, s3, l3, by omega, by go_num, HR3.out, HT3.out, HW3.out, HO3.out⟩
     case measure => simp [intOf]; omega
  ·skip
   go_simp
   rw [HE1.out]
   refine hK.out _ _ (HSW.out _ _ HW1.out) (fun hh9 => ?_)
   clear hK K
   try simp only [tkN]
   refine tk1 2 rfl (AllReadyH.cons rfl (fun K hK => ?_) AllReadyH.nil)
   go_simp
   refine hK.out _ _ (HSW.out _ _ HW1.out) (fun hh2 => ?_)
   clear hK K
   try simp only [tkN]
   refine tk 8 (.int .i64 m) ?_
   try simp only [tkN]
   refine tk1 10 rfl (AllReadyH.cons rfl (fun K hK => ?_) AllReadyH.nil)
   refine step_append_E elemT rfl (.tmp 66) (.tmp 73) (by rfl) 0 (.slice p m uc) m (flatT2 l0) (by rfl) HO1.out (some ⟨wo.heap.size, 0, none⟩) 1 1 [.int .i8 0, .int .i8 0, .int .u64 0, .slice none 0 0] (by rfl) (by rfl) (.inr ⟨_, rfl, HN1.out⟩) (by simp [Value.oneCell']) (by omega) (by omega) (Nat.zero_le _) ?_
   intro v2 y2 o2 g2 t2
   obtain ⟨gg, c2, rfl⟩ : ∃ gg c2, v2 = .slice (some ⟨gg, 0, none⟩) (m + 1) c2 := by
    rcases o2.2 with ⟨e, h0⟩ | ⟨gg, c2, cur, e, -⟩
    ·omega
    ·exact ⟨gg, c2, e⟩
   have HPU := Hd (ty_push f n HT1.out HM.out o2 g2 t2)
   have HPV := Hd (ty_push2 f n HT1.out HM.out o2 g2 t2)
   clear o2 g2 t2
   refine hK.out _ _ (HSW.out _ _ (HW1.out.trans HPU.out.w2)) (fun hh10 => ?_)
   clear hK K
   try simp only [tkN]
   refine tk 11 (.pointer (some ⟨gg, m * 4, none⟩)) ?_
   try simp only [tkN]
   refine tk 13 (.pointer (some ⟨bl, 0, none⟩)) ?_
   try simp only [tkN]
   refine wpAnyH_ready (rs := [12, 14]) (by kernel_rfl) (by simp) ?_
   refine AllReadyH.cons (i := 12) rfl (fun K hK => ?_) (AllReadyH.cons (i := 14) rfl (fun K hK => ?_) AllReadyH.nil)
   ·skip
    refine step_store rfl 26 _ _ rfl gg (m * 4) #[.int .i8 0, .int .i8 f, .int .u64 n, .slice none 0 0] rfl rfl HPU.out.th (infoTm _ _ _ _) (tm_one _ _ _) ?_
    refine hK.out _ _ (HSW.out _ _ (HW1.out.trans HPU.out.w3)) (fun hh12 => ?_)
    clear hK K
    try simp only [tkN]
    have cl3 := HPU.out.cl
    have fl3 := HPU.out.fl
    refine tk1 14 rfl (AllReadyH.cons rfl (fun K hK => ?_) AllReadyH.nil)
    try dsimp only at cl3 fl3
    go_simp
    refine hK.out _ _ (HSW.out _ _ (HW1.out.trans HPU.out.w4)) (fun hh14 => ?_)
    clear hK K
    try simp only [tkN]
    refine wpAnyH_done (by kernel_rfl) ?_ _
    obtain ⟨uL, huL⟩ : ∃ uL, uL = Value.slice (some ⟨gg, 0, none⟩) (m + 1) c2 := ⟨_, rfl⟩
    obtain ⟨y4, hy4⟩ : ∃ W : World, ((y2.setCells gg (m * 4) [.int .i8 0, .int .i8 f, .int .u64 n, .slice none 0 0]).setCell ⟨bl, 0, none⟩ (.slice (some ⟨gg, 0, none⟩) (m + 1) c2)) = W := ⟨_, rfl⟩
    have HTL := Hd (hy4 ▸ HPU.out.ty)
    have HWL := Hd (hy4 ▸ (HW1.out.trans HPU.out.w4))
    rw [← huL] at HTL HWL
    have HE4 := Hd hy4
    clear hy4 cl3 fl3 cl1 cld hh14 hh12 hh10
    go_upto_region 12 with fail
    rw [HE4.out]
    clear HE4
    go_upto_region 13 with fail
    go_loopw [10] (fun i wr => ∃ (I : Nat) (u2 : Value) (t2 s2 : Int) (l2 : List (Int × Int)), I ≤ len ∧ i = .int .i64 I ∧ Hid (R = tallyAll (ks.drop I) ⟨t2, s2, l2⟩) ∧ Hid (TyAt wr bt bs bl u2 ⟨t2, s2, l2⟩) ∧ Hid (WentC (OwnT bt bs bl (.slice p m uc)) wA (OwnT bt bs bl u2) wr) ∧ Hid (TSok ⟨t2, s2, l2⟩)) (fun i _ => len - (intOf i).toNat)
    case atStart => exact ⟨0, _, _, _, _, Nat.zero_le _, rfl, HRL.out, HTL.out, HWL.out, HOL.out⟩
    case round =>
     obtain ⟨wo, rfl⟩ : ∃ wo : World, wo = wr := ⟨_, rfl⟩
     obtain ⟨I, u2, t2, s2, l2, hI, rfl, hRI, hTI, hWI, hOI⟩ := hrel
     have e3 : wo.cell? ⟨z, 3, none⟩ = some (.slice q len cap) := hWI.out.cell HBX.out.2.2.2 HNZ.out
     have et : wo.cell? ⟨bt, 0, none⟩ = some (.int .i64 t2) := hTI.out.ct
     by_cases h1 : I < len
     case neg =>
      have HFIN := Hd (show TyPost w bt bs bl (.slice p m uc) R (.returned (.tuple #[])) wo from by
       rw [hRI.out, List.drop_of_length_le (by have := HLN.out; omega), tallyAll]
       exact ⟨rfl, u2, hTI.out, HXA.out.trans hWI.out⟩)
      clear et
      go_wp2_with fail
      go_end0
      exact HFIN.out
     have hIk : I < ks.length := by rw [← HLN.out]; exact h1
     by_cases h2 : t2 ≤ 60
     case neg =>
      have HFIN := Hd (show TyPost w bt bs bl (.slice p m uc) R (.returned (.tuple #[])) wo from by
       rw [hRI.out, List.drop_eq_getElem_cons hIk, tallyAll, if_neg (by exact h2)]
       exact ⟨rfl, u2, hTI.out, HXA.out.trans hWI.out⟩)
      have h2' : decide (t2 ≤ 60) = false := decide_eq_false h2
      clear h2
      go_wp2_with fail
      go_end0
      exact HFIN.out
     have h2' : decide (t2 ≤ 60) = true := decide_eq_true h2
     obtain ⟨b, o, rfl, hk⟩ : ∃ b o, q = some ⟨b, o, none⟩ ∧ TermsIn (OwnT bt bs bl (.slice p m uc)) wA ks b o := by
      rcases HKS.out with e | h
      ·rw [e] at hIk; simp at hIk
      ·exact h
     obtain ⟨ok, fk, nk, qk, lk, ek, e5, e6, e7, e8, hvk⟩ := (hk.went hWI.out).at I hIk
     have HCK := Hd (HIH.out I hIk bt bs bl u2 _ ⟨t2, s2, l2⟩ wo hOI.out h2 hTI.out hvk)
     obtain ⟨S3, hS3⟩ : ∃ S3, S3 = tallyP (ks[I]) ⟨t2, s2, l2⟩ := ⟨_, rfl⟩
     rw [← hS3] at HCK
     have HR3 := Hd (show R = tallyAll (ks.drop (I + 1)) S3 from by rw [hRI.out, List.drop_eq_getElem_cons hIk, tallyAll, if_pos (by exact h2), hS3])
     have HO3 := Hd (show TSok S3 from by rw [hS3]; exact tallyP_ok _ hOI.out h2)
     have HWo := Hd hWI.out
     clear hvk hk hS3 hIk hRI hTI hOI hWI h2
     go_wp2_with fail
     refine HCK.out.mono ?_
     rintro e w5 ⟨rfl, u3, hT3, hW3⟩
     have HT3 := Hd hT3
     have HW3 := Hd (HWo.out.trans hW3)
     obtain ⟨t3, s3, l3⟩ := S3
     clear hT3 hW3 e3 et e5 e6 e7 e8
     go_wp2_with fail
     go_roundw
     case rel => exact ⟨I + 1, u3, t3, s3, l3, by omega, by go_num, HR3.out, HT3.out, HW3.out, HO3.out⟩
     case measure => simp [intOf]; omega
   ·skip
    have cl3 := HPV.out.cl
    have fl3 := HPV.out.fl
    go_simp
    refine hK.out _ _ (HSW.out _ _ (HW1.out.trans HPV.out.w3)) (fun hh14 => ?_)
    clear hK K
    try simp only [tkN]
    refine tk1 12 rfl (AllReadyH.cons rfl (fun K hK => ?_) AllReadyH.nil)
    refine step_store rfl 26 _ _ rfl gg (m * 4) #[.int .i8 0, .int .i8 f, .int .u64 n, .slice none 0 0] rfl rfl HPV.out.th (infoTm _ _ _ _) (tm_one _ _ _) ?_
    refine hK.out _ _ (HSW.out _ _ (HW1.out.trans HPV.out.w4)) (fun hh12 => ?_)
    clear hK K
    try simp only [tkN]
    refine wpAnyH_done (by kernel_rfl) ?_ _
    obtain ⟨uL, huL⟩ : ∃ uL, uL = Value.slice (some ⟨gg, 0, none⟩) (m + 1) c2 := ⟨_, rfl⟩
    obtain ⟨y4, hy4⟩ : ∃ W : World, ((y2.setCell ⟨bl, 0, none⟩ (.slice (some ⟨gg, 0, none⟩) (m + 1) c2)).setCells gg (m * 4) [.int .i8 0, .int .i8 f, .int .u64 n, .slice none 0 0]) = W := ⟨_, rfl⟩
    have HTL := Hd (hy4 ▸ HPV.out.ty)
    have HWL := Hd (hy4 ▸ (HW1.out.trans HPV.out.w4))
    rw [← huL] at HTL HWL
    have HE4 := Hd hy4
    clear hy4 cl3 fl3 cl1 cld hh14 hh12 hh10
    go_upto_region 12 with fail
    rw [HE4.out]
    clear HE4
    go_upto_region 13 with fail
    go_loopw [10] (fun i wr => ∃ (I : Nat) (u2 : Value) (t2 s2 : Int) (l2 : List (Int × Int)), I ≤ len ∧ i = .int .i64 I ∧ Hid (R = tallyAll (ks.drop I) ⟨t2, s2, l2⟩) ∧ Hid (TyAt wr bt bs bl u2 ⟨t2, s2, l2⟩) ∧ Hid (WentC (OwnT bt bs bl (.slice p m uc)) wA (OwnT bt bs bl u2) wr) ∧ Hid (TSok ⟨t2, s2, l2⟩)) (fun i _ => len - (intOf i).toNat)
    case atStart => exact ⟨0, _, _, _, _, Nat.zero_le _, rfl, HRL.out, HTL.out, HWL.out, HOL.out⟩
    case round =>
     obtain ⟨wo, rfl⟩ : ∃ wo : World, wo = wr := ⟨_, rfl⟩
     obtain ⟨I, u2, t2, s2, l2, hI, rfl, hRI, hTI, hWI, hOI⟩ := hrel
     have e3 : wo.cell? ⟨z, 3, none⟩ = some (.slice q len cap) := hWI.out.cell HBX.out.2.2.2 HNZ.out
     have et : wo.cell? ⟨bt, 0, none⟩ = some (.int .i64 t2) := hTI.out.ct
     by_cases h1 : I < len
     case neg =>
      have HFIN := Hd (show TyPost w bt bs bl (.slice p m uc) R (.returned (.tuple #[])) wo from by
       rw [hRI.out, List.drop_of_length_le (by have := HLN.out; omega), tallyAll]
       exact ⟨rfl, u2, hTI.out, HXA.out.trans hWI.out⟩)
      clear et
      go_wp2_with fail
      go_end0
      exact HFIN.out
     have hIk : I < ks.length := by rw [← HLN.out]; exact h1
     by_cases h2 : t2 ≤ 60
     case neg =>
      have HFIN := Hd (show TyPost w bt bs bl (.slice p m uc) R (.returned (.tuple #[])) wo from by
       rw [hRI.out, List.drop_eq_getElem_cons hIk, tallyAll, if_neg (by exact h2)]
       exact ⟨rfl, u2, hTI.out, HXA.out.trans hWI.out⟩)
      have h2' : decide (t2 ≤ 60) = false := decide_eq_false h2
      clear h2
      go_wp2_with fail
      go_end0
      exact HFIN.out
     have h2' : decide (t2 ≤ 60) = true := decide_eq_true h2
     obtain ⟨b, o, rfl, hk⟩ : ∃ b o, q = some ⟨b, o, none⟩ ∧ TermsIn (OwnT bt bs bl (.slice p m uc)) wA ks b o := by
      rcases HKS.out with e | h
      ·rw [e] at hIk; simp at hIk
      ·exact h
     obtain ⟨ok, fk, nk, qk, lk, ek, e5, e6, e7, e8, hvk⟩ := (hk.went hWI.out).at I hIk
     have HCK := Hd (HIH.out I hIk bt bs bl u2 _ ⟨t2, s2, l2⟩ wo hOI.out h2 hTI.out hvk)
     obtain ⟨S3, hS3⟩ : ∃ S3, S3 = tallyP (ks[I]) ⟨t2, s2, l2⟩ := ⟨_, rfl⟩
     rw [← hS3] at HCK
     have HR3 := Hd (show R = tallyAll (ks.drop (I + 1)) S3 from by rw [hRI.out, List.drop_eq_getElem_cons hIk, tallyAll, if_pos (by exact h2), hS3])
     have HO3 := Hd (show TSok S3 from by rw [hS3]; exact tallyP_ok _ hOI.out h2)
     have HWo := Hd hWI.out
     clear hvk hk hS3 hIk hRI hTI hOI hWI h2
     go_wp2_with fail
     refine HCK.out.mono ?_
     rintro e w5 ⟨rfl, u3, hT3, hW3⟩
     have HT3 := Hd hT3
     have HW3 := Hd (HWo.out.trans hW3)
     obtain ⟨t3, s3, l3⟩ := S3
     clear hT3 hW3 e3 et e5 e6 e7 e8
     go_wp2_with fail
     go_roundw
     case rel => exact ⟨I + 1, u3, t3, s3, l3, by omega, by go_num, HR3.out, HT3.out, HW3.out, HO3.out⟩
     case measure => simp [intOf]; omega

theorem ctally_aux : ∀ (k : Nat) (t : Tm), t.sz ≤ k → TallyOf t
 | 0, t, h => by have := t.sz_pos; omega
 | k + 1, .mk op f n ks, h => ctally_step op f n ks fun i hi => ctally_aux k _ (Tm.sz_kid h i hi)
theorem ctally_any (t : Tm) : TallyOf t := ctally_aux t.sz t (Nat.le_refl _)
end Go.Proofs.YtjjbdbklbghlhaaGreatDoor
/- The law's heavy: more terms or tests than are asked. -/
namespace Go.Proofs.YtjjbdbklbghlhaaGreatDoor
open Go.RowKit Go.Sort Go.Maps Go.Lib
set_option linter.unusedSimpArgs false

def heavyP (ks : List Tm) : Bool := decide (60 < (tallyP (.mk 0 0 0 ks) ⟨0, 0, []⟩).t) || decide (8 < (tallyP (.mk 0 0 0 ks) ⟨0, 0, []⟩).l.length)
set_option maxHeartbeats 8000000 in
set_option maxRecDepth 100000 in
theorem cHeavy_any (op f n : Int) (q : Option Addr) (len cap : Nat) (t : Tm) (w : World) (hv : t.Val w (.agg #[.int .i8 op, .int .i8 f, .int .u64 n, .slice q len cap])) :
  Calls Tryz.prog 29 #[.agg #[.int .i8 op, .int .i8 f, .int .u64 n, .slice q len cap, .slice none 0 0]] w fun e w' => e = .returned (.bool (decide (60 < (tallyP t ⟨0, 0, []⟩).t) || decide (8 < (tallyP t ⟨0, 0, []⟩).l.length))) ∧ Ext w w' := by
 obtain ⟨z, hz⟩ : ∃ z, z = w.heap.size := ⟨_, rfl⟩
 obtain ⟨wA, hA⟩ : ∃ W : World, w.alloc (.cells #[.int .i8 op, .int .i8 f, .int .u64 n, .slice q len cap, .slice none 0 0] 59) = W := ⟨_, rfl⟩
 obtain ⟨wB, hB⟩ : ∃ W : World, wA.alloc (.cells #[.int .i64 0] 3) = W := ⟨_, rfl⟩
 obtain ⟨wC, hC⟩ : ∃ W : World, wB.alloc (.cells #[.int .i64 0] 3) = W := ⟨_, rfl⟩
 obtain ⟨wD, hD⟩ : ∃ W : World, wC = W := ⟨_, rfl⟩
 obtain ⟨wE, hE⟩ : ∃ W : World, wD.alloc (.cells #[.slice none 0 0] 24) = W := ⟨_, rfl⟩
 have xA : Ext w wA := hA ▸ Ext.alloc _ _
 have xB : Ext wA wB := hB ▸ Ext.alloc _ _
 have xC : Ext wB wC := hC ▸ Ext.alloc _ _
 have sA : wA.heap.size = z + 1 := by rw [← hA, World.size_alloc, hz]
 have sB : wB.heap.size = z + 1 + 1 := by rw [← hB, World.size_alloc, sA]
 have sC : wC.heap.size = z + 1 + 1 + 1 := by rw [← hC, World.size_alloc, sB]
 have kD : Keep (fun i => i = z + 1 ∨ i = z + 1 + 1) wC wD := hD ▸ Keep.refl _ _
 have sD : wD.heap.size = z + 1 + 1 + 1 := hD ▸ sC
 have xD : Ext w wD := (xA.trans (xB.trans xC)).andKeep kD (fun i hi => by omega)
 have xAD : Ext wA wD := (xB.trans xC).andKeep kD (fun i hi => by omega)
 have xE : Ext wD wE := hE ▸ Ext.alloc _ _
 have c1 : wC.cell? ⟨z + 1, 0, none⟩ = some (.int .i64 0) := xC.later _ _ (by rw [← hB, ← sA]; simp [go_sem])
 have c2 : wC.cell? ⟨z + 1 + 1, 0, none⟩ = some (.int .i64 0) := by rw [← hC, ← sB]; simp [go_sem]
 have f1 : wC.frozen? ⟨z + 1, 0, none⟩ = false := by rw [Below.frozen xC (by simp; omega), ← hB, ← sA]; simp [go_sem]
 have f2 : wC.frozen? ⟨z + 1 + 1, 0, none⟩ = false := by rw [← hC, ← sB]; simp [go_sem]
 have g1 : wD.cell? ⟨z + 1, 0, none⟩ = some (.int .i64 0) := hD ▸ c1
 have g2 : wD.cell? ⟨z + 1 + 1, 0, none⟩ = some (.int .i64 0) := hD ▸ c2
 have HTY := Hd (show TyAt wE (z + 1) (z + 1 + 1) (z + 1 + 1 + 1) (.slice none 0 0) ⟨0, 0, []⟩ from by
  refine ⟨xE.later _ _ g1, xE.later _ _ g2, by rw [← hE, ← sD]; simp [go_sem], ?_, ?_, by rw [← hE, ← sD]; simp [go_sem], World.ownsRow_nil _ _ _ _, by omega, by omega, by omega, fun g hg => by cases hg⟩
  ·rw [Below.frozen xE (by simp; omega), ← hD]; exact f1
  ·rw [Below.frozen xE (by simp; omega), ← hD]; exact f2)
 have HX := Hd (xD.trans xE)
 have HBX := Hd (show ∀ W, Ext wE W → (W.cell? ⟨z, 0, none⟩ = some (.int .i8 op) ∧ W.cell? ⟨z, 1, none⟩ = some (.int .i8 f) ∧ W.cell? ⟨z, 2, none⟩ = some (.int .u64 n) ∧ W.cell? ⟨z, 3, none⟩ = some (.slice q len cap) ∧ W.cell? ⟨z, 4, none⟩ = some (.slice none 0 0)) from fun W hW => by
  have hx := (xAD.trans xE).trans hW
  refine ⟨hx.later _ _ ?_, hx.later _ _ ?_, hx.later _ _ ?_, hx.later _ _ ?_, hx.later _ _ ?_⟩ <;> (rw [← hA, hz]; simp [go_sem]))
 have HTI := Hd (show TermIn (OwnT (z + 1) (z + 1 + 1) (z + 1 + 1 + 1) (.slice none 0 0)) wE t (.agg #[.int .i8 op, .int .i8 f, .int .u64 n, .slice q len cap]) from ⟨w, xD.trans xE, (fun b hb => by
  rcases hb with h | h | h | h
  ·omega
  ·omega
  ·omega
  ·cases h), hv⟩)
 have HOK := Hd (show TSok ⟨0, 0, []⟩ from ⟨by decide, by decide, by decide, by decide, by decide⟩)
 have HCT := Hd (ctally_any t (z + 1) (z + 1 + 1) (z + 1 + 1 + 1) (.slice none 0 0) _ ⟨0, 0, []⟩ wE HOK.out (by decide) HTY.out HTI.out)
 have HNZ := Hd (show ¬ OwnT (z + 1) (z + 1 + 1) (z + 1 + 1 + 1) (.slice none 0 0) z from fun h => by
  rcases h with h | h | h | h
  ·omega
  ·omega
  ·omega
  ·cases h)
 have HXW := Hd (show ∀ F2 W, WentC (OwnT (z + 1) (z + 1 + 1) (z + 1 + 1 + 1) (.slice none 0 0)) wE F2 W → Ext w W from fun F2 W h => (xD.trans xE).andKeep h.2 (fun b hb => by
  rcases hb with h | h | h | h
  ·omega
  ·omega
  ·omega
  ·cases h))
 have HEQ := Hd (And.intro hA (And.intro hB (And.intro hC (And.intro hD hE))))
 have HSZ := Hd (And.intro sA (And.intro sB (And.intro sC sD)))
 have HFF := Hd (And.intro (And.intro c1 c2) (And.intro f1 f2))
 obtain ⟨S', hS'⟩ : ∃ S', S' = tallyP t ⟨0, 0, []⟩ := ⟨_, rfl⟩
 rw [← hS'] at HCT ⊢
 have hso := Hd (show TSok S' from by rw [hS']; exact tallyP_ok t HOK.out (by decide))
 have HZ := Hd hz
 clear xA xB xC xD xE xAD sA sB sC sD kD c1 c2 f1 f2 g1 g2 hA hB hC hD hE hS' hv HTI
 go_enter Tryz.func29, Tryz.ntmps29
 go_upto_region 1 with fail
 rw [HEQ.out.1, ← HZ.out]
 clear hz
 obtain ⟨⟨c1, c2⟩, f1, f2⟩ := HFF.out
 go_upto_region 2 with fail
 simp only [HSZ.out.1, HEQ.out.2.1, HEQ.out.2.2.1, HEQ.out.2.2.2.1]
 go_upto_region 3 with fail
 try simp only [HSZ.out.2.2.2, HEQ.out.2.2.2.2]
 clear c1 c2 f1 f2
 obtain ⟨d0, d1, d2, d3, d4⟩ := HBX.out wE (Ext.refl _)
 go_wp2_with fail
 refine HCT.out.mono ?_
 rintro e w5 ⟨rfl, u5, hT5, hW5⟩
 have HT5 := Hd hT5
 have HW5 := Hd hW5
 have e4 : w5.cell? ⟨z, 4, none⟩ = some (.slice none 0 0) := hW5.cell d4 HNZ.out
 have et := hT5.ct
 have el := hT5.cl
 obtain ⟨pu, cu, hu, -⟩ := owns_form hT5.own
 rw [hu] at el
 clear hT5 hW5 d0 d1 d2 d3 d4 hu
 go_upto_region 5 with fail
 go_loopw [6] (fun i wr => i = .int .i64 0 ∧ wr = w5) (fun _ _ => 0)
 case atStart => exact ⟨rfl, rfl⟩
 case round =>
  obtain ⟨rfl, rfl⟩ := hrel
  have HFX := Hd (HXW.out _ _ HW5.out)
  have HSO := hso.out
  by_cases h60 : 60 < S'.t
  ·have hd : decide (60 < S'.t) = true := decide_eq_true h60
   have HD := Hd hd
   have hd2 : decide (S'.t ≤ 60) = false := decide_eq_false (by omega)
   clear h60 HSO
   go_wp2_with fail
   go_ret
   exact ⟨by rw [HD.out, Bool.true_or]; rfl, HFX.out⟩
  ·have hd : decide (60 < S'.t) = false := decide_eq_false h60
   have HD := Hd hd
   have hd2 : decide (S'.t ≤ 60) = true := decide_eq_true (by omega)
   clear HSO h60
   go_wp2_with fail
   go_ret
   exact ⟨by rw [HD.out, Bool.false_or]; exact congrArg (fun b => Ending.returned (.bool b)) (decide_eq_decide.2 (by omega)), HFX.out⟩
set_option maxHeartbeats 4000000 in
set_option maxRecDepth 100000 in
theorem cheavy_any (ks : List Tm) (b : Nat) (n cap : Nat) (w : World) (hn : n = ks.length) (hc : n ≤ cap) (hm : cap ≤ 9223372036854775807) (hv : Tm.AllAt w ks b 0) :
  Calls Tryz.prog 14 #[.slice (some ⟨b, 0, none⟩) n cap] w fun e w' => e = .returned (.bool (heavyP ks)) ∧ Ext w w' := by
 have HC := Hd (cHeavy_any 0 0 0 (some ⟨b, 0, none⟩) n cap (.mk 0 0 0 ks) w ⟨_, rfl, _, rfl, (show (-128 : Int) ≤ 0 ∧ (0 : Int) ≤ 127 by decide), (show (-128 : Int) ≤ 0 ∧ (0 : Int) ≤ 127 by decide), (show (0 : Int) ≤ 0 ∧ (0 : Int) ≤ 18446744073709551615 by decide), _, _, _, rfl, hn, hc, hm, .inr ⟨b, 0, rfl, hv⟩⟩)
 have HP := Hd (show heavyP ks = (decide (60 < (tallyP (.mk 0 0 0 ks) ⟨0, 0, []⟩).t) || decide (8 < (tallyP (.mk 0 0 0 ks) ⟨0, 0, []⟩).l.length)) from rfl)
 rw [← HP.out] at HC
 clear hv hn hc hm
 generalize heavyP ks = hb at *
 go_enter Tryz.func14, Tryz.ntmps14
 go_wp2_with fail
 refine HC.out.mono ?_
 rintro e w1 ⟨rfl, hx⟩
 go_wp2_with fail
 go_ret
 exact ⟨rfl, hx⟩
end Go.Proofs.YtjjbdbklbghlhaaGreatDoor
