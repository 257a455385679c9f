/- The maker's union. -/
import Derived.Test.YtjjbdbklbghlhaaGreatDoorMA
import Derived.Test.YtjjbdbklbghlhaaGreatDoorMG
import Derived.Deep.DeepCutAuto
namespace Go.Proofs.YtjjbdbklbghlhaaGreatDoor
open Go.RowKit Go.Sort Go.Maps Go.Lib
set_option linter.unusedSimpArgs false

/-- what a maker's function does at this much fuel -/
def UnionOf (k : Nat) : Prop := ∀ (F : Nat → Prop) (p m mt : Nat) (L : List NdD) (D : List (Dk × Nat)) (a b : Nat) (w : World), a + b < k → a < L.length → b < L.length → Mk F w p m mt L D →
 Calls Tryz.prog 77 #[.pointer (some ⟨m, 0, none⟩), .int .i64 a, .int .i64 b] w (MPost F w p m mt (unionP k L a b))
/-- the boxes of a closure -/
structure Boxes (F : Nat → Prop) (mt : Nat) (W : World) (b : Nat) (v : Value) : Prop where
 c : W.cell? ⟨b, 0, none⟩ = some v
 nf : ¬ F b ∧ b ≠ mt
theorem Boxes.lt {F : Nat → Prop} {mt : Nat} {W : World} {b : Nat} {v : Value} (h : Boxes F mt W b v) : b < W.heap.size := World.block_lt_of_cell? W _ h.c
theorem Boxes.ext {F : Nat → Prop} {mt : Nat} {W W' : World} {b : Nat} {v : Value} (h : Boxes F mt W b v) (hx : Ext W W') : Boxes F mt W' b v := ⟨hx.later _ _ h.c, h.nf⟩
theorem Boxes.keep {F F' : Nat → Prop} {mt : Nat} {W W' : World} {b : Nat} {v : Value} (h : Boxes F mt W b v) (hs : ∀ b, F' b → F b ∨ W.heap.size ≤ b) (hk : Keep (fun b => F b ∨ b = mt) W W') : Boxes F' mt W' b v :=
 ⟨hk.cell h.c (fun e => e.elim h.nf.1 h.nf.2), fun e => (hs b e).elim h.nf.1 fun e => by have := h.lt; omega, h.nf.2⟩

theorem there_ext {W W' : World} {b o n : Nat} (h : W.there b o n) (hx : Ext W W') : W'.there b o n := fun i hi => by
 obtain ⟨h1, h2⟩ := h i hi
 obtain ⟨v, hv⟩ := Option.isSome_iff_exists.1 h1
 exact ⟨by rw [hx.later _ _ hv]; rfl, by rw [Below.frozen hx (World.block_lt_of_cell? _ _ hv)]; exact h2⟩
def ndL (x : NdD) (q : Option Addr) (k c : Nat) : List Value := [.int .i8 x.f, .int .u64 x.n, .int .i64 x.hi, .int .i64 x.lo, .slice q k c]
/-- two nodes stored into two new variables -/
theorem two_stores {w W : World} {z4 z5 : Nat} {x y : NdD} {q1 q2 : Option Addr} {k1 c1 k2 c2 : Nat} {A B : Nat → Prop} (hx : Ext w W) (h4 : w.heap.size ≤ z4) (h5 : w.heap.size ≤ z5) (hne : z4 ≠ z5) (t4 : W.there z4 0 5) (t5 : W.there z5 0 5)
  (hr1 : RowsOn A W x.leaf (.slice q1 k1 c1)) (hr2 : RowsOn B W y.leaf (.slice q2 k2 c2)) (hA : ∀ b, A b → b ≠ z4 ∧ b ≠ z5) (hB : ∀ b, B b → b ≠ z4 ∧ b ≠ z5) :
  NodeAt ((W.setCells z4 0 (ndL x q1 k1 c1)).setCells z5 0 (ndL y q2 k2 c2)) z4 x q1 k1 c1 ∧ NodeAt ((W.setCells z4 0 (ndL x q1 k1 c1)).setCells z5 0 (ndL y q2 k2 c2)) z5 y q2 k2 c2 ∧
  RowsOn AnyB ((W.setCells z4 0 (ndL x q1 k1 c1)).setCells z5 0 (ndL y q2 k2 c2)) x.leaf (.slice q1 k1 c1) ∧ RowsOn AnyB ((W.setCells z4 0 (ndL x q1 k1 c1)).setCells z5 0 (ndL y q2 k2 c2)) y.leaf (.slice q2 k2 c2) ∧
  Ext w (W.setCells z4 0 (ndL x q1 k1 c1)) ∧ Ext w ((W.setCells z4 0 (ndL x q1 k1 c1)).setCells z5 0 (ndL y q2 k2 c2)) ∧ (W.setCells z4 0 (ndL x q1 k1 c1)).there z5 0 5 := by
 have ka := keep_setCells (w := W) z4 0 (ndL x q1 k1 c1)
 have kb := keep_setCells (w := W.setCells z4 0 (ndL x q1 k1 c1)) z5 0 (ndL y q2 k2 c2)
 have r4 := World.rangeAt_setCells_same W z4 0 (ndL x q1 k1 c1) (fun j hj => t4 j hj)
 have t5' : (W.setCells z4 0 (ndL x q1 k1 c1)).there z5 0 5 := World.there_setCells t5 _ _ _
 have r5 := World.rangeAt_setCells_same (W.setCells z4 0 (ndL x q1 k1 c1)) z5 0 (ndL y q2 k2 c2) (fun j hj => t5' j hj)
 have r4' : ((W.setCells z4 0 (ndL x q1 k1 c1)).setCells z5 0 (ndL y q2 k2 c2)).rangeAt z4 0 (ndL x q1 k1 c1) := kb.range r4 hne
 have e1 : Ext w (W.setCells z4 0 (ndL x q1 k1 c1)) := hx.trans' ⟨ka.os, ka.tape, ka.output, ka.size, fun i hi => ka.block i (Nat.lt_of_lt_of_le hi hx.size) (fun e => by omega)⟩
 have e2 : Ext w ((W.setCells z4 0 (ndL x q1 k1 c1)).setCells z5 0 (ndL y q2 k2 c2)) := e1.trans' ⟨kb.os, kb.tape, kb.output, kb.size, fun i hi => kb.block i (Nat.lt_of_lt_of_le hi e1.size) (fun e => by omega)⟩
 refine ⟨⟨by simpa using r4' 0 _ rfl, by simpa using r4' 1 _ rfl, by simpa using r4' 2 _ rfl, by simpa using r4' 3 _ rfl, by simpa using r4' 4 _ rfl⟩, ⟨by simpa using r5 0 _ rfl, by simpa using r5 1 _ rfl, by simpa using r5 2 _ rfl, by simpa using r5 3 _ rfl, by simpa using r5 4 _ rfl⟩, ?_, ?_, e1, e2, t5'⟩
 ·have s1 := hr1.keep ka.size (fun b hb hlt => ka.block b hlt (fun e => (hA b hb).1 e))
  have s2 := s1.keep kb.size (fun b hb hlt => kb.block b hlt (fun e => (hA b hb).2 e))
  exact s2.mono fun _ _ _ => trivial
 ·have s1 := hr2.keep ka.size (fun b hb hlt => ka.block b hlt (fun e => (hB b hb).1 e))
  have s2 := s1.keep kb.size (fun b hb hlt => kb.block b hlt (fun e => (hB b hb).2 e))
  exact s2.mono fun _ _ _ => trivial
theorem step_store {P : Program} {o : Oper} {ops : Array Oper} {a : Act} {w : World} {K : Act → World → Prop} {Q : Exit → Act → World → Prop} {F : Prop} (hgd : o.guard = none) (ty : TypeId) (x y : Operand) (ho : o.op = .store ty x y) (b off : Nat) (cells : Array Value)
  (hx : a.eval x = .pointer (some ⟨b, off, none⟩)) (hy : a.eval y = .agg cells) (ht : w.there b off cells.size) (hi : (P.info? ty).map (·.size) = some cells.size) (h1 : cells.all (·.oneCell') = true) (h : K (a.put o.dst undef) (w.setCells b off cells.toList)) :
  if Region.wanted o (yielded ops a.tmps) = true then Oper.wp P o a w K Q else F := by
 have hw : Region.wanted o (yielded ops a.tmps) = true := by simp [Region.wanted, hgd]
 rw [if_pos hw]
 exact wp_store_mid ty x y ho b off cells hx hy ht hi h1 h
theorem rowsVs {B : Nat → Prop} {w : World} {l : List RowD} {p : Option Addr} {n c : Nat} (h : RowsOn B w l (.slice p n c)) : ∃ vs, RowsV B w l vs ∧ (l = [] ∨ ∃ b o, p = some ⟨b, o, none⟩ ∧ w.rangeAt b o vs) := by
 obtain ⟨_, _, _, he, h1, h2, h3, hh⟩ := h
 cases he
 rcases hh with rfl | ⟨b, o, vs, rfl, -, -, hvl, hr, hrow⟩
 ·exact ⟨[], RowsV.nil, .inl rfl⟩
 ·exact ⟨vs, ⟨hvl, hrow⟩, .inr ⟨b, o, rfl, hr⟩⟩
theorem RowsV.app {B : Nat → Prop} {w : World} {l m : List RowD} {vs us : List Value} (h : RowsV B w l vs) (k : RowsV B w m us) : RowsV B w (l ++ m) (vs ++ us) := by
 refine ⟨by rw [List.length_append, List.length_append, h.1, k.1], fun i h1 h2 => ?_⟩
 by_cases hi : i < l.length
 ·rw [List.getElem_append_left hi, List.getElem_append_left (by rw [h.1]; exact hi)]
  exact h.2 i _ _
 ·have hi2 : l.length ≤ i := by omega
  rw [List.getElem_append_right hi2, List.getElem_append_right (by rw [h.1]; exact hi2)]
  have := k.2 (i - l.length) (by rw [List.length_append] at h1; omega) (by rw [k.1]; rw [List.length_append] at h1; omega)
  simpa [h.1] using this
theorem news_at {w w' : World} {p : Option Addr} {l : List RowD} {vs : List Value} {n : Nat} (h : l = [] ∨ ∃ b o, p = some ⟨b, o, none⟩ ∧ w.rangeAt b o vs) (hn : n = l.length) (hv : vs.length = l.length) (hx : Ext w w') : n = 0 ∨ ∃ a, p = some a ∧ ∀ j u, vs[j]? = some u → w'.cell? (a.add j) = some u := by
 rcases h with rfl | ⟨b, o, rfl, hr⟩
 ·exact .inl (by simpa using hn)
 ·refine .inr ⟨_, rfl, fun j u hu => ?_⟩
  rw [Addr.add_mid]
  exact hx.later _ _ (hr j u hu)
def Went (F : Nat → Prop) (mt : Nat) (w : World) (F' : Nat → Prop) (w' : World) : Prop := (∀ b, F' b → F b ∨ w.heap.size ≤ b) ∧ Keep (fun b => F b ∨ b = mt) w w'
theorem Went.ofExt {F : Nat → Prop} {mt : Nat} {w w' : World} (hx : Ext w w') : Went F mt w F w' := ⟨fun _ hb => .inl hb, hx.keep _⟩
theorem Went.trans {F F1 F2 : Nat → Prop} {mt : Nat} {w w1 w2 : World} (h : Went F mt w F1 w1) (k : Went F1 mt w1 F2 w2) : Went F mt w F2 w2 := by
 obtain ⟨h1, h2⟩ := h
 obtain ⟨h4, h5⟩ := k
 refine ⟨fun b hb => ?_, ?_⟩
 ·rcases h4 b hb with h6 | h6
  ·exact h1 b h6
  ·exact .inr (Nat.le_trans h2.size h6)
 ·refine ⟨h5.os.trans h2.os, h5.tape.trans h2.tape, h5.output.trans h2.output, Nat.le_trans h2.size h5.size, fun b hb hn => ?_⟩
  rw [h5.block b (Nat.lt_of_lt_of_le hb h2.size) fun e => ?_, h2.block b hb hn]
  rcases e with e | e
  ·rcases h1 b e with h6 | h6
   ·exact hn (.inl h6)
   ·omega
  ·exact hn (.inr e)
theorem Went.op {F F' : Nat → Prop} {mt : Nat} {w w' : World} {p : Nat} {L' : List NdD} (h : StTo F w w' p L' F') : Went F mt w F' w' := ⟨h.sub, h.kp.mono fun _ _ hb => .inl hb⟩
theorem testP_nn {L : List NdD} {p : Int × Int} {a b : Nat} (h : (testP L p.1 p.2 a b).1.2 = 0) : (testP L p.1 p.2 a b).1.1 = (((testP L p.1 p.2 a b).1.1.toNat : Nat) : Int) := by
 unfold testP at *
 split at h
 ·rename_i hc
  rw [if_pos hc]
  split at h
  ·rename_i x y hx hy
   split at h
   ·have h : (2 : Int) = 0 := h
    exact absurd h (by decide)
   ·rename_i hb
    rw [if_neg hb]
    split at h
    ·rename_i hab
     rw [if_pos hab]
     simp
    ·rename_i hab
     rw [if_neg hab]
     have := (putN_lt h).1
     omega
  ·have h : (2 : Int) = 0 := h
   exact absurd h (by decide)
 ·have h : (2 : Int) = 0 := h
  exact absurd h (by decide)
theorem leafP_nn {L : List NdD} {r : List RowD} (h : (leafP L r).1.2 = 0) : (leafP L r).1.1 = (((leafP L r).1.1.toNat : Nat) : Int) := by
 unfold leafP at *
 split at h
 ·have h : (2 : Int) = 0 := h
  exact absurd h (by decide)
 ·split at h
  ·have h : (200 : Int) = 0 := h
   exact absurd h (by decide)
  ·rename_i s hs hb
   rw [if_neg hb]
   have := (putN_lt h).1
   omega
theorem infoNd (a b c d : Int) (e : Value) : (Tryz.prog.info? 42).map (·.size) = some (#[Value.int .i8 a, .int .u64 b, .int .i64 c, .int .i64 d, e]).size := by
 show _ = some 5
 kernel_rfl

set_option maxHeartbeats 8000000 in
set_option maxRecDepth 100000 in
theorem dunion1_any (k : Nat) (IH : UnionOf k) (F : Nat → Prop) (p m mt : Nat) (L : List NdD) (D : List (Dk × Nat)) (a b : Nat) (w : World) (hab : a + b < k + 1) (hne : a ≠ b) (ha : a < L.length) (hb : b < L.length) (h : Mk F w p m mt L D)
  (b0 b1 b2 : Nat) (h0 : Boxes F mt w b0 (.pointer (some ⟨m, 0, none⟩))) (h1 : Boxes F mt w b1 (.int .i64 a)) (h2 : Boxes F mt w b2 (.int .i64 b)) :
  Calls Tryz.prog 114 #[.pointer (some ⟨b0, 0, none⟩), .pointer (some ⟨b1, 0, none⟩), .pointer (some ⟨b2, 0, none⟩)] w (MPost F w p m mt (unionP (k + 1) L a b)) := by
 have HM := Hd h
 have HNA := Hd (fun W (hW : Ext w W) => dnode_any p m mt L D a W (h.ext hW) ha)
 have HNB := Hd (fun W (hW : Ext w W) => dnode_any p m mt L D b W (h.ext hW) hb)
 have c0 := h0.c
 have c1 := h1.c
 have c2 := h2.c
 have xz : Ext w w.drew := Ext.drew _
 have HSX := Hd (show ∀ W : World, Ext w W → (fun W : World => W.cell? ⟨b0, 0, none⟩ = some (.pointer (some ⟨m, 0, none⟩)) ∧ W.cell? ⟨b1, 0, none⟩ = some (.int .i64 a) ∧ W.cell? ⟨b2, 0, none⟩ = some (.int .i64 b)) W from fun W hW => ⟨hW.later _ _ c0, hW.later _ _ c1, hW.later _ _ c2⟩)
 obtain ⟨x, hx⟩ : ∃ x, x = nodeP L a := ⟨_, rfl⟩
 obtain ⟨y, hy⟩ : ∃ y, y = nodeP L b := ⟨_, rfl⟩
 rw [← hx] at HNA
 rw [← hy] at HNB
 have HXY := Hd (And.intro hx hy)
 clear c0 c1 c2 hx hy
 go_enter Tryz.func114, Tryz.ntmps114
 go_upto_region 1 with fail
 go_cut [4, 5] (fun v4 v5 wx => ∃ (bx bz : Nat) (q1 : Option Addr) (k1 c1 : Nat) (q2 : Option Addr) (k2 c2 : Nat), v4 = .pointer (some ⟨bx, 0, none⟩) ∧ v5 = .pointer (some ⟨bz, 0, none⟩) ∧ Hid (w.heap.size ≤ bx ∧ w.heap.size ≤ bz) ∧ Hid (NodeAt wx bx x q1 k1 c1) ∧ Hid (NodeAt wx bz y q2 k2 c2) ∧ Hid (RowsOn AnyB wx x.leaf (.slice q1 k1 c1)) ∧ Hid (RowsOn AnyB wx y.leaf (.slice q2 k2 c2)) ∧ Hid (Ext w wx))
 case first =>
  skip -- R1START
  refine wp_region_noPanic ?_
  refine wp_region_held_drew (S := (fun W : World => W.cell? ⟨b0, 0, none⟩ = some (.pointer (some ⟨m, 0, none⟩)) ∧ W.cell? ⟨b1, 0, none⟩ = some (.int .i64 a) ∧ W.cell? ⟨b2, 0, none⟩ = some (.int .i64 b))) (by kernel_rfl) (HSX.out _ xz) (fun hHeld => ?_)
  refine tk 0 (.pointer (some ⟨m, 0, none⟩)) ?_
  try simp only [tkN]
  refine tk 1 (.int .i64 a) ?_
  try simp only [tkN]
  refine tk 3 (.pointer (some ⟨m, 0, none⟩)) ?_
  try simp only [tkN]
  refine tk 4 (.int .i64 b) ?_
  try simp only [tkN]
  refine wpAnyH_ready (rs := [2, 6, 7]) (by kernel_rfl) (by simp) ?_
  refine AllReadyH.cons (i := 2) rfl (fun K hK => ?_) (AllReadyH.cons (i := 6) rfl (fun K hK => ?_) (AllReadyH.cons (i := 7) rfl (fun K hK => ?_) AllReadyH.nil))
  ·go_simp
   go_at_call 110
   refine (HNA.out w.drew xz).mono ?_
   rintro e v1 ⟨q1, k1, c1, rfl, hr1, x1⟩
   have e1 : Ext w v1 := xz.trans x1
   have s1 := Hd x1.size
   refine hK.out _ _ (HSX.out _ e1) (fun hHeld1 => ?_)
   clear hK K
   try simp only [tkN]
   refine wpAnyH_ready (rs := [5, 6, 7]) (by kernel_rfl) (by simp) ?_
   refine AllReadyH.cons (i := 5) rfl (fun K hK => ?_) (AllReadyH.cons (i := 6) rfl (fun K hK => ?_) (AllReadyH.cons (i := 7) rfl (fun K hK => ?_) AllReadyH.nil))
   ·go_simp
    go_at_call 110
    refine (HNB.out v1 e1).mono ?_
    rintro e v2 ⟨q2, k2, c2, rfl, hr2, x2⟩
    have e2 : Ext w v2 := e1.trans x2
    have s2 := Hd x2.size
    refine hK.out _ _ (HSX.out _ e2) (fun hHeld2 => ?_)
    clear hK K
    try simp only [tkN]
    refine wpAnyH_ready (rs := [6, 7]) (by kernel_rfl) (by simp) ?_
    refine AllReadyH.cons (i := 6) rfl (fun K hK => ?_) (AllReadyH.cons (i := 7) rfl (fun K hK => ?_) AllReadyH.nil)
    ·go_simp
     obtain ⟨v3, hv⟩ : ∃ W : World, (v2.alloc (.cells #[.int .i8 0, .int .u64 0, .int .i64 0, .int .i64 0, .slice none 0 0] 42)) = W := ⟨_, rfl⟩
     have x3 : Ext v2 v3 := by rw [← hv]; exact Ext.alloc _ _
     have s3 := Hd (show v3.heap.size = v2.heap.size + 1 from by rw [← hv]; exact World.size_alloc _ _)
     have t6_3 : v3.there v2.heap.size 0 5 := thereF (cs := #[.int .i8 0, .int .u64 0, .int .i64 0, .int .i64 0, .slice none 0 0]) (t := 42) (by rw [← hv]; exact Ext.refl _)
     rw [hv]
     have e3 : Ext w v3 := e2.trans x3
     clear hv
     refine hK.out _ _ (HSX.out _ e3) (fun hHeld3 => ?_)
     clear hK K
     try simp only [tkN]
     refine tk1 7 rfl (AllReadyH.cons rfl (fun K hK => ?_) AllReadyH.nil)
     ·go_simp
      obtain ⟨v4, hv⟩ : ∃ W : World, (v3.alloc (.cells #[.int .i8 0, .int .u64 0, .int .i64 0, .int .i64 0, .slice none 0 0] 42)) = W := ⟨_, rfl⟩
      have x4 : Ext v3 v4 := by rw [← hv]; exact Ext.alloc _ _
      have s4 := Hd (show v4.heap.size = v3.heap.size + 1 from by rw [← hv]; exact World.size_alloc _ _)
      have t7_4 : v4.there v3.heap.size 0 5 := thereF (cs := #[.int .i8 0, .int .u64 0, .int .i64 0, .int .i64 0, .slice none 0 0]) (t := 42) (by rw [← hv]; exact Ext.refl _)
      rw [hv]
      have e4 : Ext w v4 := e3.trans x4
      clear hv
      refine hK.out _ _ (HSX.out _ e4) (fun hHeld4 => ?_)
      clear hK K
      try simp only [tkN]
      have gs1 := s1.out
      have gs2 := s2.out
      have gs3 := s3.out
      have gs4 := s4.out
      have T4 := there_ext t6_3 (x4.trans (Ext.refl v4))
      have T5 := there_ext t7_4 (Ext.refl v4)
      have hzz := Hd (show w.heap.size ≤ v2.heap.size ∧ w.heap.size ≤ v3.heap.size from ⟨by have := xz.size; omega, by have := xz.size; omega⟩)
      obtain ⟨f1, f2, f3, f4, f5, f6, f7⟩ := two_stores e4 (z4 := v2.heap.size) (z5 := v3.heap.size) (show w.heap.size ≤ v2.heap.size from by have := xz.size; omega) (show w.heap.size ≤ v3.heap.size from by have := xz.size; omega) (by omega) T4 T5
       ((hr1.mono (C := fun b => w.drew.heap.size ≤ b ∧ b < v1.heap.size) (fun b hlt hb => ⟨hb, hlt⟩)).ext (x2.trans (x3.trans (x4.trans (Ext.refl v4))))) ((hr2.mono (C := fun b => v1.heap.size ≤ b ∧ b < v2.heap.size) (fun b hlt hb => ⟨hb, hlt⟩)).ext (x3.trans (x4.trans (Ext.refl v4)))) (fun b hb => by omega) (fun b hb => by omega)
      have HF1 := Hd (And.intro f1 (And.intro f2 (And.intro f3 (And.intro f4 f6))))
      refine tk1 8 rfl (AllReadyH.cons rfl (fun K hK => ?_) AllReadyH.nil)
      clear gs1 gs2 gs3 gs4
      refine step_store rfl 42 _ _ rfl (v2.heap.size) 0 #[.int .i8 x.f, .int .u64 x.n, .int .i64 x.hi, .int .i64 x.lo, .slice q1 k1 c1] rfl rfl T4 (infoNd _ _ _ _ _) (nd_one _ _ _ _ _ _ _) ?_
      refine hK.out _ _ (HSX.out _ f5) (fun hHeldA => ?_)
      clear hK K
      try simp only [tkN]
      refine tk1 9 rfl (AllReadyH.cons rfl (fun K hK => ?_) AllReadyH.nil)
      refine step_store rfl 42 _ _ rfl (v3.heap.size) 0 #[.int .i8 y.f, .int .u64 y.n, .int .i64 y.hi, .int .i64 y.lo, .slice q2 k2 c2] rfl rfl f7 (infoNd _ _ _ _ _) (nd_one _ _ _ _ _ _ _) ?_
      refine hK.out _ _ (HSX.out _ f6) (fun hHeldB => ?_)
      clear hK K
      try simp only [tkN]
      refine wpAnyH_done (by kernel_rfl) ?_ _
      refine NoPanic.normal ?_
      go_wp2_with fail
      go_meet
      exact ⟨_, _, q1, k1, c1, q2, k2, c2, rfl, rfl, hzz.out, HF1.out.1, HF1.out.2.1, HF1.out.2.2.1, HF1.out.2.2.2.1, HF1.out.2.2.2.2⟩
    ·go_simp
     obtain ⟨v5, hv⟩ : ∃ W : World, (v2.alloc (.cells #[.int .i8 0, .int .u64 0, .int .i64 0, .int .i64 0, .slice none 0 0] 42)) = W := ⟨_, rfl⟩
     have x5 : Ext v2 v5 := by rw [← hv]; exact Ext.alloc _ _
     have s5 := Hd (show v5.heap.size = v2.heap.size + 1 from by rw [← hv]; exact World.size_alloc _ _)
     have t7_5 : v5.there v2.heap.size 0 5 := thereF (cs := #[.int .i8 0, .int .u64 0, .int .i64 0, .int .i64 0, .slice none 0 0]) (t := 42) (by rw [← hv]; exact Ext.refl _)
     rw [hv]
     have e5 : Ext w v5 := e2.trans x5
     clear hv
     refine hK.out _ _ (HSX.out _ e5) (fun hHeld5 => ?_)
     clear hK K
     try simp only [tkN]
     refine tk1 6 rfl (AllReadyH.cons rfl (fun K hK => ?_) AllReadyH.nil)
     ·go_simp
      obtain ⟨v6, hv⟩ : ∃ W : World, (v5.alloc (.cells #[.int .i8 0, .int .u64 0, .int .i64 0, .int .i64 0, .slice none 0 0] 42)) = W := ⟨_, rfl⟩
      have x6 : Ext v5 v6 := by rw [← hv]; exact Ext.alloc _ _
      have s6 := Hd (show v6.heap.size = v5.heap.size + 1 from by rw [← hv]; exact World.size_alloc _ _)
      have t6_6 : v6.there v5.heap.size 0 5 := thereF (cs := #[.int .i8 0, .int .u64 0, .int .i64 0, .int .i64 0, .slice none 0 0]) (t := 42) (by rw [← hv]; exact Ext.refl _)
      rw [hv]
      have e6 : Ext w v6 := e5.trans x6
      clear hv
      refine hK.out _ _ (HSX.out _ e6) (fun hHeld6 => ?_)
      clear hK K
      try simp only [tkN]
      have gs1 := s1.out
      have gs2 := s2.out
      have gs5 := s5.out
      have gs6 := s6.out
      have T4 := there_ext t6_6 (Ext.refl v6)
      have T5 := there_ext t7_5 (x6.trans (Ext.refl v6))
      have hzz := Hd (show w.heap.size ≤ v5.heap.size ∧ w.heap.size ≤ v2.heap.size from ⟨by have := xz.size; omega, by have := xz.size; omega⟩)
      obtain ⟨f1, f2, f3, f4, f5, f6, f7⟩ := two_stores e6 (z4 := v5.heap.size) (z5 := v2.heap.size) (show w.heap.size ≤ v5.heap.size from by have := xz.size; omega) (show w.heap.size ≤ v2.heap.size from by have := xz.size; omega) (by omega) T4 T5
       ((hr1.mono (C := fun b => w.drew.heap.size ≤ b ∧ b < v1.heap.size) (fun b hlt hb => ⟨hb, hlt⟩)).ext (x2.trans (x5.trans (x6.trans (Ext.refl v6))))) ((hr2.mono (C := fun b => v1.heap.size ≤ b ∧ b < v2.heap.size) (fun b hlt hb => ⟨hb, hlt⟩)).ext (x5.trans (x6.trans (Ext.refl v6)))) (fun b hb => by omega) (fun b hb => by omega)
      have HF1 := Hd (And.intro f1 (And.intro f2 (And.intro f3 (And.intro f4 f6))))
      refine tk1 8 rfl (AllReadyH.cons rfl (fun K hK => ?_) AllReadyH.nil)
      clear gs1 gs2 gs5 gs6
      refine step_store rfl 42 _ _ rfl (v5.heap.size) 0 #[.int .i8 x.f, .int .u64 x.n, .int .i64 x.hi, .int .i64 x.lo, .slice q1 k1 c1] rfl rfl T4 (infoNd _ _ _ _ _) (nd_one _ _ _ _ _ _ _) ?_
      refine hK.out _ _ (HSX.out _ f5) (fun hHeldA => ?_)
      clear hK K
      try simp only [tkN]
      refine tk1 9 rfl (AllReadyH.cons rfl (fun K hK => ?_) AllReadyH.nil)
      refine step_store rfl 42 _ _ rfl (v2.heap.size) 0 #[.int .i8 y.f, .int .u64 y.n, .int .i64 y.hi, .int .i64 y.lo, .slice q2 k2 c2] rfl rfl f7 (infoNd _ _ _ _ _) (nd_one _ _ _ _ _ _ _) ?_
      refine hK.out _ _ (HSX.out _ f6) (fun hHeldB => ?_)
      clear hK K
      try simp only [tkN]
      refine wpAnyH_done (by kernel_rfl) ?_ _
      refine NoPanic.normal ?_
      go_wp2_with fail
      go_meet
      exact ⟨_, _, q1, k1, c1, q2, k2, c2, rfl, rfl, hzz.out, HF1.out.1, HF1.out.2.1, HF1.out.2.2.1, HF1.out.2.2.2.1, HF1.out.2.2.2.2⟩
   ·go_simp
    obtain ⟨v7, hv⟩ : ∃ W : World, (v1.alloc (.cells #[.int .i8 0, .int .u64 0, .int .i64 0, .int .i64 0, .slice none 0 0] 42)) = W := ⟨_, rfl⟩
    have x7 : Ext v1 v7 := by rw [← hv]; exact Ext.alloc _ _
    have s7 := Hd (show v7.heap.size = v1.heap.size + 1 from by rw [← hv]; exact World.size_alloc _ _)
    have t6_7 : v7.there v1.heap.size 0 5 := thereF (cs := #[.int .i8 0, .int .u64 0, .int .i64 0, .int .i64 0, .slice none 0 0]) (t := 42) (by rw [← hv]; exact Ext.refl _)
    rw [hv]
    have e7 : Ext w v7 := e1.trans x7
    clear hv
    refine hK.out _ _ (HSX.out _ e7) (fun hHeld7 => ?_)
    clear hK K
    try simp only [tkN]
    refine wpAnyH_ready (rs := [5, 7]) (by kernel_rfl) (by simp) ?_
    refine AllReadyH.cons (i := 5) rfl (fun K hK => ?_) (AllReadyH.cons (i := 7) rfl (fun K hK => ?_) AllReadyH.nil)
    ·go_simp
     go_at_call 110
     refine (HNB.out v7 e7).mono ?_
     rintro e v8 ⟨q2, k2, c2, rfl, hr2, x8⟩
     have e8 : Ext w v8 := e7.trans x8
     have s8 := Hd x8.size
     refine hK.out _ _ (HSX.out _ e8) (fun hHeld8 => ?_)
     clear hK K
     try simp only [tkN]
     refine tk1 7 rfl (AllReadyH.cons rfl (fun K hK => ?_) AllReadyH.nil)
     ·go_simp
      obtain ⟨v9, hv⟩ : ∃ W : World, (v8.alloc (.cells #[.int .i8 0, .int .u64 0, .int .i64 0, .int .i64 0, .slice none 0 0] 42)) = W := ⟨_, rfl⟩
      have x9 : Ext v8 v9 := by rw [← hv]; exact Ext.alloc _ _
      have s9 := Hd (show v9.heap.size = v8.heap.size + 1 from by rw [← hv]; exact World.size_alloc _ _)
      have t7_9 : v9.there v8.heap.size 0 5 := thereF (cs := #[.int .i8 0, .int .u64 0, .int .i64 0, .int .i64 0, .slice none 0 0]) (t := 42) (by rw [← hv]; exact Ext.refl _)
      rw [hv]
      have e9 : Ext w v9 := e8.trans x9
      clear hv
      refine hK.out _ _ (HSX.out _ e9) (fun hHeld9 => ?_)
      clear hK K
      try simp only [tkN]
      have gs1 := s1.out
      have gs7 := s7.out
      have gs8 := s8.out
      have gs9 := s9.out
      have T4 := there_ext t6_7 (x8.trans (x9.trans (Ext.refl v9)))
      have T5 := there_ext t7_9 (Ext.refl v9)
      have hzz := Hd (show w.heap.size ≤ v1.heap.size ∧ w.heap.size ≤ v8.heap.size from ⟨by have := xz.size; omega, by have := xz.size; omega⟩)
      obtain ⟨f1, f2, f3, f4, f5, f6, f7⟩ := two_stores e9 (z4 := v1.heap.size) (z5 := v8.heap.size) (show w.heap.size ≤ v1.heap.size from by have := xz.size; omega) (show w.heap.size ≤ v8.heap.size from by have := xz.size; omega) (by omega) T4 T5
       ((hr1.mono (C := fun b => w.drew.heap.size ≤ b ∧ b < v1.heap.size) (fun b hlt hb => ⟨hb, hlt⟩)).ext (x7.trans (x8.trans (x9.trans (Ext.refl v9))))) ((hr2.mono (C := fun b => v7.heap.size ≤ b ∧ b < v8.heap.size) (fun b hlt hb => ⟨hb, hlt⟩)).ext (x9.trans (Ext.refl v9))) (fun b hb => by omega) (fun b hb => by omega)
      have HF1 := Hd (And.intro f1 (And.intro f2 (And.intro f3 (And.intro f4 f6))))
      refine tk1 8 rfl (AllReadyH.cons rfl (fun K hK => ?_) AllReadyH.nil)
      clear gs1 gs7 gs8 gs9
      refine step_store rfl 42 _ _ rfl (v1.heap.size) 0 #[.int .i8 x.f, .int .u64 x.n, .int .i64 x.hi, .int .i64 x.lo, .slice q1 k1 c1] rfl rfl T4 (infoNd _ _ _ _ _) (nd_one _ _ _ _ _ _ _) ?_
      refine hK.out _ _ (HSX.out _ f5) (fun hHeldA => ?_)
      clear hK K
      try simp only [tkN]
      refine tk1 9 rfl (AllReadyH.cons rfl (fun K hK => ?_) AllReadyH.nil)
      refine step_store rfl 42 _ _ rfl (v8.heap.size) 0 #[.int .i8 y.f, .int .u64 y.n, .int .i64 y.hi, .int .i64 y.lo, .slice q2 k2 c2] rfl rfl f7 (infoNd _ _ _ _ _) (nd_one _ _ _ _ _ _ _) ?_
      refine hK.out _ _ (HSX.out _ f6) (fun hHeldB => ?_)
      clear hK K
      try simp only [tkN]
      refine wpAnyH_done (by kernel_rfl) ?_ _
      refine NoPanic.normal ?_
      go_wp2_with fail
      go_meet
      exact ⟨_, _, q1, k1, c1, q2, k2, c2, rfl, rfl, hzz.out, HF1.out.1, HF1.out.2.1, HF1.out.2.2.1, HF1.out.2.2.2.1, HF1.out.2.2.2.2⟩
    ·go_simp
     obtain ⟨v10, hv⟩ : ∃ W : World, (v7.alloc (.cells #[.int .i8 0, .int .u64 0, .int .i64 0, .int .i64 0, .slice none 0 0] 42)) = W := ⟨_, rfl⟩
     have x10 : Ext v7 v10 := by rw [← hv]; exact Ext.alloc _ _
     have s10 := Hd (show v10.heap.size = v7.heap.size + 1 from by rw [← hv]; exact World.size_alloc _ _)
     have t7_10 : v10.there v7.heap.size 0 5 := thereF (cs := #[.int .i8 0, .int .u64 0, .int .i64 0, .int .i64 0, .slice none 0 0]) (t := 42) (by rw [← hv]; exact Ext.refl _)
     rw [hv]
     have e10 : Ext w v10 := e7.trans x10
     clear hv
     refine hK.out _ _ (HSX.out _ e10) (fun hHeld10 => ?_)
     clear hK K
     try simp only [tkN]
     refine tk1 5 rfl (AllReadyH.cons rfl (fun K hK => ?_) AllReadyH.nil)
     ·go_simp
      go_at_call 110
      refine (HNB.out v10 e10).mono ?_
      rintro e v11 ⟨q2, k2, c2, rfl, hr2, x11⟩
      have e11 : Ext w v11 := e10.trans x11
      have s11 := Hd x11.size
      refine hK.out _ _ (HSX.out _ e11) (fun hHeld11 => ?_)
      clear hK K
      try simp only [tkN]
      have gs1 := s1.out
      have gs7 := s7.out
      have gs10 := s10.out
      have gs11 := s11.out
      have T4 := there_ext t6_7 (x10.trans (x11.trans (Ext.refl v11)))
      have T5 := there_ext t7_10 (x11.trans (Ext.refl v11))
      have hzz := Hd (show w.heap.size ≤ v1.heap.size ∧ w.heap.size ≤ v7.heap.size from ⟨by have := xz.size; omega, by have := xz.size; omega⟩)
      obtain ⟨f1, f2, f3, f4, f5, f6, f7⟩ := two_stores e11 (z4 := v1.heap.size) (z5 := v7.heap.size) (show w.heap.size ≤ v1.heap.size from by have := xz.size; omega) (show w.heap.size ≤ v7.heap.size from by have := xz.size; omega) (by omega) T4 T5
       ((hr1.mono (C := fun b => w.drew.heap.size ≤ b ∧ b < v1.heap.size) (fun b hlt hb => ⟨hb, hlt⟩)).ext (x7.trans (x10.trans (x11.trans (Ext.refl v11))))) ((hr2.mono (C := fun b => v10.heap.size ≤ b ∧ b < v11.heap.size) (fun b hlt hb => ⟨hb, hlt⟩)).ext (Ext.refl v11)) (fun b hb => by omega) (fun b hb => by omega)
      have HF1 := Hd (And.intro f1 (And.intro f2 (And.intro f3 (And.intro f4 f6))))
      refine tk1 8 rfl (AllReadyH.cons rfl (fun K hK => ?_) AllReadyH.nil)
      clear gs1 gs7 gs10 gs11
      refine step_store rfl 42 _ _ rfl (v1.heap.size) 0 #[.int .i8 x.f, .int .u64 x.n, .int .i64 x.hi, .int .i64 x.lo, .slice q1 k1 c1] rfl rfl T4 (infoNd _ _ _ _ _) (nd_one _ _ _ _ _ _ _) ?_
      refine hK.out _ _ (HSX.out _ f5) (fun hHeldA => ?_)
      clear hK K
      try simp only [tkN]
      refine tk1 9 rfl (AllReadyH.cons rfl (fun K hK => ?_) AllReadyH.nil)
      refine step_store rfl 42 _ _ rfl (v7.heap.size) 0 #[.int .i8 y.f, .int .u64 y.n, .int .i64 y.hi, .int .i64 y.lo, .slice q2 k2 c2] rfl rfl f7 (infoNd _ _ _ _ _) (nd_one _ _ _ _ _ _ _) ?_
      refine hK.out _ _ (HSX.out _ f6) (fun hHeldB => ?_)
      clear hK K
      try simp only [tkN]
      refine wpAnyH_done (by kernel_rfl) ?_ _
      refine NoPanic.normal ?_
      go_wp2_with fail
      go_meet
      exact ⟨_, _, q1, k1, c1, q2, k2, c2, rfl, rfl, hzz.out, HF1.out.1, HF1.out.2.1, HF1.out.2.2.1, HF1.out.2.2.2.1, HF1.out.2.2.2.2⟩
   ·go_simp
    obtain ⟨v12, hv⟩ : ∃ W : World, (v1.alloc (.cells #[.int .i8 0, .int .u64 0, .int .i64 0, .int .i64 0, .slice none 0 0] 42)) = W := ⟨_, rfl⟩
    have x12 : Ext v1 v12 := by rw [← hv]; exact Ext.alloc _ _
    have s12 := Hd (show v12.heap.size = v1.heap.size + 1 from by rw [← hv]; exact World.size_alloc _ _)
    have t7_12 : v12.there v1.heap.size 0 5 := thereF (cs := #[.int .i8 0, .int .u64 0, .int .i64 0, .int .i64 0, .slice none 0 0]) (t := 42) (by rw [← hv]; exact Ext.refl _)
    rw [hv]
    have e12 : Ext w v12 := e1.trans x12
    clear hv
    refine hK.out _ _ (HSX.out _ e12) (fun hHeld12 => ?_)
    clear hK K
    try simp only [tkN]
    refine wpAnyH_ready (rs := [5, 6]) (by kernel_rfl) (by simp) ?_
    refine AllReadyH.cons (i := 5) rfl (fun K hK => ?_) (AllReadyH.cons (i := 6) rfl (fun K hK => ?_) AllReadyH.nil)
    ·go_simp
     go_at_call 110
     refine (HNB.out v12 e12).mono ?_
     rintro e v13 ⟨q2, k2, c2, rfl, hr2, x13⟩
     have e13 : Ext w v13 := e12.trans x13
     have s13 := Hd x13.size
     refine hK.out _ _ (HSX.out _ e13) (fun hHeld13 => ?_)
     clear hK K
     try simp only [tkN]
     refine tk1 6 rfl (AllReadyH.cons rfl (fun K hK => ?_) AllReadyH.nil)
     ·go_simp
      obtain ⟨v14, hv⟩ : ∃ W : World, (v13.alloc (.cells #[.int .i8 0, .int .u64 0, .int .i64 0, .int .i64 0, .slice none 0 0] 42)) = W := ⟨_, rfl⟩
      have x14 : Ext v13 v14 := by rw [← hv]; exact Ext.alloc _ _
      have s14 := Hd (show v14.heap.size = v13.heap.size + 1 from by rw [← hv]; exact World.size_alloc _ _)
      have t6_14 : v14.there v13.heap.size 0 5 := thereF (cs := #[.int .i8 0, .int .u64 0, .int .i64 0, .int .i64 0, .slice none 0 0]) (t := 42) (by rw [← hv]; exact Ext.refl _)
      rw [hv]
      have e14 : Ext w v14 := e13.trans x14
      clear hv
      refine hK.out _ _ (HSX.out _ e14) (fun hHeld14 => ?_)
      clear hK K
      try simp only [tkN]
      have gs1 := s1.out
      have gs12 := s12.out
      have gs13 := s13.out
      have gs14 := s14.out
      have T4 := there_ext t6_14 (Ext.refl v14)
      have T5 := there_ext t7_12 (x13.trans (x14.trans (Ext.refl v14)))
      have hzz := Hd (show w.heap.size ≤ v13.heap.size ∧ w.heap.size ≤ v1.heap.size from ⟨by have := xz.size; omega, by have := xz.size; omega⟩)
      obtain ⟨f1, f2, f3, f4, f5, f6, f7⟩ := two_stores e14 (z4 := v13.heap.size) (z5 := v1.heap.size) (show w.heap.size ≤ v13.heap.size from by have := xz.size; omega) (show w.heap.size ≤ v1.heap.size from by have := xz.size; omega) (by omega) T4 T5
       ((hr1.mono (C := fun b => w.drew.heap.size ≤ b ∧ b < v1.heap.size) (fun b hlt hb => ⟨hb, hlt⟩)).ext (x12.trans (x13.trans (x14.trans (Ext.refl v14))))) ((hr2.mono (C := fun b => v12.heap.size ≤ b ∧ b < v13.heap.size) (fun b hlt hb => ⟨hb, hlt⟩)).ext (x14.trans (Ext.refl v14))) (fun b hb => by omega) (fun b hb => by omega)
      have HF1 := Hd (And.intro f1 (And.intro f2 (And.intro f3 (And.intro f4 f6))))
      refine tk1 8 rfl (AllReadyH.cons rfl (fun K hK => ?_) AllReadyH.nil)
      clear gs1 gs12 gs13 gs14
      refine step_store rfl 42 _ _ rfl (v13.heap.size) 0 #[.int .i8 x.f, .int .u64 x.n, .int .i64 x.hi, .int .i64 x.lo, .slice q1 k1 c1] rfl rfl T4 (infoNd _ _ _ _ _) (nd_one _ _ _ _ _ _ _) ?_
      refine hK.out _ _ (HSX.out _ f5) (fun hHeldA => ?_)
      clear hK K
      try simp only [tkN]
      refine tk1 9 rfl (AllReadyH.cons rfl (fun K hK => ?_) AllReadyH.nil)
      refine step_store rfl 42 _ _ rfl (v1.heap.size) 0 #[.int .i8 y.f, .int .u64 y.n, .int .i64 y.hi, .int .i64 y.lo, .slice q2 k2 c2] rfl rfl f7 (infoNd _ _ _ _ _) (nd_one _ _ _ _ _ _ _) ?_
      refine hK.out _ _ (HSX.out _ f6) (fun hHeldB => ?_)
      clear hK K
      try simp only [tkN]
      refine wpAnyH_done (by kernel_rfl) ?_ _
      refine NoPanic.normal ?_
      go_wp2_with fail
      go_meet
      exact ⟨_, _, q1, k1, c1, q2, k2, c2, rfl, rfl, hzz.out, HF1.out.1, HF1.out.2.1, HF1.out.2.2.1, HF1.out.2.2.2.1, HF1.out.2.2.2.2⟩
    ·go_simp
     obtain ⟨v15, hv⟩ : ∃ W : World, (v12.alloc (.cells #[.int .i8 0, .int .u64 0, .int .i64 0, .int .i64 0, .slice none 0 0] 42)) = W := ⟨_, rfl⟩
     have x15 : Ext v12 v15 := by rw [← hv]; exact Ext.alloc _ _
     have s15 := Hd (show v15.heap.size = v12.heap.size + 1 from by rw [← hv]; exact World.size_alloc _ _)
     have t6_15 : v15.there v12.heap.size 0 5 := thereF (cs := #[.int .i8 0, .int .u64 0, .int .i64 0, .int .i64 0, .slice none 0 0]) (t := 42) (by rw [← hv]; exact Ext.refl _)
     rw [hv]
     have e15 : Ext w v15 := e12.trans x15
     clear hv
     refine hK.out _ _ (HSX.out _ e15) (fun hHeld15 => ?_)
     clear hK K
     try simp only [tkN]
     refine tk1 5 rfl (AllReadyH.cons rfl (fun K hK => ?_) AllReadyH.nil)
     ·go_simp
      go_at_call 110
      refine (HNB.out v15 e15).mono ?_
      rintro e v16 ⟨q2, k2, c2, rfl, hr2, x16⟩
      have e16 : Ext w v16 := e15.trans x16
      have s16 := Hd x16.size
      refine hK.out _ _ (HSX.out _ e16) (fun hHeld16 => ?_)
      clear hK K
      try simp only [tkN]
      have gs1 := s1.out
      have gs12 := s12.out
      have gs15 := s15.out
      have gs16 := s16.out
      have T4 := there_ext t6_15 (x16.trans (Ext.refl v16))
      have T5 := there_ext t7_12 (x15.trans (x16.trans (Ext.refl v16)))
      have hzz := Hd (show w.heap.size ≤ v12.heap.size ∧ w.heap.size ≤ v1.heap.size from ⟨by have := xz.size; omega, by have := xz.size; omega⟩)
      obtain ⟨f1, f2, f3, f4, f5, f6, f7⟩ := two_stores e16 (z4 := v12.heap.size) (z5 := v1.heap.size) (show w.heap.size ≤ v12.heap.size from by have := xz.size; omega) (show w.heap.size ≤ v1.heap.size from by have := xz.size; omega) (by omega) T4 T5
       ((hr1.mono (C := fun b => w.drew.heap.size ≤ b ∧ b < v1.heap.size) (fun b hlt hb => ⟨hb, hlt⟩)).ext (x12.trans (x15.trans (x16.trans (Ext.refl v16))))) ((hr2.mono (C := fun b => v15.heap.size ≤ b ∧ b < v16.heap.size) (fun b hlt hb => ⟨hb, hlt⟩)).ext (Ext.refl v16)) (fun b hb => by omega) (fun b hb => by omega)
      have HF1 := Hd (And.intro f1 (And.intro f2 (And.intro f3 (And.intro f4 f6))))
      refine tk1 8 rfl (AllReadyH.cons rfl (fun K hK => ?_) AllReadyH.nil)
      clear gs1 gs12 gs15 gs16
      refine step_store rfl 42 _ _ rfl (v12.heap.size) 0 #[.int .i8 x.f, .int .u64 x.n, .int .i64 x.hi, .int .i64 x.lo, .slice q1 k1 c1] rfl rfl T4 (infoNd _ _ _ _ _) (nd_one _ _ _ _ _ _ _) ?_
      refine hK.out _ _ (HSX.out _ f5) (fun hHeldA => ?_)
      clear hK K
      try simp only [tkN]
      refine tk1 9 rfl (AllReadyH.cons rfl (fun K hK => ?_) AllReadyH.nil)
      refine step_store rfl 42 _ _ rfl (v1.heap.size) 0 #[.int .i8 y.f, .int .u64 y.n, .int .i64 y.hi, .int .i64 y.lo, .slice q2 k2 c2] rfl rfl f7 (infoNd _ _ _ _ _) (nd_one _ _ _ _ _ _ _) ?_
      refine hK.out _ _ (HSX.out _ f6) (fun hHeldB => ?_)
      clear hK K
      try simp only [tkN]
      refine wpAnyH_done (by kernel_rfl) ?_ _
      refine NoPanic.normal ?_
      go_wp2_with fail
      go_meet
      exact ⟨_, _, q1, k1, c1, q2, k2, c2, rfl, rfl, hzz.out, HF1.out.1, HF1.out.2.1, HF1.out.2.2.1, HF1.out.2.2.2.1, HF1.out.2.2.2.2⟩
  ·go_simp
   obtain ⟨v17, hv⟩ : ∃ W : World, (w.alloc (.cells #[.int .i8 0, .int .u64 0, .int .i64 0, .int .i64 0, .slice none 0 0] 42)).drew = W := ⟨_, rfl⟩
   have x17 : Ext w.drew v17 := by rw [← hv]; exact (Ext.alloc w.drew _)
   have s17 := Hd (show v17.heap.size = w.drew.heap.size + 1 from by rw [← hv]; exact World.size_alloc w _)
   have t6_17 : v17.there w.drew.heap.size 0 5 := thereF (cs := #[.int .i8 0, .int .u64 0, .int .i64 0, .int .i64 0, .slice none 0 0]) (t := 42) (by rw [← hv]; exact Ext.refl _)
   rw [hv]
   have e17 : Ext w v17 := xz.trans x17
   clear hv
   refine hK.out _ _ (HSX.out _ e17) (fun hHeld17 => ?_)
   clear hK K
   try simp only [tkN]
   refine wpAnyH_ready (rs := [2, 7]) (by kernel_rfl) (by simp) ?_
   refine AllReadyH.cons (i := 2) rfl (fun K hK => ?_) (AllReadyH.cons (i := 7) rfl (fun K hK => ?_) AllReadyH.nil)
   ·go_simp
    go_at_call 110
    refine (HNA.out v17 e17).mono ?_
    rintro e v18 ⟨q1, k1, c1, rfl, hr1, x18⟩
    have e18 : Ext w v18 := e17.trans x18
    have s18 := Hd x18.size
    refine hK.out _ _ (HSX.out _ e18) (fun hHeld18 => ?_)
    clear hK K
    try simp only [tkN]
    refine wpAnyH_ready (rs := [5, 7]) (by kernel_rfl) (by simp) ?_
    refine AllReadyH.cons (i := 5) rfl (fun K hK => ?_) (AllReadyH.cons (i := 7) rfl (fun K hK => ?_) AllReadyH.nil)
    ·go_simp
     go_at_call 110
     refine (HNB.out v18 e18).mono ?_
     rintro e v19 ⟨q2, k2, c2, rfl, hr2, x19⟩
     have e19 : Ext w v19 := e18.trans x19
     have s19 := Hd x19.size
     refine hK.out _ _ (HSX.out _ e19) (fun hHeld19 => ?_)
     clear hK K
     try simp only [tkN]
     refine tk1 7 rfl (AllReadyH.cons rfl (fun K hK => ?_) AllReadyH.nil)
     ·go_simp
      obtain ⟨v20, hv⟩ : ∃ W : World, (v19.alloc (.cells #[.int .i8 0, .int .u64 0, .int .i64 0, .int .i64 0, .slice none 0 0] 42)) = W := ⟨_, rfl⟩
      have x20 : Ext v19 v20 := by rw [← hv]; exact Ext.alloc _ _
      have s20 := Hd (show v20.heap.size = v19.heap.size + 1 from by rw [← hv]; exact World.size_alloc _ _)
      have t7_20 : v20.there v19.heap.size 0 5 := thereF (cs := #[.int .i8 0, .int .u64 0, .int .i64 0, .int .i64 0, .slice none 0 0]) (t := 42) (by rw [← hv]; exact Ext.refl _)
      rw [hv]
      have e20 : Ext w v20 := e19.trans x20
      clear hv
      refine hK.out _ _ (HSX.out _ e20) (fun hHeld20 => ?_)
      clear hK K
      try simp only [tkN]
      have gs17 := s17.out
      have gs18 := s18.out
      have gs19 := s19.out
      have gs20 := s20.out
      have T4 := there_ext t6_17 (x18.trans (x19.trans (x20.trans (Ext.refl v20))))
      have T5 := there_ext t7_20 (Ext.refl v20)
      have hzz := Hd (show w.heap.size ≤ w.drew.heap.size ∧ w.heap.size ≤ v19.heap.size from ⟨by have := xz.size; omega, by have := xz.size; omega⟩)
      obtain ⟨f1, f2, f3, f4, f5, f6, f7⟩ := two_stores e20 (z4 := w.drew.heap.size) (z5 := v19.heap.size) (show w.heap.size ≤ w.drew.heap.size from by have := xz.size; omega) (show w.heap.size ≤ v19.heap.size from by have := xz.size; omega) (by omega) T4 T5
       ((hr1.mono (C := fun b => v17.heap.size ≤ b ∧ b < v18.heap.size) (fun b hlt hb => ⟨hb, hlt⟩)).ext (x19.trans (x20.trans (Ext.refl v20)))) ((hr2.mono (C := fun b => v18.heap.size ≤ b ∧ b < v19.heap.size) (fun b hlt hb => ⟨hb, hlt⟩)).ext (x20.trans (Ext.refl v20))) (fun b hb => by omega) (fun b hb => by omega)
      have HF1 := Hd (And.intro f1 (And.intro f2 (And.intro f3 (And.intro f4 f6))))
      refine tk1 8 rfl (AllReadyH.cons rfl (fun K hK => ?_) AllReadyH.nil)
      clear gs17 gs18 gs19 gs20
      refine step_store rfl 42 _ _ rfl (w.drew.heap.size) 0 #[.int .i8 x.f, .int .u64 x.n, .int .i64 x.hi, .int .i64 x.lo, .slice q1 k1 c1] rfl rfl T4 (infoNd _ _ _ _ _) (nd_one _ _ _ _ _ _ _) ?_
      refine hK.out _ _ (HSX.out _ f5) (fun hHeldA => ?_)
      clear hK K
      try simp only [tkN]
      refine tk1 9 rfl (AllReadyH.cons rfl (fun K hK => ?_) AllReadyH.nil)
      refine step_store rfl 42 _ _ rfl (v19.heap.size) 0 #[.int .i8 y.f, .int .u64 y.n, .int .i64 y.hi, .int .i64 y.lo, .slice q2 k2 c2] rfl rfl f7 (infoNd _ _ _ _ _) (nd_one _ _ _ _ _ _ _) ?_
      refine hK.out _ _ (HSX.out _ f6) (fun hHeldB => ?_)
      clear hK K
      try simp only [tkN]
      refine wpAnyH_done (by kernel_rfl) ?_ _
      refine NoPanic.normal ?_
      go_wp2_with fail
      go_meet
      exact ⟨_, _, q1, k1, c1, q2, k2, c2, rfl, rfl, hzz.out, HF1.out.1, HF1.out.2.1, HF1.out.2.2.1, HF1.out.2.2.2.1, HF1.out.2.2.2.2⟩
    ·go_simp
     obtain ⟨v21, hv⟩ : ∃ W : World, (v18.alloc (.cells #[.int .i8 0, .int .u64 0, .int .i64 0, .int .i64 0, .slice none 0 0] 42)) = W := ⟨_, rfl⟩
     have x21 : Ext v18 v21 := by rw [← hv]; exact Ext.alloc _ _
     have s21 := Hd (show v21.heap.size = v18.heap.size + 1 from by rw [← hv]; exact World.size_alloc _ _)
     have t7_21 : v21.there v18.heap.size 0 5 := thereF (cs := #[.int .i8 0, .int .u64 0, .int .i64 0, .int .i64 0, .slice none 0 0]) (t := 42) (by rw [← hv]; exact Ext.refl _)
     rw [hv]
     have e21 : Ext w v21 := e18.trans x21
     clear hv
     refine hK.out _ _ (HSX.out _ e21) (fun hHeld21 => ?_)
     clear hK K
     try simp only [tkN]
     refine tk1 5 rfl (AllReadyH.cons rfl (fun K hK => ?_) AllReadyH.nil)
     ·go_simp
      go_at_call 110
      refine (HNB.out v21 e21).mono ?_
      rintro e v22 ⟨q2, k2, c2, rfl, hr2, x22⟩
      have e22 : Ext w v22 := e21.trans x22
      have s22 := Hd x22.size
      refine hK.out _ _ (HSX.out _ e22) (fun hHeld22 => ?_)
      clear hK K
      try simp only [tkN]
      have gs17 := s17.out
      have gs18 := s18.out
      have gs21 := s21.out
      have gs22 := s22.out
      have T4 := there_ext t6_17 (x18.trans (x21.trans (x22.trans (Ext.refl v22))))
      have T5 := there_ext t7_21 (x22.trans (Ext.refl v22))
      have hzz := Hd (show w.heap.size ≤ w.drew.heap.size ∧ w.heap.size ≤ v18.heap.size from ⟨by have := xz.size; omega, by have := xz.size; omega⟩)
      obtain ⟨f1, f2, f3, f4, f5, f6, f7⟩ := two_stores e22 (z4 := w.drew.heap.size) (z5 := v18.heap.size) (show w.heap.size ≤ w.drew.heap.size from by have := xz.size; omega) (show w.heap.size ≤ v18.heap.size from by have := xz.size; omega) (by omega) T4 T5
       ((hr1.mono (C := fun b => v17.heap.size ≤ b ∧ b < v18.heap.size) (fun b hlt hb => ⟨hb, hlt⟩)).ext (x21.trans (x22.trans (Ext.refl v22)))) ((hr2.mono (C := fun b => v21.heap.size ≤ b ∧ b < v22.heap.size) (fun b hlt hb => ⟨hb, hlt⟩)).ext (Ext.refl v22)) (fun b hb => by omega) (fun b hb => by omega)
      have HF1 := Hd (And.intro f1 (And.intro f2 (And.intro f3 (And.intro f4 f6))))
      refine tk1 8 rfl (AllReadyH.cons rfl (fun K hK => ?_) AllReadyH.nil)
      clear gs17 gs18 gs21 gs22
      refine step_store rfl 42 _ _ rfl (w.drew.heap.size) 0 #[.int .i8 x.f, .int .u64 x.n, .int .i64 x.hi, .int .i64 x.lo, .slice q1 k1 c1] rfl rfl T4 (infoNd _ _ _ _ _) (nd_one _ _ _ _ _ _ _) ?_
      refine hK.out _ _ (HSX.out _ f5) (fun hHeldA => ?_)
      clear hK K
      try simp only [tkN]
      refine tk1 9 rfl (AllReadyH.cons rfl (fun K hK => ?_) AllReadyH.nil)
      refine step_store rfl 42 _ _ rfl (v18.heap.size) 0 #[.int .i8 y.f, .int .u64 y.n, .int .i64 y.hi, .int .i64 y.lo, .slice q2 k2 c2] rfl rfl f7 (infoNd _ _ _ _ _) (nd_one _ _ _ _ _ _ _) ?_
      refine hK.out _ _ (HSX.out _ f6) (fun hHeldB => ?_)
      clear hK K
      try simp only [tkN]
      refine wpAnyH_done (by kernel_rfl) ?_ _
      refine NoPanic.normal ?_
      go_wp2_with fail
      go_meet
      exact ⟨_, _, q1, k1, c1, q2, k2, c2, rfl, rfl, hzz.out, HF1.out.1, HF1.out.2.1, HF1.out.2.2.1, HF1.out.2.2.2.1, HF1.out.2.2.2.2⟩
   ·go_simp
    obtain ⟨v23, hv⟩ : ∃ W : World, (v17.alloc (.cells #[.int .i8 0, .int .u64 0, .int .i64 0, .int .i64 0, .slice none 0 0] 42)) = W := ⟨_, rfl⟩
    have x23 : Ext v17 v23 := by rw [← hv]; exact Ext.alloc _ _
    have s23 := Hd (show v23.heap.size = v17.heap.size + 1 from by rw [← hv]; exact World.size_alloc _ _)
    have t7_23 : v23.there v17.heap.size 0 5 := thereF (cs := #[.int .i8 0, .int .u64 0, .int .i64 0, .int .i64 0, .slice none 0 0]) (t := 42) (by rw [← hv]; exact Ext.refl _)
    rw [hv]
    have e23 : Ext w v23 := e17.trans x23
    clear hv
    refine hK.out _ _ (HSX.out _ e23) (fun hHeld23 => ?_)
    clear hK K
    try simp only [tkN]
    refine tk1 2 rfl (AllReadyH.cons rfl (fun K hK => ?_) AllReadyH.nil)
    ·go_simp
     go_at_call 110
     refine (HNA.out v23 e23).mono ?_
     rintro e v24 ⟨q1, k1, c1, rfl, hr1, x24⟩
     have e24 : Ext w v24 := e23.trans x24
     have s24 := Hd x24.size
     refine hK.out _ _ (HSX.out _ e24) (fun hHeld24 => ?_)
     clear hK K
     try simp only [tkN]
     refine tk1 5 rfl (AllReadyH.cons rfl (fun K hK => ?_) AllReadyH.nil)
     ·go_simp
      go_at_call 110
      refine (HNB.out v24 e24).mono ?_
      rintro e v25 ⟨q2, k2, c2, rfl, hr2, x25⟩
      have e25 : Ext w v25 := e24.trans x25
      have s25 := Hd x25.size
      refine hK.out _ _ (HSX.out _ e25) (fun hHeld25 => ?_)
      clear hK K
      try simp only [tkN]
      have gs17 := s17.out
      have gs23 := s23.out
      have gs24 := s24.out
      have gs25 := s25.out
      have T4 := there_ext t6_17 (x23.trans (x24.trans (x25.trans (Ext.refl v25))))
      have T5 := there_ext t7_23 (x24.trans (x25.trans (Ext.refl v25)))
      have hzz := Hd (show w.heap.size ≤ w.drew.heap.size ∧ w.heap.size ≤ v17.heap.size from ⟨by have := xz.size; omega, by have := xz.size; omega⟩)
      obtain ⟨f1, f2, f3, f4, f5, f6, f7⟩ := two_stores e25 (z4 := w.drew.heap.size) (z5 := v17.heap.size) (show w.heap.size ≤ w.drew.heap.size from by have := xz.size; omega) (show w.heap.size ≤ v17.heap.size from by have := xz.size; omega) (by omega) T4 T5
       ((hr1.mono (C := fun b => v23.heap.size ≤ b ∧ b < v24.heap.size) (fun b hlt hb => ⟨hb, hlt⟩)).ext (x25.trans (Ext.refl v25))) ((hr2.mono (C := fun b => v24.heap.size ≤ b ∧ b < v25.heap.size) (fun b hlt hb => ⟨hb, hlt⟩)).ext (Ext.refl v25)) (fun b hb => by omega) (fun b hb => by omega)
      have HF1 := Hd (And.intro f1 (And.intro f2 (And.intro f3 (And.intro f4 f6))))
      refine tk1 8 rfl (AllReadyH.cons rfl (fun K hK => ?_) AllReadyH.nil)
      clear gs17 gs23 gs24 gs25
      refine step_store rfl 42 _ _ rfl (w.drew.heap.size) 0 #[.int .i8 x.f, .int .u64 x.n, .int .i64 x.hi, .int .i64 x.lo, .slice q1 k1 c1] rfl rfl T4 (infoNd _ _ _ _ _) (nd_one _ _ _ _ _ _ _) ?_
      refine hK.out _ _ (HSX.out _ f5) (fun hHeldA => ?_)
      clear hK K
      try simp only [tkN]
      refine tk1 9 rfl (AllReadyH.cons rfl (fun K hK => ?_) AllReadyH.nil)
      refine step_store rfl 42 _ _ rfl (v17.heap.size) 0 #[.int .i8 y.f, .int .u64 y.n, .int .i64 y.hi, .int .i64 y.lo, .slice q2 k2 c2] rfl rfl f7 (infoNd _ _ _ _ _) (nd_one _ _ _ _ _ _ _) ?_
      refine hK.out _ _ (HSX.out _ f6) (fun hHeldB => ?_)
      clear hK K
      try simp only [tkN]
      refine wpAnyH_done (by kernel_rfl) ?_ _
      refine NoPanic.normal ?_
      go_wp2_with fail
      go_meet
      exact ⟨_, _, q1, k1, c1, q2, k2, c2, rfl, rfl, hzz.out, HF1.out.1, HF1.out.2.1, HF1.out.2.2.1, HF1.out.2.2.2.1, HF1.out.2.2.2.2⟩
  ·go_simp
   obtain ⟨v26, hv⟩ : ∃ W : World, (w.alloc (.cells #[.int .i8 0, .int .u64 0, .int .i64 0, .int .i64 0, .slice none 0 0] 42)).drew = W := ⟨_, rfl⟩
   have x26 : Ext w.drew v26 := by rw [← hv]; exact (Ext.alloc w.drew _)
   have s26 := Hd (show v26.heap.size = w.drew.heap.size + 1 from by rw [← hv]; exact World.size_alloc w _)
   have t7_26 : v26.there w.drew.heap.size 0 5 := thereF (cs := #[.int .i8 0, .int .u64 0, .int .i64 0, .int .i64 0, .slice none 0 0]) (t := 42) (by rw [← hv]; exact Ext.refl _)
   rw [hv]
   have e26 : Ext w v26 := xz.trans x26
   clear hv
   refine hK.out _ _ (HSX.out _ e26) (fun hHeld26 => ?_)
   clear hK K
   try simp only [tkN]
   refine wpAnyH_ready (rs := [2, 6]) (by kernel_rfl) (by simp) ?_
   refine AllReadyH.cons (i := 2) rfl (fun K hK => ?_) (AllReadyH.cons (i := 6) rfl (fun K hK => ?_) AllReadyH.nil)
   ·go_simp
    go_at_call 110
    refine (HNA.out v26 e26).mono ?_
    rintro e v27 ⟨q1, k1, c1, rfl, hr1, x27⟩
    have e27 : Ext w v27 := e26.trans x27
    have s27 := Hd x27.size
    refine hK.out _ _ (HSX.out _ e27) (fun hHeld27 => ?_)
    clear hK K
    try simp only [tkN]
    refine wpAnyH_ready (rs := [5, 6]) (by kernel_rfl) (by simp) ?_
    refine AllReadyH.cons (i := 5) rfl (fun K hK => ?_) (AllReadyH.cons (i := 6) rfl (fun K hK => ?_) AllReadyH.nil)
    ·go_simp
     go_at_call 110
     refine (HNB.out v27 e27).mono ?_
     rintro e v28 ⟨q2, k2, c2, rfl, hr2, x28⟩
     have e28 : Ext w v28 := e27.trans x28
     have s28 := Hd x28.size
     refine hK.out _ _ (HSX.out _ e28) (fun hHeld28 => ?_)
     clear hK K
     try simp only [tkN]
     refine tk1 6 rfl (AllReadyH.cons rfl (fun K hK => ?_) AllReadyH.nil)
     ·go_simp
      obtain ⟨v29, hv⟩ : ∃ W : World, (v28.alloc (.cells #[.int .i8 0, .int .u64 0, .int .i64 0, .int .i64 0, .slice none 0 0] 42)) = W := ⟨_, rfl⟩
      have x29 : Ext v28 v29 := by rw [← hv]; exact Ext.alloc _ _
      have s29 := Hd (show v29.heap.size = v28.heap.size + 1 from by rw [← hv]; exact World.size_alloc _ _)
      have t6_29 : v29.there v28.heap.size 0 5 := thereF (cs := #[.int .i8 0, .int .u64 0, .int .i64 0, .int .i64 0, .slice none 0 0]) (t := 42) (by rw [← hv]; exact Ext.refl _)
      rw [hv]
      have e29 : Ext w v29 := e28.trans x29
      clear hv
      refine hK.out _ _ (HSX.out _ e29) (fun hHeld29 => ?_)
      clear hK K
      try simp only [tkN]
      have gs26 := s26.out
      have gs27 := s27.out
      have gs28 := s28.out
      have gs29 := s29.out
      have T4 := there_ext t6_29 (Ext.refl v29)
      have T5 := there_ext t7_26 (x27.trans (x28.trans (x29.trans (Ext.refl v29))))
      have hzz := Hd (show w.heap.size ≤ v28.heap.size ∧ w.heap.size ≤ w.drew.heap.size from ⟨by have := xz.size; omega, by have := xz.size; omega⟩)
      obtain ⟨f1, f2, f3, f4, f5, f6, f7⟩ := two_stores e29 (z4 := v28.heap.size) (z5 := w.drew.heap.size) (show w.heap.size ≤ v28.heap.size from by have := xz.size; omega) (show w.heap.size ≤ w.drew.heap.size from by have := xz.size; omega) (by omega) T4 T5
       ((hr1.mono (C := fun b => v26.heap.size ≤ b ∧ b < v27.heap.size) (fun b hlt hb => ⟨hb, hlt⟩)).ext (x28.trans (x29.trans (Ext.refl v29)))) ((hr2.mono (C := fun b => v27.heap.size ≤ b ∧ b < v28.heap.size) (fun b hlt hb => ⟨hb, hlt⟩)).ext (x29.trans (Ext.refl v29))) (fun b hb => by omega) (fun b hb => by omega)
      have HF1 := Hd (And.intro f1 (And.intro f2 (And.intro f3 (And.intro f4 f6))))
      refine tk1 8 rfl (AllReadyH.cons rfl (fun K hK => ?_) AllReadyH.nil)
      clear gs26 gs27 gs28 gs29
      refine step_store rfl 42 _ _ rfl (v28.heap.size) 0 #[.int .i8 x.f, .int .u64 x.n, .int .i64 x.hi, .int .i64 x.lo, .slice q1 k1 c1] rfl rfl T4 (infoNd _ _ _ _ _) (nd_one _ _ _ _ _ _ _) ?_
      refine hK.out _ _ (HSX.out _ f5) (fun hHeldA => ?_)
      clear hK K
      try simp only [tkN]
      refine tk1 9 rfl (AllReadyH.cons rfl (fun K hK => ?_) AllReadyH.nil)
      refine step_store rfl 42 _ _ rfl (w.drew.heap.size) 0 #[.int .i8 y.f, .int .u64 y.n, .int .i64 y.hi, .int .i64 y.lo, .slice q2 k2 c2] rfl rfl f7 (infoNd _ _ _ _ _) (nd_one _ _ _ _ _ _ _) ?_
      refine hK.out _ _ (HSX.out _ f6) (fun hHeldB => ?_)
      clear hK K
      try simp only [tkN]
      refine wpAnyH_done (by kernel_rfl) ?_ _
      refine NoPanic.normal ?_
      go_wp2_with fail
      go_meet
      exact ⟨_, _, q1, k1, c1, q2, k2, c2, rfl, rfl, hzz.out, HF1.out.1, HF1.out.2.1, HF1.out.2.2.1, HF1.out.2.2.2.1, HF1.out.2.2.2.2⟩
    ·go_simp
     obtain ⟨v30, hv⟩ : ∃ W : World, (v27.alloc (.cells #[.int .i8 0, .int .u64 0, .int .i64 0, .int .i64 0, .slice none 0 0] 42)) = W := ⟨_, rfl⟩
     have x30 : Ext v27 v30 := by rw [← hv]; exact Ext.alloc _ _
     have s30 := Hd (show v30.heap.size = v27.heap.size + 1 from by rw [← hv]; exact World.size_alloc _ _)
     have t6_30 : v30.there v27.heap.size 0 5 := thereF (cs := #[.int .i8 0, .int .u64 0, .int .i64 0, .int .i64 0, .slice none 0 0]) (t := 42) (by rw [← hv]; exact Ext.refl _)
     rw [hv]
     have e30 : Ext w v30 := e27.trans x30
     clear hv
     refine hK.out _ _ (HSX.out _ e30) (fun hHeld30 => ?_)
     clear hK K
     try simp only [tkN]
     refine tk1 5 rfl (AllReadyH.cons rfl (fun K hK => ?_) AllReadyH.nil)
     ·go_simp
      go_at_call 110
      refine (HNB.out v30 e30).mono ?_
      rintro e v31 ⟨q2, k2, c2, rfl, hr2, x31⟩
      have e31 : Ext w v31 := e30.trans x31
      have s31 := Hd x31.size
      refine hK.out _ _ (HSX.out _ e31) (fun hHeld31 => ?_)
      clear hK K
      try simp only [tkN]
      have gs26 := s26.out
      have gs27 := s27.out
      have gs30 := s30.out
      have gs31 := s31.out
      have T4 := there_ext t6_30 (x31.trans (Ext.refl v31))
      have T5 := there_ext t7_26 (x27.trans (x30.trans (x31.trans (Ext.refl v31))))
      have hzz := Hd (show w.heap.size ≤ v27.heap.size ∧ w.heap.size ≤ w.drew.heap.size from ⟨by have := xz.size; omega, by have := xz.size; omega⟩)
      obtain ⟨f1, f2, f3, f4, f5, f6, f7⟩ := two_stores e31 (z4 := v27.heap.size) (z5 := w.drew.heap.size) (show w.heap.size ≤ v27.heap.size from by have := xz.size; omega) (show w.heap.size ≤ w.drew.heap.size from by have := xz.size; omega) (by omega) T4 T5
       ((hr1.mono (C := fun b => v26.heap.size ≤ b ∧ b < v27.heap.size) (fun b hlt hb => ⟨hb, hlt⟩)).ext (x30.trans (x31.trans (Ext.refl v31)))) ((hr2.mono (C := fun b => v30.heap.size ≤ b ∧ b < v31.heap.size) (fun b hlt hb => ⟨hb, hlt⟩)).ext (Ext.refl v31)) (fun b hb => by omega) (fun b hb => by omega)
      have HF1 := Hd (And.intro f1 (And.intro f2 (And.intro f3 (And.intro f4 f6))))
      refine tk1 8 rfl (AllReadyH.cons rfl (fun K hK => ?_) AllReadyH.nil)
      clear gs26 gs27 gs30 gs31
      refine step_store rfl 42 _ _ rfl (v27.heap.size) 0 #[.int .i8 x.f, .int .u64 x.n, .int .i64 x.hi, .int .i64 x.lo, .slice q1 k1 c1] rfl rfl T4 (infoNd _ _ _ _ _) (nd_one _ _ _ _ _ _ _) ?_
      refine hK.out _ _ (HSX.out _ f5) (fun hHeldA => ?_)
      clear hK K
      try simp only [tkN]
      refine tk1 9 rfl (AllReadyH.cons rfl (fun K hK => ?_) AllReadyH.nil)
      refine step_store rfl 42 _ _ rfl (w.drew.heap.size) 0 #[.int .i8 y.f, .int .u64 y.n, .int .i64 y.hi, .int .i64 y.lo, .slice q2 k2 c2] rfl rfl f7 (infoNd _ _ _ _ _) (nd_one _ _ _ _ _ _ _) ?_
      refine hK.out _ _ (HSX.out _ f6) (fun hHeldB => ?_)
      clear hK K
      try simp only [tkN]
      refine wpAnyH_done (by kernel_rfl) ?_ _
      refine NoPanic.normal ?_
      go_wp2_with fail
      go_meet
      exact ⟨_, _, q1, k1, c1, q2, k2, c2, rfl, rfl, hzz.out, HF1.out.1, HF1.out.2.1, HF1.out.2.2.1, HF1.out.2.2.2.1, HF1.out.2.2.2.2⟩
   ·go_simp
    obtain ⟨v32, hv⟩ : ∃ W : World, (v26.alloc (.cells #[.int .i8 0, .int .u64 0, .int .i64 0, .int .i64 0, .slice none 0 0] 42)) = W := ⟨_, rfl⟩
    have x32 : Ext v26 v32 := by rw [← hv]; exact Ext.alloc _ _
    have s32 := Hd (show v32.heap.size = v26.heap.size + 1 from by rw [← hv]; exact World.size_alloc _ _)
    have t6_32 : v32.there v26.heap.size 0 5 := thereF (cs := #[.int .i8 0, .int .u64 0, .int .i64 0, .int .i64 0, .slice none 0 0]) (t := 42) (by rw [← hv]; exact Ext.refl _)
    rw [hv]
    have e32 : Ext w v32 := e26.trans x32
    clear hv
    refine hK.out _ _ (HSX.out _ e32) (fun hHeld32 => ?_)
    clear hK K
    try simp only [tkN]
    refine tk1 2 rfl (AllReadyH.cons rfl (fun K hK => ?_) AllReadyH.nil)
    ·go_simp
     go_at_call 110
     refine (HNA.out v32 e32).mono ?_
     rintro e v33 ⟨q1, k1, c1, rfl, hr1, x33⟩
     have e33 : Ext w v33 := e32.trans x33
     have s33 := Hd x33.size
     refine hK.out _ _ (HSX.out _ e33) (fun hHeld33 => ?_)
     clear hK K
     try simp only [tkN]
     refine tk1 5 rfl (AllReadyH.cons rfl (fun K hK => ?_) AllReadyH.nil)
     ·go_simp
      go_at_call 110
      refine (HNB.out v33 e33).mono ?_
      rintro e v34 ⟨q2, k2, c2, rfl, hr2, x34⟩
      have e34 : Ext w v34 := e33.trans x34
      have s34 := Hd x34.size
      refine hK.out _ _ (HSX.out _ e34) (fun hHeld34 => ?_)
      clear hK K
      try simp only [tkN]
      have gs26 := s26.out
      have gs32 := s32.out
      have gs33 := s33.out
      have gs34 := s34.out
      have T4 := there_ext t6_32 (x33.trans (x34.trans (Ext.refl v34)))
      have T5 := there_ext t7_26 (x32.trans (x33.trans (x34.trans (Ext.refl v34))))
      have hzz := Hd (show w.heap.size ≤ v26.heap.size ∧ w.heap.size ≤ w.drew.heap.size from ⟨by have := xz.size; omega, by have := xz.size; omega⟩)
      obtain ⟨f1, f2, f3, f4, f5, f6, f7⟩ := two_stores e34 (z4 := v26.heap.size) (z5 := w.drew.heap.size) (show w.heap.size ≤ v26.heap.size from by have := xz.size; omega) (show w.heap.size ≤ w.drew.heap.size from by have := xz.size; omega) (by omega) T4 T5
       ((hr1.mono (C := fun b => v32.heap.size ≤ b ∧ b < v33.heap.size) (fun b hlt hb => ⟨hb, hlt⟩)).ext (x34.trans (Ext.refl v34))) ((hr2.mono (C := fun b => v33.heap.size ≤ b ∧ b < v34.heap.size) (fun b hlt hb => ⟨hb, hlt⟩)).ext (Ext.refl v34)) (fun b hb => by omega) (fun b hb => by omega)
      have HF1 := Hd (And.intro f1 (And.intro f2 (And.intro f3 (And.intro f4 f6))))
      refine tk1 8 rfl (AllReadyH.cons rfl (fun K hK => ?_) AllReadyH.nil)
      clear gs26 gs32 gs33 gs34
      refine step_store rfl 42 _ _ rfl (v26.heap.size) 0 #[.int .i8 x.f, .int .u64 x.n, .int .i64 x.hi, .int .i64 x.lo, .slice q1 k1 c1] rfl rfl T4 (infoNd _ _ _ _ _) (nd_one _ _ _ _ _ _ _) ?_
      refine hK.out _ _ (HSX.out _ f5) (fun hHeldA => ?_)
      clear hK K
      try simp only [tkN]
      refine tk1 9 rfl (AllReadyH.cons rfl (fun K hK => ?_) AllReadyH.nil)
      refine step_store rfl 42 _ _ rfl (w.drew.heap.size) 0 #[.int .i8 y.f, .int .u64 y.n, .int .i64 y.hi, .int .i64 y.lo, .slice q2 k2 c2] rfl rfl f7 (infoNd _ _ _ _ _) (nd_one _ _ _ _ _ _ _) ?_
      refine hK.out _ _ (HSX.out _ f6) (fun hHeldB => ?_)
      clear hK K
      try simp only [tkN]
      refine wpAnyH_done (by kernel_rfl) ?_ _
      refine NoPanic.normal ?_
      go_wp2_with fail
      go_meet
      exact ⟨_, _, q1, k1, c1, q2, k2, c2, rfl, rfl, hzz.out, HF1.out.1, HF1.out.2.1, HF1.out.2.2.1, HF1.out.2.2.2.1, HF1.out.2.2.2.2⟩
 case rest =>
  obtain ⟨bx, bz, q1, k1, c1, q2, k2, c2, rfl, rfl, hbb, hnx, hny, hr1, hr2, hxc⟩ := hcut
  obtain ⟨d0, d1, d2, d3, d4⟩ := hnx.out
  obtain ⟨e0, e1, e2, e3, e4⟩ := hny.out
  have hMc := h.ext hxc.out
  have g0 := h0.ext hxc.out
  have g1 := h1.ext hxc.out
  have g2 := h2.ext hxc.out
  have HMC := Hd hMc
  have HG0 := Hd g0
  have HG1 := Hd g1
  have HG2 := Hd g2
  have HUP := Hd (show unionP (k + 1) L a b = (if x.f < 0 ∧ y.f < 0 then leafR L (x.leaf ++ y.leaf) else
   bindR (unionP k L (hiA L (firstA L a b).1 (firstA L a b).2 a) (hiA L (firstA L a b).1 (firstA L a b).2 b)) fun h L1 => bindR (unionP k L1 (loA L1 (firstA L a b).1 (firstA L a b).2 a) (loA L1 (firstA L a b).1 (firstA L a b).2 b)) fun l L2 => testR L2 (firstA L a b) h l) from by
   rw [unionP, if_neg hne, HXY.out.1, HXY.out.2])
  clear hMc g0 g1 g2 hnx hny
  by_cases hxf : x.f < 0
  case neg =>
   have HU5 := Hd (HUP.out.trans (if_neg (by omega)))
   have hfal := first_falls h.inv ha hb (by rw [← HXY.out.1, ← HXY.out.2]; omega)
   have k0 := HG0.out.c
   have k1 := HG1.out.c
   have k2 := HG2.out.c
   have HFI := Hd (dfirst_any p m mt L D a b wc HMC.out ha hb)
   obtain ⟨P, hP⟩ : ∃ P, P = firstA L a b := ⟨_, rfl⟩
   have hPB : (-128 ≤ P.1 ∧ P.1 ≤ 127) ∧ (0 ≤ P.2 ∧ P.2 ≤ 18446744073709551615) := by
    rw [hP]
    rcases firstA_root hfal.1 with ⟨r1, r2⟩ | ⟨r1, r2⟩
    ·rw [← r1, ← r2]
     have := (h.st.inv.2.2 _ (List.mem_of_getElem? (nodeP_some ha))).1
     exact ⟨this.1, this.2.1⟩
    ·rw [← r1, ← r2]
     have := (h.st.inv.2.2 _ (List.mem_of_getElem? (nodeP_some hb))).1
     exact ⟨this.1, this.2.1⟩
   have HPB := Hd hPB
   rw [← hP] at hfal HFI HU5
   have HFAL := Hd hfal
   clear hfal hPB hP
   go_wp2_with fail
   refine HFI.out.mono ?_
   rintro e w4 ⟨rfl, hx4⟩
   obtain ⟨pf, pn⟩ := P
   have HX4 := Hd (hxc.out.trans hx4)
   have hM4 := HMC.out.ext hx4
   have hB0 := HG0.out.ext hx4
   have hB1 := HG1.out.ext hx4
   have hB2 := HG2.out.ext hx4
   have HM4 := Hd hM4
   have HSC := Hd (show ∀ (F' : Nat → Prop) (W : World) L' D', Mk F' W p m mt L' D' → Went F mt w4 F' W → ((fun W : World => W.cell? ⟨b0, 0, none⟩ = some (.pointer (some ⟨m, 0, none⟩)) ∧ W.cell? ⟨b1, 0, none⟩ = some (.int .i64 a) ∧ W.cell? ⟨b2, 0, none⟩ = some (.int .i64 b) ∧ W.cell? ⟨m, 0, none⟩ = some (.pointer (some ⟨p, 0, none⟩)))) W from fun F' W L' D' hM hw => by
    have a0 := hB0.keep hw.1 hw.2
    have a1 := hB1.keep hw.1 hw.2
    have a2 := hB2.keep hw.1 hw.2
    exact ⟨a0.c, a1.c, a2.c, hM.c0⟩)
   obtain ⟨R1, hR1⟩ : ∃ R1, R1 = unionP k L (hiA L pf pn a) (hiA L pf pn b) := ⟨_, rfl⟩
   obtain ⟨R2, hR2⟩ : ∃ R2, R2 = unionP k R1.2 (loA R1.2 pf pn a) (loA R1.2 pf pn b) := ⟨_, rfl⟩
   have hfal := HFAL.out
   dsimp only at hfal
   have hfn1 : Fine L R1 := by rw [hR1]; exact unionP_fine h.inv (by omega) (by omega)
   have hlen1 := hfn1.pre.length_le
   have hla : loA R1.2 pf pn a = loA L pf pn a := loA_pre hfn1.pre ha
   have hlb : loA R1.2 pf pn b = loA L pf pn b := loA_pre hfn1.pre hb
   have hfn2 : Fine R1.2 R2 := by rw [hR2]; exact unionP_fine hfn1.inv (by omega) (by omega)
   have HFN := Hd (And.intro hfn1 hfn2)
   have HRR := Hd (show unionP (k + 1) L a b = (if R1.1.1 = 0 then (if R2.1.1 = 0 then testR R2.2 (pf, pn) R1.1.2 R2.1.2 else R2) else R1) from by
    rw [HU5.out, ← hR1]
    unfold bindR
    dsimp only
    rw [← hR2])
   have HIH1 := Hd (show ∀ W, Mk F W p m mt L D → Calls Tryz.prog 77 #[.pointer (some ⟨m, 0, none⟩), .int .i64 (hiA L pf pn a), .int .i64 (hiA L pf pn b)] W (MPost F W p m mt R1) from fun W hM => by
    rw [hR1]; exact IH F p m mt L D _ _ W (by omega) (by omega) (by omega) hM)
   have HIH2 := Hd (show ∀ F1 D1 W, Mk F1 W p m mt R1.2 D1 → Calls Tryz.prog 77 #[.pointer (some ⟨m, 0, none⟩), .int .i64 (loA R1.2 pf pn a), .int .i64 (loA R1.2 pf pn b)] W (MPost F1 W p m mt R2) from fun F1 D1 W hM => by
    rw [hR2]; exact IH F1 p m mt R1.2 D1 _ _ W (by omega) (by omega) (by omega) hM)
   have HLA := Hd (show a < R1.2.length ∧ b < R1.2.length ∧ 0 ≤ pf from ⟨by omega, by omega, hfal.1⟩)
   clear hfal hlen1 hla hlb hfn1 hfn2 hR1 hR2
   clear hM4 hB0 hB1 hB2 hx4 k0 k1 k2 d0 d1 d2 d3 d4 e0 e1 e2 e3 e4
   have xz5 : Ext w4 w4.drew := Ext.drew _
   have hS5 := HSC.out F w4.drew L D (HM4.out.ext xz5) (Went.ofExt xz5)
   go_upto_region 5 with fail
   refine wp_region_held_drew (S := (fun W : World => W.cell? ⟨b0, 0, none⟩ = some (.pointer (some ⟨m, 0, none⟩)) ∧ W.cell? ⟨b1, 0, none⟩ = some (.int .i64 a) ∧ W.cell? ⟨b2, 0, none⟩ = some (.int .i64 b) ∧ W.cell? ⟨m, 0, none⟩ = some (.pointer (some ⟨p, 0, none⟩)))) (by kernel_rfl) (hS5) (fun hHeld => ?_)
   refine tk 0 (.pointer (some ⟨m, 0, none⟩)) ?_
   try simp only [tkN]
   refine tk 1 (.pointer (some ⟨m, 0, none⟩)) ?_
   try simp only [tkN]
   refine tk 2 (.pointer (some ⟨m, 0, none⟩)) ?_
   try simp only [tkN]
   refine tk 3 (.pointer (some ⟨p, 0, none⟩)) ?_
   try simp only [tkN]
   refine tk 4 (.int .i8 pf) ?_
   try simp only [tkN]
   refine tk 5 (.int .u64 pn) ?_
   try simp only [tkN]
   refine tk 6 (.pointer (some ⟨m, 0, none⟩)) ?_
   try simp only [tkN]
   refine tk 7 (.pointer (some ⟨m, 0, none⟩)) ?_
   try simp only [tkN]
   refine tk 8 (.int .i64 a) ?_
   try simp only [tkN]
   refine tk 9 (.int .i8 pf) ?_
   try simp only [tkN]
   refine tk 10 (.int .u64 pn) ?_
   try simp only [tkN]
   refine tk 12 (.pointer (some ⟨m, 0, none⟩)) ?_
   try simp only [tkN]
   refine tk 13 (.int .i64 b) ?_
   try simp only [tkN]
   refine tk 14 (.int .i8 pf) ?_
   try simp only [tkN]
   refine tk 15 (.int .u64 pn) ?_
   try simp only [tkN]
   refine tk 18 (.pointer (some ⟨m, 0, none⟩)) ?_
   try simp only [tkN]
   refine tk 19 (.pointer (some ⟨m, 0, none⟩)) ?_
   try simp only [tkN]
   refine tk 20 (.int .i64 a) ?_
   try simp only [tkN]
   refine tk 21 (.int .i8 pf) ?_
   try simp only [tkN]
   refine tk 22 (.int .u64 pn) ?_
   try simp only [tkN]
   refine tk 24 (.pointer (some ⟨m, 0, none⟩)) ?_
   try simp only [tkN]
   refine tk 25 (.int .i64 b) ?_
   try simp only [tkN]
   refine tk 26 (.int .i8 pf) ?_
   try simp only [tkN]
   refine tk 27 (.int .u64 pn) ?_
   try simp only [tkN]
   refine tk1 11 rfl (AllReadyH.cons rfl (fun K hK => ?_) AllReadyH.nil)
   go_simp
   go_at_call 116
   refine (dhi_any p m mt L D a pf pn _ (HM4.out.ext xz5) ha HLA.out.2.2).mono ?_
   rintro e w5 ⟨rfl, hx5⟩
   refine hK.out _ _ (HSC.out F w5 L D (HM4.out.ext (xz5.trans hx5)) (Went.ofExt (xz5.trans hx5))) (fun hH1 => ?_)
   clear hK K
   try simp only [tkN]
   refine tk1 16 rfl (AllReadyH.cons rfl (fun K hK => ?_) AllReadyH.nil)
   go_simp
   go_at_call 116
   refine (dhi_any p m mt L D b pf pn _ (HM4.out.ext (xz5.trans hx5)) hb HLA.out.2.2).mono ?_
   rintro e w6 ⟨rfl, hx6⟩
   have hx46 : Ext w4 w6 := xz5.trans (hx5.trans hx6)
   refine hK.out _ _ (HSC.out F w6 L D (HM4.out.ext hx46) (Went.ofExt hx46)) (fun hH2 => ?_)
   clear hK K
   try simp only [tkN]
   refine tk1 17 rfl (AllReadyH.cons rfl (fun K hK => ?_) AllReadyH.nil)
   go_simp
   go_at_call 77
   refine (HIH1.out w6 (HM4.out.ext hx46)).mono ?_
   rintro e w7 ⟨he, F1, D1, hM7, hs7, hk7⟩
   have hw7 : Went F mt w4 F1 w7 := (Went.ofExt hx46).trans ⟨hs7, hk7⟩
   by_cases r1 : R1.1.1 = 0
   case neg =>
    rw [endD_no r1] at he
    subst he
    have hw0 := (Went.ofExt (F := F) (mt := mt) HX4.out).trans hw7
    have HFIN := Hd (show MPost F w p m mt (unionP (k + 1) L a b) (.panicked (stopC R1.1.1)) w7 from by
     rw [HRR.out, if_neg r1]
     exact ⟨(endD_no r1 _).symm, F1, D1, hM7, hw0.1, hw0.2⟩)
    go_wp2_with fail
    exact ⟨rfl, HFIN.out⟩
   rw [r1, endD_ok] at he
   subst he
   refine hK.out _ _ (HSC.out F1 w7 R1.2 D1 hM7 hw7) (fun hH3 => ?_)
   clear hK K
   try simp only [tkN]
   refine tk1 23 rfl (AllReadyH.cons rfl (fun K hK => ?_) AllReadyH.nil)
   go_simp
   go_at_call 117
   refine (dlo_any p m mt R1.2 D1 a pf pn _ hM7 HLA.out.1 HLA.out.2.2).mono ?_
   rintro e w8 ⟨rfl, hx8⟩
   refine hK.out _ _ (HSC.out F1 w8 R1.2 D1 (hM7.ext hx8) (hw7.trans (Went.ofExt hx8))) (fun hH4 => ?_)
   clear hK K
   try simp only [tkN]
   refine tk1 28 rfl (AllReadyH.cons rfl (fun K hK => ?_) AllReadyH.nil)
   go_simp
   go_at_call 117
   refine (dlo_any p m mt R1.2 D1 b pf pn _ (hM7.ext hx8) HLA.out.2.1 HLA.out.2.2).mono ?_
   rintro e w9 ⟨rfl, hx9⟩
   have hw9 : Went F mt w4 F1 w9 := hw7.trans (Went.ofExt (hx8.trans hx9))
   have hM9 := hM7.ext (hx8.trans hx9)
   refine hK.out _ _ (HSC.out F1 w9 R1.2 D1 hM9 hw9) (fun hH5 => ?_)
   clear hK K
   try simp only [tkN]
   refine tk1 29 rfl (AllReadyH.cons rfl (fun K hK => ?_) AllReadyH.nil)
   go_simp
   go_at_call 77
   refine (HIH2.out F1 D1 w9 hM9).mono ?_
   rintro e w10 ⟨he, F2, D2, hM10, hs10, hk10⟩
   have hw10 : Went F mt w4 F2 w10 := hw9.trans ⟨hs10, hk10⟩
   by_cases r2 : R2.1.1 = 0
   case neg =>
    rw [endD_no r2] at he
    subst he
    have hw0 := (Went.ofExt (F := F) (mt := mt) HX4.out).trans hw10
    have HFIN := Hd (show MPost F w p m mt (unionP (k + 1) L a b) (.panicked (stopC R2.1.1)) w10 from by
     rw [HRR.out, if_pos r1, if_neg r2]
     exact ⟨(endD_no r2 _).symm, F2, D2, hM10, hw0.1, hw0.2⟩)
    go_wp2_with fail
    exact ⟨rfl, HFIN.out⟩
   rw [r2, endD_ok] at he
   subst he
   have hb1 := HFN.out.1.lt r1
   have hb2 := HFN.out.2.lt r2
   have hb3 := HFN.out.2.pre.length_le
   have hb4 := hM10.st.inv.2.1
   have htf := testR_fine HFN.out.2.inv (pf, pn) R1.1.2 R2.1.2
   refine hK.out _ _ (HSC.out F2 w10 R2.2 D2 hM10 hw10) (fun hH6 => ?_)
   clear hK K
   try simp only [tkN]
   refine tk1 30 rfl (AllReadyH.cons rfl (fun K hK => ?_) AllReadyH.nil)
   go_simp
   go_at_call 43
   refine (testS_any p R2.2 pf pn R1.1.2 R2.1.2 w10 hM10.st HPB.out.1 HPB.out.2 ⟨by omega, by omega⟩ ⟨by omega, by omega⟩).mono ?_
   obtain ⟨T, hT⟩ : ∃ T, T = testP R2.2 pf pn R1.1.2 R2.1.2 := ⟨_, rfl⟩
   have HTR := Hd (show testR R2.2 (pf, pn) R1.1.2 R2.1.2 = ((T.1.2, T.1.1.toNat), T.2) from by rw [hT]; rfl)
   have HTN := Hd (show T.1.2 = 0 → T.1.1 = ((T.1.1.toNat : Nat) : Int) from fun h5 => by rw [hT] at h5 ⊢; exact testP_nn (p := (pf, pn)) h5)
   rw [← hT]
   rintro e w11 ⟨rfl, F3, hto⟩
   rw [HTR.out] at htf
   have hM11 : Mk F3 w11 p m mt T.2 D2 := hM10.op hto htf.pre htf.inv
   have hw11 : Went F mt w4 F3 w11 := hw10.trans (Went.op hto)
   clear hT
   refine hK.out _ _ (HSC.out F3 w11 T.2 D2 hM11 hw11) (fun hH7 => ?_)
   clear hK K
   try simp only [tkN]
   refine tk 31 (.int .i64 T.1.1) ?_
   try simp only [tkN]
   refine tk 32 (.int .i64 T.1.2) ?_
   try simp only [tkN]
   refine tk1 33 rfl (AllReadyH.cons rfl (fun K hK => ?_) AllReadyH.nil)
   go_simp
   go_at_call 79
   refine (dmust_any T.1.1 T.1.2 w11).mono ?_
   rintro e w12 ⟨he, rfl⟩
   have hw0 := (Went.ofExt (F := F) (mt := mt) HX4.out).trans hw11
   by_cases r3 : T.1.2 = 0
   case neg =>
    rw [endD_no r3] at he
    subst he
    have HFIN := Hd (show MPost F w p m mt (unionP (k + 1) L a b) (.panicked (stopC T.1.2)) w11 from by
     rw [HRR.out, if_pos r1, if_pos r2, HTR.out]
     exact ⟨(endD_no r3 _).symm, F3, D2, hM11, hw0.1, hw0.2⟩)
    go_wp2_with fail
    exact ⟨rfl, HFIN.out⟩
   rw [r3, endD_ok] at he
   subst he
   refine hK.out _ _ (HSC.out F3 w11 T.2 D2 hM11 hw11) (fun hH8 => ?_)
   clear hK K
   try simp only [tkN]
   refine tk 34 (.int .i64 T.1.1) ?_
   try simp only [tkN]
   refine wpAnyH_done (by kernel_rfl) ?_ _
   have HFIN := Hd (show MPost F w p m mt (unionP (k + 1) L a b) (.returned (.int .i64 T.1.1)) w11 from by
    rw [HRR.out, if_pos r1, if_pos r2, HTR.out]
    refine ⟨?_, F3, D2, hM11, hw0.1, hw0.2⟩
    show _ = endD T.1.2 (.int .i64 (T.1.1.toNat : Nat))
    rw [r3, endD_ok, ← HTN.out r3])
   go_wp2_with fail
   go_ret
   exact HFIN.out
  by_cases hyf : y.f < 0
  case neg =>
   have HU5 := Hd (HUP.out.trans (if_neg (by omega)))
   have hfal := first_falls h.inv ha hb (by rw [← HXY.out.1, ← HXY.out.2]; omega)
   have k0 := HG0.out.c
   have k1 := HG1.out.c
   have k2 := HG2.out.c
   have HFI := Hd (dfirst_any p m mt L D a b wc HMC.out ha hb)
   obtain ⟨P, hP⟩ : ∃ P, P = firstA L a b := ⟨_, rfl⟩
   have hPB : (-128 ≤ P.1 ∧ P.1 ≤ 127) ∧ (0 ≤ P.2 ∧ P.2 ≤ 18446744073709551615) := by
    rw [hP]
    rcases firstA_root hfal.1 with ⟨r1, r2⟩ | ⟨r1, r2⟩
    ·rw [← r1, ← r2]
     have := (h.st.inv.2.2 _ (List.mem_of_getElem? (nodeP_some ha))).1
     exact ⟨this.1, this.2.1⟩
    ·rw [← r1, ← r2]
     have := (h.st.inv.2.2 _ (List.mem_of_getElem? (nodeP_some hb))).1
     exact ⟨this.1, this.2.1⟩
   have HPB := Hd hPB
   rw [← hP] at hfal HFI HU5
   have HFAL := Hd hfal
   clear hfal hPB hP
   go_wp2_with fail
   refine HFI.out.mono ?_
   rintro e w4 ⟨rfl, hx4⟩
   obtain ⟨pf, pn⟩ := P
   have HX4 := Hd (hxc.out.trans hx4)
   have hM4 := HMC.out.ext hx4
   have hB0 := HG0.out.ext hx4
   have hB1 := HG1.out.ext hx4
   have hB2 := HG2.out.ext hx4
   have HM4 := Hd hM4
   have HSC := Hd (show ∀ (F' : Nat → Prop) (W : World) L' D', Mk F' W p m mt L' D' → Went F mt w4 F' W → ((fun W : World => W.cell? ⟨b0, 0, none⟩ = some (.pointer (some ⟨m, 0, none⟩)) ∧ W.cell? ⟨b1, 0, none⟩ = some (.int .i64 a) ∧ W.cell? ⟨b2, 0, none⟩ = some (.int .i64 b) ∧ W.cell? ⟨m, 0, none⟩ = some (.pointer (some ⟨p, 0, none⟩)))) W from fun F' W L' D' hM hw => by
    have a0 := hB0.keep hw.1 hw.2
    have a1 := hB1.keep hw.1 hw.2
    have a2 := hB2.keep hw.1 hw.2
    exact ⟨a0.c, a1.c, a2.c, hM.c0⟩)
   obtain ⟨R1, hR1⟩ : ∃ R1, R1 = unionP k L (hiA L pf pn a) (hiA L pf pn b) := ⟨_, rfl⟩
   obtain ⟨R2, hR2⟩ : ∃ R2, R2 = unionP k R1.2 (loA R1.2 pf pn a) (loA R1.2 pf pn b) := ⟨_, rfl⟩
   have hfal := HFAL.out
   dsimp only at hfal
   have hfn1 : Fine L R1 := by rw [hR1]; exact unionP_fine h.inv (by omega) (by omega)
   have hlen1 := hfn1.pre.length_le
   have hla : loA R1.2 pf pn a = loA L pf pn a := loA_pre hfn1.pre ha
   have hlb : loA R1.2 pf pn b = loA L pf pn b := loA_pre hfn1.pre hb
   have hfn2 : Fine R1.2 R2 := by rw [hR2]; exact unionP_fine hfn1.inv (by omega) (by omega)
   have HFN := Hd (And.intro hfn1 hfn2)
   have HRR := Hd (show unionP (k + 1) L a b = (if R1.1.1 = 0 then (if R2.1.1 = 0 then testR R2.2 (pf, pn) R1.1.2 R2.1.2 else R2) else R1) from by
    rw [HU5.out, ← hR1]
    unfold bindR
    dsimp only
    rw [← hR2])
   have HIH1 := Hd (show ∀ W, Mk F W p m mt L D → Calls Tryz.prog 77 #[.pointer (some ⟨m, 0, none⟩), .int .i64 (hiA L pf pn a), .int .i64 (hiA L pf pn b)] W (MPost F W p m mt R1) from fun W hM => by
    rw [hR1]; exact IH F p m mt L D _ _ W (by omega) (by omega) (by omega) hM)
   have HIH2 := Hd (show ∀ F1 D1 W, Mk F1 W p m mt R1.2 D1 → Calls Tryz.prog 77 #[.pointer (some ⟨m, 0, none⟩), .int .i64 (loA R1.2 pf pn a), .int .i64 (loA R1.2 pf pn b)] W (MPost F1 W p m mt R2) from fun F1 D1 W hM => by
    rw [hR2]; exact IH F1 p m mt R1.2 D1 _ _ W (by omega) (by omega) (by omega) hM)
   have HLA := Hd (show a < R1.2.length ∧ b < R1.2.length ∧ 0 ≤ pf from ⟨by omega, by omega, hfal.1⟩)
   clear hfal hlen1 hla hlb hfn1 hfn2 hR1 hR2
   clear hM4 hB0 hB1 hB2 hx4 k0 k1 k2 d0 d1 d2 d3 d4 e0 e1 e2 e3 e4
   have xz5 : Ext w4 w4.drew := Ext.drew _
   have hS5 := HSC.out F w4.drew L D (HM4.out.ext xz5) (Went.ofExt xz5)
   go_upto_region 5 with fail
   refine wp_region_held_drew (S := (fun W : World => W.cell? ⟨b0, 0, none⟩ = some (.pointer (some ⟨m, 0, none⟩)) ∧ W.cell? ⟨b1, 0, none⟩ = some (.int .i64 a) ∧ W.cell? ⟨b2, 0, none⟩ = some (.int .i64 b) ∧ W.cell? ⟨m, 0, none⟩ = some (.pointer (some ⟨p, 0, none⟩)))) (by kernel_rfl) (hS5) (fun hHeld => ?_)
   refine tk 0 (.pointer (some ⟨m, 0, none⟩)) ?_
   try simp only [tkN]
   refine tk 1 (.pointer (some ⟨m, 0, none⟩)) ?_
   try simp only [tkN]
   refine tk 2 (.pointer (some ⟨m, 0, none⟩)) ?_
   try simp only [tkN]
   refine tk 3 (.pointer (some ⟨p, 0, none⟩)) ?_
   try simp only [tkN]
   refine tk 4 (.int .i8 pf) ?_
   try simp only [tkN]
   refine tk 5 (.int .u64 pn) ?_
   try simp only [tkN]
   refine tk 6 (.pointer (some ⟨m, 0, none⟩)) ?_
   try simp only [tkN]
   refine tk 7 (.pointer (some ⟨m, 0, none⟩)) ?_
   try simp only [tkN]
   refine tk 8 (.int .i64 a) ?_
   try simp only [tkN]
   refine tk 9 (.int .i8 pf) ?_
   try simp only [tkN]
   refine tk 10 (.int .u64 pn) ?_
   try simp only [tkN]
   refine tk 12 (.pointer (some ⟨m, 0, none⟩)) ?_
   try simp only [tkN]
   refine tk 13 (.int .i64 b) ?_
   try simp only [tkN]
   refine tk 14 (.int .i8 pf) ?_
   try simp only [tkN]
   refine tk 15 (.int .u64 pn) ?_
   try simp only [tkN]
   refine tk 18 (.pointer (some ⟨m, 0, none⟩)) ?_
   try simp only [tkN]
   refine tk 19 (.pointer (some ⟨m, 0, none⟩)) ?_
   try simp only [tkN]
   refine tk 20 (.int .i64 a) ?_
   try simp only [tkN]
   refine tk 21 (.int .i8 pf) ?_
   try simp only [tkN]
   refine tk 22 (.int .u64 pn) ?_
   try simp only [tkN]
   refine tk 24 (.pointer (some ⟨m, 0, none⟩)) ?_
   try simp only [tkN]
   refine tk 25 (.int .i64 b) ?_
   try simp only [tkN]
   refine tk 26 (.int .i8 pf) ?_
   try simp only [tkN]
   refine tk 27 (.int .u64 pn) ?_
   try simp only [tkN]
   refine tk1 11 rfl (AllReadyH.cons rfl (fun K hK => ?_) AllReadyH.nil)
   go_simp
   go_at_call 116
   refine (dhi_any p m mt L D a pf pn _ (HM4.out.ext xz5) ha HLA.out.2.2).mono ?_
   rintro e w5 ⟨rfl, hx5⟩
   refine hK.out _ _ (HSC.out F w5 L D (HM4.out.ext (xz5.trans hx5)) (Went.ofExt (xz5.trans hx5))) (fun hH1 => ?_)
   clear hK K
   try simp only [tkN]
   refine tk1 16 rfl (AllReadyH.cons rfl (fun K hK => ?_) AllReadyH.nil)
   go_simp
   go_at_call 116
   refine (dhi_any p m mt L D b pf pn _ (HM4.out.ext (xz5.trans hx5)) hb HLA.out.2.2).mono ?_
   rintro e w6 ⟨rfl, hx6⟩
   have hx46 : Ext w4 w6 := xz5.trans (hx5.trans hx6)
   refine hK.out _ _ (HSC.out F w6 L D (HM4.out.ext hx46) (Went.ofExt hx46)) (fun hH2 => ?_)
   clear hK K
   try simp only [tkN]
   refine tk1 17 rfl (AllReadyH.cons rfl (fun K hK => ?_) AllReadyH.nil)
   go_simp
   go_at_call 77
   refine (HIH1.out w6 (HM4.out.ext hx46)).mono ?_
   rintro e w7 ⟨he, F1, D1, hM7, hs7, hk7⟩
   have hw7 : Went F mt w4 F1 w7 := (Went.ofExt hx46).trans ⟨hs7, hk7⟩
   by_cases r1 : R1.1.1 = 0
   case neg =>
    rw [endD_no r1] at he
    subst he
    have hw0 := (Went.ofExt (F := F) (mt := mt) HX4.out).trans hw7
    have HFIN := Hd (show MPost F w p m mt (unionP (k + 1) L a b) (.panicked (stopC R1.1.1)) w7 from by
     rw [HRR.out, if_neg r1]
     exact ⟨(endD_no r1 _).symm, F1, D1, hM7, hw0.1, hw0.2⟩)
    go_wp2_with fail
    exact ⟨rfl, HFIN.out⟩
   rw [r1, endD_ok] at he
   subst he
   refine hK.out _ _ (HSC.out F1 w7 R1.2 D1 hM7 hw7) (fun hH3 => ?_)
   clear hK K
   try simp only [tkN]
   refine tk1 23 rfl (AllReadyH.cons rfl (fun K hK => ?_) AllReadyH.nil)
   go_simp
   go_at_call 117
   refine (dlo_any p m mt R1.2 D1 a pf pn _ hM7 HLA.out.1 HLA.out.2.2).mono ?_
   rintro e w8 ⟨rfl, hx8⟩
   refine hK.out _ _ (HSC.out F1 w8 R1.2 D1 (hM7.ext hx8) (hw7.trans (Went.ofExt hx8))) (fun hH4 => ?_)
   clear hK K
   try simp only [tkN]
   refine tk1 28 rfl (AllReadyH.cons rfl (fun K hK => ?_) AllReadyH.nil)
   go_simp
   go_at_call 117
   refine (dlo_any p m mt R1.2 D1 b pf pn _ (hM7.ext hx8) HLA.out.2.1 HLA.out.2.2).mono ?_
   rintro e w9 ⟨rfl, hx9⟩
   have hw9 : Went F mt w4 F1 w9 := hw7.trans (Went.ofExt (hx8.trans hx9))
   have hM9 := hM7.ext (hx8.trans hx9)
   refine hK.out _ _ (HSC.out F1 w9 R1.2 D1 hM9 hw9) (fun hH5 => ?_)
   clear hK K
   try simp only [tkN]
   refine tk1 29 rfl (AllReadyH.cons rfl (fun K hK => ?_) AllReadyH.nil)
   go_simp
   go_at_call 77
   refine (HIH2.out F1 D1 w9 hM9).mono ?_
   rintro e w10 ⟨he, F2, D2, hM10, hs10, hk10⟩
   have hw10 : Went F mt w4 F2 w10 := hw9.trans ⟨hs10, hk10⟩
   by_cases r2 : R2.1.1 = 0
   case neg =>
    rw [endD_no r2] at he
    subst he
    have hw0 := (Went.ofExt (F := F) (mt := mt) HX4.out).trans hw10
    have HFIN := Hd (show MPost F w p m mt (unionP (k + 1) L a b) (.panicked (stopC R2.1.1)) w10 from by
     rw [HRR.out, if_pos r1, if_neg r2]
     exact ⟨(endD_no r2 _).symm, F2, D2, hM10, hw0.1, hw0.2⟩)
    go_wp2_with fail
    exact ⟨rfl, HFIN.out⟩
   rw [r2, endD_ok] at he
   subst he
   have hb1 := HFN.out.1.lt r1
   have hb2 := HFN.out.2.lt r2
   have hb3 := HFN.out.2.pre.length_le
   have hb4 := hM10.st.inv.2.1
   have htf := testR_fine HFN.out.2.inv (pf, pn) R1.1.2 R2.1.2
   refine hK.out _ _ (HSC.out F2 w10 R2.2 D2 hM10 hw10) (fun hH6 => ?_)
   clear hK K
   try simp only [tkN]
   refine tk1 30 rfl (AllReadyH.cons rfl (fun K hK => ?_) AllReadyH.nil)
   go_simp
   go_at_call 43
   refine (testS_any p R2.2 pf pn R1.1.2 R2.1.2 w10 hM10.st HPB.out.1 HPB.out.2 ⟨by omega, by omega⟩ ⟨by omega, by omega⟩).mono ?_
   obtain ⟨T, hT⟩ : ∃ T, T = testP R2.2 pf pn R1.1.2 R2.1.2 := ⟨_, rfl⟩
   have HTR := Hd (show testR R2.2 (pf, pn) R1.1.2 R2.1.2 = ((T.1.2, T.1.1.toNat), T.2) from by rw [hT]; rfl)
   have HTN := Hd (show T.1.2 = 0 → T.1.1 = ((T.1.1.toNat : Nat) : Int) from fun h5 => by rw [hT] at h5 ⊢; exact testP_nn (p := (pf, pn)) h5)
   rw [← hT]
   rintro e w11 ⟨rfl, F3, hto⟩
   rw [HTR.out] at htf
   have hM11 : Mk F3 w11 p m mt T.2 D2 := hM10.op hto htf.pre htf.inv
   have hw11 : Went F mt w4 F3 w11 := hw10.trans (Went.op hto)
   clear hT
   refine hK.out _ _ (HSC.out F3 w11 T.2 D2 hM11 hw11) (fun hH7 => ?_)
   clear hK K
   try simp only [tkN]
   refine tk 31 (.int .i64 T.1.1) ?_
   try simp only [tkN]
   refine tk 32 (.int .i64 T.1.2) ?_
   try simp only [tkN]
   refine tk1 33 rfl (AllReadyH.cons rfl (fun K hK => ?_) AllReadyH.nil)
   go_simp
   go_at_call 79
   refine (dmust_any T.1.1 T.1.2 w11).mono ?_
   rintro e w12 ⟨he, rfl⟩
   have hw0 := (Went.ofExt (F := F) (mt := mt) HX4.out).trans hw11
   by_cases r3 : T.1.2 = 0
   case neg =>
    rw [endD_no r3] at he
    subst he
    have HFIN := Hd (show MPost F w p m mt (unionP (k + 1) L a b) (.panicked (stopC T.1.2)) w11 from by
     rw [HRR.out, if_pos r1, if_pos r2, HTR.out]
     exact ⟨(endD_no r3 _).symm, F3, D2, hM11, hw0.1, hw0.2⟩)
    go_wp2_with fail
    exact ⟨rfl, HFIN.out⟩
   rw [r3, endD_ok] at he
   subst he
   refine hK.out _ _ (HSC.out F3 w11 T.2 D2 hM11 hw11) (fun hH8 => ?_)
   clear hK K
   try simp only [tkN]
   refine tk 34 (.int .i64 T.1.1) ?_
   try simp only [tkN]
   refine wpAnyH_done (by kernel_rfl) ?_ _
   have HFIN := Hd (show MPost F w p m mt (unionP (k + 1) L a b) (.returned (.int .i64 T.1.1)) w11 from by
    rw [HRR.out, if_pos r1, if_pos r2, HTR.out]
    refine ⟨?_, F3, D2, hM11, hw0.1, hw0.2⟩
    show _ = endD T.1.2 (.int .i64 (T.1.1.toNat : Nat))
    rw [r3, endD_ok, ← HTN.out r3])
   go_wp2_with fail
   go_ret
   exact HFIN.out
  have HUL := Hd (HUP.out.trans (if_pos ⟨hxf, hyf⟩))
  have hleafs : ∀ u ∈ L, u.leaf.length ≤ 64 ∧ ∀ r ∈ u.leaf, r.length ≤ 11 := fun u hu => by
   rcases (h.st.inv.2.2 u hu).2 with ⟨l', -, hl', h64⟩ | ⟨-, hl'⟩
   ·exact ⟨h64, rowsP_short hl'⟩
   ·rw [hl']; exact ⟨by simp, (fun r hr => by cases hr)⟩
  have hlx := hleafs x (by rw [HXY.out.1]; exact List.mem_of_getElem? (nodeP_some ha))
  have hly := hleafs y (by rw [HXY.out.2]; exact List.mem_of_getElem? (nodeP_some hb))
  have HLX := Hd hlx
  have HLY := Hd hly
  have xz3 : Ext wc wc.drew := Ext.drew _
  clear hleafs hlx hly
  have k0 := HG0.out.c
  have km := HMC.out.c0
  have HS3 := Hd (show ∀ W : World, Ext wc W → ((fun W : World => W.cell? ⟨b0, 0, none⟩ = some (.pointer (some ⟨m, 0, none⟩)) ∧ W.cell? ⟨m, 0, none⟩ = some (.pointer (some ⟨p, 0, none⟩)) ∧ W.cell? ⟨bx, 4, none⟩ = some (.slice q1 k1 c1) ∧ W.cell? ⟨bz, 4, none⟩ = some (.slice q2 k2 c2))) W from fun W hW => ⟨hW.later _ _ k0, hW.later _ _ km, hW.later _ _ d4, hW.later _ _ e4⟩)
  have hFb : ∀ z, w.heap.size ≤ z → ¬ F z := fun z hz hF => by have := h.lt.1 z hF; omega
  have hS3K := Hd (show ∀ (F' : Nat → Prop) (V W : World), Ext wc V → Keep F V W → ((fun W : World => W.cell? ⟨b0, 0, none⟩ = some (.pointer (some ⟨m, 0, none⟩)) ∧ W.cell? ⟨m, 0, none⟩ = some (.pointer (some ⟨p, 0, none⟩)) ∧ W.cell? ⟨bx, 4, none⟩ = some (.slice q1 k1 c1) ∧ W.cell? ⟨bz, 4, none⟩ = some (.slice q2 k2 c2))) W from fun F' V W hV hk => by
   have a0 := hV.later _ _ k0
   have am := hV.later _ _ km
   have a4 := hV.later _ _ d4
   have b4 := hV.later _ _ e4
   exact ⟨hk.cell a0 HG0.out.nf.1, hk.cell am HMC.out.ne.1, hk.cell a4 (hFb _ hbb.out.1), hk.cell b4 (hFb _ hbb.out.2)⟩)
  obtain ⟨vs1, hv1, hn1⟩ := rowsVs hr1.out
  obtain ⟨vs2, hv2, hn2⟩ := rowsVs hr2.out
  have HV1 := Hd (And.intro hv1 hn1)
  have HV2 := Hd (And.intro hv2 hn2)
  have hkx : k1 = x.leaf.length := by obtain ⟨_, _, _, he, hm, -⟩ := hr1.out; cases he; exact hm
  have hky : k2 = y.leaf.length := by obtain ⟨_, _, _, he, hm, -⟩ := hr2.out; cases he; exact hm
  have hk64 : k1 ≤ 64 ∧ k2 ≤ 64 := ⟨by rw [hkx]; exact HLX.out.1, by rw [hky]; exact HLY.out.1⟩
  have HKX := Hd (And.intro hkx hky)
  obtain ⟨hk1, hk2⟩ := hk64
  clear hv1 hn1 hv2 hn2 hkx hky hFb
  go_wp2_with fail
  refine wp_region_held_drew (S := (fun W : World => W.cell? ⟨b0, 0, none⟩ = some (.pointer (some ⟨m, 0, none⟩)) ∧ W.cell? ⟨m, 0, none⟩ = some (.pointer (some ⟨p, 0, none⟩)) ∧ W.cell? ⟨bx, 4, none⟩ = some (.slice q1 k1 c1) ∧ W.cell? ⟨bz, 4, none⟩ = some (.slice q2 k2 c2))) (by kernel_rfl) (HS3.out _ xz3) (fun hHeld => ?_)
  refine tk 0 (.pointer (some ⟨m, 0, none⟩)) ?_
  try simp only [tkN]
  refine tk 1 (.pointer (some ⟨m, 0, none⟩)) ?_
  try simp only [tkN]
  refine tk 2 (.pointer (some ⟨m, 0, none⟩)) ?_
  try simp only [tkN]
  refine tk 3 (.pointer (some ⟨p, 0, none⟩)) ?_
  try simp only [tkN]
  refine tk 5 (.pointer (some ⟨bx, 4, none⟩)) ?_
  try simp only [tkN]
  refine tk 6 (.slice q1 k1 c1) ?_
  try simp only [tkN]
  refine tk 8 (.pointer (some ⟨bz, 4, none⟩)) ?_
  try simp only [tkN]
  refine tk 9 (.slice q2 k2 c2) ?_
  try simp only [tkN]
  refine tk1 4 rfl (AllReadyH.cons rfl (fun K hK => ?_) AllReadyH.nil)
  go_simp
  obtain ⟨y1, hy1⟩ : ∃ W : World, (wc.alloc (.cells #[] 78)).drew = W := ⟨_, rfl⟩
  have x1 : Ext wc y1 := hy1 ▸ (Ext.alloc _ _).andDrew
  have own1 : y1.ownsRow wc.heap.size 78 1 (.slice (some ⟨wc.heap.size, 0, none⟩) 0 0) 0 [] := by rw [← hy1]; exact owns_ext (owns_empty wc) (Ext.drew _)
  try rw [hy1]
  refine hK.out _ _ (HS3.out _ x1) (fun hHA => ?_)
  clear hK K
  try simp only [tkN]
  refine tk1 7 rfl (AllReadyH.cons rfl (fun K hK => ?_) AllReadyH.nil)
  refine step_append_E elemR rfl _ _ rfl wc.heap.size (.slice (some ⟨wc.heap.size, 0, none⟩) 0 0) 0 [] rfl own1 q1 k1 c1 vs1 rfl (by rw [HV1.out.1.1, ← HKX.out.1]; omega) (news_at HV1.out.2 HKX.out.1 HV1.out.1.1 x1) HV1.out.1.one (by omega) (by omega) x1.size ?_
  intro v2 y2 o2 ga2 t2
  have x2 : Ext wc y2 := x1.grownV ga2 (fun i hi => (owns_lt own1 i hi).1)
  refine hK.out _ _ (HS3.out _ x2) (fun hHB => ?_)
  clear hK K
  try simp only [tkN]
  refine tk1 10 rfl (AllReadyH.cons rfl (fun K hK => ?_) AllReadyH.nil)
  refine step_append_E elemR rfl _ _ rfl wc.heap.size v2 (0 + k1) ([] ++ vs1) rfl o2 q2 k2 c2 vs2 rfl (by rw [HV2.out.1.1, ← HKX.out.2]; omega) (news_at HV2.out.2 HKX.out.2 HV2.out.1.1 x2) HV2.out.1.one (by omega) (by omega) x2.size ?_
  intro v3 y3 o3 ga3 t3
  have x3 : Ext wc y3 := x2.grownV ga3 (fun i hi => (owns_lt o2 i hi).1)
  refine hK.out _ _ (HS3.out _ x3) (fun hHC => ?_)
  clear hK K
  have hrows : RowsOn AnyB y3 (x.leaf ++ y.leaf) v3 := by
   refine RowsOn.of_owns (base := wc.heap.size) (vs := vs1 ++ vs2) ?_ ((HV1.out.1.ext x3).app (HV2.out.1.ext x3)) (fun _ _ => trivial)
   have e : (x.leaf ++ y.leaf).length = 0 + k1 + k2 := by rw [List.length_append, ← HKX.out.1, ← HKX.out.2]; omega
   rw [e]
   simpa using o3
  have HLF := Hd (leafS_any p L (x.leaf ++ y.leaf) v3 y3 (HMC.out.ext x3).st hrows (by rw [List.length_append]; have := HLX.out.1; have := HLY.out.1; omega) (fun r hr => by
   rcases List.mem_append.1 hr with hr | hr
   ·have := HLX.out.2 r hr; omega
   ·have := HLY.out.2 r hr; omega) (HMC.out.ext x3).tab)
  obtain ⟨T, hT⟩ : ∃ T, T = leafP L (x.leaf ++ y.leaf) := ⟨_, rfl⟩
  have HTR := Hd (show leafR L (x.leaf ++ y.leaf) = ((T.1.2, T.1.1.toNat), T.2) from by rw [hT]; rfl)
  have HTN := Hd (show T.1.2 = 0 → T.1.1 = ((T.1.1.toNat : Nat) : Int) from fun h5 => by rw [hT] at h5 ⊢; exact leafP_nn h5)
  rw [← hT] at HLF
  clear hT
  try simp only [tkN]
  refine tk1 11 rfl (AllReadyH.cons rfl (fun K hK => ?_) AllReadyH.nil)
  go_simp
  go_at_call 64
  refine (HLF.out).mono ?_
  rintro e w11 ⟨rfl, F3, hto⟩
  have htf := leafR_fine h.inv (x.leaf ++ y.leaf)
  rw [HTR.out] at htf
  have hM11 : Mk F3 w11 p m mt T.2 D := (HMC.out.ext x3).op hto htf.pre htf.inv
  have hw11 : Went F mt w F3 w11 := (Went.ofExt (hxc.out.trans x3)).trans (Went.op hto)
  refine hK.out _ _ (hS3K.out F3 y3 w11 x3 hto.kp) (fun hHD => ?_)
  clear hK K
  try simp only [tkN]
  refine tk 12 (.int .i64 T.1.1) ?_
  try simp only [tkN]
  refine tk 13 (.int .i64 T.1.2) ?_
  try simp only [tkN]
  refine tk1 14 rfl (AllReadyH.cons rfl (fun K hK => ?_) AllReadyH.nil)
  go_simp
  go_at_call 79
  refine (dmust_any T.1.1 T.1.2 w11).mono ?_
  rintro e w12 ⟨he, rfl⟩
  by_cases r3 : T.1.2 = 0
  case neg =>
   rw [endD_no r3] at he
   subst he
   have HFIN := Hd (show MPost F w p m mt (unionP (k + 1) L a b) (.panicked (stopC T.1.2)) w11 from by
    rw [HUL.out, HTR.out]
    exact ⟨(endD_no r3 _).symm, F3, D, hM11, hw11.1, hw11.2⟩)
   go_wp2_with fail
   exact ⟨rfl, HFIN.out⟩
  rw [r3, endD_ok] at he
  subst he
  refine hK.out _ _ (hS3K.out F3 y3 w11 x3 hto.kp) (fun hHE => ?_)
  clear hK K
  try simp only [tkN]
  refine tk 15 (.int .i64 T.1.1) ?_
  try simp only [tkN]
  refine wpAnyH_done (by kernel_rfl) ?_ _
  have HFIN := Hd (show MPost F w p m mt (unionP (k + 1) L a b) (.returned (.int .i64 T.1.1)) w11 from by
   rw [HUL.out, HTR.out]
   refine ⟨?_, F3, D, hM11, hw11.1, hw11.2⟩
   show _ = endD T.1.2 (.int .i64 (T.1.1.toNat : Nat))
   rw [r3, endD_ok, ← HTN.out r3])
  go_wp2_with fail
  go_ret
  exact HFIN.out
end Go.Proofs.YtjjbdbklbghlhaaGreatDoor
