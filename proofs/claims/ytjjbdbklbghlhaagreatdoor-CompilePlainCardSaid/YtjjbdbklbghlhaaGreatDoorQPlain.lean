/- law 12's Heads. -/
import Derived.Test.YtjjbdbklbghlhaaGreatDoorMN
import Derived.Test.YtjjbdbklbghlhaaGreatDoorMU
import Derived.Test.YtjjbdbklbghlhaaGreatDoorMQ
import Derived.Test.YtjjbdbklbghlhaaGreatDoorMO
import Derived.Test.YtjjbdbklbghlhaaGreatDoorMB
import Derived.Test.YtjjbdbklbghlhaaGreatDoorMG
import Derived.Test.YtjjbdbklbghlhaaGreatDoorMA
import Derived.Test.YtjjbdbklbghlhaaGreatDoorMR
import Derived.Test.YtjjbdbklbghlhaaGreatDoorMV
import Derived.Test.YtjjbdbklbghlhaaGreatDoorMD
import Derived.Carry
import Derived.Test.YtjjbdbklbghlhaaGreatDoorCards
import Derived.Test.YtjjbdbklbghlhaaGreatDoorTie
import Derived.SevenTiedAt
namespace Go.Proofs.YtjjbdbklbghlhaaGreatDoor
open Go.RowKit Go.Maps
set_option linter.unusedSimpArgs false

set_option maxRecDepth 100000 in
set_option maxHeartbeats 2000000 in
theorem heads_any (l m : List Hdr) (u v : Value) (lo lo' : Nat) (w : World) (hu : HSl w lo l u) (hv : HSl w lo' m v) (h64 : l.length ≤ 65600) :
  Calls Tryz.prog 18 #[u, v] w fun e w' => e = .returned (.bool (decide (l = m))) ∧ Ext w w' := by
 obtain ⟨p, len, cap, rfl, hlen, hl⟩ := hu
 obtain ⟨p', len', cap', rfl, hlen', hm⟩ := hv
 have HL := Hd hlen
 have HL' := Hd hlen'
 clear hlen hlen'
 have hlen64 : len ≤ 65600 := by have := HL.out; omega
 by_cases hn : len = len'
 ·subst hn
  have hd : ((len : Int) != len) = false := by simp
  go_enter Tryz.func18, Tryz.ntmps18
  go_wp2_with fail
  go_loopw [5] (fun i wr => ∃ (j n : Nat), j ≤ len ∧ i = .int .i64 j ∧ Hid (decide (l = m) = decide (l.drop j = m.drop j)) ∧ wr = w.drewN n) (fun i _ => len - (intOf i).toNat)
  case atStart => exact ⟨0, 0, Nat.zero_le _, rfl, rfl, rfl⟩
  case round =>
   obtain ⟨j, n, hj, rfl, hR, rfl⟩ := hrel
   by_cases hlt : j < len
   ·have hjl : j < l.length := by rw [← HL.out]; exact hlt
    have hjm : j < m.length := by rw [← HL'.out]; exact hlt
    rcases hl with hl | ⟨b, o, rfl, -, hr⟩
    ·exfalso; subst hl; simp at hjl
    rcases hm with hm | ⟨b', o', rfl, -, hr'⟩
    ·exfalso; subst hm; simp at hjm
    have hrj := rangeAt_get Hdr.len_cs hr j hjl
    have hrj' := rangeAt_get Hdr.len_cs hr' j hjm
    have p0 : w.cell? ⟨b, o + j * 11, none⟩ = some (.int .u64 ((l[j]).f 0)) := cellAt hrj 0 (by omega)
    have p1 : w.cell? ⟨b, o + j * 11 + 1, none⟩ = some (.int .u64 ((l[j]).f 1)) := cellAt hrj 1 (by omega)
    have p2 : w.cell? ⟨b, o + j * 11 + 2, none⟩ = some (.int .u64 ((l[j]).f 2)) := cellAt hrj 2 (by omega)
    have p3 : w.cell? ⟨b, o + j * 11 + 3, none⟩ = some (.int .u64 ((l[j]).f 3)) := cellAt hrj 3 (by omega)
    have p4 : w.cell? ⟨b, o + j * 11 + 4, none⟩ = some (.int .u64 ((l[j]).f 4)) := cellAt hrj 4 (by omega)
    have p5 : w.cell? ⟨b, o + j * 11 + 5, none⟩ = some (.int .u64 ((l[j]).f 5)) := cellAt hrj 5 (by omega)
    have p6 : w.cell? ⟨b, o + j * 11 + 6, none⟩ = some (.int .u64 ((l[j]).f 6)) := cellAt hrj 6 (by omega)
    have p7 : w.cell? ⟨b, o + j * 11 + 7, none⟩ = some (.int .u64 ((l[j]).f 7)) := cellAt hrj 7 (by omega)
    have p8 : w.cell? ⟨b, o + j * 11 + 8, none⟩ = some (.int .u64 ((l[j]).f 8)) := cellAt hrj 8 (by omega)
    have p9 : w.cell? ⟨b, o + j * 11 + 9, none⟩ = some (.int .u64 ((l[j]).f 9)) := cellAt hrj 9 (by omega)
    have p10 : w.cell? ⟨b, o + j * 11 + 10, none⟩ = some (.int .u64 ((l[j]).f 10)) := cellAt hrj 10 (by omega)
    have q0 : w.cell? ⟨b', o' + j * 11, none⟩ = some (.int .u64 ((m[j]).f 0)) := cellAt hrj' 0 (by omega)
    have q1 : w.cell? ⟨b', o' + j * 11 + 1, none⟩ = some (.int .u64 ((m[j]).f 1)) := cellAt hrj' 1 (by omega)
    have q2 : w.cell? ⟨b', o' + j * 11 + 2, none⟩ = some (.int .u64 ((m[j]).f 2)) := cellAt hrj' 2 (by omega)
    have q3 : w.cell? ⟨b', o' + j * 11 + 3, none⟩ = some (.int .u64 ((m[j]).f 3)) := cellAt hrj' 3 (by omega)
    have q4 : w.cell? ⟨b', o' + j * 11 + 4, none⟩ = some (.int .u64 ((m[j]).f 4)) := cellAt hrj' 4 (by omega)
    have q5 : w.cell? ⟨b', o' + j * 11 + 5, none⟩ = some (.int .u64 ((m[j]).f 5)) := cellAt hrj' 5 (by omega)
    have q6 : w.cell? ⟨b', o' + j * 11 + 6, none⟩ = some (.int .u64 ((m[j]).f 6)) := cellAt hrj' 6 (by omega)
    have q7 : w.cell? ⟨b', o' + j * 11 + 7, none⟩ = some (.int .u64 ((m[j]).f 7)) := cellAt hrj' 7 (by omega)
    have q8 : w.cell? ⟨b', o' + j * 11 + 8, none⟩ = some (.int .u64 ((m[j]).f 8)) := cellAt hrj' 8 (by omega)
    have q9 : w.cell? ⟨b', o' + j * 11 + 9, none⟩ = some (.int .u64 ((m[j]).f 9)) := cellAt hrj' 9 (by omega)
    have q10 : w.cell? ⟨b', o' + j * 11 + 10, none⟩ = some (.int .u64 ((m[j]).f 10)) := cellAt hrj' 10 (by omega)
    have hg := guardH
    have HE := Hd (show decide (l = m) = if l[j] = m[j] then decide (l.drop (j + 1) = m.drop (j + 1)) else false from by
     rw [hR.out, drop_get hjl, drop_get hjm]
     rw [Bool.eq_iff_iff]
     by_cases h : l[j] = m[j]
     ·rw [if_pos h, decide_eq_true_iff, decide_eq_true_iff, List.cons.injEq]; exact ⟨fun a => a.2, fun a => ⟨h, a⟩⟩
     ·rw [if_neg h, decide_eq_true_iff, List.cons.injEq]; exact ⟨fun a => absurd a.1 h, fun a => by cases a⟩)
    have he := eqH (l[j]) (m[j])
    simp only [Hdr.cs_eq] at he
    generalize l[j] = x at *
    generalize m[j] = y at *
    by_cases hxy : x = y
    ·have HF := Hd (HE.out.trans (if_pos hxy))
     rw [show decide (x = y) = true from by simpa using hxy] at he
     clear hxy HE
     go_wp2_with fail
     go_quiet (fail)
     go_wp2_with fail
     go_roundw
     case rel => exact ⟨j + 1, _, by omega, by go_num, HF.out, rfl⟩
     case measure => simp [intOf]; omega
    ·have HF := Hd (HE.out.trans (if_neg hxy))
     rw [show decide (x = y) = false from by simpa using hxy] at he
     clear hxy HE
     go_wp2_with fail
     go_quiet (fail)
     go_wp2_with fail
     go_ret
     exact ⟨by rw [HF.out]; rfl, (Ext.drewN _ _).andDrewN _⟩
   ·have HF := Hd (show decide (l = m) = true from by
     rw [hR.out, List.drop_of_length_le (by have := HL.out; omega), List.drop_of_length_le (by have := HL'.out; omega)]; rfl)
    go_wp2_with fail
    go_ret
    exact ⟨by rw [HF.out]; rfl, Ext.drewN _ _⟩
 ·have HF := Hd (show decide (l = m) = false from by
   simp only [decide_eq_false_iff_not]
   rintro rfl
   exact hn (HL.out.trans HL'.out.symm))
  have hd : ((len : Int) != len') = true := by simp; omega
  go_enter Tryz.func18, Tryz.ntmps18
  go_wp2_with fail
  go_ret
  exact ⟨by rw [HF.out]; rfl, Ext.refl _⟩

end Go.Proofs.YtjjbdbklbghlhaaGreatDoor
/- A choice in plain words. -/
namespace Go.Proofs.YtjjbdbklbghlhaaGreatDoor
open Go.RowKit Go.Sort Go.Maps Go.Lib
set_option linter.unusedSimpArgs false

end Go.Proofs.YtjjbdbklbghlhaaGreatDoor
/- What a store keeps, in plain words; its memory. -/
namespace Go.Proofs.YtjjbdbklbghlhaaGreatDoor
open Go.RowKit Go.Sort Go.Maps Go.Lib
set_option linter.unusedSimpArgs false

/-- what Of told is a node -/
theorem ofS_zero {L : List NdD} {t : Tm} (h : (ofS L t).1.2 = 0) : wrongT t = 0 ∧ (termC t L).1.1 = 0 ∧ ofS L t = ((((termC t L).1.2 : Int), 0), (termC t L).2) := by
 unfold ofS at *
 by_cases hw : wrongT t = 0
 ·rw [if_neg (by omega)] at h ⊢
  unfold outD at *
  dsimp only at h
  refine ⟨hw, h, ?_⟩
  rw [if_pos h, h]
 ·rw [if_pos hw] at h
  exact absurd h hw
theorem runH_at {L : List NdD} {a : Nat} {h : Hdr} (ha : a < L.length) : runH L (a : Int) h = (0, runsN L a h) := by
 unfold runH
 rw [getP_inC ha, if_pos rfl, Int.toNat_natCast]
 rfl
/-- what a slice of nodes holds of them -/
def WasOf (L : List NdD) (I : Nat) (xs : List Value) : Prop := xs.length = I * 5 ∧ ∀ i, i < I → xs[i * 5]? = some (.int .i8 (nodeP L i).f) ∧ xs[i * 5 + 1]? = some (.int .u64 (nodeP L i).n) ∧ xs[i * 5 + 2]? = some (.int .i64 (nodeP L i).hi) ∧ xs[i * 5 + 3]? = some (.int .i64 (nodeP L i).lo) ∧ ∃ q c, xs[i * 5 + 4]? = some (.slice q (nodeP L i).leaf.length c)
theorem WasOf.snoc {L : List NdD} {I : Nat} {xs : List Value} (h : WasOf L I xs) (q : Option Addr) (c : Nat) : WasOf L (I + 1) (xs ++ [.int .i8 (nodeP L I).f, .int .u64 (nodeP L I).n, .int .i64 (nodeP L I).hi, .int .i64 (nodeP L I).lo, .slice q (nodeP L I).leaf.length c]) := by
 obtain ⟨h1, h2⟩ := h
 refine ⟨by rw [List.length_append, h1]; simp only [List.length_cons, List.length_nil]; omega, fun i hi => ?_⟩
 by_cases he : i < I
 ·obtain ⟨a, b, c', d, e⟩ := h2 i he
  rw [List.getElem?_append_left (by omega), List.getElem?_append_left (by omega), List.getElem?_append_left (by omega), List.getElem?_append_left (by omega), List.getElem?_append_left (by omega)]
  exact ⟨a, b, c', d, e⟩
 ·obtain rfl : i = I := by omega
  rw [List.getElem?_append_right (by omega), List.getElem?_append_right (by omega), List.getElem?_append_right (by omega), List.getElem?_append_right (by omega), List.getElem?_append_right (by omega), h1]
  simp
/-- headers that lie beside a slice that grows -/
def HSlx (w : World) (lo : Nat) (u : Value) (l : List Hdr) (v : Value) : Prop := ∃ p len cap, v = .slice p len cap ∧ len = l.length ∧ (l = [] ∨ ∃ b o, p = some ⟨b, o, none⟩ ∧ (lo ≤ b ∧ b < w.heap.size ∧ u.ownBlock ≠ some b) ∧ w.rangeAt b o (flatH l))
theorem HSlx.hsl {w : World} {lo : Nat} {u : Value} {l : List Hdr} {v : Value} (h : HSlx w lo u l v) : HSl w lo l v := by
 obtain ⟨p, len, cap, h1, h2, h3⟩ := h
 exact ⟨p, len, cap, h1, h2, h3.imp id fun ⟨b, o, hp, hb, hr⟩ => ⟨b, o, hp, hb.1, hr⟩⟩
theorem HSlx.of {w : World} {lo lo' : Nat} {u : Value} {l : List Hdr} {v : Value} (h : HSl w lo' l v) (hl : lo ≤ lo') (hu : ∀ g, u.ownBlock = some g → g < lo') : HSlx w lo u l v := by
 obtain ⟨p, len, cap, h1, h2, h3⟩ := h
 refine ⟨p, len, cap, h1, h2, ?_⟩
 rcases h3 with h3 | ⟨b, o, hp, hb, hr⟩
 ·exact .inl h3
 ·by_cases hl0 : l = []
  ·exact .inl hl0
  ·right
   refine ⟨b, o, hp, ⟨by omega, ?_, fun e => by have := hu b e; omega⟩, hr⟩
   have hpos : 0 < (flatH l).length := by
    rw [flatH_len]
    have := List.length_pos_iff.2 hl0
    omega
   exact World.block_lt_of_cell? w _ (hr 0 _ (List.getElem?_eq_getElem hpos))
theorem HSlx.ext {w w' : World} {lo : Nat} {u : Value} {l : List Hdr} {v : Value} (h : HSlx w lo u l v) (hx : Ext w w') : HSlx w' lo u l v := by
 obtain ⟨p, len, cap, h1, h2, h3⟩ := h
 exact ⟨p, len, cap, h1, h2, h3.imp id fun ⟨b, o, hp, hb, hr⟩ => ⟨b, o, hp, ⟨hb.1, Nat.lt_of_lt_of_le hb.2.1 hx.size, hb.2.2⟩, World.rangeAt.later hx.later hr⟩⟩
theorem HSlx.app {w w' : World} {lo : Nat} {u u' : Value} {l : List Hdr} {v : Value} (h : HSlx w lo u l v) (hg : w.grownBy w' u.ownBlock) (ht : u'.ownBlock = u.ownBlock ∨ u'.ownBlock = some w.heap.size) : HSlx w' lo u' l v := by
 obtain ⟨p, len, cap, h1, h2, h3⟩ := h
 refine ⟨p, len, cap, h1, h2, h3.imp id fun ⟨b, o, hp, hb, hr⟩ => ⟨b, o, hp, ⟨hb.1, Nat.lt_of_lt_of_le hb.2.1 hg.size, ?_⟩, fun j v hv => ?_⟩⟩
 ·rcases ht with e | e
  ·rw [e]; exact hb.2.2
  ·rw [e]
   intro e2
   injection e2 with e2
   omega
 ·rw [World.cell?_of_block (a := ⟨b, o + j, none⟩) (hg.block b hb.2.1 (fun e => hb.2.2 e.symm))]
  exact hr j v hv
theorem HSlx.keep {S : Nat → Prop} {w w' : World} {lo : Nat} {u : Value} {l : List Hdr} {v : Value} (h : HSlx w lo u l v) (hk : Keep S w w') (hs : ∀ b, lo ≤ b → ¬ S b) : HSlx w' lo u l v := by
 obtain ⟨p, len, cap, h1, h2, h3⟩ := h
 exact ⟨p, len, cap, h1, h2, h3.imp id fun ⟨b, o, hp, hb, hr⟩ => ⟨b, o, hp, ⟨hb.1, Nat.lt_of_lt_of_le hb.2.1 hk.size, hb.2.2⟩, hk.range hr (hs b hb.1)⟩⟩
/-- what was made, header by header -/
def MadeOf (w : World) (lo : Nat) (u : Value) (L : List NdD) (a : Nat) (l : List Hdr) (I : Nat) (vs : List Value) : Prop := vs.length = I ∧ ∀ k (_h1 : k < I) (h2 : k < l.length) (h3 : k < vs.length), HSlx w lo u (runsN L a l[k]) vs[k]
theorem MadeOf.ext {w w' : World} {lo : Nat} {u : Value} {L : List NdD} {a : Nat} {l : List Hdr} {I : Nat} {vs : List Value} (h : MadeOf w lo u L a l I vs) (hx : Ext w w') : MadeOf w' lo u L a l I vs := ⟨h.1, fun k h1 h2 h3 => (h.2 k h1 h2 h3).ext hx⟩
theorem MadeOf.keep {S : Nat → Prop} {w w' : World} {lo : Nat} {u : Value} {L : List NdD} {a : Nat} {l : List Hdr} {I : Nat} {vs : List Value} (h : MadeOf w lo u L a l I vs) (hk : Keep S w w') (hs : ∀ b, lo ≤ b → ¬ S b) : MadeOf w' lo u L a l I vs := ⟨h.1, fun k h1 h2 h3 => (h.2 k h1 h2 h3).keep hk hs⟩
theorem MadeOf.app {w w' : World} {lo : Nat} {u u' : Value} {L : List NdD} {a : Nat} {l : List Hdr} {I : Nat} {vs : List Value} (h : MadeOf w lo u L a l I vs) (hg : w.grownBy w' u.ownBlock) (ht : u'.ownBlock = u.ownBlock ∨ u'.ownBlock = some w.heap.size) : MadeOf w' lo u' L a l I vs := ⟨h.1, fun k h1 h2 h3 => (h.2 k h1 h2 h3).app hg ht⟩
theorem MadeOf.snoc {w : World} {lo : Nat} {u : Value} {L : List NdD} {a : Nat} {l : List Hdr} {I : Nat} {vs : List Value} (h : MadeOf w lo u L a l I vs) (hI : I < l.length) {v : Value} (hv : HSlx w lo u (runsN L a l[I]) v) : MadeOf w lo u L a l (I + 1) (vs ++ [v]) := by
 refine ⟨by rw [List.length_append, h.1]; rfl, fun k h1 h2 h3 => ?_⟩
 by_cases hk : k < I
 ·rw [List.getElem_append_left (by rw [h.1]; exact hk)]
  exact h.2 k hk h2 _
 ·obtain rfl : k = I := by omega
  rw [List.getElem_append_right (by rw [h.1]; exact Nat.le_refl _)]
  simpa [h.1] using hv
end Go.Proofs.YtjjbdbklbghlhaaGreatDoor
/- policy.Plain in plain words: a plain form is right, and means the same. -/
namespace Go.Proofs.YtjjbdbklbghlhaaGreatDoor
open Go.RowKit Go.Sort Go.Maps Go.Lib
set_option linter.unusedSimpArgs false

def Tm.headOp : List Tm → Int
 | [] => -7
 | k :: _ => k.op
/-- is a part an Op alone, or a Filter of it? -/
def Tm.says (t : Tm) (op : Int) : Bool := decide (t.op = op) || (decide (t.op = 6) && decide (Tm.headOp t.kids = op))
def gatheredT (op : Int) : List Tm → List Tm
 | [] => []
 | t :: ts => (if t.op = op then t.kids else [t]) ++ gatheredT op ts
def bareT (op : Int) : Tm := .mk op 0 0 []
def aloneT (pol : Bool) (op : Int) : Tm := if pol then .mk 6 0 0 [bareT op] else bareT op
def leftT (op : Int) (pol : Bool) (nothing : Int) : List Tm → Tm
 | [] => aloneT pol nothing
 | [k] => k
 | k :: k' :: l => .mk op 0 0 (k :: k' :: l)
def rowPT (op : Int) (ks : List Tm) (nothing all : Int) (pol : Bool) : Tm :=
 if 0 ≤ all ∧ (gatheredT op ks).any (fun k => k.says all) = true then aloneT pol all else leftT op pol nothing ((gatheredT op ks).filter fun k => !k.says nothing)
def headT : List Tm → Tm
 | [] => .mk 0 0 0 []
 | k :: _ => k
def oneT (op : Int) (k : Tm) : Tm :=
 if op = 3 ∧ k.op = 3 then headT k.kids else if op = 3 ∧ k.op ≤ 1 then bareT (1 - k.op) else if op = 10 ∧ k.op = 10 then k else if op = 10 ∧ k.op = 6 then aloneT true 1 else .mk op 0 0 [k]
mutual
/-- a term made plain -/
def plainT : Tm → Tm
 | .mk op f n ks =>
  if op = 4 then rowPT 4 (plainAll ks) 1 0 false else if op = 5 then rowPT 5 (plainAll ks) 0 1 false else if op = 8 then rowPT 8 (plainAll ks) 0 (-1) true else if op = 9 then rowPT 9 (plainAll ks) 1 0 true
  else if op = 3 ∨ op = 6 ∨ op = 10 then oneT op (headT (plainAll ks)) else .mk op f n []
def plainAll : List Tm → List Tm
 | [] => []
 | t :: ts => plainT t :: plainAll ts
end

/-- what a predicate (as its filter) or a policy means -/
def SmT (p : Bool) (t : Tm) (x y : Hdr) : Prop := if p then t.holds x = true ∧ y = x else t.den x y
def SmThen (p : Bool) : List Tm → Hdr → Hdr → Prop
 | [], x, y => y = x
 | t :: ts, x, y => ∃ z, SmT p t x z ∧ SmThen p ts z y
def SmAny (p : Bool) : List Tm → Hdr → Hdr → Prop
 | [], _, _ => False
 | t :: ts, x, y => SmT p t x y ∨ SmAny p ts x y
theorem SmT_pred {t : Tm} {x y : Hdr} : SmT true t x y ↔ t.holds x = true ∧ y = x := Iff.rfl
theorem SmT_pol {t : Tm} {x y : Hdr} : SmT false t x y ↔ t.den x y := Iff.rfl
theorem SmThen_true : ∀ {ks : List Tm} {x y : Hdr}, SmThen true ks x y ↔ Tm.holdsAll ks x = true ∧ y = x
 | [], x, y => by simp [SmThen, Tm.holdsAll]
 | t :: ts, x, y => by
  simp only [SmThen, SmT_pred, Tm.holdsAll, Bool.and_eq_true]
  constructor
  ·rintro ⟨z, ⟨h1, rfl⟩, h2⟩
   have := SmThen_true.1 h2
   exact ⟨⟨h1, this.1⟩, this.2⟩
  ·rintro ⟨⟨h1, h2⟩, rfl⟩
   exact ⟨_, ⟨h1, rfl⟩, SmThen_true.2 ⟨h2, rfl⟩⟩
theorem SmThen_false : ∀ {ks : List Tm} {x y : Hdr}, SmThen false ks x y ↔ Tm.denThen ks x y
 | [], x, y => by simp [SmThen, Tm.denThen]
 | t :: ts, x, y => by
  simp only [SmThen, SmT_pol, Tm.denThen]
  constructor
  ·rintro ⟨z, h1, h2⟩; exact ⟨z, h1, SmThen_false.1 h2⟩
  ·rintro ⟨z, h1, h2⟩; exact ⟨z, h1, SmThen_false.2 h2⟩
theorem SmAny_true : ∀ {ks : List Tm} {x y : Hdr}, SmAny true ks x y ↔ Tm.holdsAny ks x = true ∧ y = x
 | [], x, y => by simp [SmAny, Tm.holdsAny]
 | t :: ts, x, y => by
  simp only [SmAny, SmT_pred, Tm.holdsAny, Bool.or_eq_true, SmAny_true]
  constructor
  ·rintro (h | h)
   ·exact ⟨.inl h.1, h.2⟩
   ·exact ⟨.inr h.1, h.2⟩
  ·rintro ⟨h | h, rfl⟩
   ·exact .inl ⟨h, rfl⟩
   ·exact .inr ⟨h, rfl⟩
theorem SmAny_false : ∀ {ks : List Tm} {x y : Hdr}, SmAny false ks x y ↔ Tm.denAny ks x y
 | [], x, y => by simp [SmAny, Tm.denAny]
 | t :: ts, x, y => by simp only [SmAny, SmT_pol, Tm.denAny, SmAny_false]

/-- the Op of a sequence, of a choice: of predicates, of policies -/
def thenOp (p : Bool) : Int := if p then 4 else 9
def anyOp (p : Bool) : Int := if p then 5 else 8
theorem SmT_then {p : Bool} {f n : Int} {ks : List Tm} {x y : Hdr} : SmT p (.mk (thenOp p) f n ks) x y ↔ SmThen p ks x y := by
 cases p
 ·rw [SmThen_false, SmT_pol, thenOp, Tm.den]; simp
 ·rw [SmThen_true, SmT_pred, thenOp, Tm.holds]; simp
theorem SmT_any {p : Bool} {f n : Int} {ks : List Tm} {x y : Hdr} : SmT p (.mk (anyOp p) f n ks) x y ↔ SmAny p ks x y := by
 cases p
 ·rw [SmAny_false, SmT_pol, anyOp, Tm.den]; simp
 ·rw [SmAny_true, SmT_pred, anyOp, Tm.holds]; simp
theorem SmT_filter {f n : Int} {ks : List Tm} {x y : Hdr} : SmT false (.mk 6 f n ks) x y ↔ Tm.holdsHead ks x = true ∧ y = x := by rw [SmT_pol, Tm.den]; simp
theorem SmT_star {f n : Int} {ks : List Tm} {x y : Hdr} : SmT false (.mk 10 f n ks) x y ↔ Tm.denStar ks x y := by rw [SmT_pol, Tm.den]; simp
theorem SmThen_app {p : Bool} : ∀ {a b : List Tm} {x y : Hdr}, SmThen p (a ++ b) x y ↔ ∃ z, SmThen p a x z ∧ SmThen p b z y
 | [], b, x, y => by simp [SmThen]
 | t :: ts, b, x, y => by
  simp only [List.cons_append, SmThen, SmThen_app]
  constructor
  ·rintro ⟨z, h1, u, h2, h3⟩; exact ⟨u, ⟨z, h1, h2⟩, h3⟩
  ·rintro ⟨u, ⟨z, h1, h2⟩, h3⟩; exact ⟨z, h1, u, h2, h3⟩
theorem SmAny_app {p : Bool} : ∀ {a b : List Tm} {x y : Hdr}, SmAny p (a ++ b) x y ↔ SmAny p a x y ∨ SmAny p b x y
 | [], b, x, y => by simp [SmAny]
 | t :: ts, b, x, y => by simp only [List.cons_append, SmAny, SmAny_app, or_assoc]
theorem SmThen_one {p : Bool} {t : Tm} {x y : Hdr} : SmThen p [t] x y ↔ SmT p t x y := by
 simp only [SmThen]
 constructor
 ·rintro ⟨z, h1, rfl⟩; exact h1
 ·intro h; exact ⟨y, h, rfl⟩
theorem SmAny_one {p : Bool} {t : Tm} {x y : Hdr} : SmAny p [t] x y ↔ SmT p t x y := by simp [SmAny]

theorem gathered_then {p : Bool} : ∀ {ks : List Tm} {x y : Hdr}, SmThen p (gatheredT (thenOp p) ks) x y ↔ SmThen p ks x y
 | [], x, y => by simp [gatheredT]
 | .mk op f n l :: ts, x, y => by
  rw [gatheredT, SmThen_app]
  simp only [SmThen]
  have h : ∀ z, SmThen p (if (Tm.mk op f n l).op = thenOp p then (Tm.mk op f n l).kids else [Tm.mk op f n l]) x z ↔ SmT p (.mk op f n l) x z := fun z => by
   split
   ·rename_i h
    rw [show op = thenOp p from h, SmT_then]
    rfl
   ·exact SmThen_one
  constructor
  ·rintro ⟨z, h1, h2⟩; exact ⟨z, (h z).1 h1, gathered_then.1 h2⟩
  ·rintro ⟨z, h1, h2⟩; exact ⟨z, (h z).2 h1, gathered_then.2 h2⟩
theorem gathered_any {p : Bool} : ∀ {ks : List Tm} {x y : Hdr}, SmAny p (gatheredT (anyOp p) ks) x y ↔ SmAny p ks x y
 | [], x, y => by simp [gatheredT]
 | .mk op f n l :: ts, x, y => by
  rw [gatheredT, SmAny_app]
  simp only [SmAny]
  rw [gathered_any]
  refine or_congr ?_ Iff.rfl
  split
  ·rename_i h
   rw [show op = anyOp p from h, SmT_any]
   rfl
  ·exact SmAny_one

/-- which Ops are right -/
theorem right_op {p : Bool} {t : Tm} (h : t.right p = true) : (p = true ∧ 0 ≤ t.op ∧ t.op ≤ 5) ∨ (p = false ∧ 6 ≤ t.op ∧ t.op ≤ 10) := by
 cases t with
 | mk op f n ks =>
  show (p = true ∧ 0 ≤ op ∧ op ≤ 5) ∨ (p = false ∧ 6 ≤ op ∧ op ≤ 10)
  cases p
  ·right
   rcases Tm.right_pol h with ⟨h, -⟩ | ⟨h, -⟩ | ⟨h, -⟩ | ⟨h, -⟩ <;> exact ⟨rfl, by omega, by omega⟩
  ·left
   rcases Tm.right_pred h with h | ⟨h, -⟩ | ⟨h, -⟩ <;> exact ⟨rfl, by omega, by omega⟩
theorem rightAll_mem {p : Bool} : ∀ {ks : List Tm}, Tm.rightAll ks p = true ↔ ∀ k ∈ ks, k.right p = true
 | [] => by simp [Tm.rightAll]
 | t :: ts => by simp [Tm.rightAll, Bool.and_eq_true, rightAll_mem]
theorem says_sem {p : Bool} {t : Tm} (h : t.right p = true) : (t.says 0 = true → ∀ x y, ¬ SmT p t x y) ∧ (t.says 1 = true → ∀ x y, SmT p t x y ↔ y = x) := by
 have ho := right_op h
 cases t with
 | mk op f n ks =>
  have ho : (p = true ∧ 0 ≤ op ∧ op ≤ 5) ∨ (p = false ∧ 6 ≤ op ∧ op ≤ 10) := ho
  have hs : ∀ m, (Tm.mk op f n ks).says m = true → op = m ∨ (op = 6 ∧ Tm.headOp ks = m) := fun m hm => by
   simp only [Tm.says, Tm.op, Tm.kids, Bool.or_eq_true, Bool.and_eq_true] at hm
   exact hm.imp of_decide_eq_true fun h => ⟨of_decide_eq_true h.1, of_decide_eq_true h.2⟩
  constructor
  ·intro h0 x y
   rcases hs 0 h0 with rfl | ⟨rfl, h1⟩
   ·rcases ho with ⟨rfl, -⟩ | ⟨-, h2, -⟩
    ·rw [SmT_pred]; simp [Tm.holds]
    ·omega
   ·rcases ho with ⟨-, h2⟩ | ⟨rfl, -⟩
    ·omega
    ·rw [SmT_filter]
     cases ks with
     | nil => simp [Tm.headOp] at h1
     | cons k l =>
      cases k with
      | mk o' f' n' l' =>
       obtain rfl : o' = 0 := h1
       simp [Tm.holdsHead, Tm.holds]
  ·intro h0 x y
   rcases hs 1 h0 with rfl | ⟨rfl, h1⟩
   ·rcases ho with ⟨rfl, -⟩ | ⟨-, h2, -⟩
    ·rw [SmT_pred]; simp [Tm.holds]
    ·omega
   ·rcases ho with ⟨-, h2⟩ | ⟨rfl, -⟩
    ·omega
    ·rw [SmT_filter]
     cases ks with
     | nil => simp [Tm.headOp] at h1
     | cons k l =>
      cases k with
      | mk o' f' n' l' =>
       obtain rfl : o' = 1 := h1
       simp [Tm.holdsHead, Tm.holds]
theorem filter_then {p : Bool} : ∀ {l : List Tm} {x y : Hdr}, (∀ k ∈ l, k.right p = true) → (SmThen p (l.filter fun k => !k.says 1) x y ↔ SmThen p l x y)
 | [], x, y, _ => by simp
 | t :: ts, x, y, h => by
  have ih := fun z => filter_then (p := p) (l := ts) (x := z) (y := y) fun k hk => h k (List.mem_cons_of_mem _ hk)
  rw [List.filter_cons]
  cases hs : t.says 1 with
  | true =>
   simp only [Bool.not_true, Bool.false_eq_true, if_false, SmThen]
   rw [ih]
   have := (says_sem (h t (List.mem_cons_self ..))).2 hs
   constructor
   ·intro h2; exact ⟨x, (this x x).2 rfl, h2⟩
   ·rintro ⟨z, h1, h2⟩
    rw [(this x z).1 h1] at h2
    exact h2
  | false =>
   simp only [Bool.not_false, if_true, SmThen]
   exact ⟨fun ⟨z, h1, h2⟩ => ⟨z, h1, (ih z).1 h2⟩, fun ⟨z, h1, h2⟩ => ⟨z, h1, (ih z).2 h2⟩⟩
theorem SmAny_filter {p : Bool} : ∀ {l : List Tm} {x y : Hdr}, (∀ k ∈ l, k.right p = true) → (SmAny p (l.filter fun k => !k.says 0) x y ↔ SmAny p l x y)
 | [], x, y, _ => by simp
 | t :: ts, x, y, h => by
  have ih := SmAny_filter (p := p) (l := ts) (x := x) (y := y) fun k hk => h k (List.mem_cons_of_mem _ hk)
  rw [List.filter_cons]
  cases hs : t.says 0 with
  | true =>
   simp only [Bool.not_true, Bool.false_eq_true, if_false, SmAny]
   rw [ih]
   have := (says_sem (h t (List.mem_cons_self ..))).1 hs x y
   exact ⟨.inr, fun h => h.resolve_left this⟩
  | false =>
   simp only [Bool.not_false, if_true, SmAny]
   rw [ih]
theorem all_then {p : Bool} : ∀ {l : List Tm} {x y : Hdr}, (∀ k ∈ l, k.right p = true) → l.any (fun k => k.says 0) = true → ¬ SmThen p l x y
 | [], x, y, _, h => by simp at h
 | t :: ts, x, y, hr, h => by
  rintro ⟨z, h1, h2⟩
  simp only [List.any_cons, Bool.or_eq_true] at h
  rcases h with h | h
  ·exact (says_sem (hr t (List.mem_cons_self ..))).1 h x z h1
  ·exact all_then (fun k hk => hr k (List.mem_cons_of_mem _ hk)) h h2
theorem SmAny_self : ∀ {l : List Tm} {x y : Hdr}, SmAny true l x y → y = x
 | t :: ts, x, y, h => by
  rcases h with h | h
  ·exact h.2
  ·exact SmAny_self h
theorem all_any : ∀ {l : List Tm} {x : Hdr}, (∀ k ∈ l, k.right true = true) → l.any (fun k => k.says 1) = true → SmAny true l x x
 | [], x, _, h => by simp at h
 | t :: ts, x, hr, h => by
  simp only [List.any_cons, Bool.or_eq_true] at h
  rcases h with h | h
  ·exact .inl (((says_sem (hr t (List.mem_cons_self ..))).2 h x x).2 rfl)
  ·exact .inr (all_any (fun k hk => hr k (List.mem_cons_of_mem _ hk)) h)
theorem alone_right (p : Bool) {m : Int} (h : m = 0 ∨ m = 1) : (aloneT (!p) m).right p = true := by
 cases p
 ·rcases h with rfl | rfl <;> simp [aloneT, bareT, Tm.right, Tm.rightAll, wantsOf]
 ·rcases h with rfl | rfl <;> simp [aloneT, bareT, Tm.right, Tm.rightAll, wantsOf]
theorem alone_says (p : Bool) {m : Int} : (aloneT (!p) m).says m = true := by
 cases p <;> simp [aloneT, bareT, Tm.says, Tm.op, Tm.kids, Tm.headOp]
theorem row_right {p : Bool} {op : Int} (ho : op = thenOp p ∨ op = anyOp p) {l : List Tm} (hl : l ≠ []) (h : Tm.rightAll l p = true) : (Tm.mk op 0 0 l).right p = true := by
 have hl' : 1 ≤ l.length := List.length_pos_iff.2 hl
 cases p
 ·rcases ho with rfl | rfl <;> simp [thenOp, anyOp, Tm.right, wantsOf, h] <;> omega
 ·rcases ho with rfl | rfl <;> simp [thenOp, anyOp, Tm.right, wantsOf, h] <;> omega
theorem row_kids {p : Bool} {op f n : Int} {l : List Tm} (ho : op = thenOp p ∨ op = anyOp p) (h : (Tm.mk op f n l).right p = true) : Tm.rightAll l p = true := by
 cases p
 ·rcases Tm.right_pol h with ⟨rfl, -⟩ | ⟨rfl, -⟩ | ⟨rfl, -⟩ | ⟨-, -, h⟩
  ·simp [thenOp, anyOp] at ho
  ·simp [thenOp, anyOp] at ho
  ·simp [thenOp, anyOp] at ho
  ·exact h
 ·rcases Tm.right_pred h with h | ⟨rfl, -⟩ | ⟨h1, -, h⟩
  ·simp [thenOp, anyOp] at ho; omega
  ·simp [thenOp, anyOp] at ho
  ·exact h
theorem gathered_right {p : Bool} {op : Int} (ho : op = thenOp p ∨ op = anyOp p) : ∀ {ks : List Tm}, (∀ k ∈ ks, k.right p = true) → ∀ k ∈ gatheredT op ks, k.right p = true
 | [], _, k, hk => by simp [gatheredT] at hk
 | .mk o f n l :: ts, h, k, hk => by
  rw [gatheredT, List.mem_append] at hk
  rcases hk with hk | hk
  ·have ht := h _ (List.mem_cons_self ..)
   split at hk
   ·rename_i e
    have e : o = op := e
    exact rightAll_mem.1 (row_kids (by rw [e]; exact ho) ht) k hk
   ·rw [List.mem_singleton.1 hk]; exact ht
  ·exact gathered_right ho (fun k hk => h k (List.mem_cons_of_mem _ hk)) k hk
theorem left_right {p : Bool} {op m : Int} (ho : op = thenOp p ∨ op = anyOp p) (hm : m = 0 ∨ m = 1) {l : List Tm} (h : ∀ k ∈ l, k.right p = true) : (leftT op (!p) m l).right p = true := by
 match l with
 | [] => exact alone_right p hm
 | [k] => exact h k (by simp)
 | k :: k' :: l' => exact row_right ho (by simp) (rightAll_mem.2 h)
theorem row_then {p : Bool} {ks : List Tm} (h : ∀ k ∈ ks, k.right p = true) : (rowPT (thenOp p) ks 1 0 (!p)).right p = true ∧ ∀ x y, SmT p (rowPT (thenOp p) ks 1 0 (!p)) x y ↔ SmThen p ks x y := by
 have hg := gathered_right (.inl rfl) h
 unfold rowPT
 split
 ·rename_i hc
  refine ⟨alone_right p (.inl rfl), fun x y => ?_⟩
  have h1 := (says_sem (alone_right p (.inl rfl))).1 (alone_says p) x y
  have h2 := all_then (x := x) (y := y) hg hc.2
  rw [gathered_then] at h2
  exact ⟨fun h => absurd h h1, fun h => absurd h h2⟩
 ·have hf : ∀ k ∈ (gatheredT (thenOp p) ks).filter (fun k => !k.says 1), k.right p = true := fun k hk => hg k ((List.mem_filter.1 hk).1)
  refine ⟨left_right (.inl rfl) (.inr rfl) hf, fun x y => ?_⟩
  rw [← gathered_then, ← filter_then hg]
  generalize (gatheredT (thenOp p) ks).filter (fun k => !k.says 1) = l
  match l with
  | [] => exact (says_sem (alone_right p (.inr rfl))).2 (alone_says p) x y
  | [k] => exact SmThen_one.symm
  | k :: k' :: l' => exact SmT_then
theorem row_any_left {p : Bool} {ks : List Tm} (hg : ∀ k ∈ gatheredT (anyOp p) ks, k.right p = true) : (leftT (anyOp p) (!p) 0 ((gatheredT (anyOp p) ks).filter fun k => !k.says 0)).right p = true ∧ ∀ x y, SmT p (leftT (anyOp p) (!p) 0 ((gatheredT (anyOp p) ks).filter fun k => !k.says 0)) x y ↔ SmAny p ks x y := by
 have hf : ∀ k ∈ (gatheredT (anyOp p) ks).filter (fun k => !k.says 0), k.right p = true := fun k hk => hg k (List.mem_filter.1 hk).1
 refine ⟨left_right (.inr rfl) (.inl rfl) hf, fun x y => ?_⟩
 rw [← gathered_any, ← SmAny_filter hg]
 generalize (gatheredT (anyOp p) ks).filter (fun k => !k.says 0) = l
 match l with
 | [] =>
  have h1 := (says_sem (alone_right p (.inl rfl))).1 (alone_says p) x y
  exact ⟨fun h => absurd h h1, fun h => h.elim⟩
 | [k] => exact SmAny_one.symm
 | k :: k' :: l' => exact SmT_any
theorem row_any_pol {ks : List Tm} (h : ∀ k ∈ ks, k.right false = true) : (rowPT 8 ks 0 (-1) true).right false = true ∧ ∀ x y, SmT false (rowPT 8 ks 0 (-1) true) x y ↔ SmAny false ks x y := by
 unfold rowPT
 rw [if_neg (by omega)]
 exact row_any_left (p := false) (gathered_right (.inr rfl) h)
theorem row_any_pred {ks : List Tm} (h : ∀ k ∈ ks, k.right true = true) : (rowPT 5 ks 0 1 false).right true = true ∧ ∀ x y, SmT true (rowPT 5 ks 0 1 false) x y ↔ SmAny true ks x y := by
 have hg := gathered_right (p := true) (.inr rfl) h
 unfold rowPT
 split
 ·rename_i hc
  refine ⟨alone_right true (.inr rfl), fun x y => ?_⟩
  have h1 := (says_sem (alone_right true (.inr rfl))).2 (alone_says true) x y
  constructor
  ·intro h2
   obtain rfl := h1.1 h2
   exact gathered_any.1 (all_any hg hc.2)
  ·intro h2
   exact h1.2 (SmAny_self h2)
 ·exact row_any_left (p := true) hg
/-- a sequence and a choice of parts that mean the same -/
theorem plainAll_sem {p : Bool} : ∀ {ks : List Tm}, (∀ k ∈ ks, (plainT k).right p = true ∧ ∀ x y, SmT p (plainT k) x y ↔ SmT p k x y) → (∀ k ∈ plainAll ks, k.right p = true) ∧ (∀ x y, SmThen p (plainAll ks) x y ↔ SmThen p ks x y) ∧ (∀ x y, SmAny p (plainAll ks) x y ↔ SmAny p ks x y)
 | [], _ => by simp [plainAll]
 | t :: ts, h => by
  obtain ⟨i1, i2, i3⟩ := plainAll_sem (p := p) (ks := ts) fun k hk => h k (List.mem_cons_of_mem _ hk)
  obtain ⟨t1, t2⟩ := h t (List.mem_cons_self ..)
  refine ⟨fun k hk => ?_, fun x y => ?_, fun x y => ?_⟩
  ·rw [plainAll] at hk
   rcases List.mem_cons.1 hk with rfl | hk
   ·exact t1
   ·exact i1 k hk
  ·rw [plainAll]
   simp only [SmThen]
   exact ⟨fun ⟨z, h1, h2⟩ => ⟨z, (t2 x z).1 h1, (i2 z y).1 h2⟩, fun ⟨z, h1, h2⟩ => ⟨z, (t2 x z).2 h1, (i2 z y).2 h2⟩⟩
  ·rw [plainAll]
   simp only [SmAny]
   rw [t2, i3]
theorem rtc_iff {R S : Hdr → Hdr → Prop} (h : ∀ x y, R x y ↔ S x y) (x y : Hdr) : Rtc R x y ↔ Rtc S x y := by
 have : R = S := by funext a b; exact propext (h a b)
 rw [this]
theorem rtc_rtc {R : Hdr → Hdr → Prop} {x y : Hdr} : Rtc (Rtc R) x y ↔ Rtc R x y := by
 constructor
 ·intro h
  induction h with
  | refl => exact .refl
  | tail _ r ih => exact ih.trans r
 ·intro h; exact Rtc.one h
theorem rtc_filter {Q : Hdr → Prop} {x y : Hdr} : Rtc (fun a b => Q a ∧ b = a) x y ↔ y = x := by
 constructor
 ·intro h
  induction h with
  | refl => rfl
  | tail _ r ih => rw [r.2, ih]
 ·rintro rfl; exact .refl
theorem one_right {p : Bool} {k : Tm} (h : k.right p = true) : (p = true → (Tm.mk 3 0 0 [k]).right true = true) ∧ (p = true → (Tm.mk 6 0 0 [k]).right false = true) ∧ (p = false → (Tm.mk 10 0 0 [k]).right false = true) := by
 refine ⟨?_, ?_, ?_⟩
 ·rintro rfl; simp [Tm.right, Tm.rightAll, wantsOf, h]
 ·rintro rfl; simp [Tm.right, Tm.rightAll, wantsOf, h]
 ·rintro rfl; simp [Tm.right, Tm.rightAll, wantsOf, h]
theorem plainAll_mem : ∀ {ks : List Tm} {k : Tm}, k ∈ plainAll ks → ∃ t ∈ ks, k = plainT t
 | [], k, h => by simp [plainAll] at h
 | t :: ts, k, h => by
  rw [plainAll] at h
  rcases List.mem_cons.1 h with rfl | h
  ·exact ⟨t, List.mem_cons_self .., rfl⟩
  ·obtain ⟨u, h1, h2⟩ := plainAll_mem h
   exact ⟨u, List.mem_cons_of_mem _ h1, h2⟩
theorem not_plain {k t : Tm} (hk : k.right true = true) (hs : ∀ x y, SmT true k x y ↔ SmT true t x y) : (oneT 3 k).right true = true ∧ ∀ x, (oneT 3 k).holds x = !t.holds x := by
 have hh : ∀ x, k.holds x = t.holds x := fun x => by
  have := hs x x
  rw [SmT_pred, SmT_pred] at this
  cases h1 : k.holds x <;> cases h2 : t.holds x <;> simp_all
 unfold oneT
 split
 ·rename_i hc
  cases k with
  | mk o f n l =>
   obtain rfl : o = 3 := hc.2
   rcases Tm.right_pred hk with h | ⟨h, -⟩ | ⟨-, h1, h2⟩
   ·omega
   ·omega
   ·cases l with
    | nil => simp at h1
    | cons u us =>
     refine ⟨rightAll_mem.1 h2 u (List.mem_cons_self ..), fun x => ?_⟩
     rw [← hh x]
     simp [Tm.holds, Tm.holdsHead, headT, Tm.kids]
 ·split
  ·rename_i hc
   have ho := right_op hk
   have : k.op = 0 ∨ k.op = 1 := by omega
   rcases this with e | e
   ·refine ⟨by rw [e]; exact alone_right true (.inr rfl), fun x => ?_⟩
    rw [← hh x]
    cases k with
    | mk o f n l =>
     obtain rfl : o = 0 := e
     simp [bareT, Tm.holds, Tm.op]
   ·refine ⟨by rw [e]; exact alone_right true (.inl rfl), fun x => ?_⟩
    rw [← hh x]
    cases k with
    | mk o f n l =>
     obtain rfl : o = 1 := e
     simp [bareT, Tm.holds, Tm.op]
  ·rw [if_neg (by omega), if_neg (by omega)]
   refine ⟨(one_right hk).1 rfl, fun x => ?_⟩
   rw [← hh x]
   simp [Tm.holds, Tm.holdsHead]
theorem star_plain {k t : Tm} (hk : k.right false = true) (hs : ∀ x y, SmT false k x y ↔ SmT false t x y) : (oneT 10 k).right false = true ∧ ∀ x y, (oneT 10 k).den x y ↔ Rtc t.den x y := by
 have hr := rtc_iff (R := k.den) (S := t.den) hs
 unfold oneT
 rw [if_neg (by omega), if_neg (by omega)]
 split
 ·rename_i hc
  refine ⟨hk, fun x y => ?_⟩
  rw [← hr]
  cases k with
  | mk o f n l =>
   obtain rfl : o = 10 := hc.2
   rcases Tm.right_pol hk with ⟨h, -⟩ | ⟨h, -⟩ | ⟨-, h1, -⟩ | ⟨h, -⟩
   ·omega
   ·omega
   ·cases l with
    | nil => simp at h1
    | cons u us =>
     have e : ∀ a b, (Tm.mk 10 f n (u :: us)).den a b ↔ Rtc u.den a b := fun a b => by rw [Tm.den]; simp [Tm.denStar]
     rw [rtc_iff e, rtc_rtc, e]
   ·omega
 ·split
  ·rename_i hc
   refine ⟨alone_right false (.inr rfl), fun x y => ?_⟩
   rw [← hr]
   have h1 := (says_sem (alone_right false (.inr rfl))).2 (alone_says false) x y
   rw [SmT_pol] at h1
   rw [show aloneT true 1 = aloneT (!false) 1 from rfl, h1]
   cases k with
   | mk o f n l =>
    obtain rfl : o = 6 := hc.2
    have e : ∀ a b, (Tm.mk 6 f n l).den a b ↔ Tm.holdsHead l a = true ∧ b = a := fun a b => by rw [Tm.den]; simp
    rw [rtc_iff e, rtc_filter]
  ·refine ⟨(one_right hk).2.2 rfl, fun x y => ?_⟩
   rw [← hr, Tm.den]
   simp [Tm.denStar]
mutual
/-- a plain form is right, and means the same -/
theorem plain_ok : ∀ (t : Tm) (p : Bool), t.right p = true → (plainT t).right p = true ∧ ∀ x y, SmT p (plainT t) x y ↔ SmT p t x y
 | .mk op f n ks, true, h => by
  have hh := h
  rcases Tm.right_pred h with h01 | ⟨rfl, hf⟩ | ⟨h345, hk, hra⟩
  ·rw [plainT, if_neg (by omega), if_neg (by omega), if_neg (by omega), if_neg (by omega), if_neg (by omega)]
   rcases h01 with rfl | rfl
   ·have hfn : f = 0 ∧ n = 0 := by
     simp [Tm.right, wantsOf] at h
     omega
    rw [hfn.1, hfn.2]
    refine ⟨alone_right true (.inl rfl), fun x y => ?_⟩
    rw [SmT_pred, SmT_pred]
    simp [Tm.holds]
   ·have hfn : f = 0 ∧ n = 0 := by
     simp [Tm.right, wantsOf] at h
     omega
    rw [hfn.1, hfn.2]
    refine ⟨alone_right true (.inr rfl), fun x y => ?_⟩
    rw [SmT_pred, SmT_pred]
    simp [Tm.holds]
  ·rw [plainT, if_neg (by omega), if_neg (by omega), if_neg (by omega), if_neg (by omega), if_neg (by omega)]
   refine ⟨?_, fun x y => ?_⟩
   ·simp [Tm.right, wantsOf] at h ⊢
    exact h.2
   ·rw [SmT_pred, SmT_pred]
    simp [Tm.holds]
  ·have hall := plainAll_sem (plainAll_ok ks true (rightAll_mem.1 hra))
   rcases h345 with rfl | rfl | rfl
   ·rw [plainT, if_neg (by omega), if_neg (by omega), if_neg (by omega), if_neg (by omega), if_pos (by omega)]
    cases ks with
    | nil => simp at hk
    | cons u us =>
     obtain ⟨u1, u2⟩ := plain_ok u true (rightAll_mem.1 hra u (List.mem_cons_self ..))
     obtain ⟨v1, v2⟩ := not_plain u1 u2
     refine ⟨v1, fun x y => ?_⟩
     rw [SmT_pred, SmT_pred, show headT (plainAll (u :: us)) = plainT u from by rw [plainAll]; rfl, v2]
     simp [Tm.holds, Tm.holdsHead]
   ·rw [plainT, if_pos rfl]
    obtain ⟨v1, v2⟩ := row_then (p := true) hall.1
    refine ⟨v1, fun x y => ?_⟩
    have e1 := v2 x y
    have e2 := hall.2.1 x y
    have e3 := SmT_then (p := true) (f := f) (n := n) (ks := ks) (x := x) (y := y)
    exact (e1.trans e2).trans e3.symm
   ·rw [plainT, if_neg (by omega), if_pos rfl]
    obtain ⟨v1, v2⟩ := row_any_pred hall.1
    refine ⟨v1, fun x y => ?_⟩
    have e1 := v2 x y
    have e2 := hall.2.2 x y
    have e3 := SmT_any (p := true) (f := f) (n := n) (ks := ks) (x := x) (y := y)
    exact (e1.trans e2).trans e3.symm
 | .mk op f n ks, false, h => by
  rcases Tm.right_pol h with ⟨rfl, hk, hra⟩ | ⟨rfl, hf0, hf1⟩ | ⟨rfl, hk, hra⟩ | ⟨hop, hk, hra⟩
  ·rw [plainT, if_neg (by omega), if_neg (by omega), if_neg (by omega), if_neg (by omega), if_pos (by omega)]
   cases ks with
   | nil => simp at hk
   | cons u us =>
    obtain ⟨u1, u2⟩ := plain_ok u true (rightAll_mem.1 hra u (List.mem_cons_self ..))
    rw [show headT (plainAll (u :: us)) = plainT u from by rw [plainAll]; rfl]
    unfold oneT
    rw [if_neg (by omega), if_neg (by omega), if_neg (by omega), if_neg (by omega)]
    refine ⟨(one_right u1).2.1 rfl, fun x y => ?_⟩
    rw [SmT_filter, SmT_filter]
    exact u2 x y
  ·rw [plainT, if_neg (by omega), if_neg (by omega), if_neg (by omega), if_neg (by omega), if_neg (by omega)]
   refine ⟨?_, fun x y => ?_⟩
   ·simp [Tm.right, wantsOf] at h ⊢
    exact h.2
   ·rw [SmT_pol, SmT_pol, Tm.den, Tm.den]
    simp
  ·rw [plainT, if_neg (by omega), if_neg (by omega), if_neg (by omega), if_neg (by omega), if_pos (by omega)]
   cases ks with
   | nil => simp at hk
   | cons u us =>
    obtain ⟨u1, u2⟩ := plain_ok u false (rightAll_mem.1 hra u (List.mem_cons_self ..))
    obtain ⟨v1, v2⟩ := star_plain u1 u2
    refine ⟨v1, fun x y => ?_⟩
    rw [SmT_pol, SmT_star, show headT (plainAll (u :: us)) = plainT u from by rw [plainAll]; rfl, v2]
    simp [Tm.denStar]
  ·have hall := plainAll_sem (plainAll_ok ks false (rightAll_mem.1 hra))
   by_cases h9 : op = 9
   ·subst h9
    rw [plainT, if_neg (by omega), if_neg (by omega), if_neg (by omega), if_pos rfl]
    obtain ⟨v1, v2⟩ := row_then (p := false) hall.1
    refine ⟨v1, fun x y => ?_⟩
    have e1 := v2 x y
    have e2 := hall.2.1 x y
    have e3 := SmT_then (p := false) (f := f) (n := n) (ks := ks) (x := x) (y := y)
    exact (e1.trans e2).trans e3.symm
   ·obtain rfl : op = 8 := by omega
    rw [plainT, if_neg (by omega), if_neg (by omega), if_pos rfl]
    obtain ⟨v1, v2⟩ := row_any_pol hall.1
    refine ⟨v1, fun x y => ?_⟩
    have e1 := v2 x y
    have e2 := hall.2.2 x y
    have e3 := SmT_any (p := false) (f := f) (n := n) (ks := ks) (x := x) (y := y)
    exact (e1.trans e2).trans e3.symm
theorem plainAll_ok : ∀ (ks : List Tm) (p : Bool), (∀ k ∈ ks, k.right p = true) → ∀ k ∈ ks, (plainT k).right p = true ∧ ∀ x y, SmT p (plainT k) x y ↔ SmT p k x y
 | [], _, _, k, hk => by cases hk
 | t :: ts, p, h, k, hk => by
  rcases List.mem_cons.1 hk with e | hk
  ·rw [e]; exact plain_ok t p (h t (List.mem_cons_self ..))
  ·exact plainAll_ok ts p (fun k hk => h k (List.mem_cons_of_mem _ hk)) k hk
end
end Go.Proofs.YtjjbdbklbghlhaaGreatDoor
/- A policy and its plain form make the same: plain law. -/
namespace Go.Proofs.YtjjbdbklbghlhaaGreatDoor
open Go.RowKit Go.Sort Go.Maps Go.Lib
set_option linter.unusedSimpArgs false

theorem check_right {t : Tm} (h : checkT t = 0) : t.right false = true := by
 unfold checkT at h
 split at h
 ·exact absurd h (by decide)
 split at h
 ·assumption
 ·exact absurd h (by decide)
theorem plain_den {t : Tm} (h : checkT t = 0) (x y : Hdr) : (plainT t).den x y ↔ t.den x y := by
 have := (plain_ok t false (check_right h)).2 x y
 rwa [SmT_pol, SmT_pol] at this
theorem plain_op {t : Tm} (h : checkT t = 0) : 6 ≤ (plainT t).op ∧ 6 ≤ t.op := by
 have h1 := right_op (check_right h)
 have h2 := right_op (plain_ok t false (check_right h)).1
 constructor
 ·rcases h2 with ⟨e, -⟩ | ⟨-, h, -⟩
  ·cases e
  ·exact h
 ·rcases h1 with ⟨e, -⟩ | ⟨-, h, -⟩
  ·cases e
  ·exact h
theorem plain_mean {t : Tm} (h : checkT t = 0) {x : Hdr} (h1 : (ofC t x).1 = 0) (h2 : (ofC (plainT t) x).1 = 0) : (ofC t x).2 = (ofC (plainT t) x).2 := by
 have a := told h1
 have b := told h2
 refine a.1.ext b.1 fun y => ?_
 rw [a.2, b.2, plain_den h]
theorem plain_runs {t : Tm} (h : checkT t = 0) {Ra Rb : (Int × Int) × List NdD} (ea : Ra = ofS [] t) (eb : Rb = ofS Ra.2 (plainT t)) (a0 : Ra.1.2 = 0) (b0 : Rb.1.2 = 0) :
  ∃ ia ib : Nat, Ra.1.1 = (ia : Int) ∧ Rb.1.1 = (ib : Int) ∧ Gd Rb.2 ∧ ia < Rb.2.length ∧ ib < Rb.2.length ∧ ∀ x, runsN Rb.2 ia x = runsN Rb.2 ib x := by
 obtain ⟨wa0, ca0, ra0⟩ := ofS_zero (L := []) (t := t) (by rw [← ea]; exact a0)
 obtain ⟨wb0, cb0, rb0⟩ := ofS_zero (L := Ra.2) (t := plainT t) (by rw [← eb]; exact b0)
 rw [← ea] at ra0
 rw [← eb] at rb0
 obtain ⟨ra, hra⟩ : ∃ r, r = termC t [] := ⟨_, rfl⟩
 obtain ⟨rb, hrb⟩ : ∃ r, r = termC (plainT t) Ra.2 := ⟨_, rfl⟩
 rw [← hra] at ra0 ca0
 rw [← hrb] at rb0 cb0
 have ea2 : Ra.2 = ra.2 := by rw [ra0]
 have eb2 : Rb.2 = rb.2 := by rw [rb0]
 rw [ea2] at hrb
 have hga : Gd ra.2 := by rw [hra]; exact (termC_steps t []).good Gd.nil
 have hgb : Gd rb.2 := by rw [hrb]; exact (termC_steps _ ra.2).good hga
 have hfa : Fine [] ra := by rw [hra]; exact termC_fine t InvO.nil
 have hfb : Fine ra.2 rb := by rw [hrb]; exact termC_fine _ hga.o
 have pa := termC_any (L := []) wa0 Gd.nil
 have pb := termC_any (L := ra.2) wb0 hga
 rw [← hra] at pa
 rw [← hrb] at pb
 have h1 := hfa.lt ca0
 have h2 := hfb.lt cb0
 have h3 := hfb.pre.length_le
 refine ⟨ra.1.2, rb.1.2, by rw [ra0], by rw [rb0], by rw [eb2]; exact hgb, by rw [eb2]; omega, by rw [eb2]; exact h2, fun x => ?_⟩
 rw [eb2]
 refine (runsN_asc _ _ _).ext (runsN_asc _ _ _) fun y => ?_
 have ho := plain_op h
 rw [runsN_mem, runsN_mem, pb.sem cb0, makes_pre hga.o hfb.pre h1, pa.sem ca0]
 unfold Tm.denW
 rw [if_neg (by omega), if_neg (by omega), plain_den h]
end Go.Proofs.YtjjbdbklbghlhaaGreatDoor
/- Terms as values, with the blocks in which their parts lie. -/
namespace Go.Proofs.YtjjbdbklbghlhaaGreatDoor
open Go.RowKit Go.Sort Go.Maps Go.Lib
set_option linter.unusedSimpArgs false

theorem infoTmV : (Tryz.prog.info? 26).map (fun i => (i.zero, i.size, i.bytes)) = some (some (.agg #[.int .i8 0, .int .i8 0, .int .u64 0, .slice none 0 0]), 4, 40) := by kernel_rfl
theorem elemTm : Elem Tryz.prog 24 26 4 40 :=
 ⟨Tryz.underlying24, by obtain ⟨i, h1, h2, h3, h4⟩ := info_parts infoTmV; exact ⟨i, _, h1, h2, h3, h4, rfl⟩, by omega, fun w => by kernel_rfl, by omega⟩
/-- a term's four cells -/
def encTm (p : Tm × Value) : List Value := [.int .i8 p.1.op, .int .i8 p.1.fld, .int .u64 p.1.n, p.2]
def flatTm (l : List (Tm × Value)) : List Value := l.flatMap encTm
theorem length_encTm (p : Tm × Value) : (encTm p).length = 4 := rfl
theorem flatTm_len : ∀ l : List (Tm × Value), (flatTm l).length = l.length * 4
 | [] => rfl
 | p :: l => by
  have := flatTm_len l
  simp only [flatTm, List.flatMap_cons, List.length_append, List.length_cons] at *
  rw [this]
  simp [encTm]
  omega
theorem flatTm_app (l m : List (Tm × Value)) : flatTm (l ++ m) = flatTm l ++ flatTm m := by simp [flatTm]
theorem flatTm_cons (p : Tm × Value) (l : List (Tm × Value)) : flatTm (p :: l) = encTm p ++ flatTm l := by simp [flatTm]
theorem rangeAt_flat_cons {w : World} {b o : Nat} {p : Tm × Value} {l : List (Tm × Value)} : w.rangeAt b o (flatTm (p :: l)) ↔ w.rangeAt b o (encTm p) ∧ w.rangeAt b (o + 4) (flatTm l) := by
 rw [flatTm_cons]
 constructor
 ·intro h
  refine ⟨fun j x hx => h j x ?_, fun j x hx => ?_⟩
  ·have hj : j < (encTm p).length := (List.getElem?_eq_some_iff.1 hx).1
   rw [List.getElem?_append_left hj]
   exact hx
  ·have := h (4 + j) x (by rw [List.getElem?_append_right (by simp [encTm])]; simpa [encTm] using hx)
   rwa [show o + (4 + j) = o + 4 + j from by omega] at this
 ·rintro ⟨h1, h2⟩ j x hx
  by_cases hj : j < 4
  ·rw [List.getElem?_append_left (by simpa [encTm] using hj)] at hx
   exact h1 j x hx
  ·rw [List.getElem?_append_right (by simp [encTm]; omega)] at hx
   have := h2 (j - 4) x (by simpa [encTm] using hx)
   rwa [show o + 4 + (j - 4) = o + j from by omega] at this
/-- a row of terms: where it lies -/
def RowAt (S : Nat → Prop) (w : World) (l : List (Tm × Value)) (p : Option Addr) : Prop := l = [] ∨ ∃ b o, p = some ⟨b, o, none⟩ ∧ S b ∧ w.rangeAt b o (flatTm l)
/-- a term by value, with the blocks in which its parts lie -/
inductive VS (S : Nat → Prop) (w : World) : Tm → Value → Prop
 | mk {op f n : Int} {l : List (Tm × Value)} {p : Option Addr} {c : Nat} : (-128 ≤ op ∧ op ≤ 127) → (-128 ≤ f ∧ f ≤ 127) → (0 ≤ n ∧ n ≤ 18446744073709551615) → l.length ≤ c → c ≤ 9223372036854775807 → RowAt S w l p →
   (∀ q ∈ l, VS S w q.1 (.agg (encTm q).toArray)) → VS S w (.mk op f n (l.map (·.1))) (.agg #[.int .i8 op, .int .i8 f, .int .u64 n, .slice p l.length c])
theorem RowAt.keep {S T : Nat → Prop} {w w' : World} (hk : Keep T w w') (hS : ∀ b, S b → ¬ T b) {l : List (Tm × Value)} {p : Option Addr} (h : RowAt S w l p) : RowAt S w' l p :=
 h.imp id fun ⟨b, o, h1, h2, h3⟩ => ⟨b, o, h1, h2, hk.range h3 (hS b h2)⟩
theorem VS.keep {S T : Nat → Prop} {w w' : World} (hk : Keep T w w') (hS : ∀ b, S b → ¬ T b) {t : Tm} {v : Value} (h : VS S w t v) : VS S w' t v := by
 induction h with
 | mk h1 h2 h3 h4 h5 h6 h7 ih => exact .mk h1 h2 h3 h4 h5 (h6.keep hk hS) ih
theorem VS.ext {S : Nat → Prop} {w w' : World} (hx : Ext w w') {t : Tm} {v : Value} (h : VS S w t v) : VS S w' t v := h.keep (hx.keep fun _ => False) fun _ _ e => e
theorem RowAt.mono {S T : Nat → Prop} (hST : ∀ b, S b → T b) {w : World} {l : List (Tm × Value)} {p : Option Addr} (h : RowAt S w l p) : RowAt T w l p := h.imp id fun ⟨b, o, h1, h2, h3⟩ => ⟨b, o, h1, hST b h2, h3⟩
theorem VS.mono {S T : Nat → Prop} (hST : ∀ b, S b → T b) {w : World} {t : Tm} {v : Value} (h : VS S w t v) : VS T w t v := by
 induction h with
 | mk h1 h2 h3 h4 h5 h6 h7 ih => exact .mk h1 h2 h3 h4 h5 (h6.mono hST) ih
/-- what lies there lies in memory -/
theorem VS.there {S : Nat → Prop} {w : World} {t : Tm} {v : Value} (h : VS S w t v) : VS (fun b => S b ∧ b < w.heap.size) w t v := by
 induction h with
 | @mk op f n l p c h1 h2 h3 h4 h5 h6 h7 ih =>
  refine .mk h1 h2 h3 h4 h5 ?_ ih
  rcases h6 with rfl | ⟨b, o, e, hb, hr⟩
  ·exact .inl rfl
  ·by_cases hl : l = []
   ·exact .inl hl
   ·refine .inr ⟨b, o, e, ⟨hb, ?_⟩, hr⟩
    have hp : 0 < (flatTm l).length := by
     rw [flatTm_len]
     have := List.length_pos_iff.2 hl
     omega
    exact World.block_lt_of_cell? w _ (hr 0 _ (List.getElem?_eq_getElem hp))
theorem pairs_allAt {w : World} : ∀ {l : List (Tm × Value)} {b o : Nat}, (∀ q ∈ l, q.1.Val w (.agg (encTm q).toArray)) → w.rangeAt b o (flatTm l) → Tm.AllAt w (l.map (·.1)) b o
 | [], b, o, _, _ => trivial
 | p :: l, b, o, h, hr => by
  obtain ⟨h1, h2⟩ := rangeAt_flat_cons.1 hr
  exact ⟨(h p (List.mem_cons_self ..)).at (by simpa using h1), pairs_allAt (fun q hq => h q (List.mem_cons_of_mem _ hq)) h2⟩
theorem VS.val {S : Nat → Prop} {w : World} {t : Tm} {v : Value} (h : VS S w t v) : t.Val w v := by
 induction h with
 | @mk op f n l p c h1 h2 h3 h4 h5 h6 h7 ih =>
  refine ⟨_, rfl, _, rfl, h1, h2, h3, p, l.length, c, rfl, by simp [Tm.kids], h4, h5, ?_⟩
  rcases h6 with rfl | ⟨b, o, e, hb, hr⟩
  ·exact .inl rfl
  ·exact .inr ⟨b, o, e, pairs_allAt ih hr⟩
mutual
theorem vs_of_val {w : World} : ∀ (t : Tm) (v : Value), t.Val w v → VS (fun _ => True) w t v
 | .mk op f n ks, v, h => by
  obtain ⟨cs, rfl, s, rfl, h1, h2, h3, p, len, cap, rfl, h4, h5, h6, h7⟩ := h
  have h4 : len = ks.length := h4
  subst h4
  by_cases hk : ks = []
  ·subst hk
   exact VS.mk (l := []) h1 h2 h3 h5 h6 (.inl rfl) (fun q hq => by cases hq)
  ·have h7 : ks = [] ∨ ∃ b' o', p = some ⟨b', o', none⟩ ∧ Tm.AllAt w ks b' o' := h7
   obtain ⟨b, o, e, ha⟩ := h7.resolve_left hk
   obtain ⟨l, e1, e2, e3⟩ := vs_of_all ks b o ha
   have hl : l.length = ks.length := by rw [← e1, List.length_map]
   have := VS.mk (S := fun _ => True) (w := w) (l := l) (p := p) (c := cap) h1 h2 h3 (by rw [hl]; exact h5) h6 (.inr ⟨b, o, e, trivial, e3⟩) e2
   rw [e1, hl] at this
   exact this
theorem vs_of_all {w : World} : ∀ (ks : List Tm) (b o : Nat), Tm.AllAt w ks b o → ∃ l : List (Tm × Value), l.map (·.1) = ks ∧ (∀ q ∈ l, VS (fun _ => True) w q.1 (.agg (encTm q).toArray)) ∧ w.rangeAt b o (flatTm l)
 | [], b, o, _ => ⟨[], rfl, fun q hq => (by cases hq), fun j u hu => (by simp [flatTm] at hu)⟩
 | t :: ts, b, o, h => by
  obtain ⟨l, h1, h2, h3⟩ := vs_of_all ts b (o + 4) h.2
  obtain ⟨cs, hv, hr, hs⟩ := h.1.val
  have hv' := vs_of_val t _ hv
  obtain ⟨cs', he, s, rfl, -⟩ := hv
  cases he
  refine ⟨(t, s) :: l, by rw [List.map_cons, h1], fun q hq => ?_, rangeAt_flat_cons.2 ⟨hr, h3⟩⟩
  rcases List.mem_cons.1 hq with rfl | hq
  ·exact hv'
  ·exact h2 q hq
end
/-- a value that is a term, taken apart -/
theorem VS.open {S : Nat → Prop} {w : World} {t : Tm} {v : Value} (h : VS S w t v) : ∃ (l : List (Tm × Value)) (p : Option Addr) (c : Nat), v = .agg #[.int .i8 t.op, .int .i8 t.fld, .int .u64 t.n, .slice p l.length c] ∧ (-128 ≤ t.op ∧ t.op ≤ 127) ∧ (-128 ≤ t.fld ∧ t.fld ≤ 127) ∧ (0 ≤ t.n ∧ t.n ≤ 18446744073709551615) ∧
  l.map (·.1) = t.kids ∧ l.length ≤ c ∧ c ≤ 9223372036854775807 ∧ RowAt S w l p ∧ ∀ q ∈ l, VS S w q.1 (.agg (encTm q).toArray) := by
 cases h with
 | @mk op f n l p c h1 h2 h3 h4 h5 h6 h7 => exact ⟨l, p, c, rfl, h1, h2, h3, rfl, h4, h5, h6, h7⟩
theorem VS.one {S : Nat → Prop} {w : World} {q : Tm × Value} (h : VS S w q.1 (.agg (encTm q).toArray)) : ∀ u ∈ encTm q, u.oneCell' = true := by
 obtain ⟨l, p, c, he, -⟩ := h.open
 have : q.2 = .slice p l.length c := by simp [encTm] at he; exact he
 intro u hu
 simp only [encTm, this, List.mem_cons, List.not_mem_nil, or_false] at hu
 rcases hu with rfl | rfl | rfl | rfl <;> rfl
theorem flat_one {S : Nat → Prop} {w : World} {l : List (Tm × Value)} (h : ∀ q ∈ l, VS S w q.1 (.agg (encTm q).toArray)) : ∀ u ∈ flatTm l, u.oneCell' = true := by
 intro u hu
 obtain ⟨q, hq, hu⟩ := List.mem_flatMap.1 hu
 exact (h q hq).one u hu
/-- one of a row -/
theorem RowAt.get {S : Nat → Prop} {w : World} {l : List (Tm × Value)} {p : Option Addr} (h : RowAt S w l p) (i : Nat) (hi : i < l.length) : ∃ b o, p = some ⟨b, o, none⟩ ∧ S b ∧ w.rangeAt b (o + i * 4) (encTm l[i]) := by
 rcases h with rfl | ⟨b, o, e, hb, hr⟩
 ·exact absurd hi (Nat.not_lt_zero _)
 ·exact ⟨b, o, e, hb, rangeAt_get (enc := encTm) (k := 4) length_encTm hr i hi⟩
/-- a term comes out; its parts lie in S or in new memory -/
def TPost (S : Nat → Prop) (t : Tm) (w : World) (e : Ending) (w' : World) : Prop := (∃ v, e = .returned v ∧ VS (fun b => S b ∨ w.heap.size ≤ b) w' t v) ∧ Ext w w'
/-- a row of one's own of terms -/
def OwnTm (w : World) (base : Nat) (v : Value) (l : List (Tm × Value)) : Prop := w.ownsRow base 26 4 v l.length (flatTm l)
theorem OwnTm.open {w : World} {base : Nat} {v : Value} {l : List (Tm × Value)} (h : OwnTm w base v l) : ∃ p c, v = .slice p l.length c ∧ l.length ≤ c ∧ c ≤ 9223372036854775807 ∧ RowAt (fun b => base ≤ b ∧ b < w.heap.size ∧ v.ownBlock = some b) w l p := by
 rcases h.2 with ⟨rfl, h0⟩ | ⟨g, cap, cur, rfl, hb, hc, hle, hcm, hrest⟩
 ·exact ⟨none, 0, by rw [h0], by omega, by omega, .inl (List.length_eq_zero_iff.1 h0)⟩
 ·exact ⟨_, cap, rfl, hle, hcm, .inr ⟨g, 0, rfl, ⟨hb, (Array.getElem?_eq_some_iff.1 hc).1, rfl⟩, ownsRow_range h⟩⟩
/-- parts that lie beside a row that grows -/
def Besides (S : Nat → Prop) (lo : Nat) (u : Value) (b : Nat) : Prop := S b ∨ (lo ≤ b ∧ u.ownBlock ≠ some b)
theorem VS.app {S : Nat → Prop} {lo : Nat} {u u' : Value} {w w' : World} (hg : w.grownBy w' u.ownBlock) (ht : u'.ownBlock = u.ownBlock ∨ u'.ownBlock = some w.heap.size) (hS : ∀ b, S b → u.ownBlock ≠ some b) {t : Tm} {v : Value} (h : VS (Besides S lo u) w t v) : VS (Besides S lo u') w' t v := by
 have hk : Keep (fun b => u.ownBlock = some b) w w' := ⟨hg.os, hg.tape, hg.output, hg.size, fun i hi hn => hg.block i hi (fun e => hn e.symm)⟩
 refine ((h.there.keep hk fun b hb e => ?_)).mono fun b hb => ?_
 ·rcases hb.1 with h1 | h1
  ·exact hS b h1 e
  ·exact h1.2 e
 ·rcases hb.1 with h1 | h1
  ·exact .inl h1
  ·refine .inr ⟨h1.1, ?_⟩
   rcases ht with e | e
   ·rw [e]; exact h1.2
   ·rw [e]
    intro e2
    injection e2 with e2
    have := hb.2
    omega
theorem bare_vs {S : Nat → Prop} {op : Int} (h : -128 ≤ op ∧ op ≤ 127) (w : World) : VS S w (bareT op) (.agg #[.int .i8 op, .int .i8 0, .int .u64 0, .slice none 0 0]) :=
 VS.mk (l := []) h (by omega) (by omega) (Nat.le_refl _) (by omega) (.inl rfl) (fun q hq => by cases hq)
end Go.Proofs.YtjjbdbklbghlhaaGreatDoor
/- policy.bare, filter, says walked. -/
namespace Go.Proofs.YtjjbdbklbghlhaaGreatDoor
open Go.RowKit Go.Sort Go.Maps Go.Lib
set_option linter.unusedSimpArgs false

/-- the result's cells -/
theorem tm_end {w W : World} {g : Nat} (hg : w.heap.size ≤ g) (hX : Ext w W) (hth : W.there g 0 4) (o f n s : Value) :
  (∀ k v, [o, f, n, s][k]? = some v → (W.setCells g 0 [o, f, n, s]).cell? ⟨g, k, none⟩ = some v) ∧ Ext w (W.setCells g 0 [o, f, n, s]) ∧ ∀ (S : Nat → Prop) (t : Tm) (v : Value), (∀ b, S b → b ≠ g) → VS S W t v → VS S (W.setCells g 0 [o, f, n, s]) t v := by
 have hk := keep_setCells (w := W) g 0 [o, f, n, s]
 refine ⟨fun k v hv => ?_, hX.trans' ?_, fun S t v hS h => ?_⟩
 ·have := World.rangeAt_setCells_same W g 0 [o, f, n, s] (fun j hj => hth j hj) k v hv
  rwa [Nat.zero_add] at this
 ·exact ⟨hk.os, hk.tape, hk.output, hk.size, fun i hi => hk.block i (Nat.lt_of_lt_of_le hi hX.size) (fun e => by omega)⟩
 ·exact h.keep hk fun b hb e => hS b hb e
theorem infoT4 (o f n s : Value) : (Tryz.prog.info? 26).map (·.size) = some (#[o, f, n, s]).size := by
 show _ = some 4
 kernel_rfl
theorem tmv_one (a b c : Int) (p : Option Addr) (l k : Nat) : (#[Value.int .i8 a, .int .i8 b, .int .u64 c, .slice p l k]).all (·.oneCell') = true := by simp [Value.oneCell']

set_option maxHeartbeats 1000000 in
set_option maxRecDepth 100000 in
theorem bare_any (op : Int) (h : -128 ≤ op ∧ op ≤ 127) (S : Nat → Prop) (w : World) : Calls Tryz.prog 62 #[.int .i8 op] w (TPost S (bareT op) w) := by
 have HV := Hd (fun W => bare_vs (S := fun b => S b ∨ w.heap.size ≤ b) h W)
 go_enter Tryz.func62, Tryz.ntmps62
 go_wp2_with (first | (refine wpList_store_new rfl 26 _ _ rfl _ #[.int .i8 op, .int .i8 0, .int .u64 0, .slice none 0 0] rfl rfl (by kernel_rfl) (by kernel_rfl) (by rfl) ?_))
 exact bodyPost_ret (v := .agg #[.int .i8 op, .int .i8 0, .int .u64 0, .slice none 0 0]) (results_cell_row rfl _ _ w.heap.size 26 #[.int .i8 op, .int .i8 0, .int .u64 0, .slice none 0 0] (0, 0) _ rfl (heap_alloc_last w _) Tryz.underlying26 rfl (by rfl)) rfl ⟨⟨_, rfl, HV.out _⟩, Ext.alloc _ _⟩
set_option maxHeartbeats 1000000 in
set_option maxRecDepth 100000 in
theorem pfilter_any (op : Int) (h : -128 ≤ op ∧ op ≤ 127) (S : Nat → Prop) (w : World) : Calls Tryz.prog 63 #[.int .i8 op] w (TPost S (.mk 6 0 0 [bareT op]) w) := by
 obtain ⟨w1, h1⟩ : ∃ W : World, w.alloc (.cells #[.int .i8 0, .int .i8 0, .int .u64 0, .slice none 0 0] 26) = W := ⟨_, rfl⟩
 have x1 : Ext w w1 := h1 ▸ Ext.alloc _ _
 have s1 : w1.heap.size = w.heap.size + 1 := by rw [← h1, World.size_alloc]
 obtain ⟨w2, h2⟩ : ∃ W : World, w1.alloc (.cells #[.int .i8 op, .int .i8 0, .int .u64 0, .slice none 0 0] 26) = W := ⟨_, rfl⟩
 have x2 : Ext w1 w2 := h2 ▸ Ext.alloc _ _
 have hr : w2.rangeAt w1.heap.size 0 (encTm (bareT op, .slice none 0 0)) := by rw [← h2]; exact rangeAt_new w1 #[.int .i8 op, .int .i8 0, .int .u64 0, .slice none 0 0] 26
 have hth : w2.there w.heap.size 0 4 := thereF (cs := #[.int .i8 0, .int .i8 0, .int .u64 0, .slice none 0 0]) (t := 26) (by rw [h1]; exact x2)
 obtain ⟨HK, HXE, HVE⟩ := tm_end (g := w.heap.size) (Nat.le_refl _) (x1.trans x2) hth (.int .i8 6) (.int .i8 0) (.int .u64 0) (.slice (some ⟨w1.heap.size, 0, none⟩) 1 1)
 have hv : VS (fun b => (S b ∨ w.heap.size ≤ b) ∧ b ≠ w.heap.size) w2 (.mk 6 0 0 [bareT op]) (.agg #[.int .i8 6, .int .i8 0, .int .u64 0, .slice (some ⟨w1.heap.size, 0, none⟩) 1 1]) := by
  refine VS.mk (l := [(bareT op, .slice none 0 0)]) (by omega) (by omega) (by omega) (Nat.le_refl _) (by omega) (.inr ⟨_, 0, rfl, by omega, ?_⟩) ?_
  ·intro j u hu
   exact hr j u (by simpa [flatTm] using hu)
  ·intro q hq
   rw [List.mem_singleton.1 hq]
   exact bare_vs h w2
 have HV := Hd ((HVE _ _ _ (fun b hb => hb.2) hv).mono fun b hb => hb.1)
 have HK := Hd HK
 have HXE := Hd HXE
 have HT4 := Hd hth
 have HE := Hd (And.intro h1 h2)
 clear h1 h2 x1 x2 hr hth hv HVE
 go_enter Tryz.func63, Tryz.ntmps63
 go_upto_region 1 with fail
 rw [HE.out.1]
 go_wp2_with (first | (rw [← s1, HE.out.2]; refine wpList_store_mid rfl 26 _ _ rfl w.heap.size 0 #[.int .i8 6, .int .i8 0, .int .u64 0, .slice (some ⟨w1.heap.size, 0, none⟩) 1 1] rfl rfl HT4.out (infoT4 _ _ _ _) (tmv_one _ _ _ _ _ _) ?_))
 have k0 := HK.out 0 _ rfl
 have k1 := HK.out 1 _ rfl
 have k2 := HK.out 2 _ rfl
 have k3 := HK.out 3 _ rfl
 refine bodyPost_ret_by (v := .agg #[.int .i8 6, .int .i8 0, .int .u64 0, .slice (some ⟨w1.heap.size, 0, none⟩) 1 1]) ?_ rfl ⟨⟨_, rfl, HV.out⟩, HXE.out⟩
 rw [results_cell_one rfl]
 generalize w2.setCells w.heap.size 0 _ = wE at *
 go_simp
 try rfl
set_option maxHeartbeats 2000000 in
set_option maxRecDepth 100000 in
theorem says_any {S : Nat → Prop} (t : Tm) (op : Int) (v : Value) (w : World) (h : VS S w t v) (h6 : t.op = 6 → t.kids ≠ []) (hop : -128 ≤ op ∧ op ≤ 127) :
  Calls Tryz.prog 102 #[v, .int .i8 op] w fun e w' => e = .returned (.bool (t.says op)) ∧ Ext w w' := by
 obtain ⟨l, p, c, rfl, -, -, -, hk, -, -, hrow, hall⟩ := h.open
 obtain ⟨w1, h1⟩ : ∃ W : World, w.alloc (.cells #[.int .i8 t.op, .int .i8 t.fld, .int .u64 t.n, .slice p l.length c] 26) = W := ⟨_, rfl⟩
 have x1 : Ext w w1 := h1 ▸ Ext.alloc _ _
 have HE := Hd h1
 have HX := Hd x1
 have hS : t.says op = (decide (t.op = op) || (decide (t.op = 6) && decide (Tm.headOp t.kids = op))) := rfl
 have hc : w1.cell? ⟨w.heap.size, 0, none⟩ = some (.int .i8 t.op) ∧ w1.cell? ⟨w.heap.size, 3, none⟩ = some (.slice p l.length c) := by
  rw [← h1]
  exact ⟨by simp [go_sem], by simp [go_sem]⟩
 obtain ⟨c0, c3⟩ := hc
 by_cases ho : t.op = 6
 ·have hl : 0 < l.length := by
   have := h6 ho
   rw [← hk] at this
   exact List.length_pos_iff.2 (fun e => this (by rw [e]; rfl))
  obtain ⟨b, o, rfl, -, hr⟩ := hrow.get 0 hl
  have d0 : w1.cell? ⟨b, o, none⟩ = some (.int .i8 (Tm.headOp t.kids)) := by
   have := x1.later _ _ (hr 0 _ rfl)
   rw [← hk]
   cases l with
   | nil => simp at hl
   | cons q l => simpa [encTm, Tm.headOp] using this
  rw [ho] at hS c0 ⊢
  have HS := Hd hS
  obtain ⟨k, hk'⟩ : ∃ k, k = Tm.headOp t.kids := ⟨_, rfl⟩
  rw [← hk'] at d0 HS
  obtain ⟨ll, hll⟩ : ∃ ll, ll = l.length := ⟨_, rfl⟩
  rw [← hll] at c3 hl
  clear hS h1 x1 hrow hall h hr hk' h6
  rw [ho] at HE
  rw [← hll] at HE ⊢
  clear hll hk ho
  go_enter Tryz.func102, Tryz.ntmps102
  go_upto_region 1 with fail
  rw [HE.out]
  by_cases h6' : op = 6
  ·subst h6'
   go_wp2_with fail
   go_ret
   exact ⟨by rw [HS.out]; simp, HX.out⟩
  ·have : decide ((6 : Int) = op) = false := decide_eq_false (fun e => h6' e.symm)
   have hb : ((6 : Int) == op) = false := by rw [beq_eq_false_iff_ne]; exact fun e => h6' e.symm
   clear h6'
   go_wp2_with fail
   go_ret
   exact ⟨by rw [HS.out, this]; by_cases e : k = op <;> simp [e], HX.out⟩
 ·have h6d : decide (t.op = 6) = false := decide_eq_false ho
  rw [h6d, Bool.false_and, Bool.or_false] at hS
  have HS := Hd hS
  obtain ⟨k, hk'⟩ : ∃ k, k = t.op := ⟨_, rfl⟩
  rw [← hk'] at c0 HS HE ho ⊢
  clear hS h1 x1 hrow hall h hk' h6 hk h6d
  go_enter Tryz.func102, Tryz.ntmps102
  go_upto_region 1 with fail
  rw [HE.out]
  have hb6 : (k == 6) = false := by rw [beq_eq_false_iff_ne]; exact ho
  clear ho
  by_cases e : k = op
  ·have hb : (k == op) = true := by rw [beq_iff_eq]; exact e
   have HS2 := Hd (show t.says op = true from by rw [HS.out]; exact decide_eq_true e)
   clear e
   go_wp2_with fail
   go_ret
   exact ⟨by rw [HS2.out]; rfl, HX.out⟩
  ·have hb : (k == op) = false := by rw [beq_eq_false_iff_ne]; exact e
   have HS2 := Hd (show t.says op = false from by rw [HS.out]; exact decide_eq_false e)
   clear e
   go_wp2_with fail
   go_ret
   exact ⟨by rw [HS2.out]; rfl, HX.out⟩
end Go.Proofs.YtjjbdbklbghlhaaGreatDoor
/- policy.gathered walked. -/
namespace Go.Proofs.YtjjbdbklbghlhaaGreatDoor
open Go.RowKit Go.Sort Go.Maps Go.Lib
set_option linter.unusedSimpArgs false

theorem gatheredT_app (op : Int) : ∀ a b : List Tm, gatheredT op (a ++ b) = gatheredT op a ++ gatheredT op b
 | [], b => rfl
 | t :: ts, b => by rw [List.cons_append, gatheredT, gatheredT, gatheredT_app op ts b, List.append_assoc]
theorem kids_len (t : Tm) : t.kids.length + 1 ≤ t.sz := by
 cases t with
 | mk o f n ks =>
  have : ∀ l : List Tm, l.length ≤ Tm.szAll l := fun l => by
   induction l with
   | nil => simp
   | cons t ts ih =>
    have := t.sz_pos
    simp only [List.length_cons, Tm.szAll]
    omega
  have := this ks
  simp only [Tm.kids, Tm.sz]
  omega
theorem gatheredT_len (op : Int) : ∀ ks : List Tm, (gatheredT op ks).length ≤ Tm.szAll ks
 | [] => by simp [gatheredT]
 | t :: ts => by
  have h := gatheredT_len op ts
  have h1 := kids_len t
  have h2 := t.sz_pos
  rw [gatheredT, List.length_append]
  simp only [Tm.szAll]
  split
  ·omega
  ·simp only [List.length_singleton]; omega
theorem szAll_take_le (ks : List Tm) (j : Nat) : Tm.szAll (ks.take j) ≤ Tm.szAll ks := Tm.szAll_take_le ks j
/-- what gathered tells -/
def GPost (S : Nat → Prop) (op : Int) (ks : List Tm) (w : World) (e : Ending) (w' : World) : Prop :=
 (∃ (out : List (Tm × Value)) (p : Option Addr) (c : Nat), e = .returned (.slice p out.length c) ∧ out.length ≤ c ∧ c ≤ 9223372036854775807 ∧ out.map (·.1) = gatheredT op ks ∧ RowAt (fun b => w.heap.size ≤ b) w' out p ∧ ∀ q ∈ out, VS S w q.1 (.agg (encTm q).toArray)) ∧ Ext w w'
theorem rangeAt_enc {w : World} {b o : Nat} {t : Tm} {u : Value} (h : w.rangeAt b o (encTm (t, u))) : w.cell? ⟨b, o, none⟩ = some (.int .i8 t.op) ∧ w.cell? ⟨b, o + 1, none⟩ = some (.int .i8 t.fld) ∧ w.cell? ⟨b, o + 2, none⟩ = some (.int .u64 t.n) ∧ w.cell? ⟨b, o + 3, none⟩ = some u :=
 ⟨by simpa using h 0 _ rfl, h 1 _ rfl, h 2 _ rfl, h 3 _ rfl⟩

set_option maxHeartbeats 4000000 in
set_option maxRecDepth 100000 in
theorem pgathered_any {S : Nat → Prop} (op : Int) (ks : List (Tm × Value)) (p : Option Addr) (c : Nat) (w : World) (_hc : ks.length ≤ c ∧ c ≤ 9223372036854775807) (hrow : RowAt S w ks p) (hall : ∀ q ∈ ks, VS S w q.1 (.agg (encTm q).toArray)) (hsz : Tm.szAll (ks.map (·.1)) ≤ 100000000) :
  Calls Tryz.prog 101 #[.int .i8 op, .slice p ks.length c] w (GPost S op (ks.map (·.1)) w) := by
 obtain ⟨n, hn⟩ : ∃ n, n = ks.length := ⟨_, rfl⟩
 rw [← hn] at _hc ⊢
 have HN := Hd hn
 have HR := Hd hrow
 have HA := Hd hall
 have HZ := Hd hsz
 have hn8 : n ≤ 100000000 := by
  have : ∀ l : List Tm, l.length ≤ Tm.szAll l := fun l => by
   have := kids_len (.mk 0 0 0 l)
   simp only [Tm.kids, Tm.sz] at this
   omega
  have := this (ks.map (·.1))
  rw [List.length_map] at this
  omega
 clear hn hrow hall hsz
 go_enter Tryz.func101, Tryz.ntmps101
 go_wp2_with fail
 go_loopw [4, 9] (fun u i wr => ∃ (j : Nat) (l : List (Tm × Value)), j ≤ n ∧ i = .int .i64 j ∧ Hid (OwnTm wr w.heap.size u l) ∧ Hid (l.map (·.1) = gatheredT op ((ks.take j).map (·.1))) ∧ Hid (∀ q ∈ l, VS S w q.1 (.agg (encTm q).toArray)) ∧ Hid (Ext w wr)) (fun _ i _ => n - (intOf i).toNat)
 case atStart => exact ⟨0, [], Nat.zero_le _, rfl, World.ownsRow_nil _ _ _ _, rfl, (fun q hq => by cases hq), Ext.refl _⟩
 case round =>
  obtain ⟨wo, rfl⟩ : ∃ wo : World, wo = wr := ⟨_, rfl⟩
  obtain ⟨j, l, hj, rfl, hown, hml, hvl, hx⟩ := hrel
  have hlb : l.length ≤ 100000000 := by
   have h1 := congrArg List.length hml.out
   rw [List.length_map] at h1
   have h2 := gatheredT_len op ((ks.take j).map (·.1))
   rw [List.map_take] at h1 h2
   have h3 := Tm.szAll_take_le (ks.map (·.1)) j
   have h4 := HZ.out
   omega
  by_cases hlt : j < n
  ·have hjl : j < ks.length := by rw [← HN.out]; exact hlt
   obtain ⟨b, o, rfl, -, hr⟩ := HR.out.get j hjl
   have hq := HA.out _ (List.getElem_mem hjl)
   have HTk := Hd (show gatheredT op ((ks.take (j + 1)).map (·.1)) = gatheredT op ((ks.take j).map (·.1)) ++ gatheredT op [(ks[j]).1] from by
    rw [List.take_succ_eq_append_getElem hjl, List.map_append, gatheredT_app]; rfl)
   have hz1 : (ks[j]).1.sz ≤ 100000000 := by
    have h1 := Tm.sz_get (ks := ks.map (·.1)) j (by simpa using hjl)
    rw [List.getElem_map] at h1
    have h2 := HZ.out
    omega
   generalize ks[j] = q at *
   obtain ⟨t, u⟩ := q
   obtain ⟨l2, p2, c2, he2, -, -, -, hk2, hl2, hc2, hr2, ha2⟩ := hq.open
   obtain rfl : u = .slice p2 l2.length c2 := by simp [encTm] at he2; exact he2
   have hlk : l2.length ≤ 100000000 := by
    have h1 := kids_len t
    rw [← hk2, List.length_map] at h1
    have hz1 : t.sz ≤ 100000000 := hz1
    omega
   obtain ⟨d0, d1, d2, d3⟩ := rangeAt_enc (World.rangeAt.later hx.out.later hr)
   have hone2 := flat_one ha2
   have hone1 := hq.one
   obtain ⟨w6, h6⟩ : ∃ W : World, wo.alloc (.cells #[.int .i8 t.op, .int .i8 t.fld, .int .u64 t.n, .slice p2 l2.length c2] 26) = W := ⟨_, rfl⟩
   have x6 : Ext wo w6 := h6 ▸ Ext.alloc _ _
   have hsz6 := (hx.out.trans x6).size
   have HX6 := Hd (hx.out.trans x6)
   have HO6 := Hd (owns_ext hown.out x6)
   have e6 : w6.cell? ⟨wo.heap.size, 0, none⟩ = some (.int .i8 t.op) ∧ w6.cell? ⟨wo.heap.size, 1, none⟩ = some (.int .i8 t.fld) ∧ w6.cell? ⟨wo.heap.size, 2, none⟩ = some (.int .u64 t.n) ∧ w6.cell? ⟨wo.heap.size, 3, none⟩ = some (.slice p2 l2.length c2) := by
    rw [← h6]
    exact ⟨by simp [go_sem], by simp [go_sem], by simp [go_sem], by simp [go_sem]⟩
   obtain ⟨e60, e61, e62, e63⟩ := e6
   have HN2 := Hd (show l2.length = 0 ∨ ∃ a : Addr, p2 = some a ∧ ∀ j u, (flatTm l2)[j]? = some u → w6.cell? (a.add j) = some u from by
    rcases hr2 with rfl | ⟨b2, o2, e, -, h⟩
    ·exact .inl rfl
    ·refine .inr ⟨_, e, fun j u hu => ?_⟩
     rw [Addr.add_mid]
     exact HX6.out.later _ _ (h j u hu))
   have HE6 := Hd h6
   have HQ := Hd hq
   have HA2 := Hd ha2
   have HK2 := Hd hk2
   have HO1 := Hd hone1
   have HO2 := Hd hone2
   have HBB := Hd (fun i (hi : u4.ownBlock = some i) => (owns_lt hown.out i hi).1)
   clear h6 x6 hown hr hr2 hq ha2 hk2 hone1 hone2 hz1 he2
   by_cases hop : t.op = op
   ·have HM2 := Hd (show (l ++ l2).map (·.1) = gatheredT op ((ks.take (j + 1)).map (·.1)) from by
     rw [HTk.out, List.map_append, hml.out, HK2.out, gatheredT, if_pos hop, gatheredT, List.append_nil])
    have HV2 := Hd (show ∀ q ∈ l ++ l2, VS S w q.1 (.agg (encTm q).toArray) from fun q hq => (List.mem_append.1 hq).elim (hvl.out q) (HA2.out q))
    generalize t.op = qo at *
    subst hop
    clear hml hvl HTk HA2 HK2
    go_upto_region 4 with (first | (refine wpList_store_new rfl 26 _ _ rfl _ #[.int .i8 qo, .int .i8 t.fld, .int .u64 t.n, .slice p2 l2.length c2] rfl rfl (by kernel_rfl) rfl (by rfl) ?_))
    rw [HE6.out]
    clear HE6 d0 d1 d2 d3
    go_wp2_with (at_builtin; refine wpList_append_E elemTm rfl _ _ rfl w.heap.size u4 _ (flatTm l) rfl HO6.out p2 _ c2 (flatTm l2) rfl (flatTm_len l2) HN2.out HO2.out (by omega) (by omega) hsz6 ?_; intro v4 w9 o9 g9 t9)
    go_roundw
    case rel => exact ⟨j + 1, l ++ l2, by omega, by go_num, (show OwnTm w9 w.heap.size v4 (l ++ l2) from by
     unfold OwnTm
     rw [List.length_append, flatTm_app]
     exact o9), HM2.out, HV2.out, HX6.out.trans' ⟨g9.os, g9.tape, g9.output, g9.size, fun i hi => g9.block i (Nat.lt_of_lt_of_le hi hsz6) (fun e => by have := HBB.out i e.symm; omega)⟩⟩
    case measure => simp [intOf]; omega
   ·have hob : (t.op == op) = false := by rw [beq_eq_false_iff_ne]; exact hop
    have HM2 := Hd (show (l ++ [(t, Value.slice p2 l2.length c2)]).map (·.1) = gatheredT op ((ks.take (j + 1)).map (·.1)) from by
     rw [HTk.out, List.map_append, hml.out, gatheredT, if_neg hop, gatheredT]; rfl)
    have HV2 := Hd (show ∀ q ∈ l ++ [(t, Value.slice p2 l2.length c2)], VS S w q.1 (.agg (encTm q).toArray) from fun q hq => (List.mem_append.1 hq).elim (hvl.out q) (fun e => by rw [List.mem_singleton.1 e]; exact HQ.out))
    obtain ⟨w7, h7⟩ : ∃ W : World, w6.alloc (.cells #[.int .i8 t.op, .int .i8 t.fld, .int .u64 t.n, .slice p2 l2.length c2] 26) = W := ⟨_, rfl⟩
    have x7 : Ext w6 w7 := h7 ▸ Ext.alloc _ _
    have HX7 := Hd (HX6.out.trans x7)
    have hsz7 := HX7.out.size
    have HO7 := Hd (owns_ext HO6.out x7)
    have HN7 := Hd (show ∀ j u, (encTm (t, Value.slice p2 l2.length c2))[j]? = some u → w7.cell? ((⟨w6.heap.size, 0, none⟩ : Addr).add j) = some u from fun j u hu => by
     rw [Addr.add_mid, ← h7]
     exact rangeAt_new w6 _ _ j u hu)
    have HE7 := Hd h7
    clear hop hml hvl HTk HA2 HK2 h7 x7
    generalize t.op = qo at *
    go_upto_region 4 with (first | (refine wpList_store_new rfl 26 _ _ rfl _ #[.int .i8 qo, .int .i8 t.fld, .int .u64 t.n, .slice p2 l2.length c2] rfl rfl (by kernel_rfl) rfl (by rfl) ?_))
    rw [HE6.out]
    clear HE6 d0 d1 d2 d3
    go_upto_region 6 with fail
    go_wp2_with (first
     | (rw [HE7.out]; at_builtin; refine wpList_append_E elemTm rfl _ _ rfl w.heap.size u4 _ (flatTm l) rfl HO7.out (some ⟨w6.heap.size, 0, none⟩) 1 1 (encTm (t, Value.slice p2 l2.length c2)) rfl rfl (.inr ⟨_, rfl, HN7.out⟩) HO1.out (by omega) (by omega) hsz7 ?_; intro v4 w9 o9 g9 t9))
    go_roundw
    case rel => exact ⟨j + 1, l ++ [(t, Value.slice p2 l2.length c2)], by omega, by go_num, (show OwnTm w9 w.heap.size v4 (l ++ [(t, Value.slice p2 l2.length c2)]) from by
     unfold OwnTm
     rw [List.length_append, flatTm_app]
     simpa [flatTm] using o9), HM2.out, HV2.out, HX7.out.trans' ⟨g9.os, g9.tape, g9.output, g9.size, fun i hi => g9.block i (Nat.lt_of_lt_of_le hi hsz7) (fun e => by have := HBB.out i e.symm; omega)⟩⟩
    case measure => simp [intOf]; omega
  ·obtain ⟨p4, c4, rfl, h1, h2, h3⟩ := OwnTm.open hown.out
   have HFIN := Hd (show GPost S op (ks.map (·.1)) w (.returned (.slice p4 l.length c4)) wo from by
    refine ⟨⟨l, p4, c4, rfl, h1, h2, ?_, h3.mono fun b hb => hb.1, hvl.out⟩, hx.out⟩
    rw [hml.out, List.take_of_length_le (by have := HN.out; omega)])
   clear h1 h2 h3 hown hml hvl hx
   go_wp2_with fail
   go_ret
   exact HFIN.out
end Go.Proofs.YtjjbdbklbghlhaaGreatDoor
/- policy.row walked. -/
namespace Go.Proofs.YtjjbdbklbghlhaaGreatDoor
open Go.RowKit Go.Sort Go.Maps Go.Lib
set_option linter.unusedSimpArgs false

/-- what plain makes of a term -/
def PlainOf (t : Tm) : Prop := ∀ (S : Nat → Prop) (v : Value) (w : World), VS S w t v → Calls Tryz.prog 39 #[v] w (TPost S (plainT t) w)
theorem szAll_app : ∀ a b : List Tm, Tm.szAll (a ++ b) = Tm.szAll a + Tm.szAll b
 | [], b => by simp [Tm.szAll]
 | t :: ts, b => by
  rw [List.cons_append]
  simp only [Tm.szAll]
  rw [szAll_app ts b]
  omega
theorem gatheredT_sz (op : Int) : ∀ ks : List Tm, Tm.szAll (gatheredT op ks) ≤ Tm.szAll ks
 | [] => by simp [gatheredT]
 | .mk o f n l :: ts => by
  have h := gatheredT_sz op ts
  rw [gatheredT, szAll_app]
  simp only [Tm.szAll]
  split
  ·simp only [Tm.kids, Tm.sz]; omega
  ·simp only [Tm.szAll]; omega
theorem filter_sz (q : Tm → Bool) : ∀ ks : List Tm, Tm.szAll (ks.filter q) ≤ Tm.szAll ks
 | [] => by simp
 | t :: ts => by
  have := filter_sz q ts
  rw [List.filter_cons]
  split <;> simp only [Tm.szAll] <;> omega
theorem alone_sz (pol : Bool) (m : Int) : (aloneT pol m).sz ≤ 2 := by cases pol <;> simp [aloneT, bareT, Tm.sz, Tm.szAll]
theorem row_sz (op : Int) (ks : List Tm) (nt al : Int) (pol : Bool) : (rowPT op ks nt al pol).sz ≤ Tm.szAll ks + 2 := by
 unfold rowPT
 have h1 := gatheredT_sz op ks
 have h2 := filter_sz (fun k => !k.says nt) (gatheredT op ks)
 split
 ·have := alone_sz pol al
  omega
 ·generalize (gatheredT op ks).filter (fun k => !k.says nt) = l at *
  match l with
  | [] => have := alone_sz pol nt; simp only [leftT]; omega
  | [k] => simp only [leftT, Tm.szAll] at *; omega
  | k :: k' :: l' => simp only [leftT, Tm.sz]; omega
mutual
theorem plain_sz : ∀ t : Tm, (plainT t).sz ≤ 2 * t.sz
 | .mk op f n ks => by
  have h := plainAll_sz ks
  rw [plainT]
  simp only [Tm.sz]
  split
  ·have := row_sz 4 (plainAll ks) 1 0 false; omega
  split
  ·have := row_sz 5 (plainAll ks) 0 1 false; omega
  split
  ·have := row_sz 8 (plainAll ks) 0 (-1) true; omega
  split
  ·have := row_sz 9 (plainAll ks) 1 0 true; omega
  split
  ·have hk : ∀ l : List Tm, (headT l).sz ≤ Tm.szAll l + 1 := fun l => by
    cases l with
    | nil => simp [headT, Tm.sz, Tm.szAll]
    | cons t ts => simp only [headT, Tm.szAll]; omega
   have h1 := hk (plainAll ks)
   unfold oneT
   split
   ·generalize headT (plainAll ks) = k at *
    cases k with
    | mk o' f' n' l' =>
     have := hk l'
     simp only [Tm.kids, Tm.sz] at *
     omega
   split
   ·simp only [bareT, Tm.sz, Tm.szAll]; omega
   split
   ·omega
   split
   ·have := alone_sz true 1; omega
   ·simp only [Tm.sz, Tm.szAll]
    cases ks with
    | nil => simp [plainAll, headT, Tm.sz, Tm.szAll]
    | cons t ts =>
     simp only [plainAll, headT, Tm.szAll] at *
     omega
  ·simp only [Tm.sz, Tm.szAll]; omega
theorem plainAll_sz : ∀ ks : List Tm, Tm.szAll (plainAll ks) ≤ 2 * Tm.szAll ks
 | [] => by simp [plainAll, Tm.szAll]
 | t :: ts => by
  have h1 := plain_sz t
  have h2 := plainAll_sz ts
  rw [plainAll]
  simp only [Tm.szAll]
  omega
end
theorem plainAll_app : ∀ a b : List Tm, plainAll (a ++ b) = plainAll a ++ plainAll b
 | [], b => by simp [plainAll]
 | t :: ts, b => by rw [List.cons_append, plainAll, plainAll, plainAll_app ts b, List.cons_append]
theorem right6 {p : Bool} {t : Tm} (h : t.right p = true) (h6 : t.op = 6) : t.kids ≠ [] := by
 cases t with
 | mk op f n ks =>
  obtain rfl : op = 6 := h6
  cases p
  ·rcases Tm.right_pol h with ⟨-, hk, -⟩ | ⟨h, -⟩ | ⟨h, -⟩ | ⟨h, -⟩
   ·intro e
    have e : ks = [] := e
    subst e
    simp at hk
   ·omega
   ·omega
   ·omega
  ·rcases Tm.right_pred h with h | ⟨h, -⟩ | ⟨h, -⟩ <;> omega

/-- the result stands in its cells -/
theorem row_fin {S : Nat → Prop} {w W : World} {g : Nat} {T : Tm} {o f n : Int} {p : Option Addr} {l c : Nat} (hg : w.heap.size ≤ g) (hX : Ext w W) (hth : W.there g 0 4)
  (hv : VS (fun b => (S b ∧ b < w.heap.size) ∨ (w.heap.size ≤ b ∧ b ≠ g)) W T (.agg #[.int .i8 o, .int .i8 f, .int .u64 n, .slice p l c])) :
  (∀ k v, [Value.int .i8 o, .int .i8 f, .int .u64 n, .slice p l c][k]? = some v → (W.setCells g 0 [.int .i8 o, .int .i8 f, .int .u64 n, .slice p l c]).cell? ⟨g, k, none⟩ = some v) ∧
  TPost S T w (.returned (.agg #[.int .i8 o, .int .i8 f, .int .u64 n, .slice p l c])) (W.setCells g 0 [.int .i8 o, .int .i8 f, .int .u64 n, .slice p l c]) := by
 obtain ⟨h1, h2, h3⟩ := tm_end hg hX hth (.int .i8 o) (.int .i8 f) (.int .u64 n) (.slice p l c)
 refine ⟨h1, ⟨_, rfl, (h3 _ _ _ (fun b hb => ?_) hv).mono fun b hb => ?_⟩, h2⟩
 ·rcases hb with hb | hb
  ·omega
  ·exact hb.2
 ·rcases hb with hb | hb
  ·exact .inl hb.1
  ·exact .inr hb.1

set_option maxHeartbeats 8000000 in
set_option maxRecDepth 100000 in
theorem row_any' {S : Nat → Prop} (t : Tm) (p : Bool) (nt al : Int) (pol : Bool) (fn : Nat) (v : Value) (w : World) (hv : VS S w t v) (hr : Tm.rightAll t.kids p = true) (ho : t.op = thenOp p ∨ t.op = anyOp p) (hf0 : t.fld = 0 ∧ t.n = 0) (hsz : t.sz ≤ 10000) (IH : ∀ k ∈ t.kids, PlainOf k)
    (hnt : nt = 0 ∨ nt = 1) (hal : al = -1 ∨ al = 0 ∨ al = 1)
    (hent : ∀ args w, (callFunc fn args).run Tryz.prog w = .ok (.enter fn args) w) (hfn : ∀ m, (m = 0 ∨ m = 1) → ∀ (S : Nat → Prop) W, Calls Tryz.prog fn #[.int .i8 m] W (TPost S (aloneT pol m) W)) :
    Calls Tryz.prog 61 #[v, .int .i8 nt, .int .i8 al, .func (.func fn) #[] #[]] w (TPost S (rowPT t.op (plainAll t.kids) nt al pol) w) := by
  obtain ⟨ks, q, c, rfl, hbo, hbf, hbn, hk, hlc, hcm, hrow, hall⟩ := hv.open
  obtain ⟨n, hn⟩ : ∃ n, n = ks.length := ⟨_, rfl⟩
  rw [← hn] at hlc ⊢
  have hn8 : n ≤ 10000 := by
    have := kids_len t
    rw [← hk, List.length_map, ← hn] at this
    omega
  obtain ⟨w1, h1⟩ : ∃ W : World, w.alloc (.cells #[.int .i8 t.op, .int .i8 t.fld, .int .u64 t.n, .slice q n c] 26) = W := ⟨_, rfl⟩
  have x1 : Ext w w1 := h1 ▸ Ext.alloc _ _
  have s1 : w1.heap.size = w.heap.size + 1 := by rw [← h1, World.size_alloc]
  obtain ⟨w2, h2⟩ : ∃ W : World, w1.alloc (.cells #[.int .i8 0, .int .i8 0, .int .u64 0, .slice none 0 0] 26) = W := ⟨_, rfl⟩
  have x2 : Ext w1 w2 := h2 ▸ Ext.alloc _ _
  have s2 : w2.heap.size = w.heap.size + 2 := by rw [← h2, World.size_alloc, s1]
  have HX := Hd (x1.trans x2)
  have HC := Hd (show ∀ W, Ext w2 W → W.cell? ⟨w.heap.size, 0, none⟩ = some (.int .i8 t.op) ∧ W.cell? ⟨w.heap.size, 3, none⟩ = some (.slice q n c) from fun W hW => by
    have h := x2.trans hW
    refine ⟨h.later _ _ ?_, h.later _ _ ?_⟩
    · rw [← h1]; simp [go_sem]
    · rw [← h1]; simp [go_sem])
  have HTH := Hd (fun W (hW : Ext w2 W) => show W.there (w.heap.size + 1) 0 4 from by
    have := thereF (cs := #[.int .i8 0, .int .i8 0, .int .u64 0, .slice none 0 0]) (t := 26) (w := w1) (by rw [h2]; exact hW)
    rwa [s1] at this)
  have HE := Hd (And.intro h1 h2)
  have HV := Hd hv
  have HN := Hd hn
  have HK := Hd hk
  have HR := Hd hrow
  have HA := Hd hall
  have HIH := Hd IH
  have HFN := Hd hfn
  have HRR := Hd hr
  have HOO := Hd ho
  have HSZ := Hd hsz
  obtain ⟨c0, c3⟩ := HC.out w2 (Ext.refl _)
  have HF0 := Hd hf0
  clear h1 h2 x1 x2 hn hk hrow hall IH hfn hv hr ho hsz hf0
  go_enter Tryz.func61, Tryz.ntmps61
  go_upto_region 1 with fail
  rw [HE.out.1, HE.out.2]
  go_cut [9] (fun v9 wx => v9 = .slice none 0 0 ∧ w2 = wx)
  case first =>
    go_wp2_with fail
    go_meet
    exact ⟨rfl, rfl⟩
  case rest =>
  skip
  obtain ⟨rfl, rfl⟩ := hcut
  apply_assumption
  refine wp_seq_k fun _ _ => ?_
  -- the kids, made plain
  go_cut [9] (fun v9 wx => ∃ l : List (Tm × Value), Hid (OwnTm wx w2.heap.size v9 l) ∧ Hid (l.map (·.1) = plainAll t.kids) ∧ Hid (∀ q ∈ l, VS (Besides (fun b => S b ∧ b < w.heap.size) w2.heap.size v9) wx q.1 (.agg (encTm q).toArray)) ∧ Hid (Ext w2 wx))
  case first =>
    go_upto_region 3 with fail
    clear c0 c3
    go_loopw [9, 18] (fun u i wr => ∃ (j : Nat) (l : List (Tm × Value)), j ≤ n ∧ i = .int .i64 j ∧ Hid (OwnTm wr w2.heap.size u l) ∧ Hid (l.map (·.1) = plainAll ((ks.take j).map (·.1))) ∧ Hid (∀ q ∈ l, VS (Besides (fun b => S b ∧ b < w.heap.size) w2.heap.size u) wr q.1 (.agg (encTm q).toArray)) ∧ Hid (Ext w2 wr)) (fun _ i _ => n - (intOf i).toNat)
    case atStart => exact ⟨0, [], Nat.zero_le _, rfl, World.ownsRow_nil _ _ _ _, rfl, (fun q hq => by cases hq), Ext.refl _⟩
    case round =>
      obtain ⟨wo, rfl⟩ : ∃ wo : World, wo = wr := ⟨_, rfl⟩
      obtain ⟨j, l, hj, rfl, hown, hml, hvl, hx⟩ := hrel
      have hlb : l.length ≤ 10000 := by
        have h1 := congrArg List.length hml.out
        rw [List.length_map] at h1
        have h2 : ∀ m : List Tm, (plainAll m).length = m.length := fun m => by
          induction m with
          | nil => simp [plainAll]
          | cons a b ih => simp [plainAll, ih]
        rw [h2, List.length_map, List.length_take] at h1
        omega
      by_cases hlt : j < n
      · have hjl : j < ks.length := by rw [← HN.out]; exact hlt
        obtain ⟨b, o, rfl, hSb, hr⟩ := HR.out.get j hjl
        have hq := HA.out _ (List.getElem_mem hjl)
        have hih := HIH.out (ks[j]).1 (by rw [← HK.out]; exact List.mem_map_of_mem (List.getElem_mem hjl))
        have HTk := Hd (show plainAll ((ks.take (j + 1)).map (·.1)) = plainAll ((ks.take j).map (·.1)) ++ [plainT (ks[j]).1] from by
          rw [List.take_succ_eq_append_getElem hjl, List.map_append, plainAll_app]; simp [plainAll])
        generalize ks[j] = q at *
        obtain ⟨k, u⟩ := q
        obtain ⟨l2, p2, c2, he2, -, -, -, -, -, -, -, -⟩ := hq.open
        obtain rfl : u = .slice p2 l2.length c2 := by simp [encTm] at he2; exact he2
        obtain ⟨d0, d1, d2, d3⟩ := rangeAt_enc (World.rangeAt.later (HX.out.trans hx.out).later hr)
        obtain ⟨w6, h6⟩ : ∃ W : World, wo.alloc (.cells #[.int .i8 k.op, .int .i8 k.fld, .int .u64 k.n, .slice p2 l2.length c2] 26) = W := ⟨_, rfl⟩
        have x6 : Ext wo w6 := h6 ▸ Ext.alloc _ _
        have HX6 := Hd (hx.out.trans x6)
        have HO6 := Hd (owns_ext hown.out x6)
        have HV6 := Hd (show ∀ q ∈ l, VS (Besides (fun b => S b ∧ b < w.heap.size) w2.heap.size u9) w6 q.1 (.agg (encTm q).toArray) from fun q hq => (hvl.out q hq).ext x6)
        have e6 : w6.cell? ⟨wo.heap.size, 0, none⟩ = some (.int .i8 k.op) ∧ w6.cell? ⟨wo.heap.size, 1, none⟩ = some (.int .i8 k.fld) ∧ w6.cell? ⟨wo.heap.size, 2, none⟩ = some (.int .u64 k.n) ∧ w6.cell? ⟨wo.heap.size, 3, none⟩ = some (.slice p2 l2.length c2) := by
          rw [← h6]
          exact ⟨by simp [go_sem], by simp [go_sem], by simp [go_sem], by simp [go_sem]⟩
        obtain ⟨e60, e61, e62, e63⟩ := e6
        have HP := Hd (hih (fun b => S b ∧ b < w.heap.size) _ w6 ((hq.there).ext (HX.out.trans HX6.out)))
        have HE6 := Hd h6
        clear h6 x6 hown hr hq hih hvl he2 hx hSb
        go_upto_region 5 with (first | (refine wpList_store_new rfl 26 _ _ rfl _ #[.int .i8 k.op, .int .i8 k.fld, .int .u64 k.n, .slice p2 l2.length c2] rfl rfl (by kernel_rfl) rfl (by rfl) ?_))
        rw [HE6.out]
        clear HE6 d0 d1 d2 d3
        go_upto_region 6 with (first
          | (go_at_call 39; refine HP.out.mono ?_; rintro e w7 ⟨⟨v7, rfl, hv7⟩, hx7⟩
             obtain ⟨l3, p3, c3, rfl, -, -, -, hk3, -, -, -, -⟩ := hv7.open
             obtain ⟨w8, h8⟩ : ∃ W : World, w7.alloc (.cells #[.int .i8 (plainT k).op, .int .i8 (plainT k).fld, .int .u64 (plainT k).n, .slice p3 l3.length c3] 26) = W := ⟨_, rfl⟩
             have x8 : Ext w7 w8 := h8 ▸ Ext.alloc _ _
             have HX8 := Hd (HX6.out.trans (hx7.trans x8))
             have HO8 := Hd (owns_ext HO6.out (hx7.trans x8))
             have hsz8 := HX8.out.size
             have hszo := hx7.size
             have HB8 := Hd (fun i (hi : u9.ownBlock = some i) => show w2.heap.size ≤ i ∧ i < w6.heap.size from owns_lt HO6.out i hi)
             have HV8 := Hd (show ∀ q ∈ l ++ [(plainT k, Value.slice p3 l3.length c3)], VS (Besides (fun b => S b ∧ b < w.heap.size) w2.heap.size u9) w8 q.1 (.agg (encTm q).toArray) from fun q hq => by
               rcases List.mem_append.1 hq with hq | hq
               · exact (HV6.out q hq).ext (hx7.trans x8)
               · rw [List.mem_singleton.1 hq]
                 refine ((show VS _ w7 (plainT k) (.agg (encTm (plainT k, Value.slice p3 l3.length c3)).toArray) from hv7).ext x8).mono fun b hb => ?_
                 rcases hb with hb | hb
                 · exact .inl hb
                 · refine .inr ⟨by have := HX6.out.size; omega, fun e => ?_⟩
                   have := (HB8.out b e).2
                   omega)
             have HN8 := Hd (show ∀ j u, (encTm (plainT k, Value.slice p3 l3.length c3))[j]? = some u → w8.cell? ((⟨w7.heap.size, 0, none⟩ : Addr).add j) = some u from fun j u hu => by
               rw [Addr.add_mid, ← h8]
               exact rangeAt_new w7 _ _ j u hu)
             have HONE := Hd ((show VS _ w7 (plainT k, Value.slice p3 l3.length c3).1 (.agg (encTm (plainT k, Value.slice p3 l3.length c3)).toArray) from hv7).one)
             have HE8 := Hd h8
             clear h8 x8 hx7 hv7 hk3 hszo)
          | (rw [HE8.out]; at_builtin; refine wpList_append_E elemTm rfl _ _ rfl w2.heap.size u9 _ (flatTm l) rfl HO8.out (some ⟨w7.heap.size, 0, none⟩) 1 1 (encTm (plainT k, Value.slice p3 l3.length c3)) rfl rfl (.inr ⟨_, rfl, HN8.out⟩) HONE.out (by omega) (by omega) hsz8 ?_; intro v4 w9 o9 g9 t9))
        have HV9 := Hd (show ∀ q ∈ l ++ [(plainT k, Value.slice p3 l3.length c3)], VS (Besides (fun b => S b ∧ b < w.heap.size) w2.heap.size v4) w9 q.1 (.agg (encTm q).toArray) from fun q hq => (HV8.out q hq).app g9 t9 (fun b hb e => by have := (HB8.out b e).1; have := HX.out.size; omega))
        have HX9 := Hd (show Ext w2 w9 from HX8.out.trans' ⟨g9.os, g9.tape, g9.output, g9.size, fun i hi => g9.block i (Nat.lt_of_lt_of_le hi hsz8) (fun e => by have := (HB8.out i e.symm).1; omega)⟩)
        have HO9 := Hd (show OwnTm w9 w2.heap.size v4 (l ++ [(plainT k, Value.slice p3 l3.length c3)]) from by
          unfold OwnTm
          rw [List.length_append, flatTm_app]
          simpa [flatTm] using o9)
        have HM9 := Hd (show (l ++ [(plainT k, Value.slice p3 l3.length c3)]).map (·.1) = plainAll ((ks.take (j + 1)).map (·.1)) from by
          rw [HTk.out, List.map_append, hml.out]; rfl)
        clear o9 g9 t9 hml HTk HV8 HX8 HO8 HN8 HONE
        go_wp2_with fail
        go_roundw
        case rel => exact ⟨j + 1, l ++ [(plainT k, Value.slice p3 l3.length c3)], by omega, by go_num, HO9.out, HM9.out, HV9.out, HX9.out⟩
        case measure => simp [intOf]; omega
      · go_wp2_with fail
        go_meet
        exact ⟨l, hown, by rw [Hid, hml.out, List.take_of_length_le (by have := HN.out; omega), HK.out], hvl, hx⟩
  case rest =>
  obtain ⟨l, hown, hml, hvl, hx⟩ := hcut
  apply_assumption
  obtain ⟨p9, c9, rfl, h1, h2, h3⟩ := OwnTm.open hown.out
  have HSM := Hd (show ∀ u b, Besides (fun b => S b ∧ b < w.heap.size) w2.heap.size u b → ((S b ∧ b < w.heap.size) ∨ w2.heap.size ≤ b) from fun u b hb => hb.imp id fun h => h.1)
  have hpl : ∀ k ∈ plainAll t.kids, k.right p = true := fun k hk => by
    obtain ⟨x, hx1, rfl⟩ := plainAll_mem hk
    exact (plain_ok x p (rightAll_mem.1 HRR.out x hx1)).1
  have HRG := Hd (gathered_right HOO.out hpl)
  have hzz : Tm.szAll (plainAll t.kids) ≤ 20000 := by
    have h4 := plainAll_sz t.kids
    have h5 : Tm.szAll t.kids + 1 = t.sz := by cases t; rfl
    have := HSZ.out
    omega
  have HG := Hd (pgathered_any (S := fun b => (S b ∧ b < w.heap.size) ∨ w2.heap.size ≤ b) t.op l p9 c9 wc ⟨h1, h2⟩ (h3.mono fun b hb => .inr hb.1) (fun q hq => (hvl.out q hq).mono fun b hb => HSM.out _ b hb) (by rw [hml.out]; omega))
  have HLG := Hd (show (gatheredT t.op (plainAll t.kids)).length ≤ 20000 from by
    have := gatheredT_len t.op (plainAll t.kids)
    omega)
  have HML := Hd hml.out
  rw [HML.out] at HG
  have HX3 := Hd hx.out
  obtain ⟨nl, hnl⟩ : ∃ nl, nl = l.length := ⟨_, rfl⟩
  rw [← hnl] at HG ⊢
  clear hown hml hvl hx h1 h2 h3 hpl hzz hnl HIH HR HA HSM
  obtain ⟨c0, c3⟩ := HC.out wc HX3.out
  go_wp2_with fail
  refine HG.out.mono ?_
  rintro e wG ⟨⟨out, po, co, rfl, ho1, ho2, hom, hor, hoa⟩, hxg⟩
  have HOM := Hd hom
  have HXG := Hd (HX3.out.trans hxg)
  have HXC := Hd hxg
  have HOA := Hd (show ∀ q ∈ out, VS (fun b => (S b ∧ b < w.heap.size) ∨ w2.heap.size ≤ b) wG q.1 (.agg (encTm q).toArray) from fun q hq => (hoa q hq).ext hxg)
  have HOR := Hd hor
  obtain ⟨m, hm⟩ : ∃ m, m = out.length := ⟨_, rfl⟩
  have HM := Hd hm
  have hm8 : m ≤ 20000 := by
    have := HLG.out
    rw [← HOM.out, List.length_map] at this
    omega
  rw [← hm]
  clear hom hxg hoa hor hm c0 c3 HG ho1
  dsimp only
  go_upto_region 9 with fail
  go_loopw [12, 33] (fun u i wr => ∃ (j : Nat) (l2 : List (Tm × Value)), j ≤ m ∧ i = .int .i64 j ∧ Hid (OwnTm wr wG.heap.size u l2) ∧ Hid (l2.map (·.1) = ((out.take j).map (·.1)).filter fun k => !k.says nt) ∧ Hid (0 ≤ al → ((out.take j).map (·.1)).any (fun k => k.says al) = false) ∧ Hid (∀ q ∈ l2, VS (fun b => (S b ∧ b < w.heap.size) ∨ w2.heap.size ≤ b) wG q.1 (.agg (encTm q).toArray)) ∧ Hid (Ext wG wr)) (fun _ i _ => m - (intOf i).toNat)
  case atStart => exact ⟨0, [], Nat.zero_le _, rfl, World.ownsRow_nil _ _ _ _, rfl, (fun _ => rfl), (fun q hq => by cases hq), Ext.refl _⟩
  case round =>
    obtain ⟨wo, rfl⟩ : ∃ wo : World, wo = wr := ⟨_, rfl⟩
    obtain ⟨j, l2, hj, rfl, hown, hml, hna, hvl, hx⟩ := hrel
    by_cases hlt : j < m
    · have hjl : j < out.length := by rw [← HM.out]; exact hlt
      obtain ⟨b, o, rfl, hSb, hr⟩ := HOR.out.get j hjl
      have hq := HOA.out _ (List.getElem_mem hjl)
      have hrg := HRG.out (out[j]).1 (by rw [← HOM.out]; exact List.mem_map_of_mem (List.getElem_mem hjl))
      have hmem : (out[j]).1 ∈ gatheredT t.op (plainAll t.kids) := by rw [← HOM.out]; exact List.mem_map_of_mem (List.getElem_mem hjl)
      have HTk := Hd (show (out.take (j + 1)).map (·.1) = (out.take j).map (·.1) ++ [(out[j]).1] from by
        rw [List.take_succ_eq_append_getElem hjl, List.map_append]; rfl)
      have hlb : l2.length ≤ 20000 := by
        have h1 := congrArg List.length hml.out
        rw [List.length_map] at h1
        have h2 := List.length_filter_le (fun k : Tm => !k.says nt) ((out.take j).map (·.1))
        rw [List.length_map, List.length_take] at h2
        omega
      generalize out[j] = q at *
      obtain ⟨k, u⟩ := q
      obtain ⟨l4, p4, c4, he4, -, -, -, -, -, -, -, -⟩ := hq.open
      obtain rfl : u = .slice p4 l4.length c4 := by simp [encTm] at he4; exact he4
      obtain ⟨d0, d1, d2, d3⟩ := rangeAt_enc (World.rangeAt.later hx.out.later hr)
      obtain ⟨w6, h6⟩ : ∃ W : World, wo.alloc (.cells #[.int .i8 k.op, .int .i8 k.fld, .int .u64 k.n, .slice p4 l4.length c4] 26) = W := ⟨_, rfl⟩
      have x6 : Ext wo w6 := h6 ▸ Ext.alloc _ _
      have HX6 := Hd (hx.out.trans x6)
      have HO6 := Hd (owns_ext hown.out x6)
      have HC6 := Hd (show ∀ W, Ext w6 W → W.cell? ⟨wo.heap.size, 0, none⟩ = some (.int .i8 k.op) ∧ W.cell? ⟨wo.heap.size, 1, none⟩ = some (.int .i8 k.fld) ∧ W.cell? ⟨wo.heap.size, 2, none⟩ = some (.int .u64 k.n) ∧ W.cell? ⟨wo.heap.size, 3, none⟩ = some (.slice p4 l4.length c4) from fun W hW => by
        refine ⟨hW.later _ _ ?_, hW.later _ _ ?_, hW.later _ _ ?_, hW.later _ _ ?_⟩
        all_goals (rw [← h6]; simp [go_sem]))
      obtain ⟨e60, e61, e62, e63⟩ := HC6.out w6 (Ext.refl _)
      have HSY := Hd (show ∀ W m, Ext w6 W → (-128 ≤ m ∧ m ≤ 127) → Calls Tryz.prog 102 #[.agg #[.int .i8 k.op, .int .i8 k.fld, .int .u64 k.n, .slice p4 l4.length c4], .int .i8 m] W fun e w' => e = .returned (.bool (k.says m)) ∧ Ext W w' from fun W m hW hm => says_any k m _ W (hq.ext (HX6.out.trans hW)) (fun e => right6 hrg e) hm)
      have HMEM := Hd hmem
      have HQ := Hd hq
      have HE6 := Hd h6
      have HOWN := Hd hown.out
      have HML2 := Hd hml.out
      have HNA := Hd hna.out
      have HVL := Hd hvl.out
      have HXO := Hd hx.out
      clear h6 x6 hown hr hq hvl he4 hx hSb hrg hmem hml hna
      go_upto_region 11 with (first | (refine wpList_store_new rfl 26 _ _ rfl _ #[.int .i8 k.op, .int .i8 k.fld, .int .u64 k.n, .slice p4 l4.length c4] rfl rfl (by kernel_rfl) rfl (by rfl) ?_))
      rw [HE6.out]
      clear HE6 d0 d1 d2 d3
      go_cut [43] (fun v43 wx => v43 = .bool (decide (0 ≤ al) && k.says al) ∧ Hid (Ext w6 wx))
      case first =>
        rcases hal with rfl | rfl | rfl
        · go_wp2_with fail
          go_meet
          exact ⟨rfl, Ext.refl _⟩
        · have HS := Hd (HSY.out w6 0 (Ext.refl _) (by omega))
          go_wp2_with fail
          refine HS.out.mono ?_
          rintro e wx ⟨rfl, hxx⟩
          go_wp2_with fail
          go_meet
          exact ⟨by simp, hxx⟩
        · have HS := Hd (HSY.out w6 1 (Ext.refl _) (by omega))
          go_wp2_with fail
          refine HS.out.mono ?_
          rintro e wx ⟨rfl, hxx⟩
          go_wp2_with fail
          go_meet
          exact ⟨by simp, hxx⟩
      case rest =>
      obtain ⟨rfl, hxx⟩ := hcut
      apply_assumption
      have HXX := Hd hxx.out
      clear hxx e60 e61 e62 e63
      cases hsa : (decide (0 ≤ al) && k.says al) with
      | true =>
        have HSA := Hd hsa
        clear hsa
        have HAL := Hd (HFN.out al (by
          have h := HSA.out
          rw [Bool.and_eq_true, decide_eq_true_eq] at h
          omega) (fun _ => False) wc)
        have HTE := Hd (show rowPT t.op (plainAll t.kids) nt al pol = aloneT pol al from by
          have h := HSA.out
          rw [Bool.and_eq_true, decide_eq_true_eq] at h
          unfold rowPT
          rw [if_pos ⟨h.1, List.any_eq_true.2 ⟨k, HMEM.out, h.2⟩⟩])
        have hx0 := (HXG.out.trans (HX6.out.trans HXX.out)).size
        have HXW := Hd (HXG.out.trans (HX6.out.trans HXX.out))
        clear HSZ
        go_wp2_with (first
          | (refine HAL.out.mono ?_
             rintro e w8 ⟨⟨v8, rfl, hv8⟩, hx8⟩
             obtain ⟨l8, p8, c8, rfl, -⟩ := id hv8.open
             have HT8 := Hd (HTH.out w8 ((HXW.out).trans hx8))
             have HFI := Hd (row_fin (S := S) (g := w.heap.size + 1) (by omega) (HX.out.trans ((HXW.out).trans hx8)) HT8.out (hv8.mono fun b hb => .inr ⟨by rcases hb with hb | hb; exact hb.elim; omega, by rcases hb with hb | hb; exact hb.elim; omega⟩))
             have HK := Hd HFI.out.1
             have HTP := Hd (show TPost S (rowPT t.op (plainAll t.kids) nt al pol) w (.returned (.agg #[.int .i8 (aloneT pol al).op, .int .i8 (aloneT pol al).fld, .int .u64 (aloneT pol al).n, .slice p8 l8.length c8])) (w8.setCells (w.heap.size + 1) 0 [.int .i8 (aloneT pol al).op, .int .i8 (aloneT pol al).fld, .int .u64 (aloneT pol al).n, .slice p8 l8.length c8]) from by rw [HTE.out]; exact HFI.out.2)
             clear hv8 hx8 HFI HAL)
          | (refine wpList_store_mid rfl 26 _ _ rfl (w.heap.size + 1) 0 #[.int .i8 (aloneT pol al).op, .int .i8 (aloneT pol al).fld, .int .u64 (aloneT pol al).n, .slice p8 l8.length c8] rfl rfl HT8.out (infoT4 _ _ _ _) (tmv_one _ _ _ _ _ _) ?_))
        have k0 := HK.out 0 _ rfl
        have k1 := HK.out 1 _ rfl
        have k2 := HK.out 2 _ rfl
        have k3 := HK.out 3 _ rfl
        refine bodyPost_ret_by (v := .agg #[.int .i8 (aloneT pol al).op, .int .i8 (aloneT pol al).fld, .int .u64 (aloneT pol al).n, .slice p8 l8.length c8]) ?_ rfl HTP.out
        rw [results_cell_one rfl]
        generalize w8.setCells (w.heap.size + 1) 0 _ = wE at *
        go_simp
        try rfl
      | false =>
        have HSA := Hd hsa
        clear hsa
        obtain ⟨e60, e61, e62, e63⟩ := HC6.out wc HXX.out
        have HS := Hd (HSY.out wc nt HXX.out (by omega))
        go_wp2_with fail
        refine HS.out.mono ?_
        rintro e wd ⟨rfl, hxd⟩
        have HXD := Hd (HXX.out.trans hxd)
        have HNA2 := Hd (show 0 ≤ al → ((out.take (j + 1)).map (·.1)).any (fun k => k.says al) = false from fun h => by
          rw [HTk.out, List.any_append, HNA.out h]
          have h2 := HSA.out
          rw [decide_eq_true h, Bool.true_and] at h2
          simp [h2])
        clear e60 e61 e62 e63 hxd HS HNA HSA
        obtain ⟨e60, e61, e62, e63⟩ := HC6.out wd HXD.out
        cases hsn : k.says nt with
        | true =>
          have HM2 := Hd (show l2.map (·.1) = ((out.take (j + 1)).map (·.1)).filter (fun k => !k.says nt) from by
            rw [HTk.out, List.filter_append, HML2.out]
            simp [hsn])
          have HO := Hd (owns_ext HO6.out HXD.out)
          have HXZ := Hd (HX6.out.trans HXD.out)
          clear hsn HML2 HTk
          go_wp2_with fail
          go_roundw
          case rel => exact ⟨j + 1, l2, by omega, by go_num, HO.out, HM2.out, HNA2.out, HVL.out, HXZ.out⟩
          case measure => simp [intOf]; omega
        | false =>
          have HM2 := Hd (show (l2 ++ [(k, Value.slice p4 l4.length c4)]).map (·.1) = ((out.take (j + 1)).map (·.1)).filter (fun k => !k.says nt) from by
            rw [HTk.out, List.filter_append, List.map_append, HML2.out]
            simp [hsn])
          have HV2 := Hd (show ∀ q ∈ l2 ++ [(k, Value.slice p4 l4.length c4)], VS (fun b => (S b ∧ b < w.heap.size) ∨ w2.heap.size ≤ b) wG q.1 (.agg (encTm q).toArray) from fun q hq => (List.mem_append.1 hq).elim (HVL.out q) (fun e => by rw [List.mem_singleton.1 e]; exact HQ.out))
          obtain ⟨w7, h7⟩ : ∃ W : World, wd.alloc (.cells #[.int .i8 k.op, .int .i8 k.fld, .int .u64 k.n, .slice p4 l4.length c4] 26) = W := ⟨_, rfl⟩
          have x7 : Ext wd w7 := h7 ▸ Ext.alloc _ _
          have HX7 := Hd (HX6.out.trans (HXD.out.trans x7))
          have hsz7 := HX7.out.size
          have HO7 := Hd (owns_ext HO6.out (HXD.out.trans x7))
          have HN7 := Hd (show ∀ j u, (encTm (k, Value.slice p4 l4.length c4))[j]? = some u → w7.cell? ((⟨wd.heap.size, 0, none⟩ : Addr).add j) = some u from fun j u hu => by
            rw [Addr.add_mid, ← h7]
            exact rangeAt_new wd _ _ j u hu)
          have HO1 := Hd ((VS.one (q := (k, Value.slice p4 l4.length c4)) HQ.out))
          have HBB := Hd (fun i (hi : u12.ownBlock = some i) => (owns_lt HO6.out i hi).1)
          have HE7 := Hd h7
          clear hsn HML2 HTk HVL h7 x7
          go_upto_region 14 with fail
          go_wp2_with (first
            | (rw [HE7.out]; at_builtin; refine wpList_append_E elemTm rfl _ _ rfl wG.heap.size u12 _ (flatTm l2) rfl HO7.out (some ⟨wd.heap.size, 0, none⟩) 1 1 (encTm (k, Value.slice p4 l4.length c4)) rfl rfl (.inr ⟨_, rfl, HN7.out⟩) HO1.out (by omega) (by omega) hsz7 ?_; intro v4 w9 o9 g9 t9))
          go_roundw
          case rel => exact ⟨j + 1, l2 ++ [(k, Value.slice p4 l4.length c4)], by omega, by go_num, (show OwnTm w9 wG.heap.size v4 (l2 ++ [(k, Value.slice p4 l4.length c4)]) from by
            unfold OwnTm
            rw [List.length_append, flatTm_app]
            simpa [flatTm] using o9), HM2.out, HNA2.out, HV2.out, HX7.out.trans' ⟨g9.os, g9.tape, g9.output, g9.size, fun i hi => g9.block i (Nat.lt_of_lt_of_le hi hsz7) (fun e => by have := HBB.out i e.symm; omega)⟩⟩
          case measure => simp [intOf]; omega
    · have hrow : rowPT t.op (plainAll t.kids) nt al pol = leftT t.op pol nt (l2.map (·.1)) := by
        have e1 : out.take j = out := List.take_of_length_le (by have := HM.out; omega)
        have h1 := hml.out
        have h2 := hna.out
        rw [e1, HOM.out] at h1 h2
        unfold rowPT
        rw [if_neg (fun h => by rw [h2 h.1] at h; exact Bool.false_ne_true h.2), h1]
      have HROW := Hd hrow
      obtain ⟨p12, c12, rfl, h1, h2, h3⟩ := OwnTm.open hown.out
      have HL12 := Hd (And.intro h1 h2)
      have HR12 := Hd (h3.mono (T := fun b => wG.heap.size ≤ b) fun b hb => hb.1)
      have HVL := Hd (show ∀ q ∈ l2, VS (fun b => (S b ∧ b < w.heap.size) ∨ w2.heap.size ≤ b) wo q.1 (.agg (encTm q).toArray) from fun q hq => (hvl.out q hq).ext hx.out)
      have HXW := Hd (HXG.out.trans hx.out)
      have HSG := Hd HXG.out.size
      clear hrow hown hml hna hvl h1 h2 h3 hx
      match l2 with
      | [] =>
        simp only [List.length_nil]
        have HAL := Hd (HFN.out nt (hnt) (fun _ => False) wo)
        have HTE := Hd (show rowPT t.op (plainAll t.kids) nt al pol = aloneT pol nt from by rw [HROW.out]; rfl)
        have hx0 := (HXW.out).size
        have HXW := Hd (HXW.out)
        clear HSZ
        go_wp2_with (first
          | (refine HAL.out.mono ?_
             rintro e w8 ⟨⟨v8, rfl, hv8⟩, hx8⟩
             obtain ⟨l8, p8, c8, rfl, -⟩ := id hv8.open
             have HT8 := Hd (HTH.out w8 ((HXW.out).trans hx8))
             have HFI := Hd (row_fin (S := S) (g := w.heap.size + 1) (by omega) (HX.out.trans ((HXW.out).trans hx8)) HT8.out (hv8.mono fun b hb => .inr ⟨by rcases hb with hb | hb; exact hb.elim; omega, by rcases hb with hb | hb; exact hb.elim; omega⟩))
             have HK := Hd HFI.out.1
             have HTP := Hd (show TPost S (rowPT t.op (plainAll t.kids) nt al pol) w (.returned (.agg #[.int .i8 (aloneT pol nt).op, .int .i8 (aloneT pol nt).fld, .int .u64 (aloneT pol nt).n, .slice p8 l8.length c8])) (w8.setCells (w.heap.size + 1) 0 [.int .i8 (aloneT pol nt).op, .int .i8 (aloneT pol nt).fld, .int .u64 (aloneT pol nt).n, .slice p8 l8.length c8]) from by rw [HTE.out]; exact HFI.out.2)
             clear hv8 hx8 HFI HAL)
          | (refine wpList_store_mid rfl 26 _ _ rfl (w.heap.size + 1) 0 #[.int .i8 (aloneT pol nt).op, .int .i8 (aloneT pol nt).fld, .int .u64 (aloneT pol nt).n, .slice p8 l8.length c8] rfl rfl HT8.out (infoT4 _ _ _ _) (tmv_one _ _ _ _ _ _) ?_))
        have k0 := HK.out 0 _ rfl
        have k1 := HK.out 1 _ rfl
        have k2 := HK.out 2 _ rfl
        have k3 := HK.out 3 _ rfl
        refine bodyPost_ret_by (v := .agg #[.int .i8 (aloneT pol nt).op, .int .i8 (aloneT pol nt).fld, .int .u64 (aloneT pol nt).n, .slice p8 l8.length c8]) ?_ rfl HTP.out
        rw [results_cell_one rfl]
        generalize w8.setCells (w.heap.size + 1) 0 _ = wE at *
        go_simp
        try rfl
      | [q] =>
        obtain ⟨b, o, rfl, -, hr⟩ := HR12.out.get 0 (by simp)
        have hq := HVL.out q (by simp)
        rw [List.getElem_cons_zero] at hr
        obtain ⟨k, u⟩ := q
        obtain ⟨l4, p4, c4, he4, -⟩ := hq.open
        obtain rfl : u = .slice p4 l4.length c4 := by simp [encTm] at he4; exact he4
        obtain ⟨d0, d1, d2, d3⟩ := rangeAt_enc hr
        simp only [Nat.zero_mul, Nat.add_zero] at d0 d1 d2 d3
        have HT8 := Hd (HTH.out wo HXW.out)
        have HFI := Hd (row_fin (S := S) (T := k) (g := w.heap.size + 1) (by omega) (HX.out.trans HXW.out) HT8.out ((show VS _ wo k (.agg #[.int .i8 k.op, .int .i8 k.fld, .int .u64 k.n, .slice p4 l4.length c4]) from hq).mono fun b hb => by
          rcases hb with hb | hb
          · exact .inl hb
          · exact .inr ⟨by omega, by omega⟩))
        have HK := Hd HFI.out.1
        have HTP := Hd (show TPost S (rowPT t.op (plainAll t.kids) nt al pol) w (.returned (.agg #[.int .i8 k.op, .int .i8 k.fld, .int .u64 k.n, .slice p4 l4.length c4])) (wo.setCells (w.heap.size + 1) 0 [.int .i8 k.op, .int .i8 k.fld, .int .u64 k.n, .slice p4 l4.length c4]) from by rw [HROW.out, show leftT t.op pol nt (List.map (·.1) [(k, Value.slice p4 l4.length c4)]) = k from rfl]; exact HFI.out.2)
        clear HFI
        clear hr hq he4
        simp only [List.length_cons, List.length_nil]
        trace_state
        go_wp2_with (first | (refine wpList_store_mid rfl 26 _ _ rfl (w.heap.size + 1) 0 #[.int .i8 k.op, .int .i8 k.fld, .int .u64 k.n, .slice p4 l4.length c4] rfl rfl HT8.out (infoT4 _ _ _ _) (tmv_one _ _ _ _ _ _) ?_))
        have k0 := HK.out 0 _ rfl
        have k1 := HK.out 1 _ rfl
        have k2 := HK.out 2 _ rfl
        have k3 := HK.out 3 _ rfl
        refine bodyPost_ret_by (v := .agg #[.int .i8 k.op, .int .i8 k.fld, .int .u64 k.n, .slice p4 l4.length c4]) ?_ rfl HTP.out
        rw [results_cell_one rfl]
        generalize wo.setCells (w.heap.size + 1) 0 _ = wE at *
        go_simp
        try rfl
      | q :: q' :: l2 =>
        obtain ⟨n12, hn12⟩ : ∃ n12, n12 = (q :: q' :: l2).length := ⟨_, rfl⟩
        have hlt12 : 1 < n12 := by rw [hn12]; simp
        have HROW2 := Hd (show rowPT t.op (plainAll t.kids) nt al pol = .mk t.op 0 0 ((q :: q' :: l2).map (·.1)) from HROW.out)
        have hvs : VS (fun b => (S b ∧ b < w.heap.size) ∨ (w.heap.size ≤ b ∧ b ≠ w.heap.size + 1)) wo (.mk t.op 0 0 ((q :: q' :: l2).map (·.1))) (.agg #[.int .i8 t.op, .int .i8 0, .int .u64 0, .slice p12 (q :: q' :: l2).length c12]) := by
          have hsg := HSG.out
          refine VS.mk hbo (by omega) (by omega) HL12.out.1 HL12.out.2 (HR12.out.mono fun b hb => .inr ⟨by omega, by omega⟩) fun q hq => (HVL.out q hq).mono fun b hb => ?_
          rcases hb with hb | hb
          · exact .inl hb
          · exact .inr ⟨by omega, by omega⟩
        rw [← hn12] at hvs ⊢
        generalize (q :: q' :: l2).map (·.1) = TS at *
        have HT8 := Hd (HTH.out wo HXW.out)
        have HFI := Hd (row_fin (S := S) (T := .mk t.op 0 0 TS) (g := w.heap.size + 1) (by omega) (HX.out.trans HXW.out) HT8.out (hvs))
        have HK := Hd HFI.out.1
        have HTP := Hd (show TPost S (rowPT t.op (plainAll t.kids) nt al pol) w (.returned (.agg #[.int .i8 t.op, .int .i8 0, .int .u64 0, .slice p12 n12 c12])) (wo.setCells (w.heap.size + 1) 0 [.int .i8 t.op, .int .i8 0, .int .u64 0, .slice p12 n12 c12]) from by rw [HROW2.out]; exact HFI.out.2)
        clear HFI
        clear hvs hn12 HR12 HVL HL12 HROW
        have hb0 : ((n12 : Int) == 0) = false := by rw [beq_eq_false_iff_ne]; omega
        have hb1 : ((n12 : Int) == 1) = false := by rw [beq_eq_false_iff_ne]; omega
        obtain ⟨c0, c3⟩ := HC.out wo HXW.out
        go_wp2_with (first | (refine wpList_store_mid rfl 26 _ _ rfl (w.heap.size + 1) 0 #[.int .i8 t.op, .int .i8 0, .int .u64 0, .slice p12 n12 c12] rfl rfl HT8.out (infoT4 _ _ _ _) (tmv_one _ _ _ _ _ _) ?_))
        have k0 := HK.out 0 _ rfl
        have k1 := HK.out 1 _ rfl
        have k2 := HK.out 2 _ rfl
        have k3 := HK.out 3 _ rfl
        refine bodyPost_ret_by (v := .agg #[.int .i8 t.op, .int .i8 0, .int .u64 0, .slice p12 n12 c12]) ?_ rfl HTP.out
        rw [results_cell_one rfl]
        generalize wo.setCells (w.heap.size + 1) 0 _ = wE at *
        go_simp
        try rfl
end Go.Proofs.YtjjbdbklbghlhaaGreatDoor
/- policy.plain walked. -/
namespace Go.Proofs.YtjjbdbklbghlhaaGreatDoor
open Go.RowKit Go.Sort Go.Maps Go.Lib
set_option linter.unusedSimpArgs false

theorem right_fld {p : Bool} {op f n : Int} {ks : List Tm} (h : (Tm.mk op f n ks).right p = true) (ho : op ≠ 2 ∧ op ≠ 7) : f = 0 ∧ n = 0 := by
 rw [Tm.right] at h
 by_cases h0 : op < 0 ∨ 10 < op
 ·rw [if_pos h0] at h; cases h
 rw [if_neg h0] at h
 obtain ⟨k, rfl⟩ := Int.eq_ofNat_of_zero_le (a := op) (by omega)
 rw [Int.toNat_natCast] at h
 have hfd : (wantsOf k).field = false := by
  have hk : k < 11 := by omega
  match k, hk with
  | 0, _ | 1, _ | 3, _ | 4, _ | 5, _ | 6, _ | 8, _ | 9, _ | 10, _ => rfl
  | 2, _ => exact absurd rfl ho.1
  | 7, _ => exact absurd rfl ho.2
 rw [hfd] at h
 simp only [Bool.false_eq_true, if_false] at h
 by_cases hc : f ≠ 0 ∨ n ≠ 0
 ·rw [if_pos hc] at h
  split at h
  ·cases h
  split at h
  ·cases h
  split at h
  ·cases h
  ·cases h
 ·omega

set_option maxHeartbeats 16000000 in
set_option maxRecDepth 100000 in
theorem plain_aux (m : Nat) (hm0 : m ≤ 10000) : ∀ (t : Tm) (p : Bool), t.sz ≤ m → t.right p = true → PlainOf t := by
  induction m with
  | zero => intro t p hm; have := t.sz_pos; omega
  | succ m ih =>
    intro t p hm hrt S v w hv
    have IHm := ih (by omega)
    have hbop := right_op hrt
    obtain ⟨ksl, q, c, rfl, hbo, hbf, hbn, hk, hlc, hcm, hrow, hall⟩ := hv.open
    have HV := Hd hv
    have HRT := Hd hrt
    have HSZ := Hd (show t.sz ≤ 10000 from by omega)
    cases t with
    | mk op f n ks =>
    simp only [Tm.op, Tm.fld, Tm.n, Tm.kids] at *
    have HIH := Hd (show (op ≠ 0 ∧ op ≠ 1 ∧ op ≠ 2 ∧ op ≠ 7) → ∀ k ∈ ks, PlainOf k from fun hno k hk => by
      have hsz := Tm.sz_get (ks := ks)
      obtain ⟨i, hi, rfl⟩ := List.getElem_of_mem hk
      have h1 := hsz i hi
      simp only [Tm.sz] at hm
      cases p
      · rcases Tm.right_pol hrt with ⟨-, -, h⟩ | ⟨h, -⟩ | ⟨-, -, h⟩ | ⟨-, -, h⟩
        · exact IHm _ true (by omega) (rightAll_mem.1 h _ hk)
        · omega
        · exact IHm _ false (by omega) (rightAll_mem.1 h _ hk)
        · exact IHm _ false (by omega) (rightAll_mem.1 h _ hk)
      · rcases Tm.right_pred hrt with h | ⟨h, -⟩ | ⟨-, -, h⟩
        · omega
        · omega
        · exact IHm _ true (by omega) (rightAll_mem.1 h _ hk))
    obtain ⟨PT, hPT⟩ : ∃ PT, PT = plainT (.mk op f n ks) := ⟨_, rfl⟩
    rw [← hPT]
    have HPP := Hd hPT
    obtain ⟨len, hlen⟩ : ∃ len, len = ksl.length := ⟨_, rfl⟩
    rw [← hlen] at hlc HV ⊢
    obtain ⟨w1, h1⟩ : ∃ W : World, w.alloc (.cells #[.int .i8 op, .int .i8 f, .int .u64 n, .slice q len c] 26) = W := ⟨_, rfl⟩
    have x1 : Ext w w1 := h1 ▸ Ext.alloc _ _
    have s1 : w1.heap.size = w.heap.size + 1 := by rw [← h1, World.size_alloc]
    obtain ⟨w2, h2⟩ : ∃ W : World, w1.alloc (.cells #[.int .i8 0, .int .i8 0, .int .u64 0, .slice none 0 0] 26) = W := ⟨_, rfl⟩
    have x2 : Ext w1 w2 := h2 ▸ Ext.alloc _ _
    have s2 : w2.heap.size = w.heap.size + 2 := by rw [← h2, World.size_alloc, s1]
    have HX := Hd (x1.trans x2)
    have HC := Hd (show ∀ W, Ext w2 W → W.cell? ⟨w.heap.size, 0, none⟩ = some (.int .i8 op) ∧ W.cell? ⟨w.heap.size, 1, none⟩ = some (.int .i8 f) ∧ W.cell? ⟨w.heap.size, 2, none⟩ = some (.int .u64 n) ∧ W.cell? ⟨w.heap.size, 3, none⟩ = some (.slice q len c) from fun W hW => by
      have h := x2.trans hW
      refine ⟨h.later _ _ ?_, h.later _ _ ?_, h.later _ _ ?_, h.later _ _ ?_⟩
      all_goals (rw [← h1]; simp [go_sem]))
    have HTH := Hd (fun W (hW : Ext w2 W) => show W.there (w.heap.size + 1) 0 4 from by
      have := thereF (cs := #[.int .i8 0, .int .i8 0, .int .u64 0, .slice none 0 0]) (t := 26) (w := w1) (by rw [h2]; exact hW)
      rwa [s1] at this)
    have HE := Hd (And.intro h1 h2)
    have HKS := Hd hk
    have HLN := Hd hlen
    have HR := Hd hrow
    have HA := Hd hall
    have HF0 := Hd (show op ≠ 2 ∧ op ≠ 7 → f = 0 ∧ n = 0 from fun h => right_fld hrt h)
    clear h1 h2 x1 x2 hlen hk hrow hall hv hrt hPT ih IHm hm
    have hcase : op = 4 ∨ op = 5 ∨ op = 8 ∨ op = 9 ∨ op = 3 ∨ op = 6 ∨ op = 10 ∨ (op = 0 ∨ op = 1 ∨ op = 2 ∨ op = 7) := by omega
    obtain ⟨z0, z1, z2, z3⟩ := HC.out w2 (Ext.refl _)
    rcases hcase with rfl | rfl | rfl | rfl | rfl | rfl | rfl | hop
    · obtain rfl : p = true := by
        rcases hbop with h | h
        · first | exact h.1 | omega
        · first | exact h.1 | omega
      have HF0 := Hd (HF0.out (by decide))
      have HRT := Hd HRT.out
      go_enter Tryz.func39, Tryz.ntmps39
      go_upto_region 1 with fail
      rw [HE.out.1, HE.out.2]
      have HROW := Hd (row_any' (S := fun b => S b ∧ b < w.heap.size) (.mk 4 f n ks) true 1 (0) false 62 _ w2 (HV.out.there.ext HX.out) (row_kids (p := true) (by decide) HRT.out) (by show (4 : Int) = thenOp true ∨ (4 : Int) = anyOp true; decide) HF0.out HSZ.out (HIH.out (by decide)) (by decide) (by decide) (enters_of Tryz.func62 (by kernel_rfl) rfl) (fun m hm S' W => bare_any m (by omega) S' W))
      have HPT := Hd (show PT = rowPT 4 (plainAll ks) 1 (0) false from by rw [HPP.out, plainT]; rfl)
      rw [show rowPT (Tm.mk 4 f n ks).op (plainAll (Tm.mk 4 f n ks).kids) 1 (0) false = PT from HPT.out.symm] at HROW
      go_wp2_with (first
        | (refine HROW.out.mono ?_
           rintro e w8 ⟨⟨v8, rfl, hv8⟩, hx8⟩
           obtain ⟨l8, p8, c8, rfl, -⟩ := id hv8.open
           have HT8 := Hd (HTH.out w8 hx8)
           have HFI := Hd (row_fin (S := S) (g := w.heap.size + 1) (by omega) (HX.out.trans hx8) HT8.out (hv8.mono fun b hb => by
             rcases hb with hb | hb
             · exact .inl hb
             · exact .inr ⟨by omega, by omega⟩))
           have HK := Hd HFI.out.1
           have HTP := Hd HFI.out.2
           clear hv8 hx8 HFI HROW)
        | (refine wpList_store_mid rfl 26 _ _ rfl (w.heap.size + 1) 0 #[.int .i8 PT.op, .int .i8 PT.fld, .int .u64 PT.n, .slice p8 l8.length c8] rfl rfl HT8.out (infoT4 _ _ _ _) (tmv_one _ _ _ _ _ _) ?_))
      have k0 := HK.out 0 _ rfl
      have k1 := HK.out 1 _ rfl
      have k2 := HK.out 2 _ rfl
      have k3 := HK.out 3 _ rfl
      refine bodyPost_ret_by (v := .agg #[.int .i8 PT.op, .int .i8 PT.fld, .int .u64 PT.n, .slice p8 l8.length c8]) ?_ rfl HTP.out
      rw [results_cell_one rfl]
      generalize w8.setCells (w.heap.size + 1) 0 _ = wE at *
      go_simp
      try rfl
    · obtain rfl : p = true := by
        rcases hbop with h | h
        · first | exact h.1 | omega
        · first | exact h.1 | omega
      have HF0 := Hd (HF0.out (by decide))
      have HRT := Hd HRT.out
      go_enter Tryz.func39, Tryz.ntmps39
      go_upto_region 1 with fail
      rw [HE.out.1, HE.out.2]
      have HROW := Hd (row_any' (S := fun b => S b ∧ b < w.heap.size) (.mk 5 f n ks) true 0 (1) false 62 _ w2 (HV.out.there.ext HX.out) (row_kids (p := true) (by decide) HRT.out) (by show (5 : Int) = thenOp true ∨ (5 : Int) = anyOp true; decide) HF0.out HSZ.out (HIH.out (by decide)) (by decide) (by decide) (enters_of Tryz.func62 (by kernel_rfl) rfl) (fun m hm S' W => bare_any m (by omega) S' W))
      have HPT := Hd (show PT = rowPT 5 (plainAll ks) 0 (1) false from by rw [HPP.out, plainT]; rfl)
      rw [show rowPT (Tm.mk 5 f n ks).op (plainAll (Tm.mk 5 f n ks).kids) 0 (1) false = PT from HPT.out.symm] at HROW
      go_wp2_with (first
        | (refine HROW.out.mono ?_
           rintro e w8 ⟨⟨v8, rfl, hv8⟩, hx8⟩
           obtain ⟨l8, p8, c8, rfl, -⟩ := id hv8.open
           have HT8 := Hd (HTH.out w8 hx8)
           have HFI := Hd (row_fin (S := S) (g := w.heap.size + 1) (by omega) (HX.out.trans hx8) HT8.out (hv8.mono fun b hb => by
             rcases hb with hb | hb
             · exact .inl hb
             · exact .inr ⟨by omega, by omega⟩))
           have HK := Hd HFI.out.1
           have HTP := Hd HFI.out.2
           clear hv8 hx8 HFI HROW)
        | (refine wpList_store_mid rfl 26 _ _ rfl (w.heap.size + 1) 0 #[.int .i8 PT.op, .int .i8 PT.fld, .int .u64 PT.n, .slice p8 l8.length c8] rfl rfl HT8.out (infoT4 _ _ _ _) (tmv_one _ _ _ _ _ _) ?_))
      have k0 := HK.out 0 _ rfl
      have k1 := HK.out 1 _ rfl
      have k2 := HK.out 2 _ rfl
      have k3 := HK.out 3 _ rfl
      refine bodyPost_ret_by (v := .agg #[.int .i8 PT.op, .int .i8 PT.fld, .int .u64 PT.n, .slice p8 l8.length c8]) ?_ rfl HTP.out
      rw [results_cell_one rfl]
      generalize w8.setCells (w.heap.size + 1) 0 _ = wE at *
      go_simp
      try rfl
    · obtain rfl : p = false := by
        rcases hbop with h | h
        · first | exact h.1 | omega
        · first | exact h.1 | omega
      have HF0 := Hd (HF0.out (by decide))
      have HRT := Hd HRT.out
      go_enter Tryz.func39, Tryz.ntmps39
      go_upto_region 1 with fail
      rw [HE.out.1, HE.out.2]
      have HROW := Hd (row_any' (S := fun b => S b ∧ b < w.heap.size) (.mk 8 f n ks) false 0 (-1) true 63 _ w2 (HV.out.there.ext HX.out) (row_kids (p := false) (by decide) HRT.out) (by show (8 : Int) = thenOp false ∨ (8 : Int) = anyOp false; decide) HF0.out HSZ.out (HIH.out (by decide)) (by decide) (by decide) (enters_of Tryz.func63 (by kernel_rfl) rfl) (fun m hm S' W => pfilter_any m (by omega) S' W))
      have HPT := Hd (show PT = rowPT 8 (plainAll ks) 0 (-1) true from by rw [HPP.out, plainT]; rfl)
      rw [show rowPT (Tm.mk 8 f n ks).op (plainAll (Tm.mk 8 f n ks).kids) 0 (-1) true = PT from HPT.out.symm] at HROW
      go_wp2_with (first
        | (refine HROW.out.mono ?_
           rintro e w8 ⟨⟨v8, rfl, hv8⟩, hx8⟩
           obtain ⟨l8, p8, c8, rfl, -⟩ := id hv8.open
           have HT8 := Hd (HTH.out w8 hx8)
           have HFI := Hd (row_fin (S := S) (g := w.heap.size + 1) (by omega) (HX.out.trans hx8) HT8.out (hv8.mono fun b hb => by
             rcases hb with hb | hb
             · exact .inl hb
             · exact .inr ⟨by omega, by omega⟩))
           have HK := Hd HFI.out.1
           have HTP := Hd HFI.out.2
           clear hv8 hx8 HFI HROW)
        | (refine wpList_store_mid rfl 26 _ _ rfl (w.heap.size + 1) 0 #[.int .i8 PT.op, .int .i8 PT.fld, .int .u64 PT.n, .slice p8 l8.length c8] rfl rfl HT8.out (infoT4 _ _ _ _) (tmv_one _ _ _ _ _ _) ?_))
      have k0 := HK.out 0 _ rfl
      have k1 := HK.out 1 _ rfl
      have k2 := HK.out 2 _ rfl
      have k3 := HK.out 3 _ rfl
      refine bodyPost_ret_by (v := .agg #[.int .i8 PT.op, .int .i8 PT.fld, .int .u64 PT.n, .slice p8 l8.length c8]) ?_ rfl HTP.out
      rw [results_cell_one rfl]
      generalize w8.setCells (w.heap.size + 1) 0 _ = wE at *
      go_simp
      try rfl
    · obtain rfl : p = false := by
        rcases hbop with h | h
        · first | exact h.1 | omega
        · first | exact h.1 | omega
      have HF0 := Hd (HF0.out (by decide))
      have HRT := Hd HRT.out
      go_enter Tryz.func39, Tryz.ntmps39
      go_upto_region 1 with fail
      rw [HE.out.1, HE.out.2]
      have HROW := Hd (row_any' (S := fun b => S b ∧ b < w.heap.size) (.mk 9 f n ks) false 1 (0) true 63 _ w2 (HV.out.there.ext HX.out) (row_kids (p := false) (by decide) HRT.out) (by show (9 : Int) = thenOp false ∨ (9 : Int) = anyOp false; decide) HF0.out HSZ.out (HIH.out (by decide)) (by decide) (by decide) (enters_of Tryz.func63 (by kernel_rfl) rfl) (fun m hm S' W => pfilter_any m (by omega) S' W))
      have HPT := Hd (show PT = rowPT 9 (plainAll ks) 1 (0) true from by rw [HPP.out, plainT]; rfl)
      rw [show rowPT (Tm.mk 9 f n ks).op (plainAll (Tm.mk 9 f n ks).kids) 1 (0) true = PT from HPT.out.symm] at HROW
      go_wp2_with (first
        | (refine HROW.out.mono ?_
           rintro e w8 ⟨⟨v8, rfl, hv8⟩, hx8⟩
           obtain ⟨l8, p8, c8, rfl, -⟩ := id hv8.open
           have HT8 := Hd (HTH.out w8 hx8)
           have HFI := Hd (row_fin (S := S) (g := w.heap.size + 1) (by omega) (HX.out.trans hx8) HT8.out (hv8.mono fun b hb => by
             rcases hb with hb | hb
             · exact .inl hb
             · exact .inr ⟨by omega, by omega⟩))
           have HK := Hd HFI.out.1
           have HTP := Hd HFI.out.2
           clear hv8 hx8 HFI HROW)
        | (refine wpList_store_mid rfl 26 _ _ rfl (w.heap.size + 1) 0 #[.int .i8 PT.op, .int .i8 PT.fld, .int .u64 PT.n, .slice p8 l8.length c8] rfl rfl HT8.out (infoT4 _ _ _ _) (tmv_one _ _ _ _ _ _) ?_))
      have k0 := HK.out 0 _ rfl
      have k1 := HK.out 1 _ rfl
      have k2 := HK.out 2 _ rfl
      have k3 := HK.out 3 _ rfl
      refine bodyPost_ret_by (v := .agg #[.int .i8 PT.op, .int .i8 PT.fld, .int .u64 PT.n, .slice p8 l8.length c8]) ?_ rfl HTP.out
      rw [results_cell_one rfl]
      generalize w8.setCells (w.heap.size + 1) 0 _ = wE at *
      go_simp
      try rfl
    · have h1k : 1 ≤ ks.length := by
        cases p
        · rcases Tm.right_pol HRT.out with ⟨h, -⟩ | ⟨h, -⟩ | ⟨h, -⟩ | ⟨h, -⟩ <;> omega
        · rcases Tm.right_pred HRT.out with h | ⟨h, -⟩ | ⟨-, h1, -⟩
          · omega
          · omega
          · exact h1
      have hpos : 0 < ksl.length := by
        rw [← HKS.out, List.length_map] at h1k
        exact h1k
      have hl1 : 0 < len := by rw [HLN.out]; exact hpos
      obtain ⟨b, o, rfl, -, hr⟩ := HR.out.get 0 hpos
      have hq := HA.out _ (List.getElem_mem hpos)
      have hmem : (ksl[0]).1 ∈ ks := by rw [← HKS.out]; exact List.mem_map_of_mem (List.getElem_mem hpos)
      have hih := HIH.out (by decide) _ hmem
      have hkr : (ksl[0]).1.right true = true := by
        cases p
        · rcases Tm.right_pol HRT.out with ⟨h, -⟩ | ⟨h, -⟩ | ⟨h, -⟩ | ⟨h, -⟩ <;> omega
        · rcases Tm.right_pred HRT.out with h | ⟨h, -⟩ | ⟨-, -, h1⟩
          · omega
          · omega
          · exact rightAll_mem.1 h1 _ hmem
      have hhead : headT (plainAll ks) = plainT (ksl[0]).1 := by
        rw [← HKS.out]
        cases ksl with
        | nil => simp at hpos
        | cons a1 l1 => simp [plainAll, headT]
      have HPK := Hd (show PT = oneT 3 (plainT (ksl[0]).1) from by rw [HPP.out, plainT, hhead]; rfl)
      generalize ksl[0] = qk at *
      obtain ⟨k, u⟩ := qk
      obtain ⟨l2, p2, c2, he2, -⟩ := hq.open
      obtain rfl : u = .slice p2 l2.length c2 := by simp [encTm] at he2; exact he2
      simp only [Nat.zero_mul, Nat.add_zero] at hr
      obtain ⟨d0, d1, d2, d3⟩ := rangeAt_enc (World.rangeAt.later HX.out.later hr)
      have HP := Hd (hih (fun b => S b ∧ b < w.heap.size) _ w2 ((hq.there).ext HX.out))
      have HKR := Hd (plain_ok k true hkr).1
      obtain ⟨K, hK⟩ : ∃ K, K = plainT k := ⟨_, rfl⟩
      have HPK : Hid (PT = oneT 3 K) := by rw [hK]; exact HPK
      rw [← hK] at HP HKR
      have hkop := right_op HKR.out
      obtain ⟨ko, hko⟩ : ∃ ko, ko = K.op := ⟨_, rfl⟩
      obtain ⟨kf, hkf⟩ : ∃ kf, kf = K.fld := ⟨_, rfl⟩
      obtain ⟨kn, hkn⟩ : ∃ kn, kn = K.n := ⟨_, rfl⟩
      have HKO := Hd hko
      have hkob : -128 ≤ ko ∧ ko ≤ 127 ∧ 0 ≤ ko := by omega
      have HKV := Hd (show ∀ W v, VS (fun b => (S b ∧ b < w.heap.size) ∨ w2.heap.size ≤ b) W K v → ∃ (l : List (Tm × Value)) (p : Option Addr) (c : Nat), v = .agg #[.int .i8 ko, .int .i8 kf, .int .u64 kn, .slice p l.length c] ∧ l.map (·.1) = K.kids ∧ RowAt (fun b => (S b ∧ b < w.heap.size) ∨ w2.heap.size ≤ b) W l p ∧ ∀ q ∈ l, VS (fun b => (S b ∧ b < w.heap.size) ∨ w2.heap.size ≤ b) W q.1 (.agg (encTm q).toArray) from fun W v h => by
        obtain ⟨l, p, c, e, -, -, -, h2, -, -, h3, h4⟩ := h.open
        rw [← hko, ← hkf, ← hkn] at e
        exact ⟨l, p, c, e, h2, h3, h4⟩)
      clear hih hq hr hmem hkr hhead he2 hpos h1k hko hkf hkn hkop hK HRT HIH HA HR
      go_enter Tryz.func39, Tryz.ntmps39
      go_upto_region 1 with fail
      rw [HE.out.1, HE.out.2]
      go_upto_region 14 with (first
        | (go_at_call 39
           refine HP.out.mono ?_
           rintro e w7 ⟨⟨v7, rfl, hv7⟩, hx7⟩
           obtain ⟨l7, p7, c7, rfl, hk7, hr7, ha7⟩ := HKV.out w7 _ hv7
           obtain ⟨m7, hm7⟩ : ∃ m7, m7 = l7.length := ⟨_, rfl⟩
           rw [← hm7] at hv7 ⊢
           obtain ⟨w8, h8⟩ : ∃ W : World, w7.alloc (.cells #[.int .i8 ko, .int .i8 kf, .int .u64 kn, .slice p7 m7 c7] 26) = W := ⟨_, rfl⟩
           have x8 : Ext w7 w8 := h8 ▸ Ext.alloc _ _
           have HX8 := Hd (hx7.trans x8)
           have HX7 := Hd hx7
           have HXS := Hd x8
           have f0 : w8.cell? ⟨w7.heap.size, 0, none⟩ = some (.int .i8 ko) := by rw [← h8]; simp [go_sem]
           have f1 : w8.cell? ⟨w7.heap.size, 1, none⟩ = some (.int .i8 kf) := by rw [← h8]; simp [go_sem]
           have f2 : w8.cell? ⟨w7.heap.size, 2, none⟩ = some (.int .u64 kn) := by rw [← h8]; simp [go_sem]
           have f3 : w8.cell? ⟨w7.heap.size, 3, none⟩ = some (.slice p7 m7 c7) := by rw [← h8]; simp [go_sem]
           have HV8 := Hd (hv7.ext x8)
           have HK7 := Hd (And.intro hk7 hm7)
           have HR7 := Hd hr7
           have HA7 := Hd ha7
           have HE8 := Hd h8
           clear h8 x8 hx7 hv7 hk7 hr7 ha7 hm7 HP HKV)
        | (refine wpList_store_new rfl 26 _ _ rfl _ #[.int .i8 ko, .int .i8 kf, .int .u64 kn, .slice p7 m7 c7] rfl rfl (by kernel_rfl) rfl (by rfl) ?_))
      rw [HE8.out]
      clear HE8 z0 z1 z2 z3 d0 d1 d2 d3
      obtain ⟨z0, z1, z2, z3⟩ := HC.out w8 HX8.out
      by_cases h3 : ko = 3
      · have h7 : 0 < l7.length := by
          have := HKR.out
          cases K with
          | mk a b c d =>
            have e : ko = a := HKO.out
            rcases Tm.right_pred this with h | ⟨h, -⟩ | ⟨-, h, -⟩
            · omega
            · omega
            · rw [← show d = (Tm.mk a b c d).kids from rfl] at *
              have e2 := congrArg List.length HK7.out.1
              rw [List.length_map] at e2
              have e3 : (Tm.mk a b c d).kids.length = d.length := rfl
              omega
        have HPF := Hd (show PT = headT K.kids from by rw [HPK.out]; unfold oneT; rw [if_pos ⟨rfl, by rw [← HKO.out]; exact h3⟩])
        obtain ⟨b7, o7, rfl, -, hr⟩ := HR7.out.get 0 h7
        have hq := HA7.out _ (List.getElem_mem h7)
        have hhd : headT K.kids = (l7[0]).1 := by
          rw [← HK7.out.1]
          cases l7 with
          | nil => simp at h7
          | cons a1 l1 => rfl
        have hm1 : 0 < m7 := by rw [HK7.out.2]; exact h7
        rw [hhd] at HPF
        generalize l7[0] = qk at *
        obtain ⟨kk, uu⟩ := qk
        obtain ⟨l6, p6, c6, he6, -⟩ := hq.open
        obtain rfl : uu = .slice p6 l6.length c6 := by simp [encTm] at he6; exact he6
        simp only [Nat.zero_mul, Nat.add_zero] at hr
        obtain ⟨d0, d1, d2, d3⟩ := rangeAt_enc (World.rangeAt.later HXS.out.later hr)
        have hb3 : (ko == 3) = true := by rw [beq_iff_eq]; exact h3
        have HVQ := Hd ((show VS _ w7 kk (.agg #[.int .i8 kk.op, .int .i8 kk.fld, .int .u64 kk.n, .slice p6 l6.length c6]) from hq).ext HXS.out)
        clear hhd hq he6 hr h3 h7
        have HT8 := Hd (HTH.out w8 (HX8.out))
        have HFI := Hd (row_fin (S := S) (T := kk) (g := w.heap.size + 1) (by omega) (HX.out.trans (HX8.out)) HT8.out (HVQ.out.mono fun b hb => hb.imp id fun h => ⟨by omega, by omega⟩))
        have HK := Hd HFI.out.1
        have HTP := Hd (show TPost S (PT) w (.returned (.agg #[.int .i8 kk.op, .int .i8 kk.fld, .int .u64 kk.n, .slice p6 l6.length c6])) (w8.setCells (w.heap.size + 1) 0 [.int .i8 kk.op, .int .i8 kk.fld, .int .u64 kk.n, .slice p6 l6.length c6]) from by rw [HPF.out]; exact HFI.out.2)
        clear HFI
        go_wp2_with (first | (refine wpList_store_mid rfl 26 _ _ rfl (w.heap.size + 1) 0 #[.int .i8 kk.op, .int .i8 kk.fld, .int .u64 kk.n, .slice p6 l6.length c6] rfl rfl HT8.out (infoT4 _ _ _ _) (tmv_one _ _ _ _ _ _) ?_))
        have k0 := HK.out 0 _ rfl
        have k1 := HK.out 1 _ rfl
        have k2 := HK.out 2 _ rfl
        have k3 := HK.out 3 _ rfl
        refine bodyPost_ret_by (v := .agg #[.int .i8 kk.op, .int .i8 kk.fld, .int .u64 kk.n, .slice p6 l6.length c6]) ?_ rfl HTP.out
        rw [results_cell_one rfl]
        generalize w8.setCells (w.heap.size + 1) 0 _ = wE at *
        go_simp
        try rfl
      · by_cases h01 : ko ≤ 1
        · have hk01 : ko = 0 ∨ ko = 1 := by omega
          have HPF := Hd (show PT = bareT (1 - ko) from by rw [HPK.out]; unfold oneT; rw [if_neg (by rw [← HKO.out]; omega), if_pos ⟨rfl, by rw [← HKO.out]; exact h01⟩, ← HKO.out])
          clear h3 h01
          rcases hk01 with rfl | rfl
          · have HCL := Hd (show Calls Tryz.prog _ _ w8 (TPost (fun _ => False) PT w8) from by rw [HPF.out]; exact bare_any 1 (by omega) _ w8)
            have hsz8 := HX8.out.size
            go_wp2_with (first
              | (refine HCL.out.mono ?_
                 rintro e w9 ⟨⟨v9, rfl, hv9⟩, hx9⟩
                 obtain ⟨l9, p9, c9, rfl, -⟩ := id hv9.open
                 have HT8 := Hd (HTH.out w9 (HX8.out.trans hx9))
                 have HFI := Hd (row_fin (S := S) (g := w.heap.size + 1) (by omega) (HX.out.trans (HX8.out.trans hx9)) HT8.out (hv9.mono fun b hb => .inr ⟨by rcases hb with hb | hb; exact hb.elim; omega, by rcases hb with hb | hb; exact hb.elim; omega⟩))
                 have HK := Hd HFI.out.1
                 have HTP := Hd HFI.out.2
                 clear hv9 hx9 HFI HCL)
              | (refine wpList_store_mid rfl 26 _ _ rfl (w.heap.size + 1) 0 #[.int .i8 PT.op, .int .i8 PT.fld, .int .u64 PT.n, .slice p9 l9.length c9] rfl rfl HT8.out (infoT4 _ _ _ _) (tmv_one _ _ _ _ _ _) ?_))
            have k0 := HK.out 0 _ rfl
            have k1 := HK.out 1 _ rfl
            have k2 := HK.out 2 _ rfl
            have k3 := HK.out 3 _ rfl
            refine bodyPost_ret_by (v := .agg #[.int .i8 PT.op, .int .i8 PT.fld, .int .u64 PT.n, .slice p9 l9.length c9]) ?_ rfl HTP.out
            rw [results_cell_one rfl]
            generalize w9.setCells (w.heap.size + 1) 0 _ = wE at *
            go_simp
            try rfl
          · have HCL := Hd (show Calls Tryz.prog _ _ w8 (TPost (fun _ => False) PT w8) from by rw [HPF.out]; exact bare_any 0 (by omega) _ w8)
            have hsz8 := HX8.out.size
            go_wp2_with (first
              | (refine HCL.out.mono ?_
                 rintro e w9 ⟨⟨v9, rfl, hv9⟩, hx9⟩
                 obtain ⟨l9, p9, c9, rfl, -⟩ := id hv9.open
                 have HT8 := Hd (HTH.out w9 (HX8.out.trans hx9))
                 have HFI := Hd (row_fin (S := S) (g := w.heap.size + 1) (by omega) (HX.out.trans (HX8.out.trans hx9)) HT8.out (hv9.mono fun b hb => .inr ⟨by rcases hb with hb | hb; exact hb.elim; omega, by rcases hb with hb | hb; exact hb.elim; omega⟩))
                 have HK := Hd HFI.out.1
                 have HTP := Hd HFI.out.2
                 clear hv9 hx9 HFI HCL)
              | (refine wpList_store_mid rfl 26 _ _ rfl (w.heap.size + 1) 0 #[.int .i8 PT.op, .int .i8 PT.fld, .int .u64 PT.n, .slice p9 l9.length c9] rfl rfl HT8.out (infoT4 _ _ _ _) (tmv_one _ _ _ _ _ _) ?_))
            have k0 := HK.out 0 _ rfl
            have k1 := HK.out 1 _ rfl
            have k2 := HK.out 2 _ rfl
            have k3 := HK.out 3 _ rfl
            refine bodyPost_ret_by (v := .agg #[.int .i8 PT.op, .int .i8 PT.fld, .int .u64 PT.n, .slice p9 l9.length c9]) ?_ rfl HTP.out
            rw [results_cell_one rfl]
            generalize w9.setCells (w.heap.size + 1) 0 _ = wE at *
            go_simp
            try rfl
        · have hd1 : decide (ko ≤ 1) = false := decide_eq_false h01
          have hb3 : (ko == 3) = false := by rw [beq_eq_false_iff_ne]; exact h3
          have HPF := Hd (show PT = .mk 3 0 0 [K] from by rw [HPK.out]; unfold oneT; rw [if_neg (by rw [← HKO.out]; omega), if_neg (by rw [← HKO.out]; omega), if_neg (by omega), if_neg (by omega)])
          clear h3 h01
          obtain ⟨w9, h9⟩ : ∃ W : World, w8.alloc (.cells #[.int .i8 ko, .int .i8 kf, .int .u64 kn, .slice p7 m7 c7] 26) = W := ⟨_, rfl⟩
          have x9 : Ext w8 w9 := h9 ▸ Ext.alloc _ _
          have HX9 := Hd (HX8.out.trans x9)
          have hsz8 := HX8.out.size
          have hvs : VS (fun b => (S b ∧ b < w.heap.size) ∨ (w.heap.size ≤ b ∧ b ≠ w.heap.size + 1)) w9 (.mk 3 0 0 [K]) (.agg #[.int .i8 3, .int .i8 0, .int .u64 0, .slice (some ⟨w8.heap.size, 0, none⟩) 1 1]) := by
            have hv := HV8.out.ext x9
            obtain ⟨l, p, c, e, -⟩ := id hv.open
            have e2 : (.agg #[.int .i8 ko, .int .i8 kf, .int .u64 kn, .slice p7 m7 c7] : Value) = .agg (encTm (K, .slice p7 m7 c7)).toArray := by
              cases e
              rfl
            refine VS.mk (l := [(K, .slice p7 m7 c7)]) (by omega) (by omega) (by omega) (Nat.le_refl _) (by omega) (.inr ⟨w8.heap.size, 0, rfl, .inr ⟨by omega, by omega⟩, ?_⟩) fun q hq => ?_
            · intro j u hu
              rw [← h9]
              have e3 : flatTm [(K, Value.slice p7 m7 c7)] = (#[.int .i8 ko, .int .i8 kf, .int .u64 kn, .slice p7 m7 c7] : Array Value).toList := by
                cases e
                rfl
              rw [e3] at hu
              exact rangeAt_new w8 _ _ j u hu
            · rw [List.mem_singleton.1 hq]
              rw [e2] at hv
              exact hv.mono fun b hb => hb.imp id fun h => ⟨by omega, by omega⟩
          have HE9 := Hd h9
          have HXX := Hd HX9.out
          clear h9 x9
          have HT8 := Hd (HTH.out w9 (HX9.out))
          have HFI := Hd (row_fin (S := S) (T := .mk 3 0 0 [K]) (g := w.heap.size + 1) (by omega) (HX.out.trans (HX9.out)) HT8.out (hvs))
          have HK := Hd HFI.out.1
          have HTP := Hd (show TPost S (PT) w (.returned (.agg #[.int .i8 3, .int .i8 0, .int .u64 0, .slice (some ⟨w8.heap.size, 0, none⟩) 1 1])) (w9.setCells (w.heap.size + 1) 0 [.int .i8 3, .int .i8 0, .int .u64 0, .slice (some ⟨w8.heap.size, 0, none⟩) 1 1]) from by rw [HPF.out]; exact HFI.out.2)
          clear HFI
          clear hvs
          go_wp2_with (first | (rw [HE9.out]; refine wpList_store_mid rfl 26 _ _ rfl (w.heap.size + 1) 0 #[.int .i8 3, .int .i8 0, .int .u64 0, .slice (some ⟨w8.heap.size, 0, none⟩) 1 1] rfl rfl HT8.out (infoT4 _ _ _ _) (tmv_one _ _ _ _ _ _) ?_))
          have k0 := HK.out 0 _ rfl
          have k1 := HK.out 1 _ rfl
          have k2 := HK.out 2 _ rfl
          have k3 := HK.out 3 _ rfl
          refine bodyPost_ret_by (v := .agg #[.int .i8 3, .int .i8 0, .int .u64 0, .slice (some ⟨w8.heap.size, 0, none⟩) 1 1]) ?_ rfl HTP.out
          rw [results_cell_one rfl]
          generalize w9.setCells (w.heap.size + 1) 0 _ = wE at *
          go_simp
          try rfl
    · have h1k : 1 ≤ ks.length := by
        cases p
        · rcases Tm.right_pol HRT.out with ⟨-, h1, -⟩ | ⟨h, -⟩ | ⟨h, -⟩ | ⟨h, -⟩ <;> omega
        · rcases Tm.right_pred HRT.out with h | ⟨h, -⟩ | ⟨h, -⟩ <;> omega
      have hpos : 0 < ksl.length := by
        rw [← HKS.out, List.length_map] at h1k
        exact h1k
      have hl1 : 0 < len := by rw [HLN.out]; exact hpos
      obtain ⟨b, o, rfl, -, hr⟩ := HR.out.get 0 hpos
      have hq := HA.out _ (List.getElem_mem hpos)
      have hmem : (ksl[0]).1 ∈ ks := by rw [← HKS.out]; exact List.mem_map_of_mem (List.getElem_mem hpos)
      have hih := HIH.out (by decide) _ hmem
      have hkr : (ksl[0]).1.right true = true := by
        cases p
        · rcases Tm.right_pol HRT.out with ⟨-, -, h1⟩ | ⟨h, -⟩ | ⟨h, -⟩ | ⟨h, -⟩
          · exact rightAll_mem.1 h1 _ hmem
          · omega
          · omega
          · omega
        · rcases Tm.right_pred HRT.out with h | ⟨h, -⟩ | ⟨h, -⟩ <;> omega
      have hhead : headT (plainAll ks) = plainT (ksl[0]).1 := by
        rw [← HKS.out]
        cases ksl with
        | nil => simp at hpos
        | cons a1 l1 => simp [plainAll, headT]
      have HPK := Hd (show PT = oneT 6 (plainT (ksl[0]).1) from by rw [HPP.out, plainT, hhead]; rfl)
      generalize ksl[0] = qk at *
      obtain ⟨k, u⟩ := qk
      obtain ⟨l2, p2, c2, he2, -⟩ := hq.open
      obtain rfl : u = .slice p2 l2.length c2 := by simp [encTm] at he2; exact he2
      simp only [Nat.zero_mul, Nat.add_zero] at hr
      obtain ⟨d0, d1, d2, d3⟩ := rangeAt_enc (World.rangeAt.later HX.out.later hr)
      have HP := Hd (hih (fun b => S b ∧ b < w.heap.size) _ w2 ((hq.there).ext HX.out))
      have HKR := Hd (plain_ok k true hkr).1
      obtain ⟨K, hK⟩ : ∃ K, K = plainT k := ⟨_, rfl⟩
      have HPK : Hid (PT = oneT 6 K) := by rw [hK]; exact HPK
      rw [← hK] at HP HKR
      have hkop := right_op HKR.out
      obtain ⟨ko, hko⟩ : ∃ ko, ko = K.op := ⟨_, rfl⟩
      obtain ⟨kf, hkf⟩ : ∃ kf, kf = K.fld := ⟨_, rfl⟩
      obtain ⟨kn, hkn⟩ : ∃ kn, kn = K.n := ⟨_, rfl⟩
      have HKO := Hd hko
      have hkob : -128 ≤ ko ∧ ko ≤ 127 ∧ 0 ≤ ko := by omega
      have HKV := Hd (show ∀ W v, VS (fun b => (S b ∧ b < w.heap.size) ∨ w2.heap.size ≤ b) W K v → ∃ (l : List (Tm × Value)) (p : Option Addr) (c : Nat), v = .agg #[.int .i8 ko, .int .i8 kf, .int .u64 kn, .slice p l.length c] ∧ l.map (·.1) = K.kids ∧ RowAt (fun b => (S b ∧ b < w.heap.size) ∨ w2.heap.size ≤ b) W l p ∧ ∀ q ∈ l, VS (fun b => (S b ∧ b < w.heap.size) ∨ w2.heap.size ≤ b) W q.1 (.agg (encTm q).toArray) from fun W v h => by
        obtain ⟨l, p, c, e, -, -, -, h2, -, -, h3, h4⟩ := h.open
        rw [← hko, ← hkf, ← hkn] at e
        exact ⟨l, p, c, e, h2, h3, h4⟩)
      clear hih hq hr hmem hkr hhead he2 hpos h1k hko hkf hkn hkop hK HRT HIH HA HR
      go_enter Tryz.func39, Tryz.ntmps39
      go_upto_region 1 with fail
      rw [HE.out.1, HE.out.2]
      go_upto_region 14 with (first
        | (go_at_call 39
           refine HP.out.mono ?_
           rintro e w7 ⟨⟨v7, rfl, hv7⟩, hx7⟩
           obtain ⟨l7, p7, c7, rfl, hk7, hr7, ha7⟩ := HKV.out w7 _ hv7
           obtain ⟨m7, hm7⟩ : ∃ m7, m7 = l7.length := ⟨_, rfl⟩
           rw [← hm7] at hv7 ⊢
           obtain ⟨w8, h8⟩ : ∃ W : World, w7.alloc (.cells #[.int .i8 ko, .int .i8 kf, .int .u64 kn, .slice p7 m7 c7] 26) = W := ⟨_, rfl⟩
           have x8 : Ext w7 w8 := h8 ▸ Ext.alloc _ _
           have HX8 := Hd (hx7.trans x8)
           have HX7 := Hd hx7
           have HXS := Hd x8
           have f0 : w8.cell? ⟨w7.heap.size, 0, none⟩ = some (.int .i8 ko) := by rw [← h8]; simp [go_sem]
           have f1 : w8.cell? ⟨w7.heap.size, 1, none⟩ = some (.int .i8 kf) := by rw [← h8]; simp [go_sem]
           have f2 : w8.cell? ⟨w7.heap.size, 2, none⟩ = some (.int .u64 kn) := by rw [← h8]; simp [go_sem]
           have f3 : w8.cell? ⟨w7.heap.size, 3, none⟩ = some (.slice p7 m7 c7) := by rw [← h8]; simp [go_sem]
           have HV8 := Hd (hv7.ext x8)
           have HK7 := Hd (And.intro hk7 hm7)
           have HR7 := Hd hr7
           have HA7 := Hd ha7
           have HE8 := Hd h8
           clear h8 x8 hx7 hv7 hk7 hr7 ha7 hm7 HP HKV)
        | (refine wpList_store_new rfl 26 _ _ rfl _ #[.int .i8 ko, .int .i8 kf, .int .u64 kn, .slice p7 m7 c7] rfl rfl (by kernel_rfl) rfl (by rfl) ?_))
      rw [HE8.out]
      clear HE8 z0 z1 z2 z3 d0 d1 d2 d3
      obtain ⟨z0, z1, z2, z3⟩ := HC.out w8 HX8.out
      have HPF := Hd (show PT = .mk 6 0 0 [K] from by rw [HPK.out]; unfold oneT; rw [if_neg (by omega), if_neg (by omega), if_neg (by omega), if_neg (by omega)])
      obtain ⟨w9, h9⟩ : ∃ W : World, w8.alloc (.cells #[.int .i8 ko, .int .i8 kf, .int .u64 kn, .slice p7 m7 c7] 26) = W := ⟨_, rfl⟩
      have x9 : Ext w8 w9 := h9 ▸ Ext.alloc _ _
      have HX9 := Hd (HX8.out.trans x9)
      have hsz8 := HX8.out.size
      have hvs : VS (fun b => (S b ∧ b < w.heap.size) ∨ (w.heap.size ≤ b ∧ b ≠ w.heap.size + 1)) w9 (.mk 6 0 0 [K]) (.agg #[.int .i8 6, .int .i8 0, .int .u64 0, .slice (some ⟨w8.heap.size, 0, none⟩) 1 1]) := by
        have hv := HV8.out.ext x9
        obtain ⟨l, p, c, e, -⟩ := id hv.open
        have e2 : (.agg #[.int .i8 ko, .int .i8 kf, .int .u64 kn, .slice p7 m7 c7] : Value) = .agg (encTm (K, .slice p7 m7 c7)).toArray := by
          cases e
          rfl
        refine VS.mk (l := [(K, .slice p7 m7 c7)]) (by omega) (by omega) (by omega) (Nat.le_refl _) (by omega) (.inr ⟨w8.heap.size, 0, rfl, .inr ⟨by omega, by omega⟩, ?_⟩) fun q hq => ?_
        · intro j u hu
          rw [← h9]
          have e3 : flatTm [(K, Value.slice p7 m7 c7)] = (#[.int .i8 ko, .int .i8 kf, .int .u64 kn, .slice p7 m7 c7] : Array Value).toList := by
            cases e
            rfl
          rw [e3] at hu
          exact rangeAt_new w8 _ _ j u hu
        · rw [List.mem_singleton.1 hq]
          rw [e2] at hv
          exact hv.mono fun b hb => hb.imp id fun h => ⟨by omega, by omega⟩
      have HE9 := Hd h9
      have HXX := Hd HX9.out
      clear h9 x9
      have HT8 := Hd (HTH.out w9 (HX9.out))
      have HFI := Hd (row_fin (S := S) (T := .mk 6 0 0 [K]) (g := w.heap.size + 1) (by omega) (HX.out.trans (HX9.out)) HT8.out (hvs))
      have HK := Hd HFI.out.1
      have HTP := Hd (show TPost S (PT) w (.returned (.agg #[.int .i8 6, .int .i8 0, .int .u64 0, .slice (some ⟨w8.heap.size, 0, none⟩) 1 1])) (w9.setCells (w.heap.size + 1) 0 [.int .i8 6, .int .i8 0, .int .u64 0, .slice (some ⟨w8.heap.size, 0, none⟩) 1 1]) from by rw [HPF.out]; exact HFI.out.2)
      clear HFI
      clear hvs
      go_wp2_with (first | (rw [HE9.out]; refine wpList_store_mid rfl 26 _ _ rfl (w.heap.size + 1) 0 #[.int .i8 6, .int .i8 0, .int .u64 0, .slice (some ⟨w8.heap.size, 0, none⟩) 1 1] rfl rfl HT8.out (infoT4 _ _ _ _) (tmv_one _ _ _ _ _ _) ?_))
      have k0 := HK.out 0 _ rfl
      have k1 := HK.out 1 _ rfl
      have k2 := HK.out 2 _ rfl
      have k3 := HK.out 3 _ rfl
      refine bodyPost_ret_by (v := .agg #[.int .i8 6, .int .i8 0, .int .u64 0, .slice (some ⟨w8.heap.size, 0, none⟩) 1 1]) ?_ rfl HTP.out
      rw [results_cell_one rfl]
      generalize w9.setCells (w.heap.size + 1) 0 _ = wE at *
      go_simp
      try rfl
    · have h1k : 1 ≤ ks.length := by
        cases p
        · rcases Tm.right_pol HRT.out with ⟨h, -⟩ | ⟨h, -⟩ | ⟨-, h1, -⟩ | ⟨h, -⟩ <;> omega
        · rcases Tm.right_pred HRT.out with h | ⟨h, -⟩ | ⟨h, -⟩ <;> omega
      have hpos : 0 < ksl.length := by
        rw [← HKS.out, List.length_map] at h1k
        exact h1k
      have hl1 : 0 < len := by rw [HLN.out]; exact hpos
      obtain ⟨b, o, rfl, -, hr⟩ := HR.out.get 0 hpos
      have hq := HA.out _ (List.getElem_mem hpos)
      have hmem : (ksl[0]).1 ∈ ks := by rw [← HKS.out]; exact List.mem_map_of_mem (List.getElem_mem hpos)
      have hih := HIH.out (by decide) _ hmem
      have hkr : (ksl[0]).1.right false = true := by
        cases p
        · rcases Tm.right_pol HRT.out with ⟨h, -⟩ | ⟨h, -⟩ | ⟨-, -, h1⟩ | ⟨h, -⟩
          · omega
          · omega
          · exact rightAll_mem.1 h1 _ hmem
          · omega
        · rcases Tm.right_pred HRT.out with h | ⟨h, -⟩ | ⟨h, -⟩ <;> omega
      have hhead : headT (plainAll ks) = plainT (ksl[0]).1 := by
        rw [← HKS.out]
        cases ksl with
        | nil => simp at hpos
        | cons a1 l1 => simp [plainAll, headT]
      have HPK := Hd (show PT = oneT 10 (plainT (ksl[0]).1) from by rw [HPP.out, plainT, hhead]; rfl)
      generalize ksl[0] = qk at *
      obtain ⟨k, u⟩ := qk
      obtain ⟨l2, p2, c2, he2, -⟩ := hq.open
      obtain rfl : u = .slice p2 l2.length c2 := by simp [encTm] at he2; exact he2
      simp only [Nat.zero_mul, Nat.add_zero] at hr
      obtain ⟨d0, d1, d2, d3⟩ := rangeAt_enc (World.rangeAt.later HX.out.later hr)
      have HP := Hd (hih (fun b => S b ∧ b < w.heap.size) _ w2 ((hq.there).ext HX.out))
      have HKR := Hd (plain_ok k false hkr).1
      obtain ⟨K, hK⟩ : ∃ K, K = plainT k := ⟨_, rfl⟩
      have HPK : Hid (PT = oneT 10 K) := by rw [hK]; exact HPK
      rw [← hK] at HP HKR
      have hkop := right_op HKR.out
      obtain ⟨ko, hko⟩ : ∃ ko, ko = K.op := ⟨_, rfl⟩
      obtain ⟨kf, hkf⟩ : ∃ kf, kf = K.fld := ⟨_, rfl⟩
      obtain ⟨kn, hkn⟩ : ∃ kn, kn = K.n := ⟨_, rfl⟩
      have HKO := Hd hko
      have hkob : -128 ≤ ko ∧ ko ≤ 127 ∧ 0 ≤ ko := by omega
      have HKV := Hd (show ∀ W v, VS (fun b => (S b ∧ b < w.heap.size) ∨ w2.heap.size ≤ b) W K v → ∃ (l : List (Tm × Value)) (p : Option Addr) (c : Nat), v = .agg #[.int .i8 ko, .int .i8 kf, .int .u64 kn, .slice p l.length c] ∧ l.map (·.1) = K.kids ∧ RowAt (fun b => (S b ∧ b < w.heap.size) ∨ w2.heap.size ≤ b) W l p ∧ ∀ q ∈ l, VS (fun b => (S b ∧ b < w.heap.size) ∨ w2.heap.size ≤ b) W q.1 (.agg (encTm q).toArray) from fun W v h => by
        obtain ⟨l, p, c, e, -, -, -, h2, -, -, h3, h4⟩ := h.open
        rw [← hko, ← hkf, ← hkn] at e
        exact ⟨l, p, c, e, h2, h3, h4⟩)
      clear hih hq hr hmem hkr hhead he2 hpos h1k hko hkf hkn hkop hK HRT HIH HA HR
      go_enter Tryz.func39, Tryz.ntmps39
      go_upto_region 1 with fail
      rw [HE.out.1, HE.out.2]
      go_upto_region 14 with (first
        | (go_at_call 39
           refine HP.out.mono ?_
           rintro e w7 ⟨⟨v7, rfl, hv7⟩, hx7⟩
           obtain ⟨l7, p7, c7, rfl, hk7, hr7, ha7⟩ := HKV.out w7 _ hv7
           obtain ⟨m7, hm7⟩ : ∃ m7, m7 = l7.length := ⟨_, rfl⟩
           rw [← hm7] at hv7 ⊢
           obtain ⟨w8, h8⟩ : ∃ W : World, w7.alloc (.cells #[.int .i8 ko, .int .i8 kf, .int .u64 kn, .slice p7 m7 c7] 26) = W := ⟨_, rfl⟩
           have x8 : Ext w7 w8 := h8 ▸ Ext.alloc _ _
           have HX8 := Hd (hx7.trans x8)
           have HX7 := Hd hx7
           have HXS := Hd x8
           have f0 : w8.cell? ⟨w7.heap.size, 0, none⟩ = some (.int .i8 ko) := by rw [← h8]; simp [go_sem]
           have f1 : w8.cell? ⟨w7.heap.size, 1, none⟩ = some (.int .i8 kf) := by rw [← h8]; simp [go_sem]
           have f2 : w8.cell? ⟨w7.heap.size, 2, none⟩ = some (.int .u64 kn) := by rw [← h8]; simp [go_sem]
           have f3 : w8.cell? ⟨w7.heap.size, 3, none⟩ = some (.slice p7 m7 c7) := by rw [← h8]; simp [go_sem]
           have HV8 := Hd (hv7.ext x8)
           have HK7 := Hd (And.intro hk7 hm7)
           have HR7 := Hd hr7
           have HA7 := Hd ha7
           have HE8 := Hd h8
           clear h8 x8 hx7 hv7 hk7 hr7 ha7 hm7 HP HKV)
        | (refine wpList_store_new rfl 26 _ _ rfl _ #[.int .i8 ko, .int .i8 kf, .int .u64 kn, .slice p7 m7 c7] rfl rfl (by kernel_rfl) rfl (by rfl) ?_))
      rw [HE8.out]
      clear HE8 z0 z1 z2 z3 d0 d1 d2 d3
      obtain ⟨z0, z1, z2, z3⟩ := HC.out w8 HX8.out
      by_cases h10 : ko = 10
      · have hb10 : (ko == 10) = true := by rw [beq_iff_eq]; exact h10
        have HPF := Hd (show PT = K from by rw [HPK.out]; unfold oneT; rw [if_neg (by omega), if_neg (by omega), if_pos ⟨rfl, by rw [← HKO.out]; exact h10⟩])
        clear h10
        have HT8 := Hd (HTH.out w8 (HX8.out))
        have HFI := Hd (row_fin (S := S) (T := K) (g := w.heap.size + 1) (by omega) (HX.out.trans (HX8.out)) HT8.out (HV8.out.mono fun b hb => hb.imp id fun h => ⟨by omega, by omega⟩))
        have HK := Hd HFI.out.1
        have HTP := Hd (show TPost S (PT) w (.returned (.agg #[.int .i8 ko, .int .i8 kf, .int .u64 kn, .slice p7 m7 c7])) (w8.setCells (w.heap.size + 1) 0 [.int .i8 ko, .int .i8 kf, .int .u64 kn, .slice p7 m7 c7]) from by rw [HPF.out]; exact HFI.out.2)
        clear HFI
        go_wp2_with (first | (refine wpList_store_mid rfl 26 _ _ rfl (w.heap.size + 1) 0 #[.int .i8 ko, .int .i8 kf, .int .u64 kn, .slice p7 m7 c7] rfl rfl HT8.out (infoT4 _ _ _ _) (tmv_one _ _ _ _ _ _) ?_))
        have k0 := HK.out 0 _ rfl
        have k1 := HK.out 1 _ rfl
        have k2 := HK.out 2 _ rfl
        have k3 := HK.out 3 _ rfl
        refine bodyPost_ret_by (v := .agg #[.int .i8 ko, .int .i8 kf, .int .u64 kn, .slice p7 m7 c7]) ?_ rfl HTP.out
        rw [results_cell_one rfl]
        generalize w8.setCells (w.heap.size + 1) 0 _ = wE at *
        go_simp
        try rfl
      · by_cases h6 : ko = 6
        · have hb10 : (ko == 10) = false := by rw [beq_eq_false_iff_ne]; exact h10
          have hb6 : (ko == 6) = true := by rw [beq_iff_eq]; exact h6
          have HPF := Hd (show PT = aloneT true 1 from by rw [HPK.out]; unfold oneT; rw [if_neg (by omega), if_neg (by omega), if_neg (by rw [← HKO.out]; omega), if_pos ⟨rfl, by rw [← HKO.out]; exact h6⟩])
          clear h10 h6
          have HCL := Hd (show Calls Tryz.prog _ _ w8 (TPost (fun _ => False) PT w8) from by rw [HPF.out]; exact pfilter_any 1 (by omega) _ w8)
          have hsz8 := HX8.out.size
          go_wp2_with (first
            | (refine HCL.out.mono ?_
               rintro e w9 ⟨⟨v9, rfl, hv9⟩, hx9⟩
               obtain ⟨l9, p9, c9, rfl, -⟩ := id hv9.open
               have HT8 := Hd (HTH.out w9 (HX8.out.trans hx9))
               have HFI := Hd (row_fin (S := S) (g := w.heap.size + 1) (by omega) (HX.out.trans (HX8.out.trans hx9)) HT8.out (hv9.mono fun b hb => .inr ⟨by rcases hb with hb | hb; exact hb.elim; omega, by rcases hb with hb | hb; exact hb.elim; omega⟩))
               have HK := Hd HFI.out.1
               have HTP := Hd HFI.out.2
               clear hv9 hx9 HFI HCL)
            | (refine wpList_store_mid rfl 26 _ _ rfl (w.heap.size + 1) 0 #[.int .i8 PT.op, .int .i8 PT.fld, .int .u64 PT.n, .slice p9 l9.length c9] rfl rfl HT8.out (infoT4 _ _ _ _) (tmv_one _ _ _ _ _ _) ?_))
          have k0 := HK.out 0 _ rfl
          have k1 := HK.out 1 _ rfl
          have k2 := HK.out 2 _ rfl
          have k3 := HK.out 3 _ rfl
          refine bodyPost_ret_by (v := .agg #[.int .i8 PT.op, .int .i8 PT.fld, .int .u64 PT.n, .slice p9 l9.length c9]) ?_ rfl HTP.out
          rw [results_cell_one rfl]
          generalize w9.setCells (w.heap.size + 1) 0 _ = wE at *
          go_simp
          try rfl
        · have hb10 : (ko == 10) = false := by rw [beq_eq_false_iff_ne]; exact h10
          have hb6 : (ko == 6) = false := by rw [beq_eq_false_iff_ne]; exact h6
          have HPF := Hd (show PT = .mk 10 0 0 [K] from by rw [HPK.out]; unfold oneT; rw [if_neg (by omega), if_neg (by omega), if_neg (by rw [← HKO.out]; omega), if_neg (by rw [← HKO.out]; omega)])
          clear h10 h6
          obtain ⟨w9, h9⟩ : ∃ W : World, w8.alloc (.cells #[.int .i8 ko, .int .i8 kf, .int .u64 kn, .slice p7 m7 c7] 26) = W := ⟨_, rfl⟩
          have x9 : Ext w8 w9 := h9 ▸ Ext.alloc _ _
          have HX9 := Hd (HX8.out.trans x9)
          have hsz8 := HX8.out.size
          have hvs : VS (fun b => (S b ∧ b < w.heap.size) ∨ (w.heap.size ≤ b ∧ b ≠ w.heap.size + 1)) w9 (.mk 10 0 0 [K]) (.agg #[.int .i8 10, .int .i8 0, .int .u64 0, .slice (some ⟨w8.heap.size, 0, none⟩) 1 1]) := by
            have hv := HV8.out.ext x9
            obtain ⟨l, p, c, e, -⟩ := id hv.open
            have e2 : (.agg #[.int .i8 ko, .int .i8 kf, .int .u64 kn, .slice p7 m7 c7] : Value) = .agg (encTm (K, .slice p7 m7 c7)).toArray := by
              cases e
              rfl
            refine VS.mk (l := [(K, .slice p7 m7 c7)]) (by omega) (by omega) (by omega) (Nat.le_refl _) (by omega) (.inr ⟨w8.heap.size, 0, rfl, .inr ⟨by omega, by omega⟩, ?_⟩) fun q hq => ?_
            · intro j u hu
              rw [← h9]
              have e3 : flatTm [(K, Value.slice p7 m7 c7)] = (#[.int .i8 ko, .int .i8 kf, .int .u64 kn, .slice p7 m7 c7] : Array Value).toList := by
                cases e
                rfl
              rw [e3] at hu
              exact rangeAt_new w8 _ _ j u hu
            · rw [List.mem_singleton.1 hq]
              rw [e2] at hv
              exact hv.mono fun b hb => hb.imp id fun h => ⟨by omega, by omega⟩
          have HE9 := Hd h9
          have HXX := Hd HX9.out
          clear h9 x9
          have HT8 := Hd (HTH.out w9 (HX9.out))
          have HFI := Hd (row_fin (S := S) (T := .mk 10 0 0 [K]) (g := w.heap.size + 1) (by omega) (HX.out.trans (HX9.out)) HT8.out (hvs))
          have HK := Hd HFI.out.1
          have HTP := Hd (show TPost S (PT) w (.returned (.agg #[.int .i8 10, .int .i8 0, .int .u64 0, .slice (some ⟨w8.heap.size, 0, none⟩) 1 1])) (w9.setCells (w.heap.size + 1) 0 [.int .i8 10, .int .i8 0, .int .u64 0, .slice (some ⟨w8.heap.size, 0, none⟩) 1 1]) from by rw [HPF.out]; exact HFI.out.2)
          clear HFI
          clear hvs
          go_wp2_with (first | (rw [HE9.out]; refine wpList_store_mid rfl 26 _ _ rfl (w.heap.size + 1) 0 #[.int .i8 10, .int .i8 0, .int .u64 0, .slice (some ⟨w8.heap.size, 0, none⟩) 1 1] rfl rfl HT8.out (infoT4 _ _ _ _) (tmv_one _ _ _ _ _ _) ?_))
          have k0 := HK.out 0 _ rfl
          have k1 := HK.out 1 _ rfl
          have k2 := HK.out 2 _ rfl
          have k3 := HK.out 3 _ rfl
          refine bodyPost_ret_by (v := .agg #[.int .i8 10, .int .i8 0, .int .u64 0, .slice (some ⟨w8.heap.size, 0, none⟩) 1 1]) ?_ rfl HTP.out
          rw [results_cell_one rfl]
          generalize w9.setCells (w.heap.size + 1) 0 _ = wE at *
          go_simp
          try rfl
    · rcases hop with rfl | rfl | rfl | rfl
      · go_enter Tryz.func39, Tryz.ntmps39
        go_upto_region 1 with fail
        rw [HE.out.1, HE.out.2]
        have HPF := Hd (show PT = .mk 0 f n [] from by rw [HPP.out, plainT]; rfl)
        have HT8 := Hd (HTH.out w2 (Ext.refl _))
        have HFI := Hd (row_fin (S := S) (T := .mk 0 f n []) (g := w.heap.size + 1) (by omega) (HX.out.trans (Ext.refl _)) HT8.out (VS.mk (l := []) (p := none) (c := 0) (by omega) hbf hbn (Nat.le_refl _) (by omega) (.inl rfl) (fun q hq => by cases hq)))
        have HK := Hd HFI.out.1
        have HTP := Hd (show TPost S (PT) w (.returned (.agg #[.int .i8 0, .int .i8 f, .int .u64 n, .slice none 0 0])) (w2.setCells (w.heap.size + 1) 0 [.int .i8 0, .int .i8 f, .int .u64 n, .slice none 0 0]) from by rw [HPF.out]; exact HFI.out.2)
        clear HFI
        go_wp2_with (first | (refine wpList_store_mid rfl 26 _ _ rfl (w.heap.size + 1) 0 #[.int .i8 0, .int .i8 f, .int .u64 n, .slice none 0 0] rfl rfl HT8.out (infoT4 _ _ _ _) (tmv_one _ _ _ _ _ _) ?_))
        have k0 := HK.out 0 _ rfl
        have k1 := HK.out 1 _ rfl
        have k2 := HK.out 2 _ rfl
        have k3 := HK.out 3 _ rfl
        refine bodyPost_ret_by (v := .agg #[.int .i8 0, .int .i8 f, .int .u64 n, .slice none 0 0]) ?_ rfl HTP.out
        rw [results_cell_one rfl]
        generalize w2.setCells (w.heap.size + 1) 0 _ = wE at *
        go_simp
        try rfl
      · go_enter Tryz.func39, Tryz.ntmps39
        go_upto_region 1 with fail
        rw [HE.out.1, HE.out.2]
        have HPF := Hd (show PT = .mk 1 f n [] from by rw [HPP.out, plainT]; rfl)
        have HT8 := Hd (HTH.out w2 (Ext.refl _))
        have HFI := Hd (row_fin (S := S) (T := .mk 1 f n []) (g := w.heap.size + 1) (by omega) (HX.out.trans (Ext.refl _)) HT8.out (VS.mk (l := []) (p := none) (c := 0) (by omega) hbf hbn (Nat.le_refl _) (by omega) (.inl rfl) (fun q hq => by cases hq)))
        have HK := Hd HFI.out.1
        have HTP := Hd (show TPost S (PT) w (.returned (.agg #[.int .i8 1, .int .i8 f, .int .u64 n, .slice none 0 0])) (w2.setCells (w.heap.size + 1) 0 [.int .i8 1, .int .i8 f, .int .u64 n, .slice none 0 0]) from by rw [HPF.out]; exact HFI.out.2)
        clear HFI
        go_wp2_with (first | (refine wpList_store_mid rfl 26 _ _ rfl (w.heap.size + 1) 0 #[.int .i8 1, .int .i8 f, .int .u64 n, .slice none 0 0] rfl rfl HT8.out (infoT4 _ _ _ _) (tmv_one _ _ _ _ _ _) ?_))
        have k0 := HK.out 0 _ rfl
        have k1 := HK.out 1 _ rfl
        have k2 := HK.out 2 _ rfl
        have k3 := HK.out 3 _ rfl
        refine bodyPost_ret_by (v := .agg #[.int .i8 1, .int .i8 f, .int .u64 n, .slice none 0 0]) ?_ rfl HTP.out
        rw [results_cell_one rfl]
        generalize w2.setCells (w.heap.size + 1) 0 _ = wE at *
        go_simp
        try rfl
      · go_enter Tryz.func39, Tryz.ntmps39
        go_upto_region 1 with fail
        rw [HE.out.1, HE.out.2]
        have HPF := Hd (show PT = .mk 2 f n [] from by rw [HPP.out, plainT]; rfl)
        have HT8 := Hd (HTH.out w2 (Ext.refl _))
        have HFI := Hd (row_fin (S := S) (T := .mk 2 f n []) (g := w.heap.size + 1) (by omega) (HX.out.trans (Ext.refl _)) HT8.out (VS.mk (l := []) (p := none) (c := 0) (by omega) hbf hbn (Nat.le_refl _) (by omega) (.inl rfl) (fun q hq => by cases hq)))
        have HK := Hd HFI.out.1
        have HTP := Hd (show TPost S (PT) w (.returned (.agg #[.int .i8 2, .int .i8 f, .int .u64 n, .slice none 0 0])) (w2.setCells (w.heap.size + 1) 0 [.int .i8 2, .int .i8 f, .int .u64 n, .slice none 0 0]) from by rw [HPF.out]; exact HFI.out.2)
        clear HFI
        go_wp2_with (first | (refine wpList_store_mid rfl 26 _ _ rfl (w.heap.size + 1) 0 #[.int .i8 2, .int .i8 f, .int .u64 n, .slice none 0 0] rfl rfl HT8.out (infoT4 _ _ _ _) (tmv_one _ _ _ _ _ _) ?_))
        have k0 := HK.out 0 _ rfl
        have k1 := HK.out 1 _ rfl
        have k2 := HK.out 2 _ rfl
        have k3 := HK.out 3 _ rfl
        refine bodyPost_ret_by (v := .agg #[.int .i8 2, .int .i8 f, .int .u64 n, .slice none 0 0]) ?_ rfl HTP.out
        rw [results_cell_one rfl]
        generalize w2.setCells (w.heap.size + 1) 0 _ = wE at *
        go_simp
        try rfl
      · go_enter Tryz.func39, Tryz.ntmps39
        go_upto_region 1 with fail
        rw [HE.out.1, HE.out.2]
        have HPF := Hd (show PT = .mk 7 f n [] from by rw [HPP.out, plainT]; rfl)
        have HT8 := Hd (HTH.out w2 (Ext.refl _))
        have HFI := Hd (row_fin (S := S) (T := .mk 7 f n []) (g := w.heap.size + 1) (by omega) (HX.out.trans (Ext.refl _)) HT8.out (VS.mk (l := []) (p := none) (c := 0) (by omega) hbf hbn (Nat.le_refl _) (by omega) (.inl rfl) (fun q hq => by cases hq)))
        have HK := Hd HFI.out.1
        have HTP := Hd (show TPost S (PT) w (.returned (.agg #[.int .i8 7, .int .i8 f, .int .u64 n, .slice none 0 0])) (w2.setCells (w.heap.size + 1) 0 [.int .i8 7, .int .i8 f, .int .u64 n, .slice none 0 0]) from by rw [HPF.out]; exact HFI.out.2)
        clear HFI
        go_wp2_with (first | (refine wpList_store_mid rfl 26 _ _ rfl (w.heap.size + 1) 0 #[.int .i8 7, .int .i8 f, .int .u64 n, .slice none 0 0] rfl rfl HT8.out (infoT4 _ _ _ _) (tmv_one _ _ _ _ _ _) ?_))
        have k0 := HK.out 0 _ rfl
        have k1 := HK.out 1 _ rfl
        have k2 := HK.out 2 _ rfl
        have k3 := HK.out 3 _ rfl
        refine bodyPost_ret_by (v := .agg #[.int .i8 7, .int .i8 f, .int .u64 n, .slice none 0 0]) ?_ rfl HTP.out
        rw [results_cell_one rfl]
        generalize w2.setCells (w.heap.size + 1) 0 _ = wE at *
        go_simp
        try rfl
end Go.Proofs.YtjjbdbklbghlhaaGreatDoor
/- policy.Plain walked (a policy without queries). -/
namespace Go.Proofs.YtjjbdbklbghlhaaGreatDoor
open Go.RowKit Go.Sort Go.Maps Go.Lib
set_option linter.unusedSimpArgs false

theorem check_small {t : Tm} (h : checkT t = 0) : t.right false = true ∧ t.sz ≤ 10000 := by
 unfold checkT at h
 split at h
 ·exact absurd h (by decide)
 rename_i hb
 split at h
 ·rename_i hr
  refine ⟨hr, ?_⟩
  have hd : ¬ Tm.downAll [t] 4096 < 0 := fun e => hb (by unfold bigB; rw [decide_eq_true e]; rfl)
  rw [Tm.downAll_eq [t] 4096 (by omega)] at hd
  simp only [Tm.szAll] at hd
  omega
 ·exact absurd h (by decide)
/-- cells that are written into a block of one's own -/
theorem cells_end {w W : World} {g k : Nat} (hg : w.heap.size ≤ g) (hX : Ext w W) (hth : W.there g 0 k) (cs : List Value) (hk : cs.length = k) :
  (∀ k v, cs[k]? = some v → (W.setCells g 0 cs).cell? ⟨g, k, none⟩ = some v) ∧ Ext w (W.setCells g 0 cs) ∧ ∀ (S : Nat → Prop) (t : Tm) (v : Value), (∀ b, S b → b ≠ g) → VS S W t v → VS S (W.setCells g 0 cs) t v := by
 subst hk
 have hk := keep_setCells (w := W) g 0 cs
 refine ⟨fun k v hv => ?_, hX.trans' ?_, fun S t v hS h => ?_⟩
 ·have := World.rangeAt_setCells_same W g 0 cs (fun j hj => hth j hj) k v hv
  rwa [Nat.zero_add] at this
 ·exact ⟨hk.os, hk.tape, hk.output, hk.size, fun i hi => hk.block i (Nat.lt_of_lt_of_le hi hX.size) (fun e => by omega)⟩
 ·exact h.keep hk fun b hb e => hS b hb e
theorem infoP5 (o f n s q : Value) : (Tryz.prog.info? 59).map (·.size) = some (#[o, f, n, s, q]).size := by
 show _ = some 5
 kernel_rfl
theorem p5_one (a b c : Int) (p q : Option Addr) (l k l' k' : Nat) : (#[Value.int .i8 a, .int .i8 b, .int .u64 c, .slice p l k, .slice q l' k']).all (·.oneCell') = true := by simp [Value.oneCell']
def PlPost (t : Tm) (S : Nat → Prop) (w : World) (e : Ending) (w' : World) : Prop :=
 (∃ (a b c : Int) (p : Option Addr) (l k : Nat), e = .returned (.tuple #[.agg #[.int .i8 a, .int .i8 b, .int .u64 c, .slice p l k, .slice none 0 0], .int .i64 (checkT t)]) ∧ (checkT t = 0 → VS (fun b => S b ∨ w.heap.size ≤ b) w' (plainT t) (.agg #[.int .i8 a, .int .i8 b, .int .u64 c, .slice p l k]))) ∧ Ext w w'
set_option maxHeartbeats 8000000 in
set_option maxRecDepth 100000 in
theorem Plain_any (t : Tm) (o f n : Int) (q : Option Addr) (l c : Nat) (S : Nat → Prop) (w : World) (hv : VS S w t (.agg #[.int .i8 o, .int .i8 f, .int .u64 n, .slice q l c])) :
    Calls Tryz.prog 23 #[.agg #[.int .i8 o, .int .i8 f, .int .u64 n, .slice q l c, .slice none 0 0]] w (PlPost t S w) := by
  obtain ⟨w1, h1⟩ : ∃ W : World, w.alloc (.cells #[.int .i8 o, .int .i8 f, .int .u64 n, .slice q l c, .slice none 0 0] 59) = W := ⟨_, rfl⟩
  have x1 : Ext w w1 := h1 ▸ Ext.alloc _ _
  have s1 : w1.heap.size = w.heap.size + 1 := by rw [← h1, World.size_alloc]
  obtain ⟨w2, h2⟩ : ∃ W : World, w1.alloc (.cells #[.int .i8 0, .int .i8 0, .int .u64 0, .slice none 0 0, .slice none 0 0] 59) = W := ⟨_, rfl⟩
  have x2 : Ext w1 w2 := h2 ▸ Ext.alloc _ _
  have s2 : w2.heap.size = w.heap.size + 2 := by rw [← h2, World.size_alloc, s1]
  have HX := Hd (x1.trans x2)
  have HC := Hd (show ∀ W, Ext w2 W → W.cell? ⟨w.heap.size, 0, none⟩ = some (.int .i8 o) ∧ W.cell? ⟨w.heap.size, 1, none⟩ = some (.int .i8 f) ∧ W.cell? ⟨w.heap.size, 2, none⟩ = some (.int .u64 n) ∧ W.cell? ⟨w.heap.size, 3, none⟩ = some (.slice q l c) ∧ W.cell? ⟨w.heap.size, 4, none⟩ = some (.slice none 0 0) from fun W hW => by
    have h := x2.trans hW
    refine ⟨h.later _ _ ?_, h.later _ _ ?_, h.later _ _ ?_, h.later _ _ ?_, h.later _ _ ?_⟩
    all_goals (rw [← h1]; simp [go_sem]))
  have HTH := Hd (fun W (hW : Ext w2 W) => show W.there (w.heap.size + 1) 0 5 from by
    have := thereF (cs := #[.int .i8 0, .int .i8 0, .int .u64 0, .slice none 0 0, .slice none 0 0]) (t := 59) (w := w1) (by rw [h2]; exact hW)
    rwa [s1] at this)
  have HE := Hd (And.intro h1 h2)
  have HV := Hd hv
  have HCK := Hd (check_any t _ _ _ _ w2 (hv.val.later HX.out.later))
  obtain ⟨ce, hce⟩ : ∃ ce, ce = checkT t := ⟨_, rfl⟩
  rw [← hce] at HCK
  have HCE := Hd hce
  obtain ⟨z0, z1, z2, z3, z4⟩ := HC.out w2 (Ext.refl _)
  clear h1 h2 x1 x2 hv hce
  go_enter Tryz.func23, Tryz.ntmps23
  go_upto_region 1 with fail
  rw [HE.out.1, HE.out.2]
  go_wp2_with fail
  refine HCK.out.mono ?_
  rintro e w3 ⟨rfl, hx3⟩
  have HX3 := Hd hx3
  clear z0 z1 z2 z3 z4 hx3 HCK
  dsimp only
  by_cases h0 : ce = 0
  case neg =>
    have hb : (ce != 0) = true := by rw [bne_iff_ne]; exact h0
    have HNZ := Hd h0
    clear h0
    have HT5 := Hd (HTH.out w3 HX3.out)
    have HFI := Hd (cells_end (g := w.heap.size + 1) (by omega) (HX.out.trans HX3.out) HT5.out [.int .i8 0, .int .i8 0, .int .u64 0, .slice none 0 0, .slice none 0 0] rfl)
    have HK := Hd HFI.out.1
    have HTP := Hd (show PlPost t S w (.returned (.tuple #[.agg #[.int .i8 0, .int .i8 0, .int .u64 0, .slice none 0 0, .slice none 0 0], .int .i64 ce])) (w3.setCells (w.heap.size + 1) 0 [.int .i8 0, .int .i8 0, .int .u64 0, .slice none 0 0, .slice none 0 0]) from
      ⟨⟨0, 0, 0, none, 0, 0, by rw [HCE.out], fun e => absurd (HCE.out.trans e) HNZ.out⟩, HFI.out.2.1⟩)
    clear HFI
    go_wp2_with (first | (refine wpList_store_mid rfl 59 _ _ rfl (w.heap.size + 1) 0 #[.int .i8 0, .int .i8 0, .int .u64 0, .slice none 0 0, .slice none 0 0] rfl rfl HT5.out (infoP5 _ _ _ _ _) (p5_one _ _ _ _ _ _ _ _ _) ?_))
    have k0 := HK.out 0 _ rfl
    have k1 := HK.out 1 _ rfl
    have k2 := HK.out 2 _ rfl
    have k3 := HK.out 3 _ rfl
    have k4 := HK.out 4 _ rfl
    refine bodyPost_ret_by (v := .tuple #[.agg #[.int .i8 0, .int .i8 0, .int .u64 0, .slice none 0 0, .slice none 0 0], .int .i64 ce]) ?_ rfl HTP.out
    rw [results_cell_tmp rfl]
    generalize w3.setCells (w.heap.size + 1) 0 _ = wE at *
    go_simp
    try rfl
  subst h0
  have HSM := Hd (check_small HCE.out.symm)
  have HP := Hd (plain_aux 10000 (Nat.le_refl _) t false HSM.out.2 HSM.out.1 (fun b => S b ∧ b < w.heap.size) _ w3 (HV.out.there.ext (HX.out.trans HX3.out)))
  obtain ⟨z0, z1, z2, z3, z4⟩ := HC.out w3 HX3.out
  go_upto_region 5 with (first
    | (go_at_call 39
       refine HP.out.mono ?_
       rintro e w4 ⟨⟨v4, rfl, hv4⟩, hx4⟩
       obtain ⟨l4, p4, c4, rfl, -⟩ := id hv4.open
       generalize (plainT t).op = po at *
       generalize (plainT t).fld = pf at *
       generalize (plainT t).n = pn at *
       obtain ⟨m4, hm4⟩ : ∃ m4, m4 = l4.length := ⟨_, rfl⟩
       rw [← hm4] at hv4 ⊢
       obtain ⟨w5, h5⟩ : ∃ W : World, w4.alloc (.cells #[.int .i8 po, .int .i8 pf, .int .u64 pn, .slice p4 m4 c4, .slice none 0 0] 59) = W := ⟨_, rfl⟩
       have x5 : Ext w4 w5 := h5 ▸ Ext.alloc _ _
       have f0 : w5.cell? ⟨w4.heap.size, 0, none⟩ = some (.int .i8 po) := by rw [← h5]; simp [go_sem]
       have f1 : w5.cell? ⟨w4.heap.size, 1, none⟩ = some (.int .i8 pf) := by rw [← h5]; simp [go_sem]
       have f2 : w5.cell? ⟨w4.heap.size, 2, none⟩ = some (.int .u64 pn) := by rw [← h5]; simp [go_sem]
       have f3 : w5.cell? ⟨w4.heap.size, 3, none⟩ = some (.slice p4 m4 c4) := by rw [← h5]; simp [go_sem]
       have f4 : w5.cell? ⟨w4.heap.size, 4, none⟩ = some (.slice none 0 0) := by rw [← h5]; simp [go_sem]
       have HX5 := Hd (HX3.out.trans (hx4.trans x5))
       have hs4 := hx4.size
       have hs3 := HX3.out.size
       have HV5 := Hd (hv4.ext x5)
       have HE5 := Hd h5
       clear h5 x5 hv4 hm4 hx4 HP)
    | (refine wpList_store_new rfl 59 _ _ rfl _ #[.int .i8 po, .int .i8 pf, .int .u64 pn, .slice p4 m4 c4, .slice none 0 0] rfl rfl (by kernel_rfl) rfl (p5_one _ _ _ _ _ _ _ _ _) ?_))
  rw [HE5.out]
  clear z0 z1 z2 z3 z4
  obtain ⟨z0, z1, z2, z3, z4⟩ := HC.out w5 HX5.out
  go_upto_region 6 with fail
  go_loopw [21] (fun i wr => i = .int .i64 0 ∧ w5 = wr) (fun _ _ => 0)
  case atStart => exact ⟨rfl, rfl⟩
  case round =>
    obtain ⟨rfl, rfl⟩ := hrel
    have HT5 := Hd (HTH.out w5 HX5.out)
    have HFI := Hd (cells_end (g := w.heap.size + 1) (by omega) (HX.out.trans HX5.out) HT5.out [.int .i8 po, .int .i8 pf, .int .u64 pn, .slice p4 m4 c4, .slice none 0 0] rfl)
    have HK := Hd HFI.out.1
    have HTP := Hd (show PlPost t S w (.returned (.tuple #[.agg #[.int .i8 po, .int .i8 pf, .int .u64 pn, .slice p4 m4 c4, .slice none 0 0], .int .i64 0])) (w5.setCells (w.heap.size + 1) 0 [.int .i8 po, .int .i8 pf, .int .u64 pn, .slice p4 m4 c4, .slice none 0 0]) from
      ⟨⟨po, pf, pn, p4, m4, c4, by rw [← HCE.out], fun _ => (HFI.out.2.2 _ _ _ (fun b hb => by
        rcases hb with hb | hb
        · have := hb.2; omega
        · omega) HV5.out).mono fun b hb => by
        rcases hb with hb | hb
        · exact .inl hb.1
        · exact .inr (by omega)⟩, HFI.out.2.1⟩)
    clear HFI HV5
    go_wp2_with (first | (refine wpList_store_mid rfl 59 _ _ rfl (w.heap.size + 1) 0 #[.int .i8 po, .int .i8 pf, .int .u64 pn, .slice p4 m4 c4, .slice none 0 0] rfl rfl HT5.out (infoP5 _ _ _ _ _) (p5_one _ _ _ _ _ _ _ _ _) ?_))
    have k0 := HK.out 0 _ rfl
    have k1 := HK.out 1 _ rfl
    have k2 := HK.out 2 _ rfl
    have k3 := HK.out 3 _ rfl
    have k4 := HK.out 4 _ rfl
    refine bodyPost_ret_by (v := .tuple #[.agg #[.int .i8 po, .int .i8 pf, .int .u64 pn, .slice p4 m4 c4, .slice none 0 0], .int .i64 0]) ?_ rfl HTP.out
    rw [results_cell_tmp rfl]
    generalize w5.setCells (w.heap.size + 1) 0 _ = wE at *
    go_simp
    try rfl
end Go.Proofs.YtjjbdbklbghlhaaGreatDoor
/- CompilePlain walked. -/
namespace Go.Proofs.YtjjbdbklbghlhaaGreatDoor
open Go.RowKit Go.Sort Go.Maps Go.Lib
set_option linter.unusedSimpArgs false

set_option maxHeartbeats 16000000 in
set_option maxRecDepth 100000 in
theorem lawCPlain_any (a : Tm) (l : List Hdr) (va vl : Value) (w : World) (ha : a.Val w va) (hl : HSl w 0 l vl) (ht : Tb w) :
  Calls Tryz.prog 8 #[va, vl] w fun e w' => e = .returned (.bool true) ∧ Ext w w' := by
 have HT := Hd ht
 have HHL := Hd hl
 have HVa := Hd ha
 obtain ⟨cs, rfl, s, rfl, -, -, -, aq, al, ac, rfl, -⟩ := ha
 obtain ⟨ao, hoa⟩ : ∃ x, x = a.op := ⟨_, rfl⟩
 obtain ⟨af, hfa⟩ : ∃ x, x = a.fld := ⟨_, rfl⟩
 obtain ⟨an, hna⟩ : ∃ x, x = a.n := ⟨_, rfl⟩
 rw [← hoa, ← hfa, ← hna] at HVa ⊢
 have HOa := Hd hoa
 clear hoa hfa hna
 obtain ⟨lp, ln, lc, rfl, hln, -⟩ := hl
 have HLN := Hd hln
 obtain ⟨w1, hww1⟩ : ∃ W : World, w.alloc (.cells #[.int .i8 ao, .int .i8 af, .int .u64 an, .slice aq al ac] 26) = W := ⟨_, rfl⟩
 have xw1 : Ext w w1 := hww1 ▸ Ext.alloc _ _
 have sw1 : w1.heap.size = w.heap.size + 1 := by rw [← hww1, World.size_alloc]
 have HE1 := Hd hww1
 have HX1 := Hd xw1
 have HBX := Hd (show ∀ W, Ext w1 W → (W.cell? ⟨w.heap.size, 0, none⟩ = some (.int .i8 ao) ∧ W.cell? ⟨w.heap.size, 1, none⟩ = some (.int .i8 af) ∧ W.cell? ⟨w.heap.size, 2, none⟩ = some (.int .u64 an) ∧ W.cell? ⟨w.heap.size, 3, none⟩ = some (.slice aq al ac)) from fun W hW => by
  refine ⟨hW.later _ _ ?_, hW.later _ _ ?_, hW.later _ _ ?_, hW.later _ _ ?_⟩
  all_goals (rw [← hww1]; simp [go_sem]))
 clear hww1 xw1 sw1 hln ht
 go_enter Tryz.func8, Tryz.ntmps8
 go_upto_region 1 with fail
 simp only [HE1.out]
 by_cases h40 : 40 < ln
 case pos =>
  have hd : decide (40 < (ln : Int)) = true := decide_eq_true (by omega)
  clear h40
  have HWK := Hd (wakes22_any w1 (HT.out.ext HX1.out))
  go_wp2_with fail
  refine HWK.out.mono ?_
  rintro e wz ⟨rfl, hxz⟩
  go_wp2_with fail
  go_ret
  exact ⟨rfl, (HX1.out).trans hxz⟩
 have hd : decide (40 < (ln : Int)) = false := decide_eq_false (by omega)
 obtain ⟨w4, hww4⟩ : ∃ W : World, w1.alloc (.cells #[.int .i8 ao, .int .i8 af, .int .u64 an, .slice aq al ac] 26) = W := ⟨_, rfl⟩
 have xw4 : Ext w1 w4 := hww4 ▸ Ext.alloc _ _
 have sw4 : w4.heap.size = w1.heap.size + 1 := by rw [← hww4, World.size_alloc]
 have HE4 := Hd hww4
 have HX4 := Hd xw4
 have HHV := Hd (cheavy_any [a] w1.heap.size 1 1 w4 rfl (by decide) (by decide) (by
  refine ⟨?_, trivial⟩
  rw [← hww4]
  exact (HVa.out.later (HX1.out.trans (Ext.alloc _ _)).later).at (rangeAt_new w1 _ _)))
 obtain ⟨hv, hhv⟩ : ∃ hv, hv = heavyP [a] := ⟨_, rfl⟩
 rw [← hhv] at HHV
 have HX4' := Hd (HX1.out.trans HX4.out)
 clear hww4 xw4 sw4 hhv
 obtain ⟨e0, e1, e2, e3⟩ := HBX.out w1 (Ext.refl _)
 go_wp2_with fail
 rw [HE4.out]
 refine HHV.out.mono ?_
 rintro e w5 ⟨rfl, hx5⟩
 have HX5 := Hd (HX4'.out.trans hx5)
 have HX15 := Hd (HX4.out.trans hx5)
 clear e0 e1 e2 e3 hx5 HHV HE4
 cases hv with
 | true =>
  have HWK := Hd (wakes22_any w5 (HT.out.ext HX5.out))
  go_wp2_with fail
  refine HWK.out.mono ?_
  rintro e wz ⟨rfl, hxz⟩
  go_wp2_with fail
  go_ret
  exact ⟨rfl, (HX5.out).trans hxz⟩
 | false =>
  obtain ⟨e0, e1, e2, e3⟩ := HBX.out w5 HX15.out
  have HPL := Hd (Plain_any a ao af an aq al ac (fun _ => True) w5 ((vs_of_val a _ HVa.out).ext HX5.out))
  go_wp2_with fail
  refine HPL.out.mono ?_
  rintro e w6 ⟨⟨po, pf, pn, pp, pl, pc, rfl, hpv⟩, hx6⟩
  obtain ⟨ce, hce⟩ : ∃ ce, ce = checkT a := ⟨_, rfl⟩
  rw [← hce] at hpv ⊢
  have HCE := Hd hce
  have HPV := Hd hpv
  clear e0 e1 e2 e3 HPL hpv hce
  obtain ⟨w7, h7⟩ : ∃ W : World, w6.alloc (.cells #[.int .i8 po, .int .i8 pf, .int .u64 pn, .slice pp pl pc, .slice none 0 0] 59) = W := ⟨_, rfl⟩
  have x7 : Ext w6 w7 := h7 ▸ Ext.alloc _ _
  have HX7 := Hd (HX5.out.trans (hx6.trans x7))
  have HX67 := Hd x7
  have HX17 := Hd (HX15.out.trans (hx6.trans x7))
  have HBP := Hd (show ∀ W, Ext w7 W → (W.cell? ⟨w6.heap.size, 0, none⟩ = some (.int .i8 po) ∧ W.cell? ⟨w6.heap.size, 1, none⟩ = some (.int .i8 pf) ∧ W.cell? ⟨w6.heap.size, 2, none⟩ = some (.int .u64 pn) ∧ W.cell? ⟨w6.heap.size, 3, none⟩ = some (.slice pp pl pc)) from fun W hW => by
   refine ⟨hW.later _ _ ?_, hW.later _ _ ?_, hW.later _ _ ?_, hW.later _ _ ?_⟩
   all_goals (rw [← h7]; simp [go_sem]))
  have HE7 := Hd h7
  clear h7 x7 hx6
  dsimp only
  by_cases hc0 : ce = 0
  case neg =>
   have hcb : (ce != 0) = true := by rw [bne_iff_ne]; exact hc0
   clear hc0
   have HWK := Hd (wakes22_any w7 (HT.out.ext HX7.out))
   go_upto_region 4 with (first | (refine wpList_store_new rfl 59 _ _ rfl _ #[.int .i8 po, .int .i8 pf, .int .u64 pn, .slice pp pl pc, .slice none 0 0] rfl rfl (by kernel_rfl) rfl (p5_one _ _ _ _ _ _ _ _ _) ?_))
   rw [HE7.out]
   go_wp2_with fail
   refine HWK.out.mono ?_
   rintro e wz ⟨rfl, hxz⟩
   go_wp2_with fail
   go_ret
   exact ⟨rfl, (HX7.out).trans hxz⟩
  subst hc0
  have HCK := Hd (show checkT a = 0 from HCE.out.symm)
  have HPT := Hd ((HPV.out rfl).val)
  obtain ⟨PT, hPT⟩ : ∃ PT, PT = plainT a := ⟨_, rfl⟩
  rw [← hPT] at HPT
  have HPQ := Hd hPT
  clear hPT HPV HCE
  go_upto_region 4 with (first | (refine wpList_store_new rfl 59 _ _ rfl _ #[.int .i8 po, .int .i8 pf, .int .u64 pn, .slice pp pl pc, .slice none 0 0] rfl rfl (by kernel_rfl) rfl (p5_one _ _ _ _ _ _ _ _ _) ?_))
  rw [HE7.out]
  clear HE7
  go_wp2_with fail
  refine (newS_any w7).mono ?_
  rintro e v1 ⟨sp, F1, rfl, hst, hF1, hv1⟩
  have HS1 := Hd (show SD F1 v1 sp [] from ⟨hst, InvO.nil, w7, HT.out.ext HX7.out, hv1, hF1⟩)
  have HV1 := Hd (And.intro hv1 hF1)
  have HOFA := Hd (cof_any sp [] a _ v1 HS1.out ⟨w7, hv1, hF1, HVa.out.later HX7.out.later⟩)
  obtain ⟨e0, e1, e2, e3⟩ := HBX.out v1 (HX17.out.trans hv1)
  obtain ⟨Ra, hRa⟩ : ∃ Ra, Ra = ofS [] a := ⟨_, rfl⟩
  rw [← hRa] at HOFA
  have HRa := Hd hRa
  clear hst hF1 hv1 hRa
  go_wp2_with fail
  refine HOFA.out.mono ?_
  intro e v2 hp
  obtain rfl := hp.1
  obtain ⟨F2, hs2, hF2, -, -, hv2⟩ := hp.ext1 HV1.out.1 HV1.out.2
  have HS2 := Hd hs2
  have HV2 := Hd (And.intro hv2 hF2)
  obtain ⟨xi, hxi⟩ : ∃ xi, xi = Ra.1.1 := ⟨_, rfl⟩
  obtain ⟨xe, hxe⟩ : ∃ xe, xe = Ra.1.2 := ⟨_, rfl⟩
  rw [← hxi, ← hxe]
  have HXI := Hd (And.intro hxi hxe)
  have HOFB := Hd (cof_any sp Ra.2 PT _ v2 HS2.out ⟨w7, hv2, hF2, HPT.out.later HX67.out.later⟩)
  obtain ⟨Rb, hRb⟩ : ∃ Rb, Rb = ofS Ra.2 PT := ⟨_, rfl⟩
  rw [← hRb] at HOFB
  have HRb := Hd hRb
  obtain ⟨f0, f1, f2, f3⟩ := HBP.out v2 hv2
  clear hp hs2 hF2 hv2 e0 e1 e2 e3 HOFA hRb hxi hxe
  dsimp only
  go_wp2_with fail
  refine HOFB.out.mono ?_
  intro e v3 hp
  obtain rfl := hp.1
  obtain ⟨F3, hs3, hF3, -, -, hv3⟩ := hp.ext1 HV2.out.1 HV2.out.2
  have HS3 := Hd hs3
  have HV3 := Hd (And.intro hv3 hF3)
  have HX3w := Hd (HX7.out.trans hv3)
  obtain ⟨yi, hyi⟩ : ∃ yi, yi = Rb.1.1 := ⟨_, rfl⟩
  obtain ⟨ye, hye⟩ : ∃ ye, ye = Rb.1.2 := ⟨_, rfl⟩
  rw [← hyi, ← hye]
  have HYI := Hd (And.intro hyi hye)
  clear hp hs3 hF3 hv3 f0 f1 f2 f3 HOFB hyi hye
  dsimp only
  have HRUN := Hd (show xe = 0 → ye = 0 → ∃ ia ib : Nat, xi = (ia : Int) ∧ yi = (ib : Int) ∧ Gd Rb.2 ∧ ia < Rb.2.length ∧ ib < Rb.2.length ∧ ∀ x, runsN Rb.2 ia x = runsN Rb.2 ib x from fun h1 h2 => by
   have h := plain_runs (Ra := Ra) (Rb := Rb) HCK.out HRa.out (by rw [HRb.out, HPQ.out]) (by rw [← HXI.out.2]; exact h1) (by rw [← HYI.out.2]; exact h2)
   rw [← HXI.out.1, ← HYI.out.1] at h
   exact h)
  have HMEAN := Hd (show ∀ x, (ofC a x).1 = 0 → (ofC PT x).1 = 0 → (ofC a x).2 = (ofC PT x).2 from fun x h1 h2 => by
   rw [HPQ.out] at h2 ⊢
   exact plain_mean HCK.out h1 h2)
  obtain ⟨LT, hLT⟩ : ∃ i, i = Rb.2 := ⟨_, rfl⟩
  rw [← hLT] at HRUN HS3
  clear HXI HYI HRa HRb hLT HPQ
  have HLC := Hd (show ∀ W, Ext v3 W → ((W.cell? ⟨w.heap.size, 0, none⟩ = some (.int .i8 ao) ∧ W.cell? ⟨w.heap.size, 1, none⟩ = some (.int .i8 af) ∧ W.cell? ⟨w.heap.size, 2, none⟩ = some (.int .u64 an) ∧ W.cell? ⟨w.heap.size, 3, none⟩ = some (.slice aq al ac)) ∧
    (W.cell? ⟨w6.heap.size, 0, none⟩ = some (.int .i8 po) ∧ W.cell? ⟨w6.heap.size, 1, none⟩ = some (.int .i8 pf) ∧ W.cell? ⟨w6.heap.size, 2, none⟩ = some (.int .u64 pn) ∧ W.cell? ⟨w6.heap.size, 3, none⟩ = some (.slice pp pl pc))) from fun W hW =>
   ⟨HBX.out W (HX17.out.trans (HV3.out.1.trans hW)), HBP.out W (HV3.out.1.trans hW)⟩)
  have hln40 : ln ≤ 40 := by omega
  clear HBX HBP h40 hd
  go_upto_region 10 with fail
  go_loopw [12] (fun i wr => ∃ I : Nat, I ≤ ln ∧ i = .int .i64 I ∧ Hid (Ext v3 wr)) (fun i _ => ln - (intOf i).toNat)
  case atStart => exact ⟨0, Nat.zero_le _, rfl, Ext.refl _⟩
  case round =>
   obtain ⟨wo, rfl⟩ : ∃ wo : World, wo = wr := ⟨_, rfl⟩
   obtain ⟨I, hI, rfl, hx⟩ := hrel
   have HXO := Hd (HX3w.out.trans hx.out)
   by_cases hI1 : I < ln
   case neg =>
    have HWK := Hd (wakes22_any wo (HT.out.ext HXO.out))
    go_wp2_with fail
    refine HWK.out.mono ?_
    rintro e wz ⟨rfl, hxz⟩
    go_wp2_with fail
    go_ret
    exact ⟨rfl, (HXO.out).trans hxz⟩
   have hIl : I < l.length := by rw [← HLN.out]; exact hI1
   obtain ⟨lb, lo, rfl, hr⟩ : ∃ lb lo, lp = some ⟨lb, lo, none⟩ ∧ w.rangeAt lb lo (flatH l) := by
    obtain ⟨_, _, _, he, -, hor⟩ := id HHL.out
    cases he
    rcases hor with e | ⟨lb, lo, h1, -, h2⟩
    ·rw [e] at hIl; simp at hIl
    ·exact ⟨lb, lo, h1, h2⟩
   have hrI := rangeAt_get Hdr.len_cs hr I hIl
   obtain ⟨x, hxI⟩ : ∃ x, x = l[I] := ⟨_, rfl⟩
   rw [← hxI] at hrI
   have HRX := Hd (show ∀ W, Ext w W → W.rangeAt lb (lo + I * 11) x.cs.toList from fun W hW => World.rangeAt.later hW.later hrI)
   have xd : Ext wo wo.drew := Ext.drew _
   have HXD := Hd (HXO.out.trans xd)
   have HSS := Hd (show ∀ W, Ext v3 W → (fun W : World => W.cell? ⟨w.heap.size, 0, none⟩ = some (.int .i8 ao) ∧ W.cell? ⟨w.heap.size, 1, none⟩ = some (.int .i8 af) ∧ W.cell? ⟨w.heap.size, 2, none⟩ = some (.int .u64 an) ∧ W.cell? ⟨w.heap.size, 3, none⟩ = some (.slice aq al ac) ∧ W.rangeAt lb (lo + I * 11) x.cs.toList) W from fun W hW => ⟨(HLC.out W hW).1.1, (HLC.out W hW).1.2.1, (HLC.out W hW).1.2.2.1, (HLC.out W hW).1.2.2.2, HRX.out W (HX3w.out.trans hW)⟩)
   have HSP := Hd (show ∀ W, Ext v3 W → (fun W : World => W.cell? ⟨w6.heap.size, 0, none⟩ = some (.int .i8 po) ∧ W.cell? ⟨w6.heap.size, 1, none⟩ = some (.int .i8 pf) ∧ W.cell? ⟨w6.heap.size, 2, none⟩ = some (.int .u64 pn) ∧ W.cell? ⟨w6.heap.size, 3, none⟩ = some (.slice pp pl pc) ∧ W.rangeAt lb (lo + I * 11) x.cs.toList) W from fun W hW => ⟨(HLC.out W hW).2.1, (HLC.out W hW).2.2.1, (HLC.out W hW).2.2.2.1, (HLC.out W hW).2.2.2.2, HRX.out W (HX3w.out.trans hW)⟩)
   have hS0 := HSS.out _ (hx.out.trans xd)
   have HMA := Hd (meaningOf_any a _ x wo.drew (HVa.out.later HXD.out.later))
   have HUS := Hd (show Tryz.prog.underlying 49 = some (.array 11 23) ∧ ∀ (x : Hdr), (Tryz.prog.info? 49).map (·.size) = some x.cs.toList.length from ⟨Tryz.underlying49, fun x => by rw [x.len_cs]; kernel_rfl⟩)
   have HX1x := Hd (hx.out.trans xd)
   have HMX := Hd (HMEAN.out x)
   obtain ⟨A1, hA1⟩ : ∃ A1, A1 = ofC a x := ⟨_, rfl⟩
   obtain ⟨P1, hP1⟩ : ∃ P1, P1 = ofC PT x := ⟨_, rfl⟩
   rw [← hA1] at HMA HMX
   rw [← hP1] at HMX
   have HP1 := Hd hP1
   clear hIl hr hrI hxI xd hA1 hP1 hx
   have huH := HUS.out.1
   have hiH := HUS.out.2
   go_upto_region 12 with fail
   refine wp_region_held_drew (S := (fun W : World => W.cell? ⟨w.heap.size, 0, none⟩ = some (.int .i8 ao) ∧ W.cell? ⟨w.heap.size, 1, none⟩ = some (.int .i8 af) ∧ W.cell? ⟨w.heap.size, 2, none⟩ = some (.int .u64 an) ∧ W.cell? ⟨w.heap.size, 3, none⟩ = some (.slice aq al ac) ∧ W.rangeAt lb (lo + I * 11) x.cs.toList)) (by kernel_rfl) (hS0) (fun hHeld => ?_)
   refine tk 0 (.agg #[.int .i8 ao, .int .i8 af, .int .u64 an, .slice aq al ac]) ?_
   try simp only [tkN]
   refine tk 1 (.slice (some ⟨lb, lo, none⟩) ln lc) ?_
   try simp only [tkN]
   refine tk 2 (.int .i64 I) ?_
   try simp only [tkN]
   refine tk 3 (.pointer (some ⟨lb, lo + I * 11, none⟩)) ?_
   try simp only [tkN]
   refine wpAnyH_take (i := 4) (v := .agg x.cs.toList.toArray) rfl (by kernel_rfl) (by kernel_rfl) (by kernel_rfl) (fun _ _ _ h => h) ?_ (by assumption) ?_
   ·try simp only [List.getElem_toArray, List.getElem_cons_zero, List.getElem_cons_succ]
    exact yieldsIf_load_mid (by rfl) _ _ rfl (lb) (lo + I * 11) rfl x.cs.toList _ (fun w hSw => hSw.2.2.2.2) huH rfl (hiH x)
   try simp only [tkN]
   refine tk1 5 rfl (AllReadyH.cons rfl (fun K hK => ?_) AllReadyH.nil)
   go_simp
   go_at_call 21
   refine (HMA.out).mono ?_
   rintro e y1 ⟨hxy1, hlen1, s1, rfl, how1⟩
   have HY1 := Hd (HX1x.out.trans hxy1)
   have HS1' := Hd (HSl.of_owns how1)
   have HL1 := Hd hlen1
   obtain ⟨q1, c1, rfl, -, -⟩ := owns_form how1
   obtain ⟨n1, hn1⟩ : ∃ n1, n1 = A1.2.length := ⟨_, rfl⟩
   rw [← hn1] at HS1' ⊢
   clear hxy1 hlen1 how1 hn1
   refine hK.out _ _ (HSS.out _ HY1.out) (fun hh5 => ?_)
   clear hK K
   try simp only [tkN]
   refine tk 6 (.tuple #[.slice q1 n1 c1, .int .i64 A1.1]) ?_
   try simp only [tkN]
   refine tk 7 (.slice q1 n1 c1) ?_
   try simp only [tkN]
   refine tk 8 (.int .i64 A1.1) ?_
   try simp only [tkN]
   refine tk 9 (.slice q1 n1 c1) ?_
   try simp only [tkN]
   refine tk 10 (.int .i64 A1.1) ?_
   try simp only [tkN]
   refine wpAnyH_done (by kernel_rfl) ?_ _
   clear hS0 hh5
   have hS1 := HSP.out _ (HY1.out.trans (Ext.drew _))
   have HMB := Hd (meaningOf_any PT _ x y1.drew (HPT.out.later (HX67.out.trans (HV3.out.1.trans (HY1.out.trans (Ext.drew _)))).later))
   rw [← HP1.out] at HMB
   have HX2x := Hd (HY1.out.trans (Ext.drew y1))
   go_upto_region 13 with fail
   refine wp_region_held_drew (S := (fun W : World => W.cell? ⟨w6.heap.size, 0, none⟩ = some (.int .i8 po) ∧ W.cell? ⟨w6.heap.size, 1, none⟩ = some (.int .i8 pf) ∧ W.cell? ⟨w6.heap.size, 2, none⟩ = some (.int .u64 pn) ∧ W.cell? ⟨w6.heap.size, 3, none⟩ = some (.slice pp pl pc) ∧ W.rangeAt lb (lo + I * 11) x.cs.toList)) (by kernel_rfl) (hS1) (fun hHeld => ?_)
   refine tk 0 (.pointer (some ⟨w6.heap.size, 0, none⟩)) ?_
   try simp only [tkN]
   refine tk 1 (.agg #[.int .i8 po, .int .i8 pf, .int .u64 pn, .slice pp pl pc]) ?_
   try simp only [tkN]
   refine tk 2 (.slice (some ⟨lb, lo, none⟩) ln lc) ?_
   try simp only [tkN]
   refine tk 3 (.int .i64 I) ?_
   try simp only [tkN]
   refine tk 4 (.pointer (some ⟨lb, lo + I * 11, none⟩)) ?_
   try simp only [tkN]
   refine wpAnyH_take (i := 5) (v := .agg x.cs.toList.toArray) rfl (by kernel_rfl) (by kernel_rfl) (by kernel_rfl) (fun _ _ _ h => h) ?_ (by assumption) ?_
   ·try simp only [List.getElem_toArray, List.getElem_cons_zero, List.getElem_cons_succ]
    exact yieldsIf_load_mid (by rfl) _ _ rfl (lb) (lo + I * 11) rfl x.cs.toList _ (fun w hSw => hSw.2.2.2.2) huH rfl (hiH x)
   try simp only [tkN]
   refine tk1 6 rfl (AllReadyH.cons rfl (fun K hK => ?_) AllReadyH.nil)
   go_simp
   go_at_call 21
   refine (HMB.out).mono ?_
   rintro e y2 ⟨hxy2, hlen2, s2, rfl, how2⟩
   have HY2 := Hd (HX2x.out.trans hxy2)
   have HS1'' := Hd (HS1'.out.ext ((Ext.drew y1).trans hxy2))
   have HS2' := Hd (HSl.of_owns how2)
   obtain ⟨q2, c2, rfl, -, -⟩ := owns_form how2
   obtain ⟨n2, hn2⟩ : ∃ n2, n2 = P1.2.length := ⟨_, rfl⟩
   rw [← hn2] at HS2' ⊢
   clear hxy2 hlen2 how2 hn2
   refine hK.out _ _ (HSP.out _ HY2.out) (fun hh6 => ?_)
   clear hK K
   try simp only [tkN]
   refine tk 7 (.tuple #[.slice q2 n2 c2, .int .i64 P1.1]) ?_
   try simp only [tkN]
   refine tk 8 (.slice q2 n2 c2) ?_
   try simp only [tkN]
   refine tk 9 (.int .i64 P1.1) ?_
   try simp only [tkN]
   refine tk 10 (.slice q2 n2 c2) ?_
   try simp only [tkN]
   refine tk 11 (.int .i64 P1.1) ?_
   try simp only [tkN]
   refine wpAnyH_done (by kernel_rfl) ?_ _
   clear hS1 hh6 huH hiH
   go_upto_region 14 with fail
   go_cut [85] (fun u wx => u = .bool false ∧ Hid (Ext y2 wx))
   case first =>
    by_cases ha0 : A1.1 = 0
    case neg =>
     have hab : (A1.1 == 0) = false := by rw [beq_eq_false_iff_ne]; exact ha0
     clear ha0
     go_wp2_with fail
     go_meet
     exact ⟨rfl, Ext.refl _⟩
    by_cases hp0 : P1.1 = 0
    case neg =>
     have hab : (A1.1 == 0) = true := by rw [beq_iff_eq]; exact ha0
     have hpb : (P1.1 == 0) = false := by rw [beq_eq_false_iff_ne]; exact hp0
     clear ha0 hp0
     go_wp2_with fail
     go_meet
     exact ⟨rfl, Ext.refl _⟩
    have hab : (A1.1 == 0) = true := by rw [beq_iff_eq]; exact ha0
    have hpb : (P1.1 == 0) = true := by rw [beq_iff_eq]; exact hp0
    have HHD := Hd (heads_any A1.2 P1.2 _ _ _ _ y2 HS1''.out HS2'.out (by have := HL1.out; omega))
    rw [decide_eq_true (HMX.out ha0 hp0)] at HHD
    clear ha0 hp0
    go_wp2_with fail
    refine HHD.out.mono ?_
    rintro e y3 ⟨rfl, hxy3⟩
    go_wp2_with fail
    go_meet
    exact ⟨rfl, hxy3⟩
   case rest =>
   obtain ⟨rfl, hxc⟩ := hcut
   apply_assumption
   have HYC := Hd (HY2.out.trans hxc.out)
   clear hxc
   by_cases hx0 : xe = 0
   case neg =>
    have hxb : (xe != 0) = true := by rw [bne_iff_ne]; exact hx0
    clear hx0
    go_wp2_with fail
    go_roundw
    case rel => exact ⟨I + 1, by omega, by go_num, HYC.out⟩
    case measure => simp [intOf]; omega
   by_cases hy0 : ye = 0
   case neg =>
    have hxb : (xe != 0) = false := by rw [bne_eq_false_iff_eq]; exact hx0
    have hyb : (ye != 0) = true := by rw [bne_iff_ne]; exact hy0
    clear hx0 hy0
    go_wp2_with fail
    go_roundw
    case rel => exact ⟨I + 1, by omega, by go_num, HYC.out⟩
    case measure => simp [intOf]; omega
   have hxb : (xe != 0) = false := by rw [bne_eq_false_iff_eq]; exact hx0
   have hyb : (ye != 0) = false := by rw [bne_eq_false_iff_eq]; exact hy0
   obtain ⟨ia, ib, rfl, rfl, hG, hla, hlb, hrun⟩ := HRUN.out hx0 hy0
   have HG := Hd hG
   have HLA := Hd hla
   have HLB := Hd hlb
   have HEQR := Hd (hrun x)
   clear hG hla hlb hrun hx0 hy0
   have HSY := Hd (HS3.out.ext HYC.out)
   have HR1 := Hd (HRX.out wc (HX3w.out.trans HYC.out))
   have HU := Hd (dRun_any sp LT ia x wc HSY.out.st HSY.out.inv HG.out.f (by have := HSY.out.st.inv.2.1; have := HLA.out; omega))
   unfold RunPost at HU
   rw [runH_at HLA.out] at HU
   go_wp2_with (first | (refine wpList_load_H rfl _ rfl lb (lo + I * 11) rfl x HR1.out ?_))
   refine HU.out.mono ?_
   rintro e y4 ⟨⟨uv, rfl, huv⟩, hxy4⟩
   have HY4 := Hd (HYC.out.trans hxy4)
   have HSY2 := Hd (HS3.out.ext HY4.out)
   have HR2 := Hd (HRX.out y4 (HX3w.out.trans HY4.out))
   have HUV := Hd huv
   have HV := Hd (dRun_any sp LT ib x y4 HSY2.out.st HSY2.out.inv HG.out.f (by have := HSY2.out.st.inv.2.1; have := HLB.out; omega))
   unfold RunPost at HV
   rw [runH_at HLB.out] at HV
   obtain ⟨uq, un, uc, rfl, -⟩ := id huv
   clear huv hxy4 HU hxb hyb
   dsimp only
   go_wp2_with (first | (refine wpList_load_H rfl _ rfl lb (lo + I * 11) rfl x HR2.out ?_))
   refine HV.out.mono ?_
   rintro e y5 ⟨⟨wv, rfl, hwv⟩, hxy5⟩
   have HY5 := Hd (HY4.out.trans hxy5)
   have HHD := Hd (heads_any (runsN LT ia x) (runsN LT ib x) _ wv _ _ y5 (HUV.out.ext hxy5) hwv (by have := runsN_len (h := x) HG.out HLA.out; omega))
   rw [decide_eq_true HEQR.out] at HHD
   obtain ⟨wq, wn, wcc, rfl, -⟩ := id hwv
   clear hwv hxy5 HV
   dsimp only
   go_wp2_with fail
   refine HHD.out.mono ?_
   rintro e y6 ⟨rfl, hxy6⟩
   have HY6 := Hd (HY5.out.trans hxy6)
   clear hxy6
   go_wp2_with fail
   go_roundw
   case rel => exact ⟨I + 1, by omega, by go_num, HY6.out⟩
   case measure => simp [intOf]; omega

end Go.Proofs.YtjjbdbklbghlhaaGreatDoor
/- CompilePlain returns true for every input, and each argument reads behind the call as before it. Conditions: the tables as laid. -/
namespace Go.Proofs.YtjjbdbklbghlhaaGreatDoor
open Go.ChangeShapes Go.WideShapes Go.ChangeAt Go.RowKit
set_option linter.unusedSimpArgs false

set_option maxRecDepth 100000 in
theorem compilePlain_lifted (os : Os) (started : os.Started) (H : Type) (enc : TypeId × Value → H) :
  ReturnsInHanded {} Tryz.checked os 8 .any (fun w args => (Rows.compilePlainSpec.pre enc Tryz.prog Tryz.f8 Rows.compilePlainRow.domain false w args ∧ laidMet Tryz.prog laid20 w) ∧ sizedMet enc Tryz.prog Tryz.f8 (OpenSpec.ofChange Rows.compilePlainSpec) false w args) (Rows.compilePlainSpec.post enc Tryz.prog Tryz.f8 false true false false) := by
 refine returnsInHanded_of_change_and (C := Tryz.checked) (X := fun w _ => laidMet Tryz.prog laid20 w) (fun _ _ _ hh h => h.of_heap hh) ownL started (by kernel_rfl) Tryz.func8
  (ChangeSpec.witness_at (enc := enc) (C := Tryz.checked) (os := os) (X := fun w _ => laidMet Tryz.prog laid20 w) false (laidWorld os) #[.agg #[.int .i8 0, .int .i8 0, .int .u64 0, .slice none 0 0], .slice none 0 0] 8 rfl (by kernel_rfl) (by kernel_rfl) (by kernel_rfl) (by kernel_rfl) (by kernel_rfl) (laid_met os _)) ?_
 intro W base args ds gs before hval0 hW hcnd hwt hL _
 have hval : ∀ (j : Nat) t v, Tryz.f8.params[j]? = some t → args[j]? = some v → Value.okWide Tryz.prog W .any base t v := hval0
 have hW' := hW
 obtain ⟨p, q, hA0, hV, rfl, hfz, hnd⟩ := hW
 have hA : DataW.TrodAll enc Tryz.prog W 0 (fun _ => true) true Tryz.f8.params.toList args.toList ds p := hA0
 rw [Tryz.params8] at hA hval
 obtain ⟨v0, v1, d0, d1, p0, p1, rfl, rfl, rfl, h0, h1⟩ := trodAll_two hA
 obtain ⟨rfl, rfl⟩ := trodVars_none hV
 obtain ⟨x0, w0⟩ := term_val (hval 0 26 v0 rfl rfl) h0
 obtain ⟨l1, w1⟩ := hdrs_val (hval 1 36 v1 rfl rfl) h1
 have hlt : ∀ y ∈ p0 ++ p1, y.block < W.heap.size := fun y hy => hW'.lt y (by simpa using hy)
 simp only [List.append_nil, List.append_assoc] at hW'
 refine (lawCPlain_any x0 l1 v0 v1 W w0 w1 (tb_of_laid hL)).mono fun e W' ⟨he, hw⟩ => ?_
 subst he
 have hb : Below W.heap.size W W' := hw
 exact ⟨_, rfl, post_below (pa := p0 ++ p1) (pv := []) hW' (fun _ _ _ => trodAll_mk1 (shut_bool Tryz.underlying4 true))
  (fun sp hsp => trodAll_mk2 (stays_T sp h0 hb (fun y hy => hlt y (List.mem_append_left _ hy)) (fun y hy => hsp y (List.mem_append_left _ hy))) (stays_Hs sp h1 hb (fun y hy => hlt y (List.mem_append_right _ hy)) (fun y hy => hsp y (List.mem_append_right _ hy))))
  (fun _ _ => rfl) (by simp) hb (ok_one (by kernel_rfl) rfl (okWide_bool_mk Tryz.underlying4 true))⟩

theorem CompilePlain_holds : Rows.CompilePlainSaid :=
 OpenClaim.holds_of_wide 8 Tryz.f8 rfl rfl rfl rfl rfl rfl rfl ⟨rfl, rfl, rfl, rfl, rfl⟩ rfl rfl rfl rfl rfl (by kernel_rfl) Tryz.func8 (by kernel_rfl)
  (of_decide_eq_true (by kernel_rfl)) (by unfold Func.isWrapper; first | (rw [if_pos (by decide +kernel)]; kernel_rfl) | (rw [if_neg (by decide +kernel)]; exact ⟨rfl, rfl⟩))
  (fun os started H enc _ => compilePlain_lifted os started H enc)
#print axioms CompilePlain_holds
end Go.Proofs.YtjjbdbklbghlhaaGreatDoor
/- The tied card of CompilePlain. -/
namespace Go.Proofs.YtjjbdbklbghlhaaGreatDoor
open Go
set_option linter.unusedSimpArgs false
theorem CompilePlain_card : Rows.CompilePlainCardSaid :=
 Claim7.holds_tied_plain_at .later [] [.data, .data, .data] true (true, "897f12f2e920dbc4282a1e707cc9a5a53cb8e2ee45049fbcb54b6b014209edab") true
  CompilePlain_holds (fun _ h => by cases h) (by kernel_rfl) (fun _ h => by cases h) compilePlain_row_tie rfl ⟨rfl, rfl⟩ (by kernel_rfl) rfl
  (fun f fn hf hfn => by
   obtain rfl : f = 8 := Option.some.inj ((show Tryz.prog.funcNamed "tollbridge/tollbridgelaw22.CompilePlain" = some 8 by kernel_rfl).symm.trans hf) |>.symm
   obtain rfl : fn = Tryz.f8 := (Option.some.inj (Tryz.func8.symm.trans hfn)).symm
   exact ⟨by kernel_rfl, fun j t ht => by
    rw [Tryz.params8] at ht
    have hm : t ∈ ([26, 36] : List TypeId) := by simpa using Array.mem_of_getElem? ht
    have hall : (([26, 36] : List TypeId).all fun u => !Tryz.prog.wantsStandIn u) = true := by kernel_rfl
    exact (show Tryz.prog.wantsStandIn t = false by simpa using List.all_eq_true.1 hall t hm)⟩)
  (by kernel_rfl)
#print axioms CompilePlain_card
end Go.Proofs.YtjjbdbklbghlhaaGreatDoor
