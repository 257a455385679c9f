/- A store with one node more. -/
import Derived.Test.YtehdddilcakmlaaDoorNAdd
import Derived.Test.YtehdddilcakmlaaDoorNInj
namespace Go.Proofs.YtehdddilcakmlaaDoor
open Go.RowKit Go.Sort Go.Maps Go.Lib
set_option linter.unusedSimpArgs false

def findN (L : List NdD) (x : NdD) : Option Nat := L.findIdx? fun y => decide (y = x)
def addN (L : List NdD) (x : NdD) : (Int × Int) × List NdD := if 65536 ≤ L.length then ((0, 200), L) else (((L.length : Int), 0), L ++ [x])
def putN (L : List NdD) (x : NdD) : (Int × Int) × List NdD := match findN L x with
  | some i => (((i : Int), 0), L)
  | none => addN L x
def leafP (L : List NdD) (l : List RowD) : (Int × Int) × List NdD := match rowsP l with
  | none => ((0, 2), L)
  | some r => if 64 < r.length then ((0, 200), L) else putN L ⟨-1, 0, 0, 0, r⟩
theorem findN_at {L : List NdD} {x : NdD} {i : Nat} (hn : L.Nodup) (h : L[i]? = some x) : findN L x = some i := by
  obtain ⟨hi, hx⟩ := List.getElem?_eq_some_iff.1 h
  unfold findN
  rw [List.findIdx?_eq_some_iff_getElem]
  refine ⟨hi, by simp [hx], fun j hj => ?_⟩
  simp only [decide_eq_true_eq]
  intro he
  have := (List.nodup_iff_pairwise_ne.1 hn)
  rw [List.pairwise_iff_getElem] at this
  exact this j i (by omega) hi hj (by rw [he, hx])
theorem findN_none {L : List NdD} {x : NdD} (h : ∀ i : Nat, L[i]? ≠ some x) : findN L x = none := by
  unfold findN
  rw [List.findIdx?_eq_none_iff]
  intro y hy
  obtain ⟨i, hi, rfl⟩ := List.getElem_of_mem hy
  rw [decide_eq_false_iff_not]
  intro he
  exact h i (by rw [List.getElem?_eq_getElem hi, he])
theorem InvL.snoc {L : List NdD} {x : NdD} (h : InvL L) (hn : ∀ i : Nat, L[i]? ≠ some x) (hl : L.length < 65536) (hx : x.ok ∧ ((∃ l, x = ⟨-1, 0, 0, 0, x.leaf⟩ ∧ rowsP l = some x.leaf ∧ x.leaf.length ≤ 64) ∨ (0 ≤ x.f ∧ x.leaf = []))) : InvL (L ++ [x]) := by
  refine ⟨?_, by simp; omega, fun y hy => ?_⟩
  · rw [List.nodup_append]
    refine ⟨h.1, by simp, fun a ha b hb => ?_⟩
    rw [List.mem_singleton] at hb
    subst hb
    intro e
    subst e
    obtain ⟨i, hi, he⟩ := List.getElem_of_mem ha
    exact hn i (by rw [List.getElem?_eq_getElem hi, he])
  · rcases List.mem_append.1 hy with hy | hy
    · exact h.2.2 y hy
    · rw [List.mem_singleton] at hy; subst hy; exact hx
theorem getElem?_snoc {L : List NdD} {x y : NdD} {i : Nat} : (L ++ [x])[i]? = some y ↔ L[i]? = some y ∨ (i = L.length ∧ x = y) := by
  rcases Nat.lt_trichotomy i L.length with h | h | h
  · rw [List.getElem?_append_left h]
    exact ⟨.inl, fun h2 => h2.elim id (fun h3 => by omega)⟩
  · subst h
    rw [List.getElem?_append_right (Nat.le_refl _), List.getElem?_eq_none (Nat.le_refl _)]
    simp
  · rw [List.getElem?_eq_none (by simp; omega), List.getElem?_eq_none (by omega)]
    simp
    omega

/-- what both kinds of nodes share: the store behind add and a change of one of its maps -/
theorem StM.added {F : Nat → Prop} {w w0 w1 w2 : World} {p : Nat} {L : List NdD} {lv : Value} {mt ml : Nat} {lvs : List Value} {T T' : List (Tk × Int)} {S S' : List (Sk × Int)} {x : NdD} {lv' xv : Value}
    (h : StM F w p L lv mt ml lvs T S) (hx0 : Ext w w0) (hxv : RowsOn (fun b => w.heap.size ≤ b) w0 x.leaf xv)
    (ho : w1.ownsRow 0 41 5 lv' (L.length + 1) (flatN L lvs ++ x.cs xv)) (hc : w1.cell? ⟨p, 0, none⟩ = some lv') (hf : w1.frozen? ⟨p, 0, none⟩ = false)
    (hat : lv'.ownBlock = lv.ownBlock ∨ ∃ b, lv'.ownBlock = some b ∧ w0.heap.size ≤ b) (hk : Keep (fun b => b = p ∨ lv.ownBlock = some b) w0 w1) (hcs : ∀ j v, j ≠ 0 → w0.cell? ⟨p, j, none⟩ = some v → w1.cell? ⟨p, j, none⟩ = some v)
    (hk2 : Keep (fun b => b = mt ∨ b = ml) w1 w2)
    (mT : MapOf w2 kvT vvI mt T') (nT : (T'.map (·.1)).Nodup) (mS : MapOf w2 kvS vvI ml S') (nS : (S'.map (·.1)).Nodup)
    (lT : ∀ (k : Tk) id, look k T' = some id ↔ ∃ i : Nat, id = i ∧ (L ++ [x])[i]? = some ⟨k.1.f, k.1.n, k.1.hi, k.1.lo, []⟩ ∧ 0 ≤ k.1.f)
    (lS : ∀ (s : Sk) id, look s S' = some id ↔ ∃ (i : Nat) (r : List RowD), id = i ∧ (L ++ [x])[i]? = some ⟨-1, 0, 0, 0, r⟩ ∧ s.1 = keyK r)
    (inv : InvL (L ++ [x])) : StTo F w w2 p (L ++ [x]) (fun b => F b ∨ (w.heap.size ≤ b ∧ b < w2.heap.size)) := by
  have hsz0 := hx0.size
  have hsz1 := hk.size
  have hsz2 := hk2.size
  have hpl := h.lt p h.fp.1
  have hmt := h.lt mt h.fp.2.1
  have hml := h.lt ml h.fp.2.2.1
  have hlvb : ∀ b, lv.ownBlock = some b → b < w.heap.size := fun b hb => h.lt b (h.fp.2.2.2 b hb)
  have hl1 : lv'.ownBlock ≠ some mt := by
    rcases hat with e | ⟨b, e, hb⟩
    · rw [e]; exact h.ne.2.2.2.2.1
    · rw [e]; intro e2; injection e2 with e2; omega
  have hl2 : lv'.ownBlock ≠ some ml := by
    rcases hat with e | ⟨b, e, hb⟩
    · rw [e]; exact h.ne.2.2.2.2.2
    · rw [e]; intro e2; injection e2 with e2; omega
  have hl0 : lv'.ownBlock ≠ some p := by
    rcases hat with e | ⟨b, e, hb⟩
    · rw [e]; exact h.ne.2.2.2.1
    · rw [e]; intro e2; injection e2 with e2; omega
  have hpm : ¬ (p = mt ∨ p = ml) := by
    rintro (e | e)
    · exact h.ne.1 e
    · exact h.ne.2.1 e
  -- old blocks that are read alone
  have stay : ∀ b, b < w0.heap.size → b ≠ p → lv.ownBlock ≠ some b → b ≠ mt → b ≠ ml → w2.heap[b]? = w0.heap[b]? := fun b hb h1 h2 h3 h4 => by
    rw [hk2.block b (by omega) (fun e => e.elim h3 h4), hk.block b hb (fun e => e.elim h1 h2)]
  have keepAll : Keep F w w2 := by
    refine (hx0.keep F).trans ((hk.mono fun b _ hb => ?_).trans (hk2.mono fun b _ hb => ?_))
    · rcases hb with rfl | hb
      · exact h.fp.1
      · exact h.fp.2.2.2 b hb
    · rcases hb with rfl | rfl
      · exact h.fp.2.1
      · exact h.fp.2.2.1
  refine ⟨⟨lv', mt, ml, lvs ++ [xv], T', S', ?_⟩, fun b hb => hb.imp id (fun h => h.1), keepAll⟩
  exact {
    own := by
      rw [flatN_snoc h.leafs.1, List.length_append]
      refine ⟨ho.1, ho.2.imp id fun ⟨g, cap, cur, hv, hb, hg, hn⟩ => ⟨g, cap, cur, hv, hb, ?_, hn⟩⟩
      rw [hk2.block g (Array.getElem?_eq_some_iff.1 hg).1 (fun e => by
        rcases e with rfl | rfl
        · exact hl1 (by rw [hv]; rfl)
        · exact hl2 (by rw [hv]; rfl))]
      exact hg
    c0 := hk2.cell hc hpm
    c1 := hk2.cell (hcs 1 _ (by omega) (hx0.later _ _ h.c1)) hpm
    c2 := hk2.cell (hcs 2 _ (by omega) (hx0.later _ _ h.c2)) hpm
    fz := by rw [World.frozen?_of_block (hk2.block p (World.block_lt_of_cell? w1 _ hc) hpm)]; exact hf
    leafs := by
      refine NodesV.snoc ?_ ?_
      · have h1 : NodesV (fun b => F b ∧ b ≠ p ∧ b ≠ mt ∧ b ≠ ml ∧ lv.ownBlock ≠ some b) w0 L lvs := h.leafs.keep hsz0 (fun b _ hlt => Below.block hx0 b hlt)
        have h2 := h1.mono (C := fun b => (F b ∧ b ≠ p ∧ b ≠ mt ∧ b ≠ ml ∧ lv.ownBlock ≠ some b) ∧ b < w0.heap.size) (fun b hlt hb => ⟨hb, hlt⟩)
        have h3 : NodesV (fun b => (F b ∧ b ≠ p ∧ b ≠ mt ∧ b ≠ ml ∧ lv.ownBlock ≠ some b) ∧ b < w0.heap.size) w2 L lvs := h2.keep (by omega) (fun b hb hlt => stay b hb.2 hb.1.2.1 hb.1.2.2.2.2 hb.1.2.2.1 hb.1.2.2.2.1)
        refine h3.mono fun b _ hb => ⟨.inl hb.1.1, hb.1.2.1, hb.1.2.2.1, hb.1.2.2.2.1, ?_⟩
        rcases hat with e | ⟨g, e, hg⟩
        · rw [e]; exact hb.1.2.2.2.2
        · rw [e]; intro e2; have := hb.2; injection e2 with e2; omega
      · have h2 := hxv.mono (C := fun b => w.heap.size ≤ b ∧ b < w0.heap.size) (fun b hlt hb => ⟨hb, hlt⟩)
        have h3 : RowsOn (fun b => w.heap.size ≤ b ∧ b < w0.heap.size) w2 x.leaf xv := h2.keep (by omega) (fun b hb hlt => stay b hb.2 (by omega) (fun e => by have := hlvb b e; omega) (by omega) (by omega))
        refine h3.mono fun b _ hb => ⟨.inr ⟨hb.1, by omega⟩, by omega, by omega, by omega, ?_⟩
        rcases hat with e | ⟨g, e, hg⟩
        · rw [e]; intro e2; have := hlvb b e2; omega
        · rw [e]; intro e2; have := hb.2; injection e2 with e2; omega
    mT := mT
    nT := nT
    mS := mS
    nS := nS
    lT := lT
    lS := lS
    fp := ⟨.inl h.fp.1, .inl h.fp.2.1, .inl h.fp.2.2.1, fun b hb => by
      rcases hat with e | ⟨g, e, hg⟩
      · exact .inl (h.fp.2.2.2 b (by rw [← e]; exact hb))
      · rw [e] at hb
        injection hb with hb
        subst hb
        refine .inr ⟨by omega, ?_⟩
        have := (owns_lt ho g e).2
        omega⟩
    ne := ⟨h.ne.1, h.ne.2.1, h.ne.2.2.1, hl0, hl1, hl2⟩
    lt := fun b hb => by
      rcases hb with hb | hb
      · have := h.lt b hb; omega
      · exact hb.2
    inv := inv }
end Go.Proofs.YtehdddilcakmlaaDoor
