/- The store in memory; New, Len. -/
import Derived.Test.YtehdddilcakmlaaDoorNMap
import Derived.Deep.RegionLaw
namespace Go.Proofs.YtehdddilcakmlaaDoor
open Go.RowKit Go.Sort Go.Maps Go.Lib
set_option linter.unusedSimpArgs false

def NdD.ok (x : NdD) : Prop := (-128 ≤ x.f ∧ x.f ≤ 127) ∧ (0 ≤ x.n ∧ x.n ≤ 18446744073709551615) ∧ (-9223372036854775808 ≤ x.hi ∧ x.hi ≤ 9223372036854775807) ∧ (-9223372036854775808 ≤ x.lo ∧ x.lo ≤ 9223372036854775807)
/-- the leaf values of the nodes -/
def NodesV (B : Nat → Prop) (w : World) (L : List NdD) (lvs : List Value) : Prop := lvs.length = L.length ∧ ∀ i (h : i < L.length) (h' : i < lvs.length), RowsOn B w (L[i]).leaf (lvs[i])
def flatN (L : List NdD) (lvs : List Value) : List Value := (L.zip lvs).flatMap fun p => p.1.cs p.2
theorem NodesV.keep {B : Nat → Prop} {w w' : World} {L : List NdD} {lvs : List Value} (h : NodesV B w L lvs) (hs : w.heap.size ≤ w'.heap.size) (hk : ∀ b, B b → b < w.heap.size → w'.heap[b]? = w.heap[b]?) : NodesV B w' L lvs := ⟨h.1, fun i a b => (h.2 i a b).keep hs hk⟩
theorem NodesV.mono {B C : Nat → Prop} {w : World} {L : List NdD} {lvs : List Value} (h : NodesV B w L lvs) (hBC : ∀ b, b < w.heap.size → B b → C b) : NodesV C w L lvs := ⟨h.1, fun i a b => (h.2 i a b).mono hBC⟩
theorem NodesV.snoc {B : Nat → Prop} {w : World} {L : List NdD} {lvs : List Value} (h : NodesV B w L lvs) {x : NdD} {v : Value} (hr : RowsOn B w x.leaf v) : NodesV B w (L ++ [x]) (lvs ++ [v]) := by
  refine ⟨by rw [List.length_append, List.length_append, h.1]; rfl, fun i a b => ?_⟩
  by_cases hi : i < L.length
  · have e2 : (lvs ++ [v])[i] = lvs[i]'(by rw [h.1]; exact hi) := List.getElem_append_left (by rw [h.1]; exact hi)
    have e : (L ++ [x])[i] = L[i] := List.getElem_append_left hi
    rw [e, e2]
    exact h.2 i hi _
  · have hl : i = L.length := by simp at a; omega
    subst hl
    have e : (L ++ [x])[L.length] = x := by simp
    have e2 : (lvs ++ [v])[L.length] = v := by
      rw [List.getElem_append_right (by rw [h.1]; exact Nat.le_refl _)]
      simp
    rw [e, e2]
    exact hr
theorem flatN_len {L : List NdD} {lvs : List Value} (h : lvs.length = L.length) : (flatN L lvs).length = L.length * 5 := by
  unfold flatN
  rw [flatMap_length (k := 5) (fun p => rfl), List.length_zip, h, Nat.min_self]
theorem flatN_snoc {L : List NdD} {lvs : List Value} (h : lvs.length = L.length) (x : NdD) (v : Value) : flatN (L ++ [x]) (lvs ++ [v]) = flatN L lvs ++ x.cs v := by
  unfold flatN
  rw [List.zip_append h.symm]
  simp
/-- the cells of one node -/
theorem nodeCells {w : World} {g : Nat} {L : List NdD} {lvs : List Value} (hl : lvs.length = L.length) (hr : w.rangeAt g 0 (flatN L lvs)) (i : Nat) (hi : i < L.length) :
    w.rangeAt g (i * 5) ((L[i]).cs (lvs[i]'(by omega))) := by
  have h1 : i < (L.zip lvs).length := by rw [List.length_zip]; omega
  have := rangeAt_get (k := 5) (enc := fun p : NdD × Value => p.1.cs p.2) (fun p => rfl) (l := L.zip lvs) hr i h1
  rw [Nat.zero_add, List.getElem_zip] at this
  exact this

/-- what may stand in a store -/
def InvL (L : List NdD) : Prop := L.Nodup ∧ L.length ≤ 65536 ∧ ∀ x ∈ L, x.ok ∧ ((∃ l, x = ⟨-1, 0, 0, 0, x.leaf⟩ ∧ rowsP l = some x.leaf ∧ x.leaf.length ≤ 64) ∨ (0 ≤ x.f ∧ x.leaf = []))
theorem InvL.nil : InvL [] := ⟨List.Pairwise.nil, by simp, fun x h => by cases h⟩

structure StM (F : Nat → Prop) (w : World) (p : Nat) (L : List NdD) (lv : Value) (mt ml : Nat) (lvs : List Value) (T : List (Tk × Int)) (S : List (Sk × Int)) : Prop where
  own : w.ownsRow 0 41 5 lv L.length (flatN L lvs)
  c0 : w.cell? ⟨p, 0, none⟩ = some lv
  c1 : w.cell? ⟨p, 1, none⟩ = some (.map (some mt))
  c2 : w.cell? ⟨p, 2, none⟩ = some (.map (some ml))
  fz : w.frozen? ⟨p, 0, none⟩ = false
  leafs : NodesV (fun b => F b ∧ b ≠ p ∧ b ≠ mt ∧ b ≠ ml ∧ lv.ownBlock ≠ some b) w L lvs
  mT : MapOf w kvT vvI mt T
  nT : (T.map (·.1)).Nodup
  mS : MapOf w kvS vvI ml S
  nS : (S.map (·.1)).Nodup
  lT : ∀ (k : Tk) id, look k T = some id ↔ ∃ i : Nat, id = i ∧ L[i]? = some ⟨k.1.f, k.1.n, k.1.hi, k.1.lo, []⟩ ∧ 0 ≤ k.1.f
  lS : ∀ (s : Sk) id, look s S = some id ↔ ∃ (i : Nat) (r : List RowD), id = i ∧ L[i]? = some ⟨-1, 0, 0, 0, r⟩ ∧ s.1 = keyK r
  fp : F p ∧ F mt ∧ F ml ∧ ∀ b, lv.ownBlock = some b → F b
  ne : p ≠ mt ∧ p ≠ ml ∧ mt ≠ ml ∧ lv.ownBlock ≠ some p ∧ lv.ownBlock ≠ some mt ∧ lv.ownBlock ≠ some ml
  lt : ∀ b, F b → b < w.heap.size
  inv : InvL L
/-- block p is a store of the nodes L; what it is made of lies in the blocks F -/
def St (F : Nat → Prop) (w : World) (p : Nat) (L : List NdD) : Prop := ∃ lv mt ml lvs T S, StM F w p L lv mt ml lvs T S
theorem StM.keep {F : Nat → Prop} {w w' : World} {p : Nat} {L : List NdD} {lv : Value} {mt ml : Nat} {lvs : List Value} {T : List (Tk × Int)} {S : List (Sk × Int)} (h : StM F w p L lv mt ml lvs T S)
    (hs : w.heap.size ≤ w'.heap.size) (hk : ∀ b, F b → w'.heap[b]? = w.heap[b]?) : StM F w' p L lv mt ml lvs T S where
  own := by
    refine ⟨h.own.1, h.own.2.imp id fun ⟨g, cap, cur, hv, hb, hg, hn⟩ => ⟨g, cap, cur, hv, hb, ?_, hn⟩⟩
    rw [hk g (h.fp.2.2.2 g (by rw [hv]; rfl))]; exact hg
  c0 := by rw [World.cell?_of_block (hk p h.fp.1)]; exact h.c0
  c1 := by rw [World.cell?_of_block (hk p h.fp.1)]; exact h.c1
  c2 := by rw [World.cell?_of_block (hk p h.fp.1)]; exact h.c2
  fz := by rw [World.frozen?_of_block (hk p h.fp.1)]; exact h.fz
  leafs := h.leafs.keep hs fun b hb _ => hk b hb.1
  mT := MapRaw.kept h.mT (hk mt h.fp.2.1)
  nT := h.nT
  mS := MapRaw.kept h.mS (hk ml h.fp.2.2.1)
  nS := h.nS
  lT := h.lT
  lS := h.lS
  fp := h.fp
  ne := h.ne
  lt := fun b hb => Nat.lt_of_lt_of_le (h.lt b hb) hs
  inv := h.inv
theorem St.keep {F : Nat → Prop} {w w' : World} {p : Nat} {L : List NdD} (h : St F w p L) (hs : w.heap.size ≤ w'.heap.size) (hk : ∀ b, F b → w'.heap[b]? = w.heap[b]?) : St F w' p L := by
  obtain ⟨lv, mt, ml, lvs, T, S, h⟩ := h
  exact ⟨lv, mt, ml, lvs, T, S, h.keep hs hk⟩
theorem St.lt {F : Nat → Prop} {w : World} {p : Nat} {L : List NdD} (h : St F w p L) : ∀ b, F b → b < w.heap.size := by
  obtain ⟨lv, mt, ml, lvs, T, S, h⟩ := h
  exact h.lt
theorem St.ext {F : Nat → Prop} {w w' : World} {p : Nat} {L : List NdD} (h : St F w p L) (hx : Ext w w') : St F w' p L := h.keep hx.size fun b hb => Below.block hx b (h.lt b hb)
theorem St.inv {F : Nat → Prop} {w : World} {p : Nat} {L : List NdD} (h : St F w p L) : InvL L := by
  obtain ⟨lv, mt, ml, lvs, T, S, h⟩ := h
  exact h.inv
/-- what an operation on a store does: its blocks, and new ones -/
structure StTo (F : Nat → Prop) (w w' : World) (p : Nat) (L' : List NdD) (F' : Nat → Prop) : Prop where
  st : St F' w' p L'
  sub : ∀ b, F' b → F b ∨ w.heap.size ≤ b
  kp : Keep F w w'
theorem St.to {F : Nat → Prop} {w w' : World} {p : Nat} {L : List NdD} (h : St F w p L) (hx : Ext w w') : StTo F w w' p L F := ⟨h.ext hx, fun _ h => .inl h, hx.keep F⟩

set_option maxHeartbeats 2000000 in
theorem newS_any (w : World) : Calls Tryd.prog 10 #[] w fun e w' => ∃ (p : Nat) (F : Nat → Prop), e = .returned (.pointer (some ⟨p, 0, none⟩)) ∧ (St F w' p [] ∧ (∀ b, F b → w.heap.size ≤ b) ∧ Ext w w') := by
  have hmm := @run_makeMap Tryd.prog
  obtain ⟨w1, h1⟩ : ∃ W : World, w.alloc (.map #[] 0) = W := ⟨_, rfl⟩
  obtain ⟨w2, h2⟩ : ∃ W : World, w1.alloc (.map #[] 0) = W := ⟨_, rfl⟩
  have s1 : w1.heap.size = w.heap.size + 1 := by rw [← h1, World.size_alloc]
  have s2 : w2.heap.size = w.heap.size + 2 := by rw [← h2, World.size_alloc, s1]
  obtain ⟨w3, h3⟩ : ∃ W : World, w2.alloc (.cells #[.slice none 0 0, .map (some w.heap.size), .map (some (w.heap.size + 1))] 59) = W := ⟨_, rfl⟩
  have s3 : w3.heap.size = w.heap.size + 3 := by rw [← h3, World.size_alloc, s2]
  have x1 : Ext w w1 := h1 ▸ Ext.alloc _ _
  have x2 : Ext w1 w2 := h2 ▸ Ext.alloc _ _
  have x3 : Ext w2 w3 := h3 ▸ Ext.alloc _ _
  have m1 : MapOf w1 kvT vvI w.heap.size ([] : List (Tk × Int)) := by rw [← h1]; exact MapRaw.made w
  have m2 : MapOf w2 kvS vvI (w.heap.size + 1) ([] : List (Sk × Int)) := by
    have := MapRaw.made w1
    rw [h2, s1] at this
    exact this
  have c0 : w3.cell? ⟨w.heap.size + 2, 0, none⟩ = some (.slice none 0 0) := by rw [← h3, ← s2]; simp [go_sem]
  have c1 : w3.cell? ⟨w.heap.size + 2, 1, none⟩ = some (.map (some w.heap.size)) := by rw [← h3, ← s2]; simp [go_sem]
  have c2 : w3.cell? ⟨w.heap.size + 2, 2, none⟩ = some (.map (some (w.heap.size + 1))) := by rw [← h3, ← s2]; simp [go_sem]
  have f0 : w3.frozen? ⟨w.heap.size + 2, 0, none⟩ = false := by rw [← h3, ← s2]; simp [go_sem]
  have HF := Lib.hid (show St (fun b => w.heap.size ≤ b ∧ b < w.heap.size + 3) w3 (w.heap.size + 2) [] from
    ⟨.slice none 0 0, w.heap.size, w.heap.size + 1, [], [], [], {
      own := World.ownsRow_nil _ _ _ _
      c0 := c0, c1 := c1, c2 := c2, fz := f0
      leafs := ⟨rfl, fun i h => by simp at h⟩
      mT := MapRaw.ext m1 (x2.trans x3)
      nT := List.Pairwise.nil
      mS := MapRaw.ext m2 x3
      nS := List.Pairwise.nil
      lT := fun k id => by simp [look]
      lS := fun s id => by simp [look]
      fp := ⟨by omega, by omega, by omega, fun b h => by cases h⟩
      ne := ⟨by omega, by omega, by omega, (fun h => by cases h), (fun h => by cases h), (fun h => by cases h)⟩
      lt := fun b hb => by rw [s3]; exact hb.2
      inv := InvL.nil }⟩)
  have HX := Lib.hid (x1.trans (x2.trans x3))
  have HEQ := Lib.hid (And.intro h1 (And.intro h2 h3))
  have HS := Lib.hid (And.intro s1 s2)
  clear x1 x2 x3 m1 m2 c0 c1 c2 f0 s3 h1 h2 h3 s1 s2
  go_enter Tryd.func10, Tryd.ntmps10
  go_wp2_with fail
  simp only [HEQ.out.1, HEQ.out.2.1, HS.out.1, HS.out.2, HEQ.out.2.2]
  go_ret
  exact ⟨w.heap.size + 2, _, rfl, HF.out, fun b hb => hb.1, HX.out⟩

theorem lenS_any {F : Nat → Prop} (p : Nat) (L : List NdD) (w : World) (h : St F w p L) :
    Calls Tryd.prog 18 #[.pointer (some ⟨p, 0, none⟩)] w fun e w' => e = .returned (.int .i64 L.length) ∧ w = w' := by
  obtain ⟨lv, mt, ml, lvs, T, S, h⟩ := h
  have c0 := h.c0
  obtain ⟨q, c, rfl, -⟩ := owns_form h.own
  have hb := h.inv.2.1
  obtain ⟨n, hn⟩ : ∃ n, n = L.length := ⟨_, rfl⟩
  rw [← hn] at c0 hb ⊢
  clear h hn
  go_enter Tryd.func18, Tryd.ntmps18
  go_wp2_with fail
  go_ret
  exact ⟨rfl, rfl⟩
end Go.Proofs.YtehdddilcakmlaaDoor
