/- A store whose blocks are all new: operations on it, told simply. -/
import Derived.Test.YtjjbdbklbghlhaaGreatDoorME
import Derived.Test.YtjjbdbklbghlhaaGreatDoorMF
import Derived.Test.YtjjbdbklbghlhaaGreatDoorMA
namespace Go.Proofs.YtjjbdbklbghlhaaGreatDoor
open Go.RowKit Go.Sort Go.Maps Go.Lib
set_option linter.unusedSimpArgs false

def Own (lo : Nat) (w : World) (p : Nat) (L : List NdD) : Prop := ∃ F, St F w p L ∧ ∀ b, F b → lo ≤ b
/-- what an operation does to a store that is all new since w0 -/
structure Did (w0 w' : World) (p : Nat) (L : List NdD) : Prop where
 st : Own w0.heap.size w' p L
 ex : Ext w0 w'
theorem Did.ext {w0 w w' : World} {p : Nat} {L : List NdD} (h : Did w0 w p L) (hx : Ext w w') : Did w0 w' p L := by
 obtain ⟨⟨F, h1, h2⟩, h3⟩ := h
 exact ⟨⟨F, h1.ext hx, h2⟩, h3.trans hx⟩
theorem Did.inv {w0 w : World} {p : Nat} {L : List NdD} (h : Did w0 w p L) : InvL L := by
 obtain ⟨⟨F, h1, h2⟩, h3⟩ := h
 exact h1.inv
theorem Did.op {w0 w w' : World} {p : Nat} {F F' : Nat → Prop} {L' : List NdD} (hF : ∀ b, F b → w0.heap.size ≤ b) (hx : Ext w0 w) (h : StTo F w w' p L' F') : Did w0 w' p L' := by
 have hk := h.kp
 refine ⟨⟨F', h.st, fun b hb => (h.sub b hb).elim (hF b) fun h2 => Nat.le_trans hx.size h2⟩, hx.trans' ?_⟩
 exact ⟨hk.os, hk.tape, hk.output, hk.size, fun i hi => hk.block i (Nat.lt_of_lt_of_le hi hx.size) (fun hb => by have := hF i hb; omega)⟩
end Go.Proofs.YtjjbdbklbghlhaaGreatDoor
/- The wakes of the law of nodes. -/
namespace Go.Proofs.YtjjbdbklbghlhaaGreatDoor
open Go.RowKit Go.Sort Go.Maps Go.Lib
set_option linter.unusedSimpArgs false

end Go.Proofs.YtjjbdbklbghlhaaGreatDoor
/- law 20's fill. -/
namespace Go.Proofs.YtjjbdbklbghlhaaGreatDoor
open Go.RowKit Go.Sort Go.Maps Go.Lib
set_option linter.unusedSimpArgs false

def stepA (L : List NdD) (x : ActD) : List NdD := if x.d = 0 then (leafP L x.rows).2 else if x.d = 1 then (testP L x.f x.n x.hi x.lo).2 else L
end Go.Proofs.YtjjbdbklbghlhaaGreatDoor
/- The plain law of NodesOnce: what stands in a store stands in order. -/
namespace Go.Proofs.YtjjbdbklbghlhaaGreatDoor
open Go.RowKit Go.Sort Go.Maps Go.Lib
set_option linter.unusedSimpArgs false

def InvO (L : List NdD) : Prop := ∀ i x, L[i]? = some x → 0 ≤ x.f → ∃ (hi lo : Nat) (h l : NdD), x.hi = (hi : Int) ∧ x.lo = (lo : Int) ∧ hi < i ∧ lo < i ∧ hi ≠ lo ∧ L[hi]? = some h ∧ L[lo]? = some l ∧ behindB x.f x.n h l = false
theorem InvO.nil : InvO [] := fun i x h => by simp at h
theorem InvO.snoc {L : List NdD} {y : NdD} (h : InvO L) (hy : 0 ≤ y.f → ∃ (hi lo : Nat) (h l : NdD), y.hi = (hi : Int) ∧ y.lo = (lo : Int) ∧ hi < L.length ∧ lo < L.length ∧ hi ≠ lo ∧ L[hi]? = some h ∧ L[lo]? = some l ∧ behindB y.f y.n h l = false) : InvO (L ++ [y]) := fun i x hx hf => by
 have hsub : ∀ {j : Nat} {z : NdD}, L[j]? = some z → (L ++ [y])[j]? = some z := fun {j z} hj => getElem?_snoc.2 (.inl hj)
 rcases getElem?_snoc.1 hx with hx | ⟨rfl, rfl⟩
 ·obtain ⟨hi, lo, a, b, h1, h2, h3, h4, h5, h6, h7, h8⟩ := h i x hx hf
  exact ⟨hi, lo, a, b, h1, h2, h3, h4, h5, hsub h6, hsub h7, h8⟩
 ·obtain ⟨hi, lo, a, b, h1, h2, h3, h4, h5, h6, h7, h8⟩ := hy hf
  exact ⟨hi, lo, a, b, h1, h2, h3, h4, h5, hsub h6, hsub h7, h8⟩
theorem putN_cases (L : List NdD) (x : NdD) : (putN L x).2 = L ∨ (putN L x).2 = L ++ [x] := by
 unfold putN addN
 split
 ·exact .inl rfl
 ·split
  ·exact .inl rfl
  ·exact .inr rfl
theorem leafP_cases (L : List NdD) (r : List RowD) : (leafP L r).2 = L ∨ ∃ s, (leafP L r).2 = L ++ [⟨-1, 0, 0, 0, s⟩] := by
 unfold leafP
 split
 ·exact .inl rfl
 ·split
  ·exact .inl rfl
  ·rename_i s _ _
   exact (putN_cases L ⟨-1, 0, 0, 0, s⟩).imp id fun h => ⟨s, h⟩
theorem testP_cases (L : List NdD) (f n hi lo : Int) : (testP L f n hi lo).2 = L ∨ ((testP L f n hi lo).2 = L ++ [⟨f, n, hi, lo, []⟩] ∧ ∃ (a b : Nat) (h l : NdD), hi = (a : Int) ∧ lo = (b : Int) ∧ a < L.length ∧ b < L.length ∧ a ≠ b ∧ L[a]? = some h ∧ L[b]? = some l ∧ behindB f n h l = false) := by
 unfold testP
 split
 ·rename_i hh
  split
  ·rename_i h l h1 h2
   split
   ·exact .inl rfl
   ·split
    ·exact .inl rfl
    ·rename_i hb hne
     refine (putN_cases L ⟨f, n, hi, lo, []⟩).imp id fun e => ⟨e, hi.toNat, lo.toNat, h, l, by omega, by omega, by omega, by omega, by omega, h1, h2, by simpa using hb⟩
  ·exact .inl rfl
 ·exact .inl rfl
theorem InvO.step {L : List NdD} (h : InvO L) (x : ActD) : InvO (stepA L x) := by
 unfold stepA
 split
 ·rcases leafP_cases L x.rows with e | ⟨s, e⟩
  ·rw [e]; exact h
  ·rw [e]; exact h.snoc fun hf => by simp at hf
 ·split
  ·rcases testP_cases L x.f x.n x.hi x.lo with e | ⟨e, ht⟩
   ·rw [e]; exact h
   ·rw [e]; exact h.snoc fun _ => ht
  ·exact h
end Go.Proofs.YtjjbdbklbghlhaaGreatDoor
/- The plain law of NodesAgain: what was made is found again. -/
namespace Go.Proofs.YtjjbdbklbghlhaaGreatDoor
open Go.RowKit Go.Sort Go.Maps Go.Lib
set_option linter.unusedSimpArgs false

theorem findN_app {L M : List NdD} {x : NdD} {i : Nat} (h : findN L x = some i) : findN (L ++ M) x = some i := by
 unfold findN at *
 rw [List.findIdx?_append, h]
 rfl
theorem findN_snoc {L : List NdD} {x : NdD} (h : findN L x = none) : findN (L ++ [x]) x = some L.length := by
 unfold findN at *
 rw [List.findIdx?_append, h]
 simp [List.findIdx?_cons]
theorem putN_again {L M : List NdD} {x : NdD} {a : Int} (h : (putN L x).1 = (a, 0)) (hp : (putN L x).2 <+: M) : putN M x = ((a, 0), M) := by
 have key : ∀ i : Nat, findN M x = some i → (i : Int) = a → putN M x = ((a, 0), M) := fun i hi e => by
  unfold putN; rw [hi, ← e]
 unfold putN at h hp
 cases hf : findN L x with
 | some i =>
  rw [hf] at h hp
  obtain ⟨t, rfl⟩ := hp
  exact key i (findN_app hf) (Prod.mk.inj h).1
 | none =>
  rw [hf] at h hp
  dsimp only at h hp
  unfold addN at h hp
  split at h
  ·exact absurd (Prod.mk.inj h).2 (by decide)
  ·rename_i hb
   rw [if_neg hb] at hp
   obtain ⟨t, rfl⟩ := hp
   exact key L.length (findN_app (findN_snoc hf)) (Prod.mk.inj h).1
theorem leafP_pre (L : List NdD) (r : List RowD) : L <+: (leafP L r).2 := by
 rcases leafP_cases L r with e | ⟨s, e⟩ <;> rw [e]
 ·exact List.prefix_refl _
 ·exact List.prefix_append _ _
theorem testP_pre (L : List NdD) (f n hi lo : Int) : L <+: (testP L f n hi lo).2 := by
 rcases testP_cases L f n hi lo with e | ⟨e, -⟩ <;> rw [e]
 ·exact List.prefix_refl _
 ·exact List.prefix_append _ _
theorem leafP_again {L M : List NdD} {r : List RowD} {a : Int} (h : (leafP L r).1 = (a, 0)) (hp : (leafP L r).2 <+: M) : leafP M r = ((a, 0), M) := by
 unfold leafP at *
 cases hr : rowsP r with
 | none => rw [hr] at h; exact absurd (Prod.mk.inj h).2 (by decide)
 | some s =>
  rw [hr] at h hp
  dsimp only at h hp ⊢
  split at h
  ·exact absurd (Prod.mk.inj h).2 (by decide)
  ·rename_i hb
   rw [if_neg hb] at hp ⊢
   exact putN_again h hp
theorem pre_get {L M : List NdD} (hp : L <+: M) {i : Nat} {x : NdD} (h : L[i]? = some x) : M[i]? = some x := by
 obtain ⟨t, rfl⟩ := hp
 rw [List.getElem?_append_left (List.getElem?_eq_some_iff.1 h).1]
 exact h
theorem testP_again {L M : List NdD} {f n hi lo : Int} {a : Int} (h : (testP L f n hi lo).1 = (a, 0)) (hp : (testP L f n hi lo).2 <+: M) : testP M f n hi lo = ((a, 0), M) := by
 have hLM := (testP_pre L f n hi lo).trans hp
 have hlen := hLM.length_le
 unfold testP at *
 split at h
 ·rename_i hc
  rw [if_pos hc] at hp
  rw [if_pos ⟨hc.1, ⟨hc.2.1.1, by omega⟩, ⟨hc.2.2.1, by omega⟩⟩]
  split at h
  ·rename_i hh ll h1 h2
   rw [h1, h2] at hp
   rw [pre_get hLM h1, pre_get hLM h2]
   dsimp only at hp ⊢
   split at h
   ·exact absurd (Prod.mk.inj h).2 (by decide)
   ·rename_i hb
    rw [if_neg hb] at hp ⊢
    split at h
    ·rename_i he
     rw [if_pos he]
     rw [(Prod.mk.inj h).1]
    ·rename_i he
     rw [if_neg he] at hp ⊢
     exact putN_again h hp
  ·exact absurd (Prod.mk.inj h).2 (by decide)
 ·exact absurd (Prod.mk.inj h).2 (by decide)
end Go.Proofs.YtjjbdbklbghlhaaGreatDoor
/- Diagrams in plain words: union, pick. -/
namespace Go.Proofs.YtjjbdbklbghlhaaGreatDoor
open Go.RowKit Go.Sort Go.Maps Go.Lib
set_option linter.unusedSimpArgs false

def nodeP (L : List NdD) (a : Nat) : NdD := L[a]?.getD zNode
theorem nodeP_get {L : List NdD} {a : Nat} {x : NdD} (h : L[a]? = some x) : nodeP L a = x := by unfold nodeP; rw [h]; rfl
theorem nodeP_some {L : List NdD} {a : Nat} (h : a < L.length) : L[a]? = some (nodeP L a) := by
 unfold nodeP
 rw [List.getElem?_eq_getElem h]; rfl
theorem nodeP_pre {L M : List NdD} (hp : L <+: M) {a : Nat} (h : a < L.length) : nodeP M a = nodeP L a := nodeP_get (pre_get hp (nodeP_some h))
theorem InvO.kids {L : List NdD} (h : InvO L) {a : Nat} (ha : a < L.length) (hf : 0 ≤ (nodeP L a).f) : (nodeP L a).hi = ((nodeP L a).hi.toNat : Int) ∧ (nodeP L a).lo = ((nodeP L a).lo.toNat : Int) ∧ (nodeP L a).hi.toNat < a ∧ (nodeP L a).lo.toNat < a ∧ (nodeP L a).hi.toNat ≠ (nodeP L a).lo.toNat := by
 obtain ⟨hi, lo, _, _, h1, h2, h3, h4, h5, -⟩ := h a _ (nodeP_some ha) hf
 exact ⟨by rw [h1]; simp, by rw [h2]; simp, by rw [h1]; simpa using h3, by rw [h2]; simpa using h4, by rw [h1, h2]; simpa using h5⟩
/-- what is left where a test holds -/
def hiP (L : List NdD) (f n : Int) : Nat → Nat → Nat
 | 0, a => a
 | k + 1, a => if (nodeP L a).f = f then (if (nodeP L a).n = n then (nodeP L a).hi.toNat else hiP L f n k (nodeP L a).lo.toNat) else a
def hiA (L : List NdD) (f n : Int) (a : Nat) : Nat := hiP L f n (a + 1) a
def loA (L : List NdD) (f n : Int) (a : Nat) : Nat := if (nodeP L a).f = f ∧ (nodeP L a).n = n then (nodeP L a).lo.toNat else a
theorem hiP_fuel {L : List NdD} (h : InvO L) {f n : Int} (hf : 0 ≤ f) : ∀ {k k' a : Nat}, a < L.length → a < k → a < k' → hiP L f n k a = hiP L f n k' a
 | 0, _, _, _, h1, _ => absurd h1 (Nat.not_lt_zero _)
 | _, 0, _, _, _, h1 => absurd h1 (Nat.not_lt_zero _)
 | k + 1, k' + 1, a, ha, h1, h2 => by
  rw [hiP, hiP]
  by_cases hx : (nodeP L a).f = f
  ·rw [if_pos hx, if_pos hx]
   by_cases hn : (nodeP L a).n = n
   ·rw [if_pos hn, if_pos hn]
   ·rw [if_neg hn, if_neg hn]
    have := h.kids ha (by omega)
    exact hiP_fuel h hf (by omega) (by omega) (by omega)
  ·rw [if_neg hx, if_neg hx]
theorem hiP_le {L : List NdD} (h : InvO L) {f n : Int} (hf : 0 ≤ f) : ∀ {k a : Nat}, a < L.length → hiP L f n k a ≤ a
 | 0, a, _ => Nat.le_refl _
 | k + 1, a, ha => by
  rw [hiP]
  by_cases hx : (nodeP L a).f = f
  ·rw [if_pos hx]
   have := h.kids ha (by omega)
   split
   ·omega
   ·have := hiP_le h hf (n := n) (k := k) (a := (nodeP L a).lo.toNat) (by omega)
    omega
  ·rw [if_neg hx]; exact Nat.le_refl _
theorem hiA_le {L : List NdD} (h : InvO L) {f n : Int} (hf : 0 ≤ f) {a : Nat} (ha : a < L.length) : hiA L f n a ≤ a := hiP_le h hf ha
theorem hiA_lt {L : List NdD} (h : InvO L) {f n : Int} (hf : 0 ≤ f) {a : Nat} (ha : a < L.length) (hx : (nodeP L a).f = f) (hn : (nodeP L a).n = n) : hiA L f n a < a := by
 unfold hiA
 rw [hiP, if_pos hx, if_pos hn]
 have := h.kids ha (by omega)
 omega
theorem loA_le {L : List NdD} (h : InvO L) {f n : Int} (hf : 0 ≤ f) {a : Nat} (ha : a < L.length) : loA L f n a ≤ a := by
 unfold loA
 split
 ·rename_i hx
  have := h.kids ha (by omega)
  omega
 ·exact Nat.le_refl _
theorem loA_lt {L : List NdD} (h : InvO L) {f n : Int} (hf : 0 ≤ f) {a : Nat} (ha : a < L.length) (hx : (nodeP L a).f = f) (hn : (nodeP L a).n = n) : loA L f n a < a := by
 unfold loA
 rw [if_pos ⟨hx, hn⟩]
 have := h.kids ha (by omega)
 omega
theorem hiP_pre {L M : List NdD} (h : InvO L) (hp : L <+: M) {f n : Int} (hf : 0 ≤ f) : ∀ {k a : Nat}, a < L.length → hiP M f n k a = hiP L f n k a
 | 0, a, _ => rfl
 | k + 1, a, ha => by
  rw [hiP, hiP, nodeP_pre hp ha]
  by_cases hx : (nodeP L a).f = f
  ·have := h.kids ha (by omega)
   rw [if_pos hx, if_pos hx, hiP_pre h hp hf (by omega)]
  ·rw [if_neg hx, if_neg hx]
theorem hiA_pre {L M : List NdD} (h : InvO L) (hp : L <+: M) {f n : Int} (hf : 0 ≤ f) {a : Nat} (ha : a < L.length) : hiA M f n a = hiA L f n a := hiP_pre h hp hf ha
theorem loA_pre {L M : List NdD} (hp : L <+: M) {f n : Int} {a : Nat} (ha : a < L.length) : loA M f n a = loA L f n a := by
 unfold loA; rw [nodeP_pre hp ha]
def aheadB (f n : Int) (x : NdD) : Bool := decide (x.f < 0) || decide (f < x.f) || (decide (f = x.f) && decide (n < x.n))
/-- the test that stands ahead -/
def firstA (L : List NdD) (a b : Nat) : Int × Int :=
 if (nodeP L b).f < 0 ∨ (0 ≤ (nodeP L a).f ∧ aheadB (nodeP L b).f (nodeP L b).n (nodeP L a) = false) then ((nodeP L a).f, (nodeP L a).n) else ((nodeP L b).f, (nodeP L b).n)
theorem firstA_pre {L M : List NdD} (hp : L <+: M) {a b : Nat} (ha : a < L.length) (hb : b < L.length) : firstA M a b = firstA L a b := by
 unfold firstA; rw [nodeP_pre hp ha, nodeP_pre hp hb]
theorem firstA_root {L : List NdD} {a b : Nat} (_h : 0 ≤ (firstA L a b).1) : ((nodeP L a).f = (firstA L a b).1 ∧ (nodeP L a).n = (firstA L a b).2) ∨ ((nodeP L b).f = (firstA L a b).1 ∧ (nodeP L b).n = (firstA L a b).2) := by
 unfold firstA at *
 split
 ·exact .inl ⟨rfl, rfl⟩
 ·exact .inr ⟨rfl, rfl⟩
theorem firstA_neg {L : List NdD} {a b : Nat} : (firstA L a b).1 < 0 ↔ (nodeP L a).f < 0 ∧ (nodeP L b).f < 0 := by
 unfold firstA aheadB
 constructor
 ·intro h
  split at h
  ·rename_i hc
   dsimp only at h
   rcases hc with hc | hc
   ·exact ⟨h, hc⟩
   ·omega
  ·rename_i hc
   dsimp only at h
   exact absurd (.inl h) hc
 ·rintro ⟨h1, h2⟩
  rw [if_pos (.inl h2)]
  exact h1

/-- an answer: (error, node), the store -/
abbrev Out := (Int × Nat) × List NdD
def leafR (L : List NdD) (r : List RowD) : Out := (((leafP L r).1.2, (leafP L r).1.1.toNat), (leafP L r).2)
def testR (L : List NdD) (p : Int × Int) (h l : Nat) : Out := (((testP L p.1 p.2 h l).1.2, (testP L p.1 p.2 h l).1.1.toNat), (testP L p.1 p.2 h l).2)
def bindR (R : Out) (k : Nat → List NdD → Out) : Out := if R.1.1 = 0 then k R.1.2 R.2 else R
/-- what every answer keeps -/
structure Fine (L : List NdD) (R : Out) : Prop where
 pre : L <+: R.2
 inv : InvO R.2
 lt : R.1.1 = 0 → R.1.2 < R.2.length
theorem putN_lt {L : List NdD} {x : NdD} (h : (putN L x).1.2 = 0) : 0 ≤ (putN L x).1.1 ∧ (putN L x).1.1.toNat < (putN L x).2.length := by
 unfold putN at *
 cases hf : findN L x with
 | some i =>
  rw [hf] at h
  unfold findN at hf
  have := (List.findIdx?_eq_some_iff_getElem.1 hf).1
  simp only [Int.toNat_natCast]
  omega
 | none =>
  rw [hf] at h
  unfold addN at *
  dsimp only at h ⊢
  split at h
  ·have h : (200 : Int) = 0 := h
   exact absurd h (by decide)
  ·rename_i hb
   rw [if_neg hb]
   simp only [Int.toNat_natCast, List.length_append, List.length_singleton]
   omega
theorem leafR_fine {L : List NdD} (h : InvO L) (r : List RowD) : Fine L (leafR L r) := by
 refine ⟨leafP_pre L r, ?_, fun he => ?_⟩
 ·show InvO (leafP L r).2
  rcases leafP_cases L r with e | ⟨s, e⟩
  ·rw [e]; exact h
  ·rw [e]; exact h.snoc fun hf => by simp at hf
 ·have he : (leafP L r).1.2 = 0 := he
  show (leafP L r).1.1.toNat < (leafP L r).2.length
  unfold leafP at *
  split at he
  ·have he : (2 : Int) = 0 := he
   exact absurd he (by decide)
  ·split at he
   ·have he : (200 : Int) = 0 := he
    exact absurd he (by decide)
   ·rename_i s hs hb
    rw [if_neg hb]
    exact (putN_lt he).2
theorem testR_fine {L : List NdD} (h : InvO L) (p : Int × Int) (a b : Nat) : Fine L (testR L p a b) := by
 refine ⟨testP_pre L _ _ _ _, ?_, fun he => ?_⟩
 ·show InvO (testP L p.1 p.2 a b).2
  rcases testP_cases L p.1 p.2 a b with e | ⟨e, ht⟩
  ·rw [e]; exact h
  ·rw [e]; exact h.snoc fun _ => ht
 ·have he : (testP L p.1 p.2 a b).1.2 = 0 := he
  show (testP L p.1 p.2 a b).1.1.toNat < (testP L p.1 p.2 a b).2.length
  unfold testP at *
  split at he
  ·rename_i hc
   rw [if_pos hc]
   split at he
   ·rename_i x y hx hy
    split at he
    ·have he : (2 : Int) = 0 := he
     exact absurd he (by decide)
    ·rename_i hb
     rw [if_neg hb]
     split at he
     ·rename_i hab
      rw [if_pos hab]
      simp only [Int.toNat_natCast]
      have := (List.getElem?_eq_some_iff.1 hx).1
      simpa using this
     ·rename_i hab
      rw [if_neg hab]
      exact (putN_lt he).2
   ·have he : (2 : Int) = 0 := he
    exact absurd he (by decide)
  ·have he : (2 : Int) = 0 := he
   exact absurd he (by decide)
theorem bindR_fine {L : List NdD} {R : Out} {k : Nat → List NdD → Out} (h : Fine L R) (hk : R.1.1 = 0 → Fine R.2 (k R.1.2 R.2)) : Fine L (bindR R k) := by
 unfold bindR
 split
 ·rename_i he
  have := hk he
  exact ⟨h.pre.trans this.pre, this.inv, this.lt⟩
 ·exact h
theorem leafR_again {L M : List NdD} {r : List RowD} {c : Nat} {L' : List NdD} (h : leafR L r = ((0, c), L')) (hp : L' <+: M) : leafR M r = ((0, c), M) := by
 unfold leafR at *
 simp only [Prod.mk.injEq] at h
 obtain ⟨⟨h1, h2⟩, h3⟩ := h
 have := leafP_again (L := L) (M := M) (r := r) (a := (leafP L r).1.1) (by rw [← h1]) (by rw [h3]; exact hp)
 rw [this]
 simp [h2]
theorem testR_again {L M : List NdD} {p : Int × Int} {a b c : Nat} {L' : List NdD} (h : testR L p a b = ((0, c), L')) (hp : L' <+: M) : testR M p a b = ((0, c), M) := by
 unfold testR at *
 simp only [Prod.mk.injEq] at h
 obtain ⟨⟨h1, h2⟩, h3⟩ := h
 have := testP_again (L := L) (M := M) (f := p.1) (n := p.2) (hi := a) (lo := b) (a := (testP L p.1 p.2 a b).1.1) (by rw [← h1]) (by rw [h3]; exact hp)
 rw [this]
 simp [h2]
/-- asked again of a later store -/
theorem bindR_again {M L' : List NdD} {R R' : Out} {k k' : Nat → List NdD → Out} {c : Nat} (h : bindR R k = ((0, c), L')) (_hp : L' <+: M) (hk : ∀ _h1 : R.1.1 = 0, R.2 <+: L' ∧ (R' = ((0, R.1.2), M)) ∧ (k R.1.2 R.2 = ((0, c), L') → k' R.1.2 M = ((0, c), M))) : bindR R' k' = ((0, c), M) := by
 unfold bindR at h
 split at h
 ·rename_i he
  obtain ⟨-, h2, h3⟩ := hk he
  rw [h2]
  unfold bindR
  rw [if_pos rfl]
  exact h3 h
 ·rename_i he
  rw [h] at he
  exact absurd rfl he

def unionP : Nat → List NdD → Nat → Nat → Out
 | 0, L, _, _ => ((1, 0), L)
 | k + 1, L, a, b => if a = b then ((0, a), L) else
  if (nodeP L a).f < 0 ∧ (nodeP L b).f < 0 then leafR L ((nodeP L a).leaf ++ (nodeP L b).leaf) else
  let p := firstA L a b
  bindR (unionP k L (hiA L p.1 p.2 a) (hiA L p.1 p.2 b)) fun h L1 => bindR (unionP k L1 (loA L1 p.1 p.2 a) (loA L1 p.1 p.2 b)) fun l L2 => testR L2 p h l
/-- the sums fall -/
theorem first_falls {L : List NdD} (h : InvO L) {a b : Nat} (ha : a < L.length) (hb : b < L.length) (hn : ¬ ((nodeP L a).f < 0 ∧ (nodeP L b).f < 0)) :
  0 ≤ (firstA L a b).1 ∧ hiA L (firstA L a b).1 (firstA L a b).2 a ≤ a ∧ hiA L (firstA L a b).1 (firstA L a b).2 b ≤ b ∧ loA L (firstA L a b).1 (firstA L a b).2 a ≤ a ∧ loA L (firstA L a b).1 (firstA L a b).2 b ≤ b ∧
  hiA L (firstA L a b).1 (firstA L a b).2 a + hiA L (firstA L a b).1 (firstA L a b).2 b < a + b ∧ loA L (firstA L a b).1 (firstA L a b).2 a + loA L (firstA L a b).1 (firstA L a b).2 b < a + b := by
 have h0 : 0 ≤ (firstA L a b).1 := by
  rcases Int.lt_or_le (firstA L a b).1 0 with h1 | h1
  ·exact absurd (firstA_neg.1 h1) hn
  ·exact h1
 have h1 := hiA_le h h0 (n := (firstA L a b).2) ha
 have h2 := hiA_le h h0 (n := (firstA L a b).2) hb
 have h3 := loA_le h h0 (n := (firstA L a b).2) ha
 have h4 := loA_le h h0 (n := (firstA L a b).2) hb
 refine ⟨h0, h1, h2, h3, h4, ?_⟩
 rcases firstA_root h0 with ⟨e1, e2⟩ | ⟨e1, e2⟩
 ·have h5 := hiA_lt h h0 ha e1 e2
  have h6 := loA_lt h h0 ha e1 e2
  omega
 ·have h5 := hiA_lt h h0 hb e1 e2
  have h6 := loA_lt h h0 hb e1 e2
  omega
theorem unionP_fine : ∀ {k : Nat} {L : List NdD} {a b : Nat}, InvO L → a < L.length → b < L.length → Fine L (unionP k L a b)
 | 0, L, a, b, h, _, _ => ⟨List.prefix_refl _, h, fun e => absurd e (by show ¬ (1 : Int) = 0; decide)⟩
 | k + 1, L, a, b, h, ha, hb => by
  rw [unionP]
  split
  ·exact ⟨List.prefix_refl _, h, fun _ => ha⟩
  ·split
   ·exact leafR_fine h _
   ·rename_i hn
    obtain ⟨h0, h1, h2, h3, h4, -⟩ := first_falls h ha hb hn
    have hu := unionP_fine (k := k) (a := hiA L (firstA L a b).1 (firstA L a b).2 a) (b := hiA L (firstA L a b).1 (firstA L a b).2 b) h (by omega) (by omega)
    refine bindR_fine hu fun _ => ?_
    have hl := hu.pre.length_le
    rw [loA_pre hu.pre ha, loA_pre hu.pre hb]
    exact bindR_fine (unionP_fine (k := k) hu.inv (by omega) (by omega)) fun _ => testR_fine (unionP_fine (k := k) hu.inv (by omega) (by omega)).inv _ _ _
theorem unionP_fuel : ∀ {k k' : Nat} {L : List NdD} {a b : Nat}, InvO L → a < L.length → b < L.length → a + b < k → a + b < k' → unionP k L a b = unionP k' L a b
 | 0, _, _, _, _, _, _, _, h, _ => absurd h (Nat.not_lt_zero _)
 | _, 0, _, _, _, _, _, _, _, h => absurd h (Nat.not_lt_zero _)
 | k + 1, k' + 1, L, a, b, h, ha, hb, hk, hk' => by
  rw [unionP, unionP]
  split
  ·rfl
  ·split
   ·rfl
   ·rename_i hn
    obtain ⟨h0, h1, h2, h3, h4, h5, h6⟩ := first_falls h ha hb hn
    dsimp only
    rw [unionP_fuel (k := k) (k' := k') h (by omega) (by omega) (by omega) (by omega)]
    have hu := unionP_fine (k := k') (a := hiA L (firstA L a b).1 (firstA L a b).2 a) (b := hiA L (firstA L a b).1 (firstA L a b).2 b) h (by omega) (by omega)
    have hl := hu.pre.length_le
    unfold bindR
    split
    ·dsimp only
     rw [loA_pre hu.pre ha, loA_pre hu.pre hb, unionP_fuel (k := k) (k' := k') hu.inv (by omega) (by omega) (by omega) (by omega)]
    ·rfl
theorem unionP_again : ∀ {k : Nat} {L L' M : List NdD} {a b c : Nat}, InvO L → a < L.length → b < L.length → unionP k L a b = ((0, c), L') → L' <+: M → InvO M → unionP k M a b = ((0, c), M)
 | 0, L, L', M, a, b, c, _, _, _, h, _, _ => by
  rw [unionP] at h
  exact absurd (Prod.mk.inj (Prod.mk.inj h).1).1 (by decide)
 | k + 1, L, L', M, a, b, c, hi, ha, hb, h, hp, hM => by
  have hLM : L <+: M := by
   have := (unionP_fine (k := k + 1) hi ha hb).pre
   rw [h] at this
   exact this.trans hp
  have haM : a < M.length := Nat.lt_of_lt_of_le ha hLM.length_le
  have hbM : b < M.length := Nat.lt_of_lt_of_le hb hLM.length_le
  rw [unionP] at h ⊢
  split at h
  ·rename_i he
   rw [if_pos he]
   rw [← (Prod.mk.inj (Prod.mk.inj h).1).2]
  ·rename_i he
   rw [if_neg he, nodeP_pre hLM ha, nodeP_pre hLM hb]
   split at h
   ·rename_i hn
    rw [if_pos hn]
    exact leafR_again h hp
   ·rename_i hn
    rw [if_neg hn]
    obtain ⟨h0, h1, h2, h3, h4, h5, h6⟩ := first_falls hi ha hb hn
    dsimp only at h ⊢
    rw [firstA_pre hLM ha hb, hiA_pre hi hLM h0 ha, hiA_pre hi hLM h0 hb]
    have hu := unionP_fine (k := k) (a := hiA L (firstA L a b).1 (firstA L a b).2 a) (b := hiA L (firstA L a b).1 (firstA L a b).2 b) hi (by omega) (by omega)
    have hl := hu.pre.length_le
    refine bindR_again h hp fun e0 => ?_
    have hv := unionP_fine (k := k) (a := loA L (firstA L a b).1 (firstA L a b).2 a) (b := loA L (firstA L a b).1 (firstA L a b).2 b) hu.inv (by omega) (by omega)
    have hR : ((unionP k L (hiA L (firstA L a b).1 (firstA L a b).2 a) (hiA L (firstA L a b).1 (firstA L a b).2 b)).2 <+: L') := by
     unfold bindR at h
     rw [if_pos e0] at h
     dsimp only at h
     rw [loA_pre hu.pre ha, loA_pre hu.pre hb] at h
     split at h
     ·have := (testR_fine hv.inv (firstA L a b) (unionP k L (hiA L (firstA L a b).1 (firstA L a b).2 a) (hiA L (firstA L a b).1 (firstA L a b).2 b)).1.2 (unionP k (unionP k L (hiA L (firstA L a b).1 (firstA L a b).2 a) (hiA L (firstA L a b).1 (firstA L a b).2 b)).2 (loA L (firstA L a b).1 (firstA L a b).2 a) (loA L (firstA L a b).1 (firstA L a b).2 b)).1.2).pre
      rw [h] at this
      exact hv.pre.trans this
     ·rename_i hne
      rw [h] at hne
      exact absurd rfl hne
    refine ⟨hR, unionP_again hi (by omega) (by omega) (Prod.ext (Prod.ext e0 rfl) rfl) (hR.trans hp) hM, fun h7 => ?_⟩
    rw [loA_pre hu.pre ha, loA_pre hu.pre hb] at h7
    rw [loA_pre hLM ha, loA_pre hLM hb]
    refine bindR_again h7 hp fun e1 => ?_
    have hR2 : (unionP k (unionP k L (hiA L (firstA L a b).1 (firstA L a b).2 a) (hiA L (firstA L a b).1 (firstA L a b).2 b)).2 (loA L (firstA L a b).1 (firstA L a b).2 a) (loA L (firstA L a b).1 (firstA L a b).2 b)).2 <+: L' := by
     unfold bindR at h7
     rw [if_pos e1] at h7
     dsimp only at h7
     have := (testR_fine hv.inv (firstA L a b) (unionP k L (hiA L (firstA L a b).1 (firstA L a b).2 a) (hiA L (firstA L a b).1 (firstA L a b).2 b)).1.2 (unionP k (unionP k L (hiA L (firstA L a b).1 (firstA L a b).2 a) (hiA L (firstA L a b).1 (firstA L a b).2 b)).2 (loA L (firstA L a b).1 (firstA L a b).2 a) (loA L (firstA L a b).1 (firstA L a b).2 b)).1.2).pre
     rw [h7] at this
     exact this
    exact ⟨hR2, unionP_again hu.inv (by omega) (by omega) (Prod.ext (Prod.ext e1 rfl) rfl) (hR2.trans hp) hM, fun h8 => testR_again h8 hp⟩
end Go.Proofs.YtjjbdbklbghlhaaGreatDoor
/- Diagrams in plain words: pick, behind, then, not; what was made stays made. -/
namespace Go.Proofs.YtjjbdbklbghlhaaGreatDoor
open Go.RowKit Go.Sort Go.Maps Go.Lib
set_option linter.unusedSimpArgs false

def pickP : Nat → List NdD → Int × Int → Nat → Nat → Out
 | 0, L, _, _, _ => ((1, 0), L)
 | k + 1, L, t, h, l => if h = l then ((0, h), L) else
  let p := firstA L h l
  if p.1 < 0 ∨ t.1 < p.1 ∨ (t.1 = p.1 ∧ t.2 ≤ p.2) then testR L t (hiA L t.1 t.2 h) (loA L t.1 t.2 l)
  else if p.1 = t.1 then bindR (pickP k L t (loA L p.1 p.2 h) (loA L p.1 p.2 l)) fun y L1 => testR L1 p (hiA L p.1 p.2 l) y
  else bindR (pickP k L t (hiA L p.1 p.2 h) (hiA L p.1 p.2 l)) fun x L1 => bindR (pickP k L1 t (loA L1 p.1 p.2 h) (loA L1 p.1 p.2 l)) fun y L2 => testR L2 p x y
def joinA (row more : RowD) : RowD := (row.filter fun a => !more.any fun b => a.f == b.f) ++ more
def behindP : Nat → List NdD → RowD → Nat → Out
 | 0, L, _, _ => ((1, 0), L)
 | k + 1, L, row, b => if (nodeP L b).f < 0 then leafR L ((nodeP L b).leaf.map (joinA row)) else
  match row.find? fun a => a.f == (nodeP L b).f with
  | some a => if a.n = (nodeP L b).n then behindP k L row (nodeP L b).hi.toNat else behindP k L row (nodeP L b).lo.toNat
  | none => bindR (behindP k L row (nodeP L b).hi.toNat) fun h L1 => bindR (behindP k L1 row (nodeP L b).lo.toNat) fun l L2 => pickP (h + l + 1) L2 ((nodeP L b).f, (nodeP L b).n) h l
def rowsThen (b : Nat) : List RowD → Out → Out
 | [], R => R
 | r :: rs, R => rowsThen b rs (bindR R fun o L => bindR (behindP (b + 1) L r b) fun c L1 => unionP (o + c + 1) L1 o c)
def thenP : Nat → List NdD → Nat → Nat → Out
 | 0, L, _, _ => ((1, 0), L)
 | k + 1, L, a, b => if (nodeP L a).f < 0 then rowsThen b (nodeP L a).leaf (leafR L []) else
  bindR (thenP k L (nodeP L a).hi.toNat b) fun h L1 => bindR (thenP k L1 (nodeP L a).lo.toNat b) fun l L2 => pickP (h + l + 1) L2 ((nodeP L a).f, (nodeP L a).n) h l
def notP : Nat → List NdD → Nat → Out
 | 0, L, _ => ((1, 0), L)
 | k + 1, L, a => if (nodeP L a).f < 0 then
   (match (nodeP L a).leaf with
   | [] => leafR L [[]]
   | [[]] => leafR L []
   | _ => ((170, 0), L))
  else bindR (notP k L (nodeP L a).hi.toNat) fun h L1 => bindR (notP k L1 (nodeP L a).lo.toNat) fun l L2 => testR L2 ((nodeP L a).f, (nodeP L a).n) h l
/-- what a key stands for -/
def runD (way : Int) (a b : Nat) (f n : Int) (L : List NdD) : Out :=
 if way = 0 then unionP (a + b + 1) L a b else if way = 1 then thenP (a + 1) L a b else if way = 2 then pickP (a + b + 1) L (f, n) a b else notP (a + 1) L a
def GoodD (L : List NdD) (way : Int) (a b : Nat) (f n : Int) (id : Nat) : Prop := ∀ M, L <+: M → InvO M → runD way a b f n M = ((0, id), M)
theorem GoodD.pre {L M : List NdD} {way f n : Int} {a b id : Nat} (h : GoodD L way a b f n id) (hp : L <+: M) : GoodD M way a b f n id := fun N hN hI => h N (hp.trans hN) hI
end Go.Proofs.YtjjbdbklbghlhaaGreatDoor
/- The maker of diagrams: its memory; must, node, ahead, hi, lo, first. -/
namespace Go.Proofs.YtjjbdbklbghlhaaGreatDoor
open Go.RowKit Go.Sort Go.Maps Go.Lib Go.WideMaps
set_option linter.unusedSimpArgs false

/-- what was put together -/
structure DkD where
 way : Int
 a : Int
 b : Int
 f : Int
 n : Int
 deriving DecidableEq
def DkD.ok (k : DkD) : Prop := (-9223372036854775808 ≤ k.way ∧ k.way ≤ 9223372036854775807) ∧ (-9223372036854775808 ≤ k.a ∧ k.a ≤ 9223372036854775807) ∧ (-9223372036854775808 ≤ k.b ∧ k.b ≤ 9223372036854775807) ∧ (-128 ≤ k.f ∧ k.f ≤ 127) ∧ (0 ≤ k.n ∧ k.n ≤ 18446744073709551615)
abbrev Dk := { k : DkD // k.ok }
def kvD (k : Dk) : Value := .agg #[.int .i64 k.1.way, .int .i64 k.1.a, .int .i64 k.1.b, .int .i8 k.1.f, .int .u64 k.1.n]
def vvD (n : Nat) : Value := .agg #[.int .i64 n]
theorem keyDk (k : Dk) : ∃ l, keyOf Tryz.prog 174 (kvD k) = some l := by
 obtain ⟨⟨wy, a, b, f, n⟩, h1, h2, h3, h4, h5⟩ := k
 have hkt : Tryz.prog.keyType 174 = true := by kernel_rfl
 have w1 : (Lit.int .i64 wy).wf = true := by simp [Lit.wf, IntKind.min, IntKind.max, IntKind.bits, IntKind.signed]; exact h1
 have w2 : (Lit.int .i64 a).wf = true := by simp [Lit.wf, IntKind.min, IntKind.max, IntKind.bits, IntKind.signed]; exact h2
 have w3 : (Lit.int .i64 b).wf = true := by simp [Lit.wf, IntKind.min, IntKind.max, IntKind.bits, IntKind.signed]; exact h3
 have w4 : (Lit.int .i8 f).wf = true := by simp [Lit.wf, IntKind.min, IntKind.max, IntKind.bits, IntKind.signed]; exact h4
 have w5 : (Lit.int .u64 n).wf = true := by simp [Lit.wf, IntKind.min, IntKind.max, IntKind.bits, IntKind.signed]; exact h5
 have hf : (kvD ⟨⟨wy, a, b, f, n⟩, h1, h2, h3, h4, h5⟩).formed Tryz.prog 174 = true := by
  unfold kvD
  kernel_rfl
 obtain ⟨m, hm⟩ := typesN
 unfold keyOf
 simp only [Tryz.underlying174]
 rw [if_pos (by rw [hkt, hf]; rfl), hm]
 have q : ∀ (t : TypeId) (k : IntKind) (x : Int), Tryz.prog.underlying t = some (.int k) → (Lit.int k x).wf = true → Tryz.prog.keyLits (m + 1) t [.int k x] = some [.int k x] := fun t k x ht hw => by
  unfold Program.keyLits
  simp [ht, hw]
 unfold Program.keyLits
 simp only [Tryz.underlying174, kvD, Value.cells]
 rw [if_pos ⟨by kernel_rfl, by kernel_rfl⟩]
 have z8 : Tryz.prog.cellsOf 22 = 1 := by kernel_rfl
 have z64 : Tryz.prog.cellsOf 23 = 1 := by kernel_rfl
 have zi : Tryz.prog.cellsOf 3 = 1 := by kernel_rfl
 simp [List.mapM_cons, z8, z64, zi, q _ _ _ Tryz.underlying22 w4, q _ _ _ Tryz.underlying23 w5, q _ _ _ Tryz.underlying3 w1, q _ _ _ Tryz.underlying3 w2, q _ _ _ Tryz.underlying3 w3]
theorem codedD : Coded Tryz.prog 174 kvD where
 keyed := Keyed.of_law (deep_law_laid laidT (m := 2) (by omega) (of_decide_eq_true (by kernel_rfl)) (by kernel_rfl) (by kernel_rfl))
 key := keyDk
 inj := fun {x y} h => by
  obtain ⟨⟨wy, a, b, f, n⟩, hx⟩ := x
  obtain ⟨⟨wy', a', b', f', n'⟩, hy⟩ := y
  simp [kvD] at h
  obtain ⟨rfl, rfl, rfl, rfl, rfl⟩ := h
  rfl
theorem zeroDv (w : World) : (zeroValue 197).run Tryz.prog w = .ok (vvD 0) w := by kernel_rfl

/-- the error that something is left by -/
def stopC (e : Int) : List PanicEntry := [{ v := .iface 145 (.agg #[.int .i64 e]), recovered := false }]
def endD (er : Int) (v : Value) : Ending := if er = 0 then .returned v else .panicked (stopC er)
theorem endD_ok (v : Value) : endD 0 v = .returned v := if_pos rfl
theorem endD_no {er : Int} (h : er ≠ 0) (v : Value) : endD er v = .panicked (stopC er) := if_neg h
def MustPost (id e0 : Int) (w : World) (e : Ending) (w' : World) : Prop := e = endD e0 (.int .i64 id) ∧ w = w'

set_option maxHeartbeats 2000000 in
theorem dmust_any (id e0 : Int) (w : World) :
  Calls Tryz.prog 79 #[.int .i64 id, .int .i64 e0] w (MustPost id e0 w) := by
 by_cases h : e0 = 0
 ·subst h
  go_enter Tryz.func79, Tryz.ntmps79
  go_wp2_with fail
  go_ret
  exact ⟨(endD_ok _).symm, rfl⟩
 ·have hne : (e0 != 0) = true := by rw [bne_iff_ne]; exact h
  go_enter Tryz.func79, Tryz.ntmps79
  go_wp2_with fail
  exact ⟨rfl, (endD_no h _).symm, rfl⟩

structure Mk (F : Nat → Prop) (w : World) (p m mt : Nat) (L : List NdD) (D : List (Dk × Nat)) : Prop where
 st : St F w p L
 mp : MapOf w kvD vvD mt D
 nd : (D.map (·.1)).Nodup
 c0 : w.cell? ⟨m, 0, none⟩ = some (.pointer (some ⟨p, 0, none⟩))
 c1 : w.cell? ⟨m, 1, none⟩ = some (.map (some mt))
 ne : ¬ F m ∧ ¬ F mt ∧ m ≠ mt
 inv : InvO L
 tb : ∃ w0, Tb w0 ∧ Ext w0 w ∧ (∀ b, F b → w0.heap.size ≤ b) ∧ w0.heap.size ≤ mt
 good : ∀ k id, look k D = some id → GoodD L k.1.way k.1.a.toNat k.1.b.toNat k.1.f k.1.n id
theorem Mk.ext {F : Nat → Prop} {w w' : World} {p m mt : Nat} {L : List NdD} {D : List (Dk × Nat)} (h : Mk F w p m mt L D) (hx : Ext w w') : Mk F w' p m mt L D :=
 ⟨h.st.ext hx, MapRaw.ext h.mp hx, h.nd, hx.later _ _ h.c0, hx.later _ _ h.c1, h.ne, h.inv, (by obtain ⟨w0, t1, t2, t3, t4⟩ := h.tb; exact ⟨w0, t1, t2.trans hx, t3, t4⟩), h.good⟩
theorem Mk.tab {F : Nat → Prop} {w : World} {p m mt : Nat} {L : List NdD} {D : List (Dk × Nat)} (h : Mk F w p m mt L D) : Tb w := by
 obtain ⟨w0, t1, t2, t3, t4⟩ := h.tb
 exact t1.ext t2
/-- the store has gone on -/
theorem Mk.op {F F' : Nat → Prop} {w w' : World} {p m mt : Nat} {L L' : List NdD} {D : List (Dk × Nat)} (h : Mk F w p m mt L D) (hto : StTo F w w' p L' F') (hp : L <+: L') (hi : InvO L') : Mk F' w' p m mt L' D := by
 have hk := hto.kp
 have hm : m < w.heap.size := World.block_lt_of_cell? w _ h.c0
 have hmt : mt < w.heap.size := MapRaw.lt h.mp
 refine ⟨hto.st, MapRaw.kept h.mp (hk.block mt hmt h.ne.2.1), h.nd, hk.cell h.c0 h.ne.1, hk.cell h.c1 h.ne.1, ⟨fun e => ?_, fun e => ?_, h.ne.2.2⟩, hi, ?_, fun k id hl => (h.good k id hl).pre hp⟩
 ·rcases hto.sub m e with e | e
  ·exact h.ne.1 e
  ·omega
 ·rcases hto.sub mt e with e | e
  ·exact h.ne.2.1 e
  ·omega
 ·obtain ⟨w0, t1, t2, t3, t4⟩ := h.tb
  refine ⟨w0, t1, t2.trans' ⟨hk.os, hk.tape, hk.output, hk.size, fun i hi => hk.block i (Nat.lt_of_lt_of_le hi t2.size) (fun hb => by have := t3 i hb; omega)⟩, fun b hb => ?_, t4⟩
  rcases hto.sub b hb with e | e
  ·exact t3 b e
  ·exact Nat.le_trans t2.size e
/-- how a maker's function ends -/
def MPost (F : Nat → Prop) (w : World) (p m mt : Nat) (R : Out) (e : Ending) (w' : World) : Prop :=
 e = endD R.1.1 (.int .i64 R.1.2) ∧ ∃ F' D', Mk F' w' p m mt R.2 D' ∧ (∀ b, F' b → F b ∨ w.heap.size ≤ b) ∧ Keep (fun b => F b ∨ b = mt) w w'
theorem Mk.lt {F : Nat → Prop} {w : World} {p m mt : Nat} {L : List NdD} {D : List (Dk × Nat)} (h : Mk F w p m mt L D) : (∀ b, F b → b < w.heap.size) ∧ m < w.heap.size ∧ mt < w.heap.size :=
 ⟨h.st.lt, World.block_lt_of_cell? w _ h.c0, MapRaw.lt h.mp⟩
theorem MPost.from {F : Nat → Prop} {w w1 w' : World} {p m mt : Nat} {R : Out} {e : Ending} (hx : Ext w w1) (h : MPost F w1 p m mt R e w') : MPost F w p m mt R e w' := by
 obtain ⟨he, F', D', h1, h2, h3⟩ := h
 exact ⟨he, F', D', h1, fun b hb => (h2 b hb).imp id fun h => Nat.le_trans hx.size h, (hx.keep _).trans h3⟩
/-- nothing done -/
theorem Mk.same {F : Nat → Prop} {w w' : World} {p m mt : Nat} {L : List NdD} {D : List (Dk × Nat)} {R : Out} {e : Ending} (h : Mk F w p m mt L D) (hx : Ext w w') (hL : R.2 = L) (he : e = endD R.1.1 (.int .i64 R.1.2)) : MPost F w p m mt R e w' :=
 ⟨he, F, D, by rw [hL]; exact h.ext hx, fun b hb => .inl hb, hx.keep _⟩
/-- one thing behind the other: blocks -/
theorem MPost.then {F F1 : Nat → Prop} {w w1 w' : World} {p m mt : Nat} {R : Out} {e : Ending} (h1 : ∀ b, F1 b → F b ∨ w.heap.size ≤ b) (h2 : Keep (fun b => F b ∨ b = mt) w w1) (h : MPost F1 w1 p m mt R e w') : MPost F w p m mt R e w' := by
 obtain ⟨he, F', D', h3, h4, h5⟩ := h
 refine ⟨he, F', D', h3, fun b hb => ?_, ?_⟩
 ·rcases h4 b hb with h6 | h6
  ·exact h1 b h6
  ·exact .inr (Nat.le_trans h2.size h6)
 ·refine ⟨h5.os.trans h2.os, h5.tape.trans h2.tape, h5.output.trans h2.output, Nat.le_trans h2.size h5.size, fun b hb hn => ?_⟩
  rw [h5.block b (Nat.lt_of_lt_of_le hb h2.size) fun e => ?_, h2.block b hb hn]
  rcases e with e | e
  ·rcases h1 b e with h6 | h6
   ·exact hn (.inl h6)
   ·omega
  ·exact hn (.inr e)
end Go.Proofs.YtjjbdbklbghlhaaGreatDoor
/- The maker's node, ahead, lo, hi, first. -/
namespace Go.Proofs.YtjjbdbklbghlhaaGreatDoor
open Go.RowKit Go.Sort Go.Maps Go.Lib
set_option linter.unusedSimpArgs false

theorem results_cell_one {fn : Func} {p : Tmp} {ty : TypeId} (h : fn.results = #[.cell p ty]) (tmps : Array Value) (P : Program) (w : World) :
  (results fn tmps).run P w = ((asAddr (tmps.getD p undef)).run P w).andThen fun a w₁ => (loadVar ty a).run P w₁ := by
 simp only [results, h]
 simp [Sem.run_bind, Result.andThen]
def NodePost (x : NdD) (w : World) (e : Ending) (w' : World) : Prop := ∃ q n c, e = .returned (.agg #[.int .i8 x.f, .int .u64 x.n, .int .i64 x.hi, .int .i64 x.lo, .slice q n c]) ∧ RowsOn (fun b => w.heap.size ≤ b) w' x.leaf (.slice q n c) ∧ Ext w w'
set_option maxHeartbeats 8000000 in
set_option maxRecDepth 100000 in
theorem dnode_any {F : Nat → Prop} (p m mt : Nat) (L : List NdD) (D : List (Dk × Nat)) (a : Nat) (w : World) (h : Mk F w p m mt L D) (ha : a < L.length) :
  Calls Tryz.prog 110 #[.pointer (some ⟨m, 0, none⟩), .int .i64 a] w (NodePost (nodeP L a) w) := by
 have hmb := h.st.inv.2.1
 obtain ⟨wA, hA⟩ : ∃ W : World, w.alloc (.cells #[.int .i8 0, .int .u64 0, .int .i64 0, .int .i64 0, .slice none 0 0] 42) = W := ⟨_, rfl⟩
 have xA : Ext w wA := hA ▸ Ext.alloc _ _
 have HTH := Hd (fun W (hW : Ext wA W) => show W.there w.heap.size 0 5 from thereF (cs := #[.int .i8 0, .int .u64 0, .int .i64 0, .int .i64 0, .slice none 0 0]) (t := 42) (by rw [hA]; exact hW))
 have hsz : wA.heap.size = w.heap.size + 1 := by rw [← hA, World.size_alloc]
 have HXA := Hd xA
 have HEQ := Hd hA
 have c0 := xA.later _ _ h.c0
 have HINF := Hd (show ∀ a b c d e, (Tryz.prog.info? 42).map (·.size) = some (#[Value.int .i8 a, .int .u64 b, .int .i64 c, .int .i64 d, e]).size from fun a b c d e => by
  show _ = some 5
  kernel_rfl)
 have HEND := Hd (fun (W : World) (a b c d : Int) (sv : Value) (hW : Ext wA W) => show (∀ k v, [Value.int .i8 a, .int .u64 b, .int .i64 c, .int .i64 d, sv][k]? = some v → (W.setCells w.heap.size 0 [.int .i8 a, .int .u64 b, .int .i64 c, .int .i64 d, sv]).cell? ⟨w.heap.size, k, none⟩ = some v) ∧ Ext w (W.setCells w.heap.size 0 [.int .i8 a, .int .u64 b, .int .i64 c, .int .i64 d, sv]) from by
  refine ⟨fun k v hv => ?_, (HXA.out.trans hW).trans' ?_⟩
  ·have := World.rangeAt_setCells_same W w.heap.size 0 [.int .i8 a, .int .u64 b, .int .i64 c, .int .i64 d, sv] (fun j hj => HTH.out W hW j hj) k v hv
   rwa [Nat.zero_add] at this
  ·have hk := keep_setCells (w := W) w.heap.size 0 [.int .i8 a, .int .u64 b, .int .i64 c, .int .i64 d, sv]
   exact ⟨hk.os, hk.tape, hk.output, hk.size, fun i hi => hk.block i (Nat.lt_of_lt_of_le hi (HXA.out.trans hW).size) (fun e => by omega)⟩)
 have HGE := Hd (getS_new p L a wA (h.st.ext xA) (by omega))
 have HGP := Hd (show getP L (a : Int) = some (nodeP L a) from by
  unfold getP
  rw [if_pos ⟨by omega, by omega⟩, Int.toNat_natCast, nodeP_some ha])
 obtain ⟨x, hx⟩ : ∃ x, x = nodeP L a := ⟨_, rfl⟩
 rw [← hx] at HGP ⊢
 clear h ha xA hA hx hmb
 go_enter Tryz.func110, Tryz.ntmps110
 go_upto_region 1 with fail
 rw [HEQ.out]
 clear HEQ
 go_wp2_with fail
 refine HGE.out.mono ?_
 rintro e w3 ⟨⟨v3, rfl, hv3⟩, hx3⟩
 rw [HGP.out] at hv3 ⊢
 obtain ⟨lv, rfl, hlf⟩ := hv3
 obtain ⟨q3, n3, c3, rfl, -⟩ := id hlf
 obtain ⟨w4, h4⟩ : ∃ W : World, w3.alloc (.cells #[.int .i8 x.f, .int .u64 x.n, .int .i64 x.hi, .int .i64 x.lo, .slice q3 n3 c3] 42) = W := ⟨_, rfl⟩
 have x4 : Ext w3 w4 := h4 ▸ Ext.alloc _ _
 have HX4 := Hd (hx3.trans x4)
 have HE4 := Hd h4
 have HRL := Hd (hlf.ext x4)
 obtain ⟨d0, d1, d2, d3, d4⟩ : w4.cell? ⟨w3.heap.size, 0, none⟩ = some (.int .i8 x.f) ∧ w4.cell? ⟨w3.heap.size, 1, none⟩ = some (.int .u64 x.n) ∧ w4.cell? ⟨w3.heap.size, 2, none⟩ = some (.int .i64 x.hi) ∧ w4.cell? ⟨w3.heap.size, 3, none⟩ = some (.int .i64 x.lo) ∧ w4.cell? ⟨w3.heap.size, 4, none⟩ = some (.slice q3 n3 c3) := by
  rw [← h4]; exact ⟨by simp [go_sem], by simp [go_sem], by simp [go_sem], by simp [go_sem], by simp [go_sem]⟩
 obtain ⟨HK, HXE⟩ := HEND.out w4 x.f x.n x.hi x.lo (.slice q3 n3 c3) (hx3.trans x4)
 have HK := Hd HK
 have HXE := Hd HXE
 have HT5 := Hd (HTH.out w4 (hx3.trans x4))
 have HI2 := Hd (HINF.out x.f x.n x.hi x.lo (.slice q3 n3 c3))
 clear h4 x4 hx3 hlf c0
 go_upto_region 2 with fail
 try simp only [Option.getD_some]
 rw [HE4.out]
 clear HE4
 have hks2 := keep_setCells (w := w4) w.heap.size 0 [.int .i8 x.f, .int .u64 x.n, .int .i64 x.hi, .int .i64 x.lo, .slice q3 n3 c3]
 have HRV := Hd (show RowsOn (fun b => w.heap.size ≤ b) (w4.setCells w.heap.size 0 [.int .i8 x.f, .int .u64 x.n, .int .i64 x.hi, .int .i64 x.lo, .slice q3 n3 c3]) x.leaf (.slice q3 n3 c3) from
  (HRL.out.keep hks2.size (fun b hb hlt => hks2.block b hlt (by omega))).mono fun b _ hb => by omega)
 clear hks2
 go_wp2_with (first | (refine wpList_store_mid rfl 42 _ _ rfl w.heap.size 0 #[.int .i8 x.f, .int .u64 x.n, .int .i64 x.hi, .int .i64 x.lo, .slice q3 n3 c3] rfl rfl HT5.out HI2.out (nd_one _ _ _ _ _ _ _) ?_))
 have k0 := HK.out 0 _ rfl
 have k1 := HK.out 1 _ rfl
 have k2 := HK.out 2 _ rfl
 have k3 := HK.out 3 _ rfl
 have k4 := HK.out 4 _ rfl
 refine bodyPost_ret_by (v := .agg #[.int .i8 x.f, .int .u64 x.n, .int .i64 x.hi, .int .i64 x.lo, .slice q3 n3 c3]) ?_ rfl ⟨_, _, _, rfl, HRV.out, HXE.out⟩
 rw [results_cell_one rfl]
 generalize w4.setCells w.heap.size 0 _ = wE at *
 go_simp
 try rfl
end Go.Proofs.YtjjbdbklbghlhaaGreatDoor
/- The maker's ahead, lo, first. -/
namespace Go.Proofs.YtjjbdbklbghlhaaGreatDoor
open Go.RowKit Go.Sort Go.Maps Go.Lib
set_option linter.unusedSimpArgs false

def IsB (b : Bool) (w : World) (e : Ending) (w' : World) : Prop := e = .returned (.bool b) ∧ w = w'
def IsN (a : Nat) (w : World) (e : Ending) (w' : World) : Prop := e = .returned (.int .i64 a) ∧ Ext w w'
set_option maxHeartbeats 4000000 in
theorem dahead_any (f n : Int) (z : Nat) (y : NdD) (w : World) (c0 : w.cell? ⟨z, 0, none⟩ = some (.int .i8 y.f)) (c1 : w.cell? ⟨z, 1, none⟩ = some (.int .u64 y.n)) :
  Calls Tryz.prog 135 #[.int .i8 f, .int .u64 n, .pointer (some ⟨z, 0, none⟩)] w (IsB (aheadB f n y) w) := by
 obtain ⟨yf, hyf⟩ : ∃ yf, yf = y.f := ⟨_, rfl⟩
 obtain ⟨yn, hyn⟩ : ∃ yn, yn = y.n := ⟨_, rfl⟩
 have HE := Hd (show aheadB f n y = (decide (yf < 0) || decide (f < yf) || (decide (f = yf) && decide (n < yn))) from by rw [hyf, hyn]; rfl)
 rw [← hyf] at c0
 rw [← hyn] at c1
 clear hyf hyn
 generalize aheadB f n y = B at *
 by_cases h0 : yf < 0
 ·have HF := Hd (show B = true from by rw [HE.out, decide_eq_true h0]; rfl)
  go_enter Tryz.func135, Tryz.ntmps135
  go_wp2_with fail
  go_ret
  exact ⟨by rw [HF.out]; rfl, rfl⟩
 by_cases h1 : f < yf
 ·have HF := Hd (show B = true from by rw [HE.out, decide_eq_true h1]; simp)
  go_enter Tryz.func135, Tryz.ntmps135
  go_wp2_with fail
  go_ret
  exact ⟨by rw [HF.out]; rfl, rfl⟩
 by_cases h2 : f = yf
 case neg =>
  have hb : (f == yf) = false := by rw [beq_eq_false_iff_ne]; exact h2
  have HF := Hd (show B = false from by rw [HE.out, decide_eq_false h0, decide_eq_false h1, decide_eq_false h2]; rfl)
  go_enter Tryz.func135, Tryz.ntmps135
  go_wp2_with fail
  go_ret
  exact ⟨by rw [HF.out]; rfl, rfl⟩
 have hb : (f == yf) = true := by rw [beq_iff_eq]; exact h2
 by_cases h3 : n < yn
 ·have HF := Hd (show B = true from by rw [HE.out, decide_eq_true h2, decide_eq_true h3]; simp)
  clear h2
  go_enter Tryz.func135, Tryz.ntmps135
  go_wp2_with fail
  go_ret
  exact ⟨by rw [HF.out]; rfl, rfl⟩
 ·have HF := Hd (show B = false from by rw [HE.out, decide_eq_false h0, decide_eq_false h1, decide_eq_false h3]; simp)
  clear h2
  go_enter Tryz.func135, Tryz.ntmps135
  go_wp2_with fail
  go_ret
  exact ⟨by rw [HF.out]; rfl, rfl⟩
theorem dcell5 {w : World} (a b c d e : Value) (t : TypeId) : (w.alloc (.cells #[a, b, c, d, e] t)).cell? ⟨w.heap.size, 0, none⟩ = some a ∧ (w.alloc (.cells #[a, b, c, d, e] t)).cell? ⟨w.heap.size, 1, none⟩ = some b ∧ (w.alloc (.cells #[a, b, c, d, e] t)).cell? ⟨w.heap.size, 2, none⟩ = some c ∧ (w.alloc (.cells #[a, b, c, d, e] t)).cell? ⟨w.heap.size, 3, none⟩ = some d ∧ (w.alloc (.cells #[a, b, c, d, e] t)).cell? ⟨w.heap.size, 4, none⟩ = some e := by
 refine ⟨?_, ?_, ?_, ?_, ?_⟩ <;> simp [go_sem]

set_option maxHeartbeats 4000000 in
theorem dlo_any {F : Nat → Prop} (p m mt : Nat) (L : List NdD) (D : List (Dk × Nat)) (a : Nat) (f n : Int) (w : World) (h : Mk F w p m mt L D) (ha : a < L.length) (hf : 0 ≤ f) :
  Calls Tryz.prog 117 #[.pointer (some ⟨m, 0, none⟩), .int .i64 a, .int .i8 f, .int .u64 n] w (IsN (loA L f n a) w) := by
 have HN := Hd (dnode_any p m mt L D a w h ha)
 have HK := Hd (fun (e : (nodeP L a).f = f) => h.inv.kids ha (by omega))
 have HE := Hd (show loA L f n a = (if (nodeP L a).f = f ∧ (nodeP L a).n = n then (nodeP L a).lo.toNat else a) from rfl)
 generalize loA L f n a = R at *
 generalize nodeP L a = x at *
 clear h ha
 go_enter Tryz.func117, Tryz.ntmps117
 go_wp2_with fail
 refine HN.out.mono ?_
 rintro e w1 ⟨q, k, c, rfl, -, hx1⟩
 obtain ⟨w2, h2⟩ : ∃ W : World, w1.alloc (.cells #[.int .i8 x.f, .int .u64 x.n, .int .i64 x.hi, .int .i64 x.lo, .slice q k c] 42) = W := ⟨_, rfl⟩
 have x2 : Ext w1 w2 := h2 ▸ Ext.alloc _ _
 obtain ⟨d0, d1, d2, d3, d4⟩ : w2.cell? ⟨w1.heap.size, 0, none⟩ = some (.int .i8 x.f) ∧ w2.cell? ⟨w1.heap.size, 1, none⟩ = some (.int .u64 x.n) ∧ w2.cell? ⟨w1.heap.size, 2, none⟩ = some (.int .i64 x.hi) ∧ w2.cell? ⟨w1.heap.size, 3, none⟩ = some (.int .i64 x.lo) ∧ w2.cell? ⟨w1.heap.size, 4, none⟩ = some (.slice q k c) := by rw [← h2]; exact dcell5 _ _ _ _ _ _
 have HX := Hd (hx1.trans x2)
 have HE2 := Hd h2
 clear h2 x2 hx1
 go_upto_region 2 with fail
 rw [HE2.out]
 clear HE2
 by_cases e1 : x.f = f
 case neg =>
  have q1 : (x.f == f) = false := by rw [beq_eq_false_iff_ne]; exact e1
  have HF := Hd (show R = a from by rw [HE.out, if_neg fun h => e1 h.1])
  go_wp2_with fail
  go_ret
  exact ⟨by rw [HF.out]; rfl, HX.out⟩
 have q1 : (x.f == f) = true := by rw [beq_iff_eq]; exact e1
 obtain ⟨-, hlo, -⟩ := HK.out e1
 by_cases e2 : x.n = n
 case neg =>
  have q2 : (x.n == n) = false := by rw [beq_eq_false_iff_ne]; exact e2
  have HF := Hd (show R = a from by rw [HE.out, if_neg fun h => e2 h.2])
  clear e1
  go_wp2_with fail
  go_ret
  exact ⟨by rw [HF.out]; rfl, HX.out⟩
 have q2 : (x.n == n) = true := by rw [beq_iff_eq]; exact e2
 have HF := Hd (show x.lo = (R : Int) from by rw [HE.out, if_pos ⟨e1, e2⟩]; exact hlo)
 rw [HF.out] at d3
 clear e1 e2 hlo
 go_wp2_with fail
 go_ret
 exact ⟨rfl, HX.out⟩
end Go.Proofs.YtjjbdbklbghlhaaGreatDoor
/- The maker's first, hi. -/
namespace Go.Proofs.YtjjbdbklbghlhaaGreatDoor
open Go.RowKit Go.Sort Go.Maps Go.Lib
set_option linter.unusedSimpArgs false

def FirstPost (p : Int × Int) (w : World) (e : Ending) (w' : World) : Prop := e = .returned (.tuple #[.int .i8 p.1, .int .u64 p.2]) ∧ Ext w w'
set_option maxHeartbeats 8000000 in
set_option maxRecDepth 100000 in
theorem dfirst_any {F : Nat → Prop} (p m mt : Nat) (L : List NdD) (D : List (Dk × Nat)) (a b : Nat) (w : World) (h : Mk F w p m mt L D) (ha : a < L.length) (hb : b < L.length) :
  Calls Tryz.prog 115 #[.pointer (some ⟨m, 0, none⟩), .int .i64 a, .int .i64 b] w (FirstPost (firstA L a b) w) := by
 have HA := Hd (dnode_any p m mt L D a w h ha)
 have HB := Hd (fun W (hW : Ext w W) => dnode_any p m mt L D b W (h.ext hW) hb)
 have HE := Hd (show firstA L a b = (if (nodeP L b).f < 0 ∨ (0 ≤ (nodeP L a).f ∧ aheadB (nodeP L b).f (nodeP L b).n (nodeP L a) = false) then ((nodeP L a).f, (nodeP L a).n) else ((nodeP L b).f, (nodeP L b).n)) from rfl)
 generalize firstA L a b = R at *
 generalize nodeP L a = x at *
 generalize nodeP L b = y at *
 clear h ha hb
 go_enter Tryz.func115, Tryz.ntmps115
 go_wp2_with fail
 refine HA.out.mono ?_
 rintro e w1 ⟨q1, k1, c1, rfl, -, hx1⟩
 go_wp2_with fail
 refine (HB.out w1 hx1).mono ?_
 rintro e w2 ⟨q2, k2, c2, rfl, -, hx2⟩
 obtain ⟨w3, h3⟩ : ∃ W : World, w2.alloc (.cells #[.int .i8 x.f, .int .u64 x.n, .int .i64 x.hi, .int .i64 x.lo, .slice q1 k1 c1] 42) = W := ⟨_, rfl⟩
 have x3 : Ext w2 w3 := h3 ▸ Ext.alloc _ _
 have s3 : w3.heap.size = w2.heap.size + 1 := by rw [← h3, World.size_alloc]
 obtain ⟨w4, h4⟩ : ∃ W : World, w3.alloc (.cells #[.int .i8 y.f, .int .u64 y.n, .int .i64 y.hi, .int .i64 y.lo, .slice q2 k2 c2] 42) = W := ⟨_, rfl⟩
 have x4 : Ext w3 w4 := h4 ▸ Ext.alloc _ _
 have d0 : w4.cell? ⟨w2.heap.size, 0, none⟩ = some (.int .i8 x.f) := x4.later _ _ (by rw [← h3]; simp [go_sem])
 have d1 : w4.cell? ⟨w2.heap.size, 1, none⟩ = some (.int .u64 x.n) := x4.later _ _ (by rw [← h3]; simp [go_sem])
 have e0 : w4.cell? ⟨w2.heap.size + 1, 0, none⟩ = some (.int .i8 y.f) := by rw [← h4, ← s3]; simp [go_sem]
 have e1 : w4.cell? ⟨w2.heap.size + 1, 1, none⟩ = some (.int .u64 y.n) := by rw [← h4, ← s3]; simp [go_sem]
 have HSX := Hd (show ∀ W : World, Ext w4 W → (fun W : World => W.cell? ⟨w2.heap.size, 0, none⟩ = some (.int .i8 x.f) ∧ W.cell? ⟨w2.heap.size, 1, none⟩ = some (.int .u64 x.n) ∧ W.cell? ⟨w2.heap.size + 1, 0, none⟩ = some (.int .i8 y.f) ∧ W.cell? ⟨w2.heap.size + 1, 1, none⟩ = some (.int .u64 y.n)) W from fun W hW => ⟨hW.later _ _ d0, hW.later _ _ d1, hW.later _ _ e0, hW.later _ _ e1⟩)
 have HX := Hd (hx1.trans (hx2.trans (x3.trans x4)))
 have HE34 := Hd (And.intro h3 h4)
 have HAH := Hd (dahead_any y.f y.n w2.heap.size x w4 d0 d1)
 have xz : Ext w4 w4.drew := Ext.drew _
 clear h3 h4 x3 x4 hx1 hx2
 go_upto_region 2 with fail
 rw [HE34.out.1, HE34.out.2]
 clear HE34
 by_cases hy : y.f < 0
 case pos =>
  have HF := Hd (show R = (x.f, x.n) from by rw [HE.out, if_pos (.inl hy)])
  go_upto_region 3 with fail
  refine wp_region_noPanic ?_
  refine wp_region_held_drew (S := (fun W : World => W.cell? ⟨w2.heap.size, 0, none⟩ = some (.int .i8 x.f) ∧ W.cell? ⟨w2.heap.size, 1, none⟩ = some (.int .u64 x.n) ∧ W.cell? ⟨w2.heap.size + 1, 0, none⟩ = some (.int .i8 y.f) ∧ W.cell? ⟨w2.heap.size + 1, 1, none⟩ = some (.int .u64 y.n))) (by kernel_rfl) (HSX.out _ xz) (fun hHeld => ?_)
  refine tk 0 (.pointer (some ⟨w2.heap.size, 0, none⟩)) ?_
  try simp only [tkN]
  refine tk 1 (.int .i8 x.f) ?_
  try simp only [tkN]
  refine tk 2 (.pointer (some ⟨w2.heap.size, 1, none⟩)) ?_
  try simp only [tkN]
  refine tk 3 (.int .u64 x.n) ?_
  try simp only [tkN]
  refine tk 4 (.int .i8 x.f) ?_
  try simp only [tkN]
  refine tk 5 (.int .u64 x.n) ?_
  try simp only [tkN]
  refine wpAnyH_done (by kernel_rfl) ?_ _
  refine NoPanic.normal ?_
  clear hHeld d0 d1 e0 e1
  go_wp2_with fail
  go_ret2
  exact ⟨by rw [HF.out]; rfl, HX.out.trans xz⟩
 by_cases hx0 : 0 ≤ x.f
 case neg =>
  have HF := Hd (show R = (y.f, y.n) from by rw [HE.out, if_neg (by rintro (h | ⟨h, -⟩) <;> omega)])
  go_upto_region 4 with fail
  refine wp_region_noPanic ?_
  refine wp_region_held_drew (S := (fun W : World => W.cell? ⟨w2.heap.size, 0, none⟩ = some (.int .i8 x.f) ∧ W.cell? ⟨w2.heap.size, 1, none⟩ = some (.int .u64 x.n) ∧ W.cell? ⟨w2.heap.size + 1, 0, none⟩ = some (.int .i8 y.f) ∧ W.cell? ⟨w2.heap.size + 1, 1, none⟩ = some (.int .u64 y.n))) (by kernel_rfl) (HSX.out _ xz) (fun hHeld => ?_)
  refine tk 0 (.pointer (some ⟨w2.heap.size + 1, 0, none⟩)) ?_
  try simp only [tkN]
  refine tk 1 (.int .i8 y.f) ?_
  try simp only [tkN]
  refine tk 2 (.pointer (some ⟨w2.heap.size + 1, 1, none⟩)) ?_
  try simp only [tkN]
  refine tk 3 (.int .u64 y.n) ?_
  try simp only [tkN]
  refine tk 4 (.int .i8 y.f) ?_
  try simp only [tkN]
  refine tk 5 (.int .u64 y.n) ?_
  try simp only [tkN]
  refine wpAnyH_done (by kernel_rfl) ?_ _
  refine NoPanic.normal ?_
  clear hHeld d0 d1 e0 e1
  go_wp2_with fail
  go_ret2
  exact ⟨by rw [HF.out]; rfl, HX.out.trans xz⟩
 go_wp2_with fail
 refine HAH.out.mono ?_
 rintro e w5 ⟨rfl, rfl⟩
 cases hB : aheadB y.f y.n x with
 | false =>
  have HF := Hd (show R = (x.f, x.n) from by rw [HE.out, if_pos (.inr ⟨hx0, hB⟩)])
  clear hB
  go_upto_region 3 with fail
  refine wp_region_noPanic ?_
  refine wp_region_held_drew (S := (fun W : World => W.cell? ⟨w2.heap.size, 0, none⟩ = some (.int .i8 x.f) ∧ W.cell? ⟨w2.heap.size, 1, none⟩ = some (.int .u64 x.n) ∧ W.cell? ⟨w2.heap.size + 1, 0, none⟩ = some (.int .i8 y.f) ∧ W.cell? ⟨w2.heap.size + 1, 1, none⟩ = some (.int .u64 y.n))) (by kernel_rfl) (HSX.out _ xz) (fun hHeld => ?_)
  refine tk 0 (.pointer (some ⟨w2.heap.size, 0, none⟩)) ?_
  try simp only [tkN]
  refine tk 1 (.int .i8 x.f) ?_
  try simp only [tkN]
  refine tk 2 (.pointer (some ⟨w2.heap.size, 1, none⟩)) ?_
  try simp only [tkN]
  refine tk 3 (.int .u64 x.n) ?_
  try simp only [tkN]
  refine tk 4 (.int .i8 x.f) ?_
  try simp only [tkN]
  refine tk 5 (.int .u64 x.n) ?_
  try simp only [tkN]
  refine wpAnyH_done (by kernel_rfl) ?_ _
  refine NoPanic.normal ?_
  clear hHeld d0 d1 e0 e1
  go_wp2_with fail
  go_ret2
  exact ⟨by rw [HF.out]; rfl, HX.out.trans xz⟩
 | true =>
  have HF := Hd (show R = (y.f, y.n) from by rw [HE.out, if_neg (by
   rintro (h | ⟨-, h⟩)
   ·omega
   ·rw [hB] at h; cases h)])
  clear hB
  go_upto_region 4 with fail
  refine wp_region_noPanic ?_
  refine wp_region_held_drew (S := (fun W : World => W.cell? ⟨w2.heap.size, 0, none⟩ = some (.int .i8 x.f) ∧ W.cell? ⟨w2.heap.size, 1, none⟩ = some (.int .u64 x.n) ∧ W.cell? ⟨w2.heap.size + 1, 0, none⟩ = some (.int .i8 y.f) ∧ W.cell? ⟨w2.heap.size + 1, 1, none⟩ = some (.int .u64 y.n))) (by kernel_rfl) (HSX.out _ xz) (fun hHeld => ?_)
  refine tk 0 (.pointer (some ⟨w2.heap.size + 1, 0, none⟩)) ?_
  try simp only [tkN]
  refine tk 1 (.int .i8 y.f) ?_
  try simp only [tkN]
  refine tk 2 (.pointer (some ⟨w2.heap.size + 1, 1, none⟩)) ?_
  try simp only [tkN]
  refine tk 3 (.int .u64 y.n) ?_
  try simp only [tkN]
  refine tk 4 (.int .i8 y.f) ?_
  try simp only [tkN]
  refine tk 5 (.int .u64 y.n) ?_
  try simp only [tkN]
  refine wpAnyH_done (by kernel_rfl) ?_ _
  refine NoPanic.normal ?_
  clear hHeld d0 d1 e0 e1
  go_wp2_with fail
  go_ret2
  exact ⟨by rw [HF.out]; rfl, HX.out.trans xz⟩
end Go.Proofs.YtjjbdbklbghlhaaGreatDoor
/- The maker's hi. -/
namespace Go.Proofs.YtjjbdbklbghlhaaGreatDoor
open Go.RowKit Go.Sort Go.Maps Go.Lib
set_option linter.unusedSimpArgs false

theorem hiA_step {L : List NdD} (h : InvO L) {f n : Int} (hf : 0 ≤ f) {a : Nat} (ha : a < L.length) : hiA L f n a = if (nodeP L a).f = f then (if (nodeP L a).n = n then (nodeP L a).hi.toNat else hiA L f n (nodeP L a).lo.toNat) else a := by
 unfold hiA
 rw [hiP]
 by_cases hx : (nodeP L a).f = f
 ·have := h.kids ha (by omega)
  rw [if_pos hx, if_pos hx, hiP_fuel h hf (k := a) (k' := (nodeP L a).lo.toNat + 1) (by omega) (by omega) (by omega)]
 ·rw [if_neg hx, if_neg hx]
def NodeAt (W : World) (z : Nat) (x : NdD) (q : Option Addr) (k c : Nat) : Prop := W.cell? ⟨z, 0, none⟩ = some (.int .i8 x.f) ∧ W.cell? ⟨z, 1, none⟩ = some (.int .u64 x.n) ∧ W.cell? ⟨z, 2, none⟩ = some (.int .i64 x.hi) ∧ W.cell? ⟨z, 3, none⟩ = some (.int .i64 x.lo) ∧ W.cell? ⟨z, 4, none⟩ = some (.slice q k c)

set_option maxHeartbeats 8000000 in
set_option maxRecDepth 100000 in
theorem dhi_any {F : Nat → Prop} (p m mt : Nat) (L : List NdD) (D : List (Dk × Nat)) (a : Nat) (f n : Int) (w : World) (h : Mk F w p m mt L D) (ha : a < L.length) (hf : 0 ≤ f) :
  Calls Tryz.prog 116 #[.pointer (some ⟨m, 0, none⟩), .int .i64 a, .int .i8 f, .int .u64 n] w (IsN (hiA L f n a) w) := by
 have HN := Hd (fun W (hW : Ext w W) b (hb : b < L.length) => dnode_any p m mt L D b W (h.ext hW) hb)
 have HI := Hd h.inv
 have HB := Hd h.st.inv.2.1
 have hal := ha
 have hz0 := h.lt
 clear h
 have HINF := Hd (show ∀ a b c d e, (Tryz.prog.info? 42).map (·.size) = some (#[Value.int .i8 a, .int .u64 b, .int .i64 c, .int .i64 d, e]).size from fun a b c d e => by
  show _ = some 5
  kernel_rfl)
 go_enter Tryz.func116, Tryz.ntmps116
 go_wp2_with fail
 refine (HN.out w (Ext.refl _) a ha).mono ?_
 rintro e w1 ⟨q, k, c, rfl, -, hx1⟩
 obtain ⟨w2, h2⟩ : ∃ W : World, w1.alloc (.cells #[.int .i8 (nodeP L a).f, .int .u64 (nodeP L a).n, .int .i64 (nodeP L a).hi, .int .i64 (nodeP L a).lo, .slice q k c] 42) = W := ⟨_, rfl⟩
 have x2 : Ext w1 w2 := h2 ▸ Ext.alloc _ _
 have HC2 := Hd (show NodeAt w2 w1.heap.size (nodeP L a) q k c from by rw [← h2]; exact dcell5 _ _ _ _ _ _)
 have HT2 := Hd (show w2.there w1.heap.size 0 5 from thereF (cs := #[.int .i8 (nodeP L a).f, .int .u64 (nodeP L a).n, .int .i64 (nodeP L a).hi, .int .i64 (nodeP L a).lo, .slice q k c]) (t := 42) (by rw [h2]; exact Ext.refl _))
 have HX := Hd (hx1.trans x2)
 have HE2 := Hd h2
 have hzw : w.heap.size ≤ w1.heap.size := hx1.size
 clear h2 x2 hx1
 go_upto_region 2 with fail
 rw [HE2.out]
 clear HE2
 go_loopw [1] (fun av wr => ∃ (a' : Nat) (q : Option Addr) (k c : Nat), a' < L.length ∧ av = .int .i64 a' ∧ Hid (hiA L f n a = hiA L f n a') ∧ Hid (NodeAt wr w1.heap.size (nodeP L a') q k c) ∧ Hid (wr.there w1.heap.size 0 5) ∧ Hid (Ext w wr)) (fun av _ => (intOf av).toNat)
 case atStart => exact ⟨a, q, k, c, ha, rfl, rfl, HC2.out, HT2.out, HX.out⟩
 case round =>
  obtain ⟨wo, rfl⟩ : ∃ wo : World, wo = wr := ⟨_, rfl⟩
  obtain ⟨b, q', k', c', hb, rfl, heq, hc, ht, hxo⟩ := hrel
  have HST := Hd (heq.out.trans (hiA_step HI.out hf hb))
  have HKI := Hd (fun (e : (nodeP L b).f = f) => HI.out.kids hb (by omega))
  generalize hiA L f n a = R at *
  generalize hy : nodeP L b = y at *
  obtain ⟨d0, d1, d2, d3, d4⟩ := hc.out
  clear heq hy
  by_cases e1 : y.f = f
  case neg =>
   have q1 : (y.f == f) = false := by rw [beq_eq_false_iff_ne]; exact e1
   have HF := Hd (show R = b from by rw [HST.out, if_neg e1])
   go_wp2_with fail
   go_ret
   exact ⟨by rw [HF.out]; rfl, hxo.out⟩
  have q1 : (y.f == f) = true := by rw [beq_iff_eq]; exact e1
  obtain ⟨hhi, hlo, hlt1, hlt2, -⟩ := HKI.out e1
  by_cases e2 : y.n = n
  ·have q2 : (y.n == n) = true := by rw [beq_iff_eq]; exact e2
   have HF := Hd (show y.hi = (R : Int) from by rw [HST.out, if_pos e1, if_pos e2]; exact hhi)
   rw [HF.out] at d2
   clear e1 e2 hhi hlo
   go_wp2_with fail
   go_ret
   exact ⟨rfl, hxo.out⟩
  have q2 : (y.n == n) = false := by rw [beq_eq_false_iff_ne]; exact e2
  obtain ⟨j, hj⟩ : ∃ j, j = y.lo.toNat := ⟨_, rfl⟩
  have HF := Hd (show R = hiA L f n j from by rw [HST.out, if_pos e1, if_neg e2, hj])
  rw [← hj] at hlo hlt2
  rw [hlo] at d3
  have hjl : j < L.length := by omega
  have HNJ := Hd (HN.out wo hxo.out j hjl)
  clear e1 e2 hhi hlo hj HST HKI
  go_wp2_with fail
  refine HNJ.out.mono ?_
  rintro e w5 ⟨q5, k5, c5, rfl, -, hx5⟩
  have hth : w5.there w1.heap.size 0 5 := fun i hi => by
   obtain ⟨h1, h2⟩ := ht.out i hi
   obtain ⟨v, hv⟩ := Option.isSome_iff_exists.1 h1
   exact ⟨by rw [hx5.later _ _ hv]; rfl, by rw [Below.frozen hx5 (World.block_lt_of_cell? _ _ hv)]; exact h2⟩
  have HT5 := Hd hth
  have HI2 := Hd (HINF.out (nodeP L j).f (nodeP L j).n (nodeP L j).hi (nodeP L j).lo (.slice q5 k5 c5))
  have hks := keep_setCells (w := w5) w1.heap.size 0 [.int .i8 (nodeP L j).f, .int .u64 (nodeP L j).n, .int .i64 (nodeP L j).hi, .int .i64 (nodeP L j).lo, .slice q5 k5 c5]
  have hrg := World.rangeAt_setCells_same w5 w1.heap.size 0 [.int .i8 (nodeP L j).f, .int .u64 (nodeP L j).n, .int .i64 (nodeP L j).hi, .int .i64 (nodeP L j).lo, .slice q5 k5 c5] (fun j hj => hth j hj)
  have HEND := Hd (show NodeAt (w5.setCells w1.heap.size 0 [.int .i8 (nodeP L j).f, .int .u64 (nodeP L j).n, .int .i64 (nodeP L j).hi, .int .i64 (nodeP L j).lo, .slice q5 k5 c5]) w1.heap.size (nodeP L j) q5 k5 c5 from by
   exact ⟨by simpa using hrg 0 _ rfl, by simpa using hrg 1 _ rfl, by simpa using hrg 2 _ rfl, by simpa using hrg 3 _ rfl, by simpa using hrg 4 _ rfl⟩)
  have HTE := Hd (World.there_setCells hth w1.heap.size 0 [.int .i8 (nodeP L j).f, .int .u64 (nodeP L j).n, .int .i64 (nodeP L j).hi, .int .i64 (nodeP L j).lo, .slice q5 k5 c5])
  have HXE := Hd ((hxo.out.trans hx5).trans' ⟨hks.os, hks.tape, hks.output, hks.size, fun i hi => hks.block i (Nat.lt_of_lt_of_le hi (hxo.out.trans hx5).size) (fun e => by omega)⟩)
  clear hth hks hrg d0 d1 d2 d3 d4
  go_wp2_with (first | (refine wpList_store_mid rfl 42 _ _ rfl w1.heap.size 0 #[.int .i8 (nodeP L j).f, .int .u64 (nodeP L j).n, .int .i64 (nodeP L j).hi, .int .i64 (nodeP L j).lo, .slice q5 k5 c5] rfl rfl HT5.out HI2.out (nd_one _ _ _ _ _ _ _) ?_))
  refine ⟨?_, ?_⟩
  ·(repeat apply Exists.intro)
   exact ⟨⟨j, q5, k5, c5, hjl, rfl, HF.out, HEND.out, HTE.out, HXE.out⟩, rfl⟩
  ·simp [intOf, Act.put]; omega
end Go.Proofs.YtjjbdbklbghlhaaGreatDoor
/- The maker's once. -/
namespace Go.Proofs.YtjjbdbklbghlhaaGreatDoor
open Go.RowKit Go.Sort Go.Maps Go.Lib
set_option linter.unusedSimpArgs false

set_option maxHeartbeats 8000000 in
set_option maxRecDepth 100000 in
theorem donce_any {F : Nat → Prop} (p m mt : Nat) (L : List NdD) (D : List (Dk × Nat)) (k : Dk) (fn : Nat) (caps : Array Value) (w : World) (h : Mk F w p m mt L D) (R : Out)
    (hent : ∀ args w, (callFunc fn args).run Tryz.prog w = .ok (.enter fn args) w)
    (hR : R = runD k.1.way k.1.a.toNat k.1.b.toNat k.1.f k.1.n L)
    (hgood : R.1.1 = 0 → GoodD R.2 k.1.way k.1.a.toNat k.1.b.toNat k.1.f k.1.n R.1.2)
    (hmake : ∀ W, Ext w W → Calls Tryz.prog fn caps W (MPost F W p m mt R)) :
    Calls Tryz.prog 108 #[.pointer (some ⟨m, 0, none⟩), kvD k, .func (.func fn) #[] caps] w (MPost F w p m mt R) := by
  have HM := Hd h
  have HR := Hd hR
  have HGD := Hd hgood
  have HMK := Hd hmake
  have HKV := Hd (show kvD k = .agg #[.int .i64 k.1.way, .int .i64 k.1.a, .int .i64 k.1.b, .int .i8 k.1.f, .int .u64 k.1.n] from rfl)
  obtain ⟨wA, hA⟩ : ∃ W : World, w.alloc (.cells #[.int .i64 k.1.way, .int .i64 k.1.a, .int .i64 k.1.b, .int .i8 k.1.f, .int .u64 k.1.n] 174) = W := ⟨_, rfl⟩
  have xA : Ext w wA := hA ▸ Ext.alloc _ _
  have HKC := Hd (show wA.cell? ⟨w.heap.size, 0, none⟩ = some (.int .i64 k.1.way) ∧ wA.cell? ⟨w.heap.size, 1, none⟩ = some (.int .i64 k.1.a) ∧ wA.cell? ⟨w.heap.size, 2, none⟩ = some (.int .i64 k.1.b) ∧ wA.cell? ⟨w.heap.size, 3, none⟩ = some (.int .i8 k.1.f) ∧ wA.cell? ⟨w.heap.size, 4, none⟩ = some (.int .u64 k.1.n) from by rw [← hA]; exact dcell5 _ _ _ _ _ _)
  have hks : w.heap.size < wA.heap.size := by rw [← hA, World.size_alloc]; omega
  have hms : m < wA.heap.size := Nat.lt_of_lt_of_le h.lt.2.1 xA.size
  have HXA := Hd xA
  have HEQ := Hd hA
  have c1 := xA.later _ _ h.c1
  unfold kvD
  clear xA hA
  go_enter Tryz.func108, Tryz.ntmps108
  go_upto_region 1 with fail
  rw [HEQ.out]
  clear HEQ
  have xz : Ext wA wA.drew := Ext.drew _
  obtain ⟨gv, hgv⟩ : ∃ gv : Nat, ((look k D).map vvD).getD (vvD 0) = .agg #[.int .i64 gv] := by
    cases look k D with
    | none => exact ⟨0, rfl⟩
    | some id => exact ⟨id, rfl⟩
  obtain ⟨gb, hgb⟩ : ∃ gb : Bool, (look k D).isSome = gb := ⟨_, rfl⟩
  have HLK := Hd (fun W (hW : Ext w W) => show (Instr.lookup 169 (.map (some mt)) (.agg #[.int .i64 k.1.way, .int .i64 k.1.a, .int .i64 k.1.b, .int .i8 k.1.f, .int .u64 k.1.n]) true).run Tryz.prog W = .ok (.tuple #[.agg #[.int .i64 gv], .bool gb]) W from by
    have := run_lookup_of codedD Tryz.underlying169 (MapRaw.ext HM.out.mp hW : MapOf W kvD vvD mt D) HM.out.nd k _ (zeroDv W) true
    rw [HKV.out, hgv, hgb] at this
    exact this)
  have HGV := Hd (And.intro hgv hgb)
  clear hgv hgb hmake hR hgood
  obtain ⟨k0, k1, k2, k3, k4⟩ := HKC.out
  have hlk0 := HLK.out wA.drew (HXA.out.trans xz)
  have hlk1 := HLK.out (wA.alloc (.cells #[.int .i64 0] 197)).drew (HXA.out.trans ((Ext.alloc _ _).andDrew))
  obtain ⟨wB, hB⟩ : ∃ W : World, (wA.alloc (.cells #[.int .i64 gv] 197)).drew = W := ⟨_, rfl⟩
  have hxB : Ext wA wB := hB ▸ (Ext.alloc _ _).andDrew
  have HXB := Hd hxB
  have HCB := Hd (show wB.cell? ⟨wA.heap.size, 0, none⟩ = some (.int .i64 gv) from by rw [← hB]; simp [go_sem])
  have HEB := Hd hB
  clear hB hxB
  go_region
  all_goals (
    rw [HEB.out]
    clear hlk0 hlk1 k0 k1 k2 k3 k4 c1 xz
    have cb := HCB.out
    cases gb with
    | true =>
      have HF := Hd (show R = ((0, gv), L) from by
        obtain ⟨id, hid⟩ := Option.isSome_iff_exists.1 HGV.out.2
        have h1 := HGV.out.1
        rw [hid] at h1
        have h2 : id = gv := by
          have h3 : Value.agg #[.int .i64 (id : Int)] = .agg #[.int .i64 (gv : Int)] := h1
          injection h3 with h4
          have h5 := congrArg (fun a : Array Value => a[0]?) h4
          simp at h5
          omega
        rw [HR.out, ← h2]
        exact HM.out.good k id hid L (List.prefix_refl _) HM.out.inv)
      go_wp2_with fail
      go_ret
      exact HM.out.same (HXA.out.trans HXB.out) (by rw [HF.out]) (by rw [HF.out]; exact (endD_ok _).symm)
    | false =>
      have HNO := Hd (show look k D = none from by
        cases hl : look k D with
        | none => rfl
        | some id => have := HGV.out.2; rw [hl] at this; cases this)
      clear cb
      go_wp2_with fail
      refine (HMK.out wB (HXA.out.trans HXB.out)).mono ?_
      rintro e w3 ⟨he, F', D', hM', hsub, hkp⟩
      have HM3 := Hd hM'
      have HSB := Hd hsub
      have HKP := Hd hkp
      have HXW := Hd (HXA.out.trans HXB.out)
      by_cases hr : R.1.1 = 0
      case neg =>
        rw [endD_no hr] at he
        subst he
        have HFIN := Hd (show MPost F w p m mt R (.panicked (stopC R.1.1)) w3 from MPost.from HXW.out ⟨(endD_no hr _).symm, F', D', hM', hsub, hkp⟩)
        clear hr hM' hsub hkp
        go_wp2_with fail
        exact ⟨rfl, HFIN.out⟩
      rw [hr, endD_ok] at he
      subst he
      have hmt3 := hM'.lt.2.2
      have hnk : ¬ (F w.heap.size ∨ w.heap.size = mt) := by
        rintro (h1 | h1)
        · have := HM.out.lt.1 _ h1; omega
        · have := HM.out.lt.2.2; omega
      obtain ⟨k0, k1, k2, k3, k4⟩ := HKC.out
      have k0 := hkp.cell (HXB.out.later _ _ k0) hnk
      have k1 := hkp.cell (HXB.out.later _ _ k1) hnk
      have k2 := hkp.cell (HXB.out.later _ _ k2) hnk
      have k3 := hkp.cell (HXB.out.later _ _ k3) hnk
      have k4 := hkp.cell (HXB.out.later _ _ k4) hnk
      have c1 := hM'.c1
      have hxd : Ext w3 w3.drew := Ext.drew _
      obtain ⟨w4, hup, hmp, hg4⟩ := run_update_of codedD Tryz.underlying169 (vv := vvD) (MapRaw.ext hM'.mp hxd : MapOf w3.drew kvD vvD mt D') hM'.nd k R.1.2
      rw [HKV.out] at hup
      have hup2 : (Instr.mapUpdate 169 (.map (some mt)) (.agg #[.int .i64 k.1.way, .int .i64 k.1.a, .int .i64 k.1.b, .int .i8 k.1.f, .int .u64 k.1.n]) (.agg #[.int .i64 (R.1.2 : Int)])).run Tryz.prog w3.drew = .ok () w4 := hup
      have HFIN := Hd (show MPost F w p m mt R (.returned (.int .i64 R.1.2)) w4 from by
        refine MPost.from HXW.out ⟨by rw [hr]; exact (endD_ok _).symm, F', store k R.1.2 D', ?_, hsub, ?_⟩
        · have h5 := hM'.ext hxd
          have hkg : Keep (· = mt) w3.drew w4 := Keep.grown hg4
          refine ⟨h5.st.keep hkg.size (fun b hb => hkg.block b (h5.st.lt b hb) fun e => h5.ne.2.1 (e ▸ hb)), hmp, store_keys h5.nd, hkg.cell h5.c0 h5.ne.2.2, hkg.cell h5.c1 h5.ne.2.2, h5.ne, h5.inv, (by
            obtain ⟨v0, t1, t2, t3, t4⟩ := h5.tb
            exact ⟨v0, t1, t2.trans' ⟨hkg.os, hkg.tape, hkg.output, hkg.size, fun i hi => hkg.block i (Nat.lt_of_lt_of_le hi t2.size) (fun e => by omega)⟩, t3, t4⟩), fun k' id hl => ?_⟩
          by_cases hkk : k' = k
          · subst hkk
            rw [look_store] at hl
            cases hl
            exact HGD.out hr
          · rw [look_other _ hkk] at hl
            exact h5.good k' id hl
        · exact (hkp.trans (hxd.keep _)).trans ((Keep.grown hg4).mono fun b _ hb => .inr hb))
      clear hM' hsub hkp hmp hg4 hup hr hnk
      go_wp2_with fail
      go_region
      all_goals (
        clear hup2 k0 k1 k2 k3 k4 c1
        go_wp2_with fail
        go_ret
        exact HFIN.out))
end Go.Proofs.YtjjbdbklbghlhaaGreatDoor
