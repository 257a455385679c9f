/- The plain law of NodesRows: rows in whatever order, however often. -/
import Derived.Test.YtjjbdbklbghlhaaGreatDoorMG
import Derived.Test.YtjjbdbklbghlhaaGreatDoorMM
import Derived.Test.YtjjbdbklbghlhaaGreatDoorMN
import Derived.Test.YtjjbdbklbghlhaaGreatDoorMS
namespace Go.Proofs.YtjjbdbklbghlhaaGreatDoor
open Go.RowKit Go.Sort Go.Maps Go.Lib
set_option linter.unusedSimpArgs false

theorem okR_perm {r s : RowD} (h : r.Perm s) : okR r = okR s := by
 unfold okR
 rw [Bool.eq_iff_iff, List.all_eq_true, List.all_eq_true]
 exact ⟨fun h1 x hx => h1 x (h.mem_iff.2 hx), fun h1 x hx => h1 x (h.mem_iff.1 hx)⟩
theorem rowP_perm {r s : RowD} (h : r.Perm s) : rowP r = rowP s := by
 unfold rowP
 have h1 : okR r = okR s := okR_perm h
 have h2 : (r.map AcD.f).Nodup ↔ (s.map AcD.f).Nodup := (h.map AcD.f).nodup_iff
 by_cases hc : okR r = true ∧ (r.map AcD.f).Nodup
 ·rw [if_pos hc, if_pos ⟨h1 ▸ hc.1, h2.1 hc.2⟩]
  exact congrArg some (fsorted_eq hc.2 (sortF_perm r) (sortF_sorted r) ((sortF_perm s).trans h.symm) (sortF_sorted s))
 ·rw [if_neg hc, if_neg fun hd => hc ⟨h1.symm ▸ hd.1, h2.2 hd.2⟩]
theorem mapM_mem {α β : Type} {f : α → Option β} : ∀ {l : List α} {m : List β}, l.mapM f = some m → ∀ x, x ∈ m ↔ ∃ s ∈ l, f s = some x
 | [], m, h, x => by cases h; simp
 | z :: l, m, h, x => by
  rw [List.mapM_cons] at h
  cases hz : f z with
  | none => rw [hz] at h; cases h
  | some u =>
   rw [hz] at h
   cases hl : l.mapM f with
   | none => rw [hl] at h; cases h
   | some m' =>
    rw [hl] at h
    have h : some (u :: m') = some m := h
    cases h
    rw [List.mem_cons, mapM_mem hl x]
    constructor
    ·rintro (rfl | ⟨s, hs, he⟩)
     ·exact ⟨z, List.mem_cons_self, hz⟩
     ·exact ⟨s, List.mem_cons_of_mem _ hs, he⟩
    ·rintro ⟨s, hs, he⟩
     rcases List.mem_cons.1 hs with rfl | hs
     ·rw [hz] at he; cases he; exact .inl rfl
     ·exact .inr ⟨s, hs, he⟩
theorem mapM_no {α β : Type} {f : α → Option β} : ∀ {l : List α}, l.mapM f = none → ∃ s ∈ l, f s = none
 | [], h => by cases h
 | z :: l, h => by
  cases hz : f z with
  | none => exact ⟨z, List.mem_cons_self, hz⟩
  | some u =>
   cases hl : l.mapM f with
   | none =>
    obtain ⟨s, hs, he⟩ := mapM_no hl
    exact ⟨s, List.mem_cons_of_mem _ hs, he⟩
   | some m' =>
    rw [List.mapM_cons, hz, hl] at h
    cases h
/-- rows that rise -/
def RAsc (l : List RowD) : Prop := l.Pairwise fun r s => rkey r < rkey s
theorem ddGo_asc : ∀ (l : List RowD) (x : RowD), (x :: l).Pairwise (fun r s => leR r s = true) →
  RAsc (x :: ddGo (fun r s => cmpR r s == 0) x l) ∧ ∀ z ∈ l, ∃ y ∈ x :: ddGo (fun r s => cmpR r s == 0) x l, rkey y = rkey z
 | [], x, _ => ⟨List.pairwise_singleton _ _, fun z h => by cases h⟩
 | y :: l, x, h => by
  obtain ⟨h1, h2⟩ := List.pairwise_cons.1 h
  obtain ⟨i1, i2⟩ := ddGo_asc l y h2
  have hle : leR x y = true := h1 y List.mem_cons_self
  rw [ddGo]
  by_cases hq : cmpR y x = 0
  ·have hk := cmpR_zero.1 hq
   rw [if_pos (by simpa using hq)]
   obtain ⟨j1, j2⟩ := List.pairwise_cons.1 i1
   refine ⟨List.pairwise_cons.2 ⟨fun z hz => by rw [← hk]; exact j1 z hz, j2⟩, fun z hz => ?_⟩
   rcases List.mem_cons.1 hz with rfl | hz
   ·exact ⟨x, List.mem_cons_self, hk.symm⟩
   ·obtain ⟨u, hu, he⟩ := i2 z hz
    rcases List.mem_cons.1 hu with rfl | hu
    ·exact ⟨x, List.mem_cons_self, hk.symm.trans he⟩
    ·exact ⟨u, List.mem_cons_of_mem _ hu, he⟩
  ·rw [if_neg (by simpa using hq)]
   have hlt : rkey x < rkey y := by
    simp only [leR, Bool.not_eq_true', decide_eq_false_iff_not, List.not_lt] at hle
    rcases List.le_iff_lt_or_eq.1 hle with h3 | h3
    ·exact h3
    ·exact absurd (cmpR_zero.2 h3.symm) hq
   obtain ⟨j1, j2⟩ := List.pairwise_cons.1 i1
   refine ⟨List.pairwise_cons.2 ⟨fun z hz => ?_, i1⟩, fun z hz => ?_⟩
   ·rcases List.mem_cons.1 hz with rfl | hz
    ·exact hlt
    ·exact List.lt_trans hlt (j1 z hz)
   ·rcases List.mem_cons.1 hz with rfl | hz
    ·exact ⟨z, List.mem_cons_of_mem _ List.mem_cons_self, rfl⟩
    ·obtain ⟨u, hu, he⟩ := i2 z hz
     exact ⟨u, List.mem_cons_of_mem _ hu, he⟩
theorem ddR_asc (l : List RowD) : RAsc (ddR (sortR l)) ∧ ∀ z ∈ l, ∃ y ∈ ddR (sortR l), rkey y = rkey z := by
 have hs := sortR_sorted l
 have hp := sortR_perm l
 generalize sortR l = m at *
 cases m with
 | nil => exact ⟨List.Pairwise.nil, fun z hz => by have := hp.mem_iff.2 hz; cases this⟩
 | cons x m =>
  obtain ⟨h1, h2⟩ := ddGo_asc m x hs
  refine ⟨h1, fun z hz => ?_⟩
  rcases List.mem_cons.1 (hp.mem_iff.2 hz) with rfl | hz
  ·exact ⟨z, List.mem_cons_self, rfl⟩
  ·exact h2 z hz
theorem asc_ext : ∀ {a b : List RowD}, RAsc a → RAsc b → (∀ x, x ∈ a ↔ x ∈ b) → a = b
 | [], [], _, _, _ => rfl
 | [], y :: b, _, _, h => by have := (h y).2 List.mem_cons_self; cases this
 | x :: a, [], _, _, h => by have := (h x).1 List.mem_cons_self; cases this
 | x :: a, y :: b, ha, hb, h => by
  obtain ⟨a1, a2⟩ := List.pairwise_cons.1 ha
  obtain ⟨b1, b2⟩ := List.pairwise_cons.1 hb
  have e : x = y := by
   rcases List.mem_cons.1 ((h x).1 List.mem_cons_self) with e | hx
   ·exact e
   ·rcases List.mem_cons.1 ((h y).2 List.mem_cons_self) with e | hy
    ·exact e.symm
    ·exact absurd (List.lt_trans (b1 x hx) (a1 y hy)) (List.lt_irrefl _)
  subst e
  rw [asc_ext a2 b2 fun z => ?_]
  constructor
  ·intro hz
   rcases List.mem_cons.1 ((h z).1 (List.mem_cons_of_mem _ hz)) with rfl | hz2
   ·exact absurd (a1 _ hz) (List.lt_irrefl _)
   ·exact hz2
  ·intro hz
   rcases List.mem_cons.1 ((h z).2 (List.mem_cons_of_mem _ hz)) with rfl | hz2
   ·exact absurd (b1 _ hz) (List.lt_irrefl _)
   ·exact hz2
theorem ddR_mem {l : List RowD} (hn : ∀ r ∈ l, okR r = true) (x : RowD) : x ∈ ddR (sortR l) ↔ x ∈ l := by
 have hsub : ∀ z, z ∈ ddR (sortR l) → z ∈ l := fun z hz => (sortR_perm l).mem_iff.1 (ddG_mem _ _ z hz)
 refine ⟨hsub x, fun hx => ?_⟩
 obtain ⟨y, hy, he⟩ := (ddR_asc l).2 x hx
 rw [← rkey_inj (hn y (hsub y hy)) (hn x hx) he]
 exact hy
theorem rowsP_mem {l m : List RowD} (h : rowsP l = some m) (x : RowD) : x ∈ m ↔ ∃ s ∈ l, rowP s = some x := by
 unfold rowsP at h
 cases hl : l.mapM rowP with
 | none => rw [hl] at h; cases h
 | some a =>
  rw [hl] at h
  have h : some (ddR (sortR a)) = some m := h
  cases h
  rw [ddR_mem (mapM_ok hl), mapM_mem hl]
theorem rowsP_rises {l m : List RowD} (h : rowsP l = some m) : RAsc m := by
 unfold rowsP at h
 cases hl : l.mapM rowP with
 | none => rw [hl] at h; cases h
 | some a =>
  rw [hl] at h
  have h : some (ddR (sortR a)) = some m := h
  cases h
  exact (ddR_asc a).1
theorem rowsP_no {l : List RowD} (h : rowsP l = none) : ∃ s ∈ l, rowP s = none := by
 unfold rowsP at h
 cases hl : l.mapM rowP with
 | none => exact mapM_no hl
 | some a => rw [hl] at h; cases h
end Go.Proofs.YtjjbdbklbghlhaaGreatDoor
/- What diagrams mean, in plain words: stores that are good; tests and leaves. -/
namespace Go.Proofs.YtjjbdbklbghlhaaGreatDoor
open Go.RowKit Go.Sort Go.Maps Go.Lib
set_option linter.unusedSimpArgs false

theorem fits_rng {f n : Int} (h : fitsB f n = true) : (0 ≤ f ∧ f ≤ 10) ∧ (0 ≤ n ∧ n ≤ 18446744073709551615) := by
 refine ⟨fits_bd h, ?_⟩
 have h0 : 0 ≤ n := (okA_bd (a := ⟨0, f, n⟩) (by unfold okA; simp [h])).2.2.2
 refine ⟨h0, ?_⟩
 unfold fitsB fitsK at h
 split at h
 ·cases h
 ·obtain ⟨k, hk1, hk2⟩ := widthI_le f
  rw [hk1, Int.toNat_natCast] at h
  have h1 : n / (2 : Int) ^ k = 0 := by simpa using h
  have hp : (0 : Int) < 2 ^ k := Int.pow_pos (by decide)
  have h2 := Int.emod_lt_of_pos n hp
  have h3 := Int.mul_ediv_add_emod n ((2 : Int) ^ k)
  rw [h1, Int.mul_zero, Int.zero_add] at h3
  have h4 : (2 : Nat) ^ k ≤ 2 ^ 48 := Nat.pow_le_pow_right (by decide) hk2
  have h5 : ((2 : Int) ^ k) = (((2 : Nat) ^ k : Nat) : Int) := by simp
  rw [h3, h5] at h2
  have h6 : (2 : Nat) ^ 48 = 281474976710656 := by decide
  omega
theorem leaf_ok0 (s : List RowD) : (⟨-1, 0, 0, 0, s⟩ : NdD).ok := by
 unfold NdD.ok
 dsimp only
 omega
structure Gd (L : List NdD) : Prop where
 o : InvO L
 f : InvF L
 l : InvL L
theorem Gd.nil : Gd [] := ⟨InvO.nil, InvF.nil, InvL.nil⟩
theorem Steps.good {L M : List NdD} (hs : Steps L M) (h : Gd L) : Gd M := by
 refine ⟨?_, hs.fits h.f, ?_⟩
 ·induction hs with
  | refl => exact h.o
  | leaf r _ ih => exact (leafR_fine ih r).inv
  | test p a b _ ih => exact (testR_fine ih p a b).inv
 ·induction hs with
  | refl => exact h.l
  | @leaf M r _ ih =>
   show InvL (leafP M r).2
   unfold leafP
   split
   ·exact ih
   ·rename_i s hs
    split
    ·exact ih
    ·rename_i h64
     unfold putN
     split
     ·exact ih
     ·rename_i hfn
      unfold addN
      split
      ·exact ih
      ·rename_i hfull
       refine InvL.snoc ih (fun i hi => ?_) (by omega) ⟨leaf_ok0 s, .inl ⟨r, rfl, hs, by show s.length ≤ 64; omega⟩⟩
       have := findN_at ih.1 hi
       rw [hfn] at this
       cases this
  | @test M p a b _ ih =>
   show InvL (testP M p.1 p.2 a b).2
   unfold testP
   split
   ·rename_i hc
    split
    ·split
     ·exact ih
     ·split
      ·exact ih
      ·unfold putN
       split
       ·exact ih
       ·rename_i hfn
        unfold addN
        split
        ·exact ih
        ·rename_i hfull
         obtain ⟨⟨r1, r2⟩, r3, r4⟩ := fits_rng hc.1
         refine InvL.snoc ih (fun i hi => ?_) (by omega) ⟨⟨⟨by show (-128 : Int) ≤ p.1; omega, by show p.1 ≤ 127; omega⟩, ⟨r3, r4⟩, ⟨by show (-9223372036854775808 : Int) ≤ (a : Int); omega, by show (a : Int) ≤ 9223372036854775807; omega⟩, ⟨by show (-9223372036854775808 : Int) ≤ (b : Int); omega, by show (b : Int) ≤ 9223372036854775807; omega⟩⟩, .inr ⟨r1, rfl⟩⟩
         have := findN_at ih.1 hi
         rw [hfn] at this
         cases this
    ·exact ih
   ·exact ih

/-- the rows that a header comes to -/
def leafOf (L : List NdD) (a : Nat) (h : Hdr) : List RowD := (nodeP L (downP (a + 1) L a h)).leaf
theorem leafOf_leaf {L : List NdD} {a : Nat} {h : Hdr} (hf : (nodeP L a).f < 0) : leafOf L a h = (nodeP L a).leaf := by
 unfold leafOf
 rw [downP, if_pos hf]
theorem leafOf_test {L : List NdD} (hI : InvO L) {a : Nat} {h : Hdr} (ha : a < L.length) (hf : ¬ (nodeP L a).f < 0) : leafOf L a h = if h.f (nodeP L a).f.toNat = (nodeP L a).n then leafOf L (nodeP L a).hi.toNat h else leafOf L (nodeP L a).lo.toNat h := by
 have hk := hI.kids ha (by omega)
 unfold leafOf
 rw [downP, if_neg hf]
 split
 ·rw [downP_fuel hI (k := a) (k' := (nodeP L a).hi.toNat + 1) (by omega) (by omega) (by omega)]
 ·rw [downP_fuel hI (k := a) (k' := (nodeP L a).lo.toNat + 1) (by omega) (by omega) (by omega)]
theorem downP_pre {L M : List NdD} (hI : InvO L) (hp : L <+: M) {h : Hdr} : ∀ {k a : Nat}, a < L.length → downP k M a h = downP k L a h ∧ downP k L a h < L.length
 | 0, a, ha => ⟨rfl, ha⟩
 | k + 1, a, ha => by
  rw [downP, downP, nodeP_pre hp ha]
  by_cases hf : (nodeP L a).f < 0
  ·rw [if_pos hf, if_pos hf]; exact ⟨rfl, ha⟩
  ·have hk := hI.kids ha (by omega)
   rw [if_neg hf, if_neg hf]
   split
   ·exact downP_pre hI hp (by omega)
   ·exact downP_pre hI hp (by omega)
theorem leafOf_pre {L M : List NdD} (hI : InvO L) (hp : L <+: M) {a : Nat} {h : Hdr} (ha : a < L.length) : leafOf M a h = leafOf L a h := by
 have hd := downP_pre hI hp (h := h) (k := a + 1) ha
 unfold leafOf
 rw [hd.1, nodeP_pre hp hd.2]

/-- tests behind a test -/
def Aft (L : List NdD) (t : Int × Int) (a : Nat) : Prop := 0 ≤ (nodeP L a).f → (t.1 < (nodeP L a).f ∨ (t.1 = (nodeP L a).f ∧ t.2 < (nodeP L a).n))
def AftF (L : List NdD) (f : Int) (a : Nat) : Prop := 0 ≤ (nodeP L a).f → f < (nodeP L a).f
/-- not ahead of a test -/
def NotB (L : List NdD) (t : Int × Int) (a : Nat) : Prop := 0 ≤ (nodeP L a).f → (t.1 < (nodeP L a).f ∨ (t.1 = (nodeP L a).f ∧ t.2 ≤ (nodeP L a).n))
theorem Aft.pre {L M : List NdD} {t : Int × Int} {a : Nat} (h : Aft L t a) (hp : L <+: M) (ha : a < L.length) : Aft M t a := by unfold Aft; rw [nodeP_pre hp ha]; exact h
theorem AftF.pre {L M : List NdD} {f : Int} {a : Nat} (h : AftF L f a) (hp : L <+: M) (ha : a < L.length) : AftF M f a := by unfold AftF; rw [nodeP_pre hp ha]; exact h
theorem NotB.pre {L M : List NdD} {t : Int × Int} {a : Nat} (h : NotB L t a) (hp : L <+: M) (ha : a < L.length) : NotB M t a := by unfold NotB; rw [nodeP_pre hp ha]; exact h
theorem behind_iff {f n : Int} {h l : NdD} : behindB f n h l = false ↔ (0 ≤ h.f → f < h.f) ∧ (0 ≤ l.f → (f < l.f ∨ (f = l.f ∧ n < l.n))) := by
 unfold behindB orI cmp1
 simp only [Bool.or_eq_false_iff, Bool.and_eq_false_iff, decide_eq_false_iff_not]
 constructor
 ·rintro ⟨h1, h2⟩
  refine ⟨fun h3 => by omega, fun h3 => ?_⟩
  rcases h2 with h2 | h2
  ·omega
  ·repeat' split at h2
   all_goals omega
 ·rintro ⟨h1, h2⟩
  refine ⟨?_, ?_⟩
  ·by_cases h3 : 0 ≤ h.f
   ·have := h1 h3; omega
   ·exact .inl h3
  ·by_cases h3 : 0 ≤ l.f
   ·have := h2 h3
    right
    repeat' split
    all_goals omega
   ·exact .inl h3
theorem Gd.kids {L : List NdD} (h : Gd L) {a : Nat} (ha : a < L.length) (hf : 0 ≤ (nodeP L a).f) : AftF L (nodeP L a).f (nodeP L a).hi.toNat ∧ Aft L ((nodeP L a).f, (nodeP L a).n) (nodeP L a).lo.toNat := by
 obtain ⟨hi, lo, x, y, h1, h2, h3, h4, h5, h6, h7, h8⟩ := h.o a _ (nodeP_some ha) hf
 have hb := behind_iff.1 h8
 rw [h1, h2]
 unfold AftF Aft
 rw [Int.toNat_natCast, Int.toNat_natCast, nodeP_get h6, nodeP_get h7]
 exact hb
theorem Gd.fit {L : List NdD} (h : Gd L) {a : Nat} (ha : a < L.length) (hf : 0 ≤ (nodeP L a).f) : fitsB (nodeP L a).f (nodeP L a).n = true := h.f _ (List.mem_of_getElem? (nodeP_some ha)) hf
end Go.Proofs.YtjjbdbklbghlhaaGreatDoor
/- What diagrams mean, in plain words: leaves and tests made, union, pick. -/
namespace Go.Proofs.YtjjbdbklbghlhaaGreatDoor
open Go.RowKit Go.Sort Go.Maps Go.Lib
set_option linter.unusedSimpArgs false

/-- an answer that is right, or too big -/
def Okay (R : Out) : Prop := R.1.1 = 0 ∨ R.1.1 = 200
theorem Okay.bind {R : Out} {k : Nat → List NdD → Out} (h : Okay R) (hk : R.1.1 = 0 → Okay (k R.1.2 R.2)) : Okay (bindR R k) := by
 unfold bindR
 split
 ·rename_i h0; exact hk h0
 ·exact h
theorem bindR_zero {R : Out} {k : Nat → List NdD → Out} (h : (bindR R k).1.1 = 0) : R.1.1 = 0 ∧ bindR R k = k R.1.2 R.2 := by
 unfold bindR at *
 split at h
 ·rename_i h0; exact ⟨h0, if_pos h0⟩
 ·rename_i h0; exact absurd h h0

/-- a row in normal form -/
def RowN (r : RowD) : Prop := rowP r = some r
theorem rowP_norm {r s : RowD} (h : rowP r = some s) : RowN s := by
 have h1 := rowP_perm (r := s) (s := r) (by
  unfold rowP at h
  split at h
  ·cases h; exact sortF_perm r
  ·cases h)
 unfold RowN
 rw [h1, h]
theorem Gd.leafN {L : List NdD} (h : Gd L) {a : Nat} (ha : a < L.length) : ∀ r ∈ (nodeP L a).leaf, RowN r := by
 intro r hr
 rcases (h.l.2.2 _ (List.mem_of_getElem? (nodeP_some ha))).2 with ⟨l', -, hl', -⟩ | ⟨-, hl'⟩
 ·obtain ⟨s, -, hs⟩ := (rowsP_mem hl' r).1 hr
  exact rowP_norm hs
 ·rw [hl'] at hr; cases hr
theorem Gd.leafLen {L : List NdD} (h : Gd L) {a : Nat} (ha : a < L.length) : (nodeP L a).leaf.length ≤ 64 := by
 rcases (h.l.2.2 _ (List.mem_of_getElem? (nodeP_some ha))).2 with ⟨l', -, -, h64⟩ | ⟨-, hl'⟩
 ·exact h64
 ·rw [hl']; simp
theorem down_lt {L : List NdD} (h : InvO L) {a : Nat} {x : Hdr} (ha : a < L.length) : downP (a + 1) L a x < L.length := (downP_pre h (List.prefix_refl L) ha).2
theorem Gd.leafOfN {L : List NdD} (h : Gd L) {a : Nat} {x : Hdr} (ha : a < L.length) : ∀ r ∈ leafOf L a x, RowN r := h.leafN (down_lt h.o ha)
theorem putN_at {L : List NdD} {x : NdD} (h : (putN L x).1.2 = 0) : nodeP (putN L x).2 (putN L x).1.1.toNat = x := by
 unfold putN at *
 split at h
 ·rename_i i hf
  dsimp only
  rw [Int.toNat_natCast]
  unfold findN at hf
  obtain ⟨h1, h2, -⟩ := List.findIdx?_eq_some_iff_getElem.1 hf
  refine nodeP_get ?_
  rw [List.getElem?_eq_getElem h1]
  have : L[i] = x := by simpa using h2
  rw [this]
 ·unfold addN at *
  split at h
  ·have h : (200 : Int) = 0 := h
   exact absurd h (by decide)
  ·rename_i hb
   rw [if_neg hb]
   dsimp only
   rw [Int.toNat_natCast]
   exact nodeP_get (by simp)
theorem putN_code (L : List NdD) (x : NdD) : (putN L x).1.2 = 0 ∨ (putN L x).1.2 = 200 := by
 unfold putN
 split
 ·exact .inl rfl
 ·unfold addN
  split
  ·exact .inr rfl
  ·exact .inl rfl
theorem leafR_sem {L : List NdD} {l : List RowD} (h : ∀ r ∈ l, (rowP r).isSome) : Okay (leafR L l) ∧ ((leafR L l).1.1 = 0 → ∃ m, rowsP l = some m ∧ nodeP (leafR L l).2 (leafR L l).1.2 = ⟨-1, 0, 0, 0, m⟩) := by
 unfold leafR leafP Okay
 cases hl : rowsP l with
 | none =>
  obtain ⟨s, hs, he⟩ := rowsP_no hl
  have := h s hs
  rw [he] at this
  cases this
 | some m =>
  dsimp only
  split
  ·exact ⟨.inr rfl, fun h0 => by
    have h0 : (200 : Int) = 0 := h0
    exact absurd h0 (by decide)⟩
  ·exact ⟨putN_code _ _, fun h0 => ⟨m, rfl, putN_at h0⟩⟩
theorem leafR_means {L : List NdD} {l : List RowD} (h : ∀ r ∈ l, (rowP r).isSome) (h0 : (leafR L l).1.1 = 0) : (nodeP (leafR L l).2 (leafR L l).1.2).f < 0 ∧ ∀ x r, r ∈ leafOf (leafR L l).2 (leafR L l).1.2 x ↔ ∃ s ∈ l, rowP s = some r := by
 obtain ⟨m, hm, hn⟩ := (leafR_sem h).2 h0
 have hf : (nodeP (leafR L l).2 (leafR L l).1.2).f < 0 := by rw [hn]; show (-1 : Int) < 0; decide
 refine ⟨hf, fun x r => ?_⟩
 rw [leafOf_leaf hf, hn]
 exact rowsP_mem hm r
theorem aft_leaf {L : List NdD} {a : Nat} (hf : (nodeP L a).f < 0) : (∀ t, Aft L t a) ∧ ∀ f, AftF L f a := ⟨fun _ h => by omega, fun _ h => by omega⟩

theorem testR_sem {L : List NdD} (hG : Gd L) {p : Int × Int} {x y : Nat} (hx : x < L.length) (hy : y < L.length) (hf : fitsB p.1 p.2 = true) (hA : AftF L p.1 x) (hB : Aft L p y) :
  Okay (testR L p x y) ∧ ((testR L p x y).1.1 = 0 → (∀ h, leafOf (testR L p x y).2 (testR L p x y).1.2 h = if h.f p.1.toNat = p.2 then leafOf L x h else leafOf L y h) ∧
   (∀ t : Int × Int, (t.1 < p.1 ∨ (t.1 = p.1 ∧ t.2 < p.2)) → Aft (testR L p x y).2 t (testR L p x y).1.2) ∧ (∀ f, f < p.1 → AftF (testR L p x y).2 f (testR L p x y).1.2)) := by
 have hfb := fits_bd hf
 have hbh : behindB p.1 p.2 (nodeP L x) (nodeP L y) = false := behind_iff.2 ⟨hA, hB⟩
 have htp : testP L p.1 p.2 x y = if x = y then (((x : Int), 0), L) else putN L ⟨p.1, p.2, x, y, []⟩ := by
  unfold testP
  rw [if_pos ⟨hf, ⟨by omega, by omega⟩, by omega, by omega⟩]
  simp only [Int.toNat_natCast, nodeP_some hx, nodeP_some hy, hbh]
  by_cases hxy : x = y
  ·rw [if_pos hxy, if_neg (by simp), if_pos (by rw [hxy])]
  ·rw [if_neg hxy, if_neg (by simp), if_neg (by omega)]
 by_cases hxy : x = y
 ·rw [if_pos hxy] at htp
  have hT : testR L p x y = ((0, x), L) := by unfold testR; rw [htp]; rfl
  rw [hT]
  refine ⟨.inl rfl, fun _ => ⟨fun h => ?_, fun t ht h0 => ?_, fun f hf h0 => ?_⟩⟩
  ·subst hxy; split <;> rfl
  ·have := hA h0; left; show t.1 < (nodeP L x).f; omega
  ·have h0 : 0 ≤ (nodeP L x).f := h0
   have := hA h0
   show f < (nodeP L x).f
   omega
 ·rw [if_neg hxy] at htp
  have hc := putN_code L ⟨p.1, p.2, x, y, []⟩
  have hfi := testR_fine hG.o p x y
  refine ⟨by unfold Okay testR; rw [htp]; exact hc, fun h0 => ?_⟩
  have hlt := hfi.lt h0
  have hn : nodeP (testR L p x y).2 (testR L p x y).1.2 = ⟨p.1, p.2, x, y, []⟩ := by
   have h0' : (putN L ⟨p.1, p.2, x, y, []⟩).1.2 = 0 := by
    have : (testR L p x y).1.1 = (putN L ⟨p.1, p.2, x, y, []⟩).1.2 := by unfold testR; rw [htp]
    rw [← this]; exact h0
   have := putN_at h0'
   unfold testR
   rw [htp]
   exact this
  refine ⟨fun h => ?_, fun t ht _ => ?_, fun f hf _ => ?_⟩
  ·rw [leafOf_test hfi.inv hlt (by rw [hn]; dsimp only; omega), hn]
   dsimp only
   rw [Int.toNat_natCast, Int.toNat_natCast, leafOf_pre hG.o hfi.pre hx, leafOf_pre hG.o hfi.pre hy]
  ·rw [hn]; exact ht
  ·rw [hn]; exact hf

/-- what is left where a test holds, or not -/
theorem hiP_sem {L : List NdD} (hG : Gd L) {p : Int × Int} (hp : 0 ≤ p.1) : ∀ {k a : Nat}, a < L.length → a < k → (∀ h : Hdr, h.f p.1.toNat = p.2 → leafOf L (hiP L p.1 p.2 k a) h = leafOf L a h) ∧ (∀ f, AftF L f a → AftF L f (hiP L p.1 p.2 k a)) ∧ ((0 ≤ (nodeP L a).f → p.1 ≤ (nodeP L a).f) → AftF L p.1 (hiP L p.1 p.2 k a))
 | 0, _, _, h => absurd h (Nat.not_lt_zero _)
 | k + 1, a, ha, hk => by
  rw [hiP]
  by_cases hx : (nodeP L a).f = p.1
  ·rw [if_pos hx]
   have hf0 : 0 ≤ (nodeP L a).f := by omega
   have hkd := hG.o.kids ha hf0
   obtain ⟨hA, hB⟩ := hG.kids ha hf0
   by_cases hn : (nodeP L a).n = p.2
   ·rw [if_pos hn]
    refine ⟨fun h hh => ?_, fun f hf h0 => ?_, fun _ h0 => ?_⟩
    ·rw [leafOf_test hG.o ha (by omega), if_pos (by rw [hx, hn]; exact hh)]
    ·have := hf hf0
     have := hA h0
     omega
    ·have := hA h0
     omega
   ·rw [if_neg hn]
    obtain ⟨i1, i2, i3⟩ := hiP_sem hG hp (k := k) (a := (nodeP L a).lo.toNat) (by omega) (by omega)
    refine ⟨fun h hh => ?_, fun f hf => i2 f (fun h0 => ?_), fun _ => i3 (fun h0 => ?_)⟩
    ·rw [i1 h hh, leafOf_test hG.o ha (by omega), if_neg (by rw [hx, hh]; exact fun e => hn e.symm)]
    ·have := hf hf0
     have := hB h0
     dsimp only at this
     omega
    ·have := hB h0
     dsimp only at this
     omega
  ·rw [if_neg hx]
   refine ⟨fun _ _ => rfl, fun f hf => hf, fun h1 h0 => ?_⟩
   have := h1 h0
   omega
theorem hiA_sem {L : List NdD} (hG : Gd L) {p : Int × Int} (hp : 0 ≤ p.1) {a : Nat} (ha : a < L.length) : (∀ h : Hdr, h.f p.1.toNat = p.2 → leafOf L (hiA L p.1 p.2 a) h = leafOf L a h) ∧ (∀ f, AftF L f a → AftF L f (hiA L p.1 p.2 a)) ∧ ((0 ≤ (nodeP L a).f → p.1 ≤ (nodeP L a).f) → AftF L p.1 (hiA L p.1 p.2 a)) := hiP_sem hG hp ha (by omega)
theorem loA_sem {L : List NdD} (hG : Gd L) {p : Int × Int} (hp : 0 ≤ p.1) {a : Nat} (ha : a < L.length) : (∀ h : Hdr, h.f p.1.toNat ≠ p.2 → leafOf L (loA L p.1 p.2 a) h = leafOf L a h) ∧ (∀ f, AftF L f a → AftF L f (loA L p.1 p.2 a)) ∧ (∀ t, Aft L t a → Aft L t (loA L p.1 p.2 a)) ∧ (NotB L p a → Aft L p (loA L p.1 p.2 a)) := by
 unfold loA
 by_cases hx : (nodeP L a).f = p.1 ∧ (nodeP L a).n = p.2
 ·rw [if_pos hx]
  have hf0 : 0 ≤ (nodeP L a).f := by omega
  obtain ⟨hA, hB⟩ := hG.kids ha hf0
  refine ⟨fun h hh => ?_, fun f hf h0 => ?_, fun t ht h0 => ?_, fun _ h0 => ?_⟩
  ·rw [leafOf_test hG.o ha (by omega), if_neg (by rw [hx.1, hx.2]; exact hh)]
  ·have := hf hf0
   have := hB h0
   dsimp only at this
   omega
  ·have := ht hf0
   have := hB h0
   dsimp only at this
   omega
  ·have := hB h0
   dsimp only at this
   omega
 ·rw [if_neg hx]
  refine ⟨fun _ _ => rfl, fun f hf => hf, fun t ht => ht, fun hn h0 => ?_⟩
  have := hn h0
  omega
theorem firstA_notB {L : List NdD} {a b : Nat} : NotB L (firstA L a b) a ∧ NotB L (firstA L a b) b := by
 unfold NotB firstA aheadB
 constructor
 ·intro h
  split
  ·right; exact ⟨rfl, Int.le_refl _⟩
  ·rename_i hc
   simp only [not_or, not_and, Bool.not_eq_false, Bool.or_eq_true, Bool.and_eq_true, decide_eq_true_eq] at hc
   have := hc.2 h
   dsimp only
   omega
 ·intro h
  split
  ·rename_i hc
   simp only [Bool.or_eq_false_iff, Bool.and_eq_false_iff, decide_eq_false_iff_not] at hc
   dsimp only
   omega
  ·right; exact ⟨rfl, Int.le_refl _⟩
theorem firstA_fit {L : List NdD} (hG : Gd L) {a b : Nat} (ha : a < L.length) (hb : b < L.length) (h0 : 0 ≤ (firstA L a b).1) : fitsB (firstA L a b).1 (firstA L a b).2 = true := by
 rcases firstA_root h0 with ⟨h1, h2⟩ | ⟨h1, h2⟩
 ·rw [← h1, ← h2]; exact hG.fit ha (by omega)
 ·rw [← h1, ← h2]; exact hG.fit hb (by omega)
/-- what stands ahead of both stands ahead of the first -/
theorem firstA_aft {L : List NdD} {a b : Nat} (h0 : 0 ≤ (firstA L a b).1) {t : Int × Int} (h1 : Aft L t a) (h2 : Aft L t b) : t.1 < (firstA L a b).1 ∨ (t.1 = (firstA L a b).1 ∧ t.2 < (firstA L a b).2) := by
 rcases firstA_root h0 with ⟨e1, e2⟩ | ⟨e1, e2⟩
 ·rw [← e1, ← e2]; exact h1 (by omega)
 ·rw [← e1, ← e2]; exact h2 (by omega)
theorem firstA_aftF {L : List NdD} {a b : Nat} (h0 : 0 ≤ (firstA L a b).1) {f : Int} (h1 : AftF L f a) (h2 : AftF L f b) : f < (firstA L a b).1 := by
 rcases firstA_root h0 with ⟨e1, e2⟩ | ⟨e1, e2⟩
 ·rw [← e1]; exact h1 (by omega)
 ·rw [← e1]; exact h2 (by omega)

/-- union: all that a makes, and b -/
structure UnionSem (L : List NdD) (a b : Nat) (R : Out) : Prop where
 ok : Okay R
 sem : R.1.1 = 0 → ∀ h r, r ∈ leafOf R.2 R.1.2 h ↔ (r ∈ leafOf L a h ∨ r ∈ leafOf L b h)
 aft : R.1.1 = 0 → ∀ t, Aft L t a → Aft L t b → Aft R.2 t R.1.2
 aftF : R.1.1 = 0 → ∀ f, AftF L f a → AftF L f b → AftF R.2 f R.1.2
theorem rowN_some {r : RowD} (h : RowN r) : (rowP r).isSome := by unfold RowN at h; rw [h]; rfl
theorem unionP_sem : ∀ {k : Nat} {L : List NdD} {a b : Nat}, Gd L → a < L.length → b < L.length → a + b < k → UnionSem L a b (unionP k L a b)
 | 0, _, _, _, _, _, _, h => absurd h (Nat.not_lt_zero _)
 | k + 1, L, a, b, hG, ha, hb, hk => by
  rw [unionP]
  split
  ·rename_i hab
   subst hab
   exact ⟨.inl rfl, fun _ h r => by simp, fun _ t h1 _ => h1, fun _ f h1 _ => h1⟩
  ·split
   ·rename_i hn
    have hrows : ∀ r ∈ (nodeP L a).leaf ++ (nodeP L b).leaf, (rowP r).isSome := fun r hr => by
     rcases List.mem_append.1 hr with hr | hr
     ·exact rowN_some (hG.leafN ha r hr)
     ·exact rowN_some (hG.leafN hb r hr)
    refine ⟨(leafR_sem hrows).1, fun h0 h r => ?_, fun h0 t _ _ => (aft_leaf (leafR_means hrows h0).1).1 t, fun h0 f _ _ => (aft_leaf (leafR_means hrows h0).1).2 f⟩
    rw [(leafR_means hrows h0).2, leafOf_leaf hn.1, leafOf_leaf hn.2]
    constructor
    ·rintro ⟨s, hs, he⟩
     rcases List.mem_append.1 hs with hs | hs
     ·have := hG.leafN ha s hs
      unfold RowN at this
      rw [this] at he
      cases he
      exact .inl hs
     ·have := hG.leafN hb s hs
      unfold RowN at this
      rw [this] at he
      cases he
      exact .inr hs
    ·rintro (hr | hr)
     ·exact ⟨r, List.mem_append_left _ hr, hG.leafN ha r hr⟩
     ·exact ⟨r, List.mem_append_right _ hr, hG.leafN hb r hr⟩
   ·rename_i hn
    obtain ⟨h0, h1, h2, h3, h4, h5, h6⟩ := first_falls hG.o ha hb hn
    dsimp only
    have hfit := firstA_fit hG ha hb h0
    obtain ⟨na, nb⟩ := firstA_notB (L := L) (a := a) (b := b)
    have haft := fun t => firstA_aft (L := L) (a := a) (b := b) (t := t) h0
    have haftF := fun f => firstA_aftF (L := L) (a := a) (b := b) (f := f) h0
    generalize firstA L a b = p at *
    obtain ⟨ha1, ha2, ha3⟩ := hiA_sem hG h0 (a := a) ha
    obtain ⟨hb1, hb2, hb3⟩ := hiA_sem hG h0 (a := b) hb
    obtain ⟨la1, la2, la3, la4⟩ := loA_sem hG h0 (a := a) ha
    obtain ⟨lb1, lb2, lb3, lb4⟩ := loA_sem hG h0 (a := b) hb
    have hu := unionP_sem (k := k) (a := hiA L p.1 p.2 a) (b := hiA L p.1 p.2 b) hG (by omega) (by omega) (by omega)
    have hf := unionP_fine (k := k) (a := hiA L p.1 p.2 a) (b := hiA L p.1 p.2 b) hG.o (by omega) (by omega)
    have hs := unionP_steps k L (hiA L p.1 p.2 a) (hiA L p.1 p.2 b)
    generalize unionP k L (hiA L p.1 p.2 a) (hiA L p.1 p.2 b) = R1 at *
    have hG1 := hs.good hG
    have hl := hf.pre.length_le
    have hlq : loA R1.2 p.1 p.2 a = loA L p.1 p.2 a ∧ loA R1.2 p.1 p.2 b = loA L p.1 p.2 b := ⟨loA_pre hf.pre ha, loA_pre hf.pre hb⟩
    have hu2 := unionP_sem (k := k) (L := R1.2) (a := loA L p.1 p.2 a) (b := loA L p.1 p.2 b) hG1 (by omega) (by omega) (by omega)
    have hf2 := unionP_fine (k := k) (L := R1.2) (a := loA L p.1 p.2 a) (b := loA L p.1 p.2 b) hf.inv (by omega) (by omega)
    have hs2 := unionP_steps k R1.2 (loA L p.1 p.2 a) (loA L p.1 p.2 b)
    obtain ⟨R2, hR2⟩ : ∃ R2, R2 = unionP k R1.2 (loA L p.1 p.2 a) (loA L p.1 p.2 b) := ⟨_, rfl⟩
    rw [← hR2] at hu2 hf2 hs2
    have hE : (bindR R1 fun h L1 => bindR (unionP k L1 (loA L1 p.1 p.2 a) (loA L1 p.1 p.2 b)) fun l L2 => testR L2 p h l) = bindR R1 fun h L1 => bindR R2 fun l L2 => testR L2 p h l := by
     unfold bindR
     split
     ·dsimp only
      rw [hlq.1, hlq.2, ← hR2]
     ·rfl
    rw [hE]
    have hG2 := hs2.good hG1
    have hl2 := hf2.pre.length_le
    have ht : R1.1.1 = 0 → R2.1.1 = 0 → Okay (testR R2.2 p R1.1.2 R2.1.2) ∧ _ := fun r1 r2 => testR_sem hG2 (p := p) (x := R1.1.2) (y := R2.1.2) (by have := hf.lt r1; omega) (hf2.lt r2) hfit
     ((hu.aftF r1 p.1 (ha3 (fun h => by have := na h; omega)) (hb3 (fun h => by have := nb h; omega))).pre hf2.pre (hf.lt r1))
     (hu2.aft r2 p ((la4 na).pre hf.pre (by omega)) ((lb4 nb).pre hf.pre (by omega)))
    have hR : ∀ h0 : (bindR R1 fun h L1 => bindR R2 fun l L2 => testR L2 p h l).1.1 = 0, R1.1.1 = 0 ∧ R2.1.1 = 0 ∧ (bindR R1 fun h L1 => bindR R2 fun l L2 => testR L2 p h l) = testR R2.2 p R1.1.2 R2.1.2 ∧ (testR R2.2 p R1.1.2 R2.1.2).1.1 = 0 := fun h0 => by
     obtain ⟨r1, e1⟩ := bindR_zero h0
     rw [e1] at h0
     obtain ⟨r2, e2⟩ := bindR_zero h0
     refine ⟨r1, r2, e1.trans e2, ?_⟩
     rw [e2] at h0
     exact h0
    refine ⟨hu.ok.bind fun r1 => hu2.ok.bind fun r2 => (ht r1 r2).1, fun h0 h r => ?_, fun h0 t t1 t2 => ?_, fun h0 f f1 f2 => ?_⟩
    ·obtain ⟨r1, r2, e, z⟩ := hR h0
     rw [e, ((ht r1 r2).2 z).1 h]
     split
     ·rename_i hh
      rw [leafOf_pre hf.inv hf2.pre (hf.lt r1), hu.sem r1, ha1 h hh, hb1 h hh]
     ·rename_i hh
      rw [hu2.sem r2, leafOf_pre hG.o hf.pre (by omega), leafOf_pre hG.o hf.pre (by omega), la1 h hh, lb1 h hh]
    ·obtain ⟨r1, r2, e, z⟩ := hR h0
     rw [e]
     exact ((ht r1 r2).2 z).2.1 t (haft t t1 t2)
    ·obtain ⟨r1, r2, e, z⟩ := hR h0
     rw [e]
     exact ((ht r1 r2).2 z).2.2 f (haftF f f1 f2)
end Go.Proofs.YtjjbdbklbghlhaaGreatDoor
/- What diagrams mean, in plain words: pick; rows of settings on headers. -/
namespace Go.Proofs.YtjjbdbklbghlhaaGreatDoor
open Go.RowKit Go.Sort Go.Maps Go.Lib
set_option linter.unusedSimpArgs false

/-- pick: one where a test holds, another where it does not -/
structure PickSem (L : List NdD) (t : Int × Int) (a b : Nat) (R : Out) : Prop where
 ok : Okay R
 sem : R.1.1 = 0 → ∀ h : Hdr, leafOf R.2 R.1.2 h = if h.f t.1.toNat = t.2 then leafOf L a h else leafOf L b h
 aft : R.1.1 = 0 → ∀ u : Int × Int, (u.1 < t.1 ∨ (u.1 = t.1 ∧ u.2 < t.2)) → Aft L u a → Aft L u b → Aft R.2 u R.1.2
 aftF : R.1.1 = 0 → ∀ f, f < t.1 → AftF L f a → AftF L f b → AftF R.2 f R.1.2
theorem pickP_sem : ∀ {k : Nat} {L : List NdD} {t : Int × Int} {a b : Nat}, Gd L → fitsB t.1 t.2 = true → a < L.length → b < L.length → a + b < k → PickSem L t a b (pickP k L t a b)
 | 0, _, _, _, _, _, _, _, _, h => absurd h (Nat.not_lt_zero _)
 | k + 1, L, t, a, b, hG, hft, ha, hb, hk => by
  rw [pickP]
  split
  ·rename_i hab
   subst hab
   exact ⟨.inl rfl, fun _ h => by split <;> rfl, fun _ u _ h1 _ => h1, fun _ f _ h1 _ => h1⟩
  ·dsimp only
   have ht0 := (fits_bd hft).1
   obtain ⟨na, nb⟩ := firstA_notB (L := L) (a := a) (b := b)
   have hneg := firstA_neg (L := L) (a := a) (b := b)
   split
   ·rename_i hc
    obtain ⟨ha1, ha2, ha3⟩ := hiA_sem hG ht0 (a := a) ha
    obtain ⟨lb1, lb2, lb3, lb4⟩ := loA_sem hG ht0 (a := b) hb
    have hA : AftF L t.1 (hiA L t.1 t.2 a) := ha3 (fun h => by
     have := na h
     rcases hc with hc | hc | hc
     ·have := (hneg.1 hc).1; omega
     ·omega
     ·omega)
    have hB : Aft L t (loA L t.1 t.2 b) := lb4 (fun h => by
     have := nb h
     rcases hc with hc | hc | hc
     ·have := (hneg.1 hc).2; omega
     ·omega
     ·omega)
    have hla := hiA_le hG.o ht0 (n := t.2) ha
    have hlb := loA_le hG.o ht0 (n := t.2) hb
    have hs := testR_sem hG (p := t) (x := hiA L t.1 t.2 a) (y := loA L t.1 t.2 b) (by omega) (by omega) hft hA hB
    refine ⟨hs.1, fun h0 h => ?_, fun h0 u hu _ _ => (hs.2 h0).2.1 u hu, fun h0 f hf _ _ => (hs.2 h0).2.2 f hf⟩
    rw [(hs.2 h0).1 h]
    split
    ·rename_i hh; rw [ha1 h hh]
    ·rename_i hh; rw [lb1 h hh]
   ·rename_i hc
    obtain ⟨h0, h1, h2, h3, h4, h5, h6⟩ := pick_falls hG.o ha hb hc
    have hfit := firstA_fit hG ha hb h0
    have haft := fun u => firstA_aft (L := L) (a := a) (b := b) (t := u) h0
    have haftF := fun f => firstA_aftF (L := L) (a := a) (b := b) (f := f) h0
    generalize firstA L a b = p at *
    obtain ⟨ha1, ha2, ha3⟩ := hiA_sem hG h0 (a := a) ha
    obtain ⟨hb1, hb2, hb3⟩ := hiA_sem hG h0 (a := b) hb
    obtain ⟨la1, la2, la3, la4⟩ := loA_sem hG h0 (a := a) ha
    obtain ⟨lb1, lb2, lb3, lb4⟩ := loA_sem hG h0 (a := b) hb
    have hpt : p.1 < t.1 ∨ (p.1 = t.1 ∧ p.2 < t.2) := by omega
    split
    ·rename_i hpe
     have hu := pickP_sem (k := k) (t := t) (a := loA L p.1 p.2 a) (b := loA L p.1 p.2 b) hG hft (by omega) (by omega) (by omega)
     have hf := pickP_fine (k := k) (t := t) (a := loA L p.1 p.2 a) (b := loA L p.1 p.2 b) hG.o (by omega) (by omega)
     have hs := pickP_steps k L t (loA L p.1 p.2 a) (loA L p.1 p.2 b)
     generalize pickP k L t (loA L p.1 p.2 a) (loA L p.1 p.2 b) = R1 at *
     have hG1 := hs.good hG
     have hl := hf.pre.length_le
     have hT : R1.1.1 = 0 → Okay (testR R1.2 p (hiA L p.1 p.2 b) R1.1.2) ∧ _ := fun r1 => testR_sem hG1 (p := p) (x := hiA L p.1 p.2 b) (y := R1.1.2) (by omega) (hf.lt r1) hfit
      ((hb3 (fun h => by have := nb h; omega)).pre hf.pre (by omega)) (hu.aft r1 p hpt (la4 na) (lb4 nb))
     have hR : ∀ h0 : (bindR R1 fun y L1 => testR L1 p (hiA L p.1 p.2 b) y).1.1 = 0, R1.1.1 = 0 ∧ (bindR R1 fun y L1 => testR L1 p (hiA L p.1 p.2 b) y) = testR R1.2 p (hiA L p.1 p.2 b) R1.1.2 ∧ (testR R1.2 p (hiA L p.1 p.2 b) R1.1.2).1.1 = 0 := fun h0 => by
      obtain ⟨r1, e1⟩ := bindR_zero h0
      rw [e1] at h0
      exact ⟨r1, e1, h0⟩
     refine ⟨hu.ok.bind fun r1 => (hT r1).1, fun h0 h => ?_, fun h0 u hu1 hu2 hu3 => ?_, fun h0 f f1 f2 f3 => ?_⟩
     ·obtain ⟨r1, e, z⟩ := hR h0
      rw [e, ((hT r1).2 z).1 h]
      by_cases hh : h.f p.1.toNat = p.2
      ·rw [if_pos hh, leafOf_pre hG.o hf.pre (by omega), hb1 h hh, if_neg (by rw [← hpe, hh]; omega)]
      ·rw [if_neg hh, hu.sem r1 h, la1 h hh, lb1 h hh]
     ·obtain ⟨r1, e, z⟩ := hR h0
      rw [e]
      exact ((hT r1).2 z).2.1 u (haft u hu2 hu3)
     ·obtain ⟨r1, e, z⟩ := hR h0
      rw [e]
      exact ((hT r1).2 z).2.2 f (haftF f f2 f3)
    ·rename_i hpe
     have hplt : p.1 < t.1 := by omega
     have hu := pickP_sem (k := k) (t := t) (a := hiA L p.1 p.2 a) (b := hiA L p.1 p.2 b) hG hft (by omega) (by omega) (by omega)
     have hf := pickP_fine (k := k) (t := t) (a := hiA L p.1 p.2 a) (b := hiA L p.1 p.2 b) hG.o (by omega) (by omega)
     have hs := pickP_steps k L t (hiA L p.1 p.2 a) (hiA L p.1 p.2 b)
     generalize pickP k L t (hiA L p.1 p.2 a) (hiA L p.1 p.2 b) = R1 at *
     have hG1 := hs.good hG
     have hl := hf.pre.length_le
     have hlq : loA R1.2 p.1 p.2 a = loA L p.1 p.2 a ∧ loA R1.2 p.1 p.2 b = loA L p.1 p.2 b := ⟨loA_pre hf.pre ha, loA_pre hf.pre hb⟩
     have hu2 := pickP_sem (k := k) (L := R1.2) (t := t) (a := loA L p.1 p.2 a) (b := loA L p.1 p.2 b) hG1 hft (by omega) (by omega) (by omega)
     have hf2 := pickP_fine (k := k) (L := R1.2) (t := t) (a := loA L p.1 p.2 a) (b := loA L p.1 p.2 b) hf.inv (by omega) (by omega)
     have hs2 := pickP_steps k R1.2 t (loA L p.1 p.2 a) (loA L p.1 p.2 b)
     obtain ⟨R2, hR2⟩ : ∃ R2, R2 = pickP k R1.2 t (loA L p.1 p.2 a) (loA L p.1 p.2 b) := ⟨_, rfl⟩
     rw [← hR2] at hu2 hf2 hs2
     have hE : (bindR R1 fun x L1 => bindR (pickP k L1 t (loA L1 p.1 p.2 a) (loA L1 p.1 p.2 b)) fun y L2 => testR L2 p x y) = bindR R1 fun x L1 => bindR R2 fun y L2 => testR L2 p x y := by
      unfold bindR
      split
      ·dsimp only
       rw [hlq.1, hlq.2, ← hR2]
      ·rfl
     rw [hE]
     have hG2 := hs2.good hG1
     have hl2 := hf2.pre.length_le
     have hT : R1.1.1 = 0 → R2.1.1 = 0 → Okay (testR R2.2 p R1.1.2 R2.1.2) ∧ _ := fun r1 r2 => testR_sem hG2 (p := p) (x := R1.1.2) (y := R2.1.2) (by have := hf.lt r1; omega) (hf2.lt r2) hfit
      ((hu.aftF r1 p.1 hplt (ha3 (fun h => by have := na h; omega)) (hb3 (fun h => by have := nb h; omega))).pre hf2.pre (hf.lt r1))
      (hu2.aft r2 p hpt ((la4 na).pre hf.pre (by omega)) ((lb4 nb).pre hf.pre (by omega)))
     have hR : ∀ h0 : (bindR R1 fun x L1 => bindR R2 fun y L2 => testR L2 p x y).1.1 = 0, R1.1.1 = 0 ∧ R2.1.1 = 0 ∧ (bindR R1 fun x L1 => bindR R2 fun y L2 => testR L2 p x y) = testR R2.2 p R1.1.2 R2.1.2 ∧ (testR R2.2 p R1.1.2 R2.1.2).1.1 = 0 := fun h0 => by
      obtain ⟨r1, e1⟩ := bindR_zero h0
      rw [e1] at h0
      obtain ⟨r2, e2⟩ := bindR_zero h0
      refine ⟨r1, r2, e1.trans e2, ?_⟩
      rw [e2] at h0
      exact h0
     refine ⟨hu.ok.bind fun r1 => hu2.ok.bind fun r2 => (hT r1 r2).1, fun h0 h => ?_, fun h0 u hu1 hu2 hu3 => ?_, fun h0 f f1 f2 f3 => ?_⟩
     ·obtain ⟨r1, r2, e, z⟩ := hR h0
      rw [e, ((hT r1 r2).2 z).1 h]
      by_cases hh : h.f p.1.toNat = p.2
      ·rw [if_pos hh, leafOf_pre hf.inv hf2.pre (hf.lt r1), hu.sem r1 h, ha1 h hh, hb1 h hh]
      ·rw [if_neg hh, hu2.sem r2 h, leafOf_pre hG.o hf.pre (by omega), leafOf_pre hG.o hf.pre (by omega), la1 h hh, lb1 h hh]
     ·obtain ⟨r1, r2, e, z⟩ := hR h0
      rw [e]
      exact ((hT r1 r2).2 z).2.1 u (haft u hu2 hu3)
     ·obtain ⟨r1, r2, e, z⟩ := hR h0
      rw [e]
      exact ((hT r1 r2).2 z).2.2 f (haftF f f2 f3)

/-- rows that can be set: valid, each field once -/
def RowV (r : RowD) : Prop := okR r = true ∧ (r.map AcD.f).Nodup
theorem RowN.v {r : RowD} (h : RowN r) : RowV r := by
 unfold RowN rowP at h
 split at h
 ·rename_i hc; exact hc
 ·cases h
theorem RowV.some {r : RowD} (h : RowV r) : rowP r = some (sortF r) := if_pos h
theorem RowV.isSome {r : RowD} (h : RowV r) : (rowP r).isSome := by rw [h.some]; rfl
theorem RowV.bd {r : RowD} (h : RowV r) : ∀ a ∈ r, (0 ≤ a.f ∧ a.f ≤ 10) ∧ (0 ≤ a.n ∧ a.n ≤ 18446744073709551615) := fun a ha => by
 have h1 := List.all_eq_true.1 h.1 a ha
 unfold okA at h1
 simp only [Bool.and_eq_true] at h1
 exact fits_rng h1.2
theorem RowV.tail {a : AcD} {r : RowD} (h : RowV (a :: r)) : RowV r := by
 refine ⟨?_, ?_⟩
 ·have := h.1
  unfold okR at *
  simp only [List.all_cons, Bool.and_eq_true] at this
  exact this.2
 ·have := h.2
  rw [List.map_cons, List.nodup_cons] at this
  exact this.2
theorem setRow_cons (a : AcD) (r : RowD) (h : Hdr) : setRow (a :: r) h = setRow r (h.put a.f.toNat a.n) := rfl
theorem setRow_none : ∀ {r : RowD} {h : Hdr} {i : Nat}, RowV r → (∀ a ∈ r, a.f ≠ (i : Int)) → (setRow r h).f i = h.f i
 | [], _, _, _, _ => rfl
 | a :: r, h, i, hv, hn => by
  have hb := hv.bd a (by simp)
  rw [setRow_cons, setRow_none hv.tail (fun x hx => hn x (by simp [hx])), Hdr.f_put _ _ _ _ hb.2 (by omega), if_neg (fun e => hn a (by simp) (by omega))]
theorem setRow_mem : ∀ {r : RowD} {h : Hdr} {a : AcD}, RowV r → a ∈ r → (setRow r h).f a.f.toNat = a.n
 | b :: r, h, a, hv, ha => by
  rw [setRow_cons]
  have hnd := hv.2
  rw [List.map_cons, List.nodup_cons] at hnd
  rcases List.mem_cons.1 ha with rfl | ha
  ·have hb := hv.bd a (by simp)
   rw [setRow_none hv.tail (fun x hx e => hnd.1 (by rw [show a.f = x.f from by omega]; exact List.mem_map_of_mem hx)), Hdr.f_put _ _ _ _ hb.2 (by omega), if_pos rfl]
  ·exact setRow_mem hv.tail ha
theorem setRow_perm {r s : RowD} {h : Hdr} (hv : RowV r) (hp : r.Perm s) : setRow r h = setRow s h := by
 have hs : RowV s := ⟨by rw [← okR_perm hp]; exact hv.1, (hp.map AcD.f).nodup_iff.1 hv.2⟩
 apply Hdr.ext
 intro i hi
 by_cases hc : ∃ a ∈ r, a.f = (i : Int)
 ·obtain ⟨a, ha, he⟩ := hc
  have h1 := setRow_mem (h := h) hv ha
  have h2 := setRow_mem (h := h) hs (hp.mem_iff.1 ha)
  rw [show a.f.toNat = i from by omega] at h1 h2
  rw [h1, h2]
 ·have hn : ∀ a ∈ r, a.f ≠ (i : Int) := fun a ha he => hc ⟨a, ha, he⟩
  rw [setRow_none hv hn, setRow_none hs (fun a ha => hn a (hp.mem_iff.2 ha))]
theorem rowP_perm' {r s : RowD} (h : rowP r = some s) : RowV r ∧ s.Perm r := by
 unfold rowP at h
 split at h
 ·rename_i hc; cases h; exact ⟨hc, sortF_perm r⟩
 ·cases h
theorem setRow_norm {r s : RowD} {h : Hdr} (hs : rowP r = some s) : setRow s h = setRow r h := by
 obtain ⟨h1, h2⟩ := rowP_perm' hs
 exact (setRow_perm h1 h2.symm).symm
theorem joinA_v {r m : RowD} (hr : RowV r) (hm : RowV m) : RowV (joinA r m) := by
 unfold joinA
 refine ⟨?_, ?_⟩
 ·unfold okR
  rw [List.all_append, Bool.and_eq_true]
  refine ⟨?_, hm.1⟩
  rw [List.all_eq_true]
  intro x hx
  exact List.all_eq_true.1 hr.1 x (List.mem_filter.1 hx).1
 ·rw [List.map_append, List.nodup_append]
  refine ⟨?_, hm.2, fun f hf g hg e => ?_⟩
  ·exact (hr.2).sublist (List.filter_sublist.map _)
  ·obtain ⟨a, ha, rfl⟩ := List.mem_map.1 hf
   obtain ⟨b, hb, rfl⟩ := List.mem_map.1 hg
   have h1 := (List.mem_filter.1 ha).2
   simp only [Bool.not_eq_true', List.any_eq_false, beq_iff_eq] at h1
   exact h1 b hb e
theorem setRow_join {r m : RowD} {h : Hdr} (hr : RowV r) (hm : RowV m) : setRow (joinA r m) h = setRow m (setRow r h) := by
 have hj := joinA_v hr hm
 apply Hdr.ext
 intro i hi
 by_cases hc : ∃ a ∈ m, a.f = (i : Int)
 ·obtain ⟨a, ha, he⟩ := hc
  have h1 := setRow_mem (h := h) hj (a := a) (List.mem_append_right _ ha)
  have h2 := setRow_mem (h := setRow r h) hm ha
  rw [show a.f.toNat = i from by omega] at h1 h2
  rw [h1, h2]
 ·have hn : ∀ a ∈ m, a.f ≠ (i : Int) := fun a ha he => hc ⟨a, ha, he⟩
  rw [setRow_none hm hn]
  by_cases hd : ∃ a ∈ r, a.f = (i : Int)
  ·obtain ⟨a, ha, he⟩ := hd
   have h1 := setRow_mem (h := h) hj (a := a) (List.mem_append_left _ (List.mem_filter.2 ⟨ha, by
    simp only [Bool.not_eq_true', List.any_eq_false, beq_iff_eq]
    intro b hb e
    exact hn b hb (by omega)⟩))
   have h2 := setRow_mem (h := h) hr ha
   rw [show a.f.toNat = i from by omega] at h1 h2
   rw [h1, h2]
  ·have hn2 : ∀ a ∈ r, a.f ≠ (i : Int) := fun a ha he => hd ⟨a, ha, he⟩
   rw [setRow_none hr hn2, setRow_none hj]
   intro a ha
   rcases List.mem_append.1 ha with ha | ha
   ·exact hn2 a (List.mem_filter.1 ha).1
   ·exact hn a ha
end Go.Proofs.YtjjbdbklbghlhaaGreatDoor
/- What diagrams mean, in plain words: behind, then. -/
namespace Go.Proofs.YtjjbdbklbghlhaaGreatDoor
open Go.RowKit Go.Sort Go.Maps Go.Lib
set_option linter.unusedSimpArgs false

/-- what b makes behind a row of settings -/
def BehindRows (L : List NdD) (row : RowD) (b : Nat) (h : Hdr) (r : RowD) : Prop := ∃ m ∈ leafOf L b (setRow row h), rowP (joinA row m) = some r
structure BehindSem (L : List NdD) (row : RowD) (b : Nat) (R : Out) : Prop where
 ok : Okay R
 sem : R.1.1 = 0 → ∀ h r, r ∈ leafOf R.2 R.1.2 h ↔ BehindRows L row b h r
theorem behindP_sem : ∀ {k : Nat} {L : List NdD} {row : RowD} {b : Nat}, Gd L → RowV row → b < L.length → b < k → BehindSem L row b (behindP k L row b)
 | 0, _, _, _, _, _, _, h => absurd h (Nat.not_lt_zero _)
 | k + 1, L, row, b, hG, hv, hb, hk => by
  rw [behindP]
  split
  ·rename_i hf
   have hrows : ∀ r ∈ (nodeP L b).leaf.map (joinA row), (rowP r).isSome := fun r hr => by
    obtain ⟨m, hm, rfl⟩ := List.mem_map.1 hr
    exact (joinA_v hv (hG.leafN hb m hm).v).isSome
   refine ⟨(leafR_sem hrows).1, fun h0 h r => ?_⟩
   rw [(leafR_means hrows h0).2]
   unfold BehindRows
   rw [leafOf_leaf hf]
   constructor
   ·rintro ⟨s, hs, he⟩
    obtain ⟨m, hm, rfl⟩ := List.mem_map.1 hs
    exact ⟨m, hm, he⟩
   ·rintro ⟨m, hm, he⟩
    exact ⟨_, List.mem_map_of_mem hm, he⟩
  ·rename_i hf
   have hf0 : 0 ≤ (nodeP L b).f := by omega
   have hkd := hG.o.kids hb hf0
   have hfit := hG.fit hb hf0
   have hfb := fits_bd hfit
   split
   ·rename_i a hfa
    have ham := List.mem_of_find?_eq_some hfa
    have hae : a.f = (nodeP L b).f := by simpa using List.find?_some hfa
    have hset : ∀ h : Hdr, (setRow row h).f (nodeP L b).f.toNat = a.n := fun h => by rw [← hae]; exact setRow_mem hv ham
    have hle : ∀ h : Hdr, leafOf L b (setRow row h) = if a.n = (nodeP L b).n then leafOf L (nodeP L b).hi.toNat (setRow row h) else leafOf L (nodeP L b).lo.toNat (setRow row h) := fun h => by
     rw [leafOf_test hG.o hb hf, hset]
    split
    ·rename_i hn
     have hu := behindP_sem (k := k) (row := row) (b := (nodeP L b).hi.toNat) hG hv (by omega) (by omega)
     refine ⟨hu.ok, fun h0 h r => ?_⟩
     rw [hu.sem h0]
     unfold BehindRows
     rw [hle h, if_pos hn]
    ·rename_i hn
     have hu := behindP_sem (k := k) (row := row) (b := (nodeP L b).lo.toNat) hG hv (by omega) (by omega)
     refine ⟨hu.ok, fun h0 h r => ?_⟩
     rw [hu.sem h0]
     unfold BehindRows
     rw [hle h, if_neg hn]
   ·rename_i hfn
    have hset : ∀ h : Hdr, (setRow row h).f (nodeP L b).f.toNat = h.f (nodeP L b).f.toNat := fun h => setRow_none hv (fun a ha e => by
     have := List.find?_eq_none.1 hfn a ha
     simp only [beq_iff_eq] at this
     exact this (by omega))
    have hle : ∀ h : Hdr, leafOf L b (setRow row h) = if h.f (nodeP L b).f.toNat = (nodeP L b).n then leafOf L (nodeP L b).hi.toNat (setRow row h) else leafOf L (nodeP L b).lo.toNat (setRow row h) := fun h => by
     rw [leafOf_test hG.o hb hf, hset]
    generalize (nodeP L b).f = xf at *
    generalize (nodeP L b).n = xn at *
    have hu := behindP_sem (k := k) (row := row) (b := (nodeP L b).hi.toNat) hG hv (by omega) (by omega)
    have hfi := behindP_fine (k := k) (row := row) (b := (nodeP L b).hi.toNat) hG.o (by omega)
    have hs := behindP_steps k L row (nodeP L b).hi.toNat
    generalize behindP k L row (nodeP L b).hi.toNat = R1 at *
    have hG1 := hs.good hG
    have hl := hfi.pre.length_le
    have hu2 := behindP_sem (k := k) (L := R1.2) (row := row) (b := (nodeP L b).lo.toNat) hG1 hv (by omega) (by omega)
    have hfi2 := behindP_fine (k := k) (L := R1.2) (row := row) (b := (nodeP L b).lo.toNat) hfi.inv (by omega)
    have hs2 := behindP_steps k R1.2 row (nodeP L b).lo.toNat
    obtain ⟨R2, hR2⟩ : ∃ R2, R2 = behindP k R1.2 row (nodeP L b).lo.toNat := ⟨_, rfl⟩
    rw [← hR2] at hu2 hfi2 hs2
    have hE : (bindR R1 fun h L1 => bindR (behindP k L1 row (nodeP L b).lo.toNat) fun l L2 => pickP (h + l + 1) L2 (xf, xn) h l) = bindR R1 fun h L1 => bindR R2 fun l L2 => pickP (h + l + 1) L2 (xf, xn) h l := by
     unfold bindR
     split
     ·dsimp only
      rw [← hR2]
     ·rfl
    rw [hE]
    have hG2 := hs2.good hG1
    have hl2 := hfi2.pre.length_le
    have hT : R1.1.1 = 0 → R2.1.1 = 0 → PickSem R2.2 (xf, xn) R1.1.2 R2.1.2 (pickP (R1.1.2 + R2.1.2 + 1) R2.2 (xf, xn) R1.1.2 R2.1.2) := fun r1 r2 => pickP_sem hG2 hfit (by have := hfi.lt r1; omega) (hfi2.lt r2) (by omega)
    refine ⟨hu.ok.bind fun r1 => hu2.ok.bind fun r2 => (hT r1 r2).ok, fun h0 h r => ?_⟩
    obtain ⟨r1, e1⟩ := bindR_zero h0
    rw [e1] at h0
    obtain ⟨r2, e2⟩ := bindR_zero h0
    rw [e2] at h0
    rw [e1, e2, (hT r1 r2).sem h0 h]
    unfold BehindRows
    rw [hle h]
    dsimp only
    split
    ·rename_i hh
     rw [leafOf_pre hfi.inv hfi2.pre (hfi.lt r1), hu.sem r1]
     rfl
    ·rename_i hh
     rw [hu2.sem r2]
     unfold BehindRows
     rw [leafOf_pre hG.o hfi.pre (by omega)]

/-- what b makes of what a makes -/
def ThenRows (L : List NdD) (b : Nat) (rs : List RowD) (h : Hdr) (r : RowD) : Prop := ∃ u ∈ rs, BehindRows L u b h r
theorem behindRows_pre {L M : List NdD} (hI : InvO L) (hp : L <+: M) {row : RowD} {b : Nat} (hb : b < L.length) {h : Hdr} {r : RowD} : BehindRows M row b h r ↔ BehindRows L row b h r := by
 unfold BehindRows
 rw [leafOf_pre hI hp hb]
theorem rowsThen_sem {b : Nat} {L : List NdD} (hG : Gd L) (hb : b < L.length) : ∀ {rs : List RowD} {R : Out}, (∀ r ∈ rs, RowV r) → Steps L R.2 → Fine L R → Okay R → Okay (rowsThen b rs R) ∧ ((rowsThen b rs R).1.1 = 0 → R.1.1 = 0 ∧ ∀ h r, r ∈ leafOf (rowsThen b rs R).2 (rowsThen b rs R).1.2 h ↔ (r ∈ leafOf R.2 R.1.2 h ∨ ThenRows L b rs h r))
 | [], R, _, _, _, ho => ⟨ho, fun h0 => ⟨h0, fun h r => by
   show r ∈ leafOf R.2 R.1.2 h ↔ _
   constructor
   ·exact .inl
   ·rintro (h1 | ⟨u, hu, -⟩)
    ·exact h1
    ·cases hu⟩⟩
 | u :: rs, R, hv, hst, hfi, ho => by
  rw [rowsThen]
  have hvu := hv u (by simp)
  obtain ⟨R', hR'⟩ : ∃ R', R' = bindR R fun o L => bindR (behindP (b + 1) L u b) fun c L1 => unionP (o + c + 1) L1 o c := ⟨_, rfl⟩
  rw [← hR']
  have hGR := hst.good hG
  have hbR : b < R.2.length := Nat.lt_of_lt_of_le hb hfi.pre.length_le
  have hbs := behindP_sem (k := b + 1) (L := R.2) (row := u) (b := b) hGR hvu hbR (by omega)
  have hbf := behindP_fine (k := b + 1) (L := R.2) (row := u) (b := b) hfi.inv hbR
  have hbst := behindP_steps (b + 1) R.2 u b
  obtain ⟨C, hC⟩ : ∃ C, C = behindP (b + 1) R.2 u b := ⟨_, rfl⟩
  rw [← hC] at hbs hbf hbst
  have hGC := hbst.good hGR
  have hus : R.1.1 = 0 → C.1.1 = 0 → UnionSem C.2 R.1.2 C.1.2 (unionP (R.1.2 + C.1.2 + 1) C.2 R.1.2 C.1.2) := fun r1 r2 => unionP_sem hGC (by have := hfi.lt r1; have := hbf.pre.length_le; omega) (hbf.lt r2) (by omega)
  have hst' : Steps L R'.2 := by
   rw [hR']
   exact bindR_steps hst (bindR_steps (behindP_steps _ _ _ _) (unionP_steps _ _ _ _))
  have hfi' : Fine L R' := by
   rw [hR']
   exact rowStep_fine hfi hb
  have hbind : ∀ h1 : R.1.1 = 0, R' = bindR C fun c L1 => unionP (R.1.2 + c + 1) L1 R.1.2 c := fun h1 => by
   rw [hR', hC]
   unfold bindR
   rw [if_pos h1]
  have ho' : Okay R' := by
   by_cases h1 : R.1.1 = 0
   ·rw [hbind h1]
    exact hbs.ok.bind fun r2 => (hus h1 r2).ok
   ·rw [hR']
    unfold bindR
    rw [if_neg h1]
    exact ho
  obtain ⟨i1, i2⟩ := rowsThen_sem hG hb (rs := rs) (R := R') (fun r hr => hv r (by simp [hr])) hst' hfi' ho'
  refine ⟨i1, fun h0 => ?_⟩
  obtain ⟨z1, z2⟩ := i2 h0
  have h1 : R.1.1 = 0 := by
   rw [hR'] at z1
   exact (bindR_zero z1).1
  rw [hbind h1] at z1
  obtain ⟨r2, e2⟩ := bindR_zero z1
  rw [e2] at z1
  refine ⟨h1, fun h r => ?_⟩
  rw [z2 h r, hbind h1, e2, (hus h1 r2).sem z1, leafOf_pre hfi.inv hbf.pre (hfi.lt h1), hbs.sem r2, behindRows_pre hG.o hfi.pre hb]
  unfold ThenRows
  constructor
  ·rintro ((h2 | h2) | ⟨v, hv2, h2⟩)
   ·exact .inl h2
   ·exact .inr ⟨u, by simp, h2⟩
   ·exact .inr ⟨v, by simp [hv2], h2⟩
  ·rintro (h2 | ⟨v, hv2, h2⟩)
   ·exact .inl (.inl h2)
   ·rcases List.mem_cons.1 hv2 with rfl | hv2
    ·exact .inl (.inr h2)
    ·exact .inr ⟨v, hv2, h2⟩
structure ThenSem (L : List NdD) (a b : Nat) (R : Out) : Prop where
 ok : Okay R
 sem : R.1.1 = 0 → ∀ h r, r ∈ leafOf R.2 R.1.2 h ↔ ThenRows L b (leafOf L a h) h r
theorem thenP_sem : ∀ {k : Nat} {L : List NdD} {a b : Nat}, Gd L → a < L.length → b < L.length → a < k → ThenSem L a b (thenP k L a b)
 | 0, _, _, _, _, _, _, h => absurd h (Nat.not_lt_zero _)
 | k + 1, L, a, b, hG, ha, hb, hk => by
  rw [thenP]
  split
  ·rename_i hf
   have hn : ∀ r ∈ ([] : List RowD), (rowP r).isSome := fun r hr => by cases hr
   obtain ⟨i1, i2⟩ := rowsThen_sem hG hb (rs := (nodeP L a).leaf) (R := leafR L []) (fun r hr => (hG.leafN ha r hr).v) (leafR_steps L []) (leafR_fine hG.o []) (leafR_sem hn).1
   refine ⟨i1, fun h0 h r => ?_⟩
   obtain ⟨z1, z2⟩ := i2 h0
   rw [z2 h r, leafOf_leaf hf, (leafR_means hn z1).2]
   constructor
   ·rintro (⟨s, hs, -⟩ | h1)
    ·cases hs
    ·exact h1
   ·exact .inr
  ·rename_i hf
   have hf0 : 0 ≤ (nodeP L a).f := by omega
   have hkd := hG.o.kids ha hf0
   have hfit := hG.fit ha hf0
   have hle := fun h => leafOf_test hG.o (h := h) ha hf
   generalize (nodeP L a).f = xf at *
   generalize (nodeP L a).n = xn at *
   have hu := thenP_sem (k := k) (a := (nodeP L a).hi.toNat) (b := b) hG (by omega) hb (by omega)
   have hfi := thenP_fine (k := k) (a := (nodeP L a).hi.toNat) (b := b) hG.o (by omega) hb
   have hs := thenP_steps k L (nodeP L a).hi.toNat b
   generalize thenP k L (nodeP L a).hi.toNat b = R1 at *
   have hG1 := hs.good hG
   have hl := hfi.pre.length_le
   have hu2 := thenP_sem (k := k) (L := R1.2) (a := (nodeP L a).lo.toNat) (b := b) hG1 (by omega) (by omega) (by omega)
   have hfi2 := thenP_fine (k := k) (L := R1.2) (a := (nodeP L a).lo.toNat) (b := b) hfi.inv (by omega) (by omega)
   have hs2 := thenP_steps k R1.2 (nodeP L a).lo.toNat b
   obtain ⟨R2, hR2⟩ : ∃ R2, R2 = thenP k R1.2 (nodeP L a).lo.toNat b := ⟨_, rfl⟩
   rw [← hR2] at hu2 hfi2 hs2
   have hE : (bindR R1 fun h L1 => bindR (thenP k L1 (nodeP L a).lo.toNat b) fun l L2 => pickP (h + l + 1) L2 (xf, xn) h l) = bindR R1 fun h L1 => bindR R2 fun l L2 => pickP (h + l + 1) L2 (xf, xn) h l := by
    unfold bindR
    split
    ·dsimp only
     rw [← hR2]
    ·rfl
   rw [hE]
   have hG2 := hs2.good hG1
   have hl2 := hfi2.pre.length_le
   have hT : R1.1.1 = 0 → R2.1.1 = 0 → PickSem R2.2 (xf, xn) R1.1.2 R2.1.2 (pickP (R1.1.2 + R2.1.2 + 1) R2.2 (xf, xn) R1.1.2 R2.1.2) := fun r1 r2 => pickP_sem hG2 hfit (by have := hfi.lt r1; omega) (hfi2.lt r2) (by omega)
   refine ⟨hu.ok.bind fun r1 => hu2.ok.bind fun r2 => (hT r1 r2).ok, fun h0 h r => ?_⟩
   obtain ⟨r1, e1⟩ := bindR_zero h0
   rw [e1] at h0
   obtain ⟨r2, e2⟩ := bindR_zero h0
   rw [e2] at h0
   rw [e1, e2, (hT r1 r2).sem h0 h, hle h]
   dsimp only
   split
   ·rename_i hh
    rw [leafOf_pre hfi.inv hfi2.pre (hfi.lt r1), hu.sem r1]
   ·rename_i hh
    rw [hu2.sem r2, leafOf_pre hG.o hfi.pre (by omega)]
    unfold ThenRows
    constructor
    ·rintro ⟨u, h1, h2⟩; exact ⟨u, h1, (behindRows_pre hG.o hfi.pre hb).1 h2⟩
    ·rintro ⟨u, h1, h2⟩; exact ⟨u, h1, (behindRows_pre hG.o hfi.pre hb).2 h2⟩

/-- what a diagram makes, as a set of headers -/
def Makes (L : List NdD) (a : Nat) (h x : Hdr) : Prop := ∃ r ∈ leafOf L a h, setRow r h = x
theorem makes_pre {L M : List NdD} (hI : InvO L) (hp : L <+: M) {a : Nat} (ha : a < L.length) {h x : Hdr} : Makes M a h x ↔ Makes L a h x := by
 unfold Makes
 rw [leafOf_pre hI hp ha]
theorem union_makes {L : List NdD} {a b : Nat} {R : Out} (h : UnionSem L a b R) (h0 : R.1.1 = 0) (x y : Hdr) : Makes R.2 R.1.2 x y ↔ Makes L a x y ∨ Makes L b x y := by
 unfold Makes
 constructor
 ·rintro ⟨r, hr, he⟩
  rcases (h.sem h0 x r).1 hr with h1 | h1
  ·exact .inl ⟨r, h1, he⟩
  ·exact .inr ⟨r, h1, he⟩
 ·rintro (⟨r, hr, he⟩ | ⟨r, hr, he⟩)
  ·exact ⟨r, (h.sem h0 x r).2 (.inl hr), he⟩
  ·exact ⟨r, (h.sem h0 x r).2 (.inr hr), he⟩
theorem then_makes {L : List NdD} (hG : Gd L) {a b : Nat} (ha : a < L.length) (hb : b < L.length) {R : Out} (h : ThenSem L a b R) (h0 : R.1.1 = 0) (x y : Hdr) : Makes R.2 R.1.2 x y ↔ ∃ z, Makes L a x z ∧ Makes L b z y := by
 constructor
 ·rintro ⟨r, hr, he⟩
  obtain ⟨u, hu, m, hm, hj⟩ := (h.sem h0 x r).1 hr
  have hvu := (hG.leafOfN ha u hu).v
  have hvm := (hG.leafOfN hb m hm).v
  refine ⟨setRow u x, ⟨u, hu, rfl⟩, m, hm, ?_⟩
  rw [← setRow_join hvu hvm, ← setRow_norm hj, he]
 ·rintro ⟨z, ⟨u, hu, rfl⟩, m, hm, he⟩
  have hvu := (hG.leafOfN ha u hu).v
  have hvm := (hG.leafOfN hb m hm).v
  have hj := (joinA_v hvu hvm).some
  refine ⟨_, (h.sem h0 x _).2 ⟨u, hu, m, hm, hj⟩, ?_⟩
  rw [setRow_norm hj, setRow_join hvu hvm, he]
end Go.Proofs.YtjjbdbklbghlhaaGreatDoor
/- How great unions become, in plain words. -/
namespace Go.Proofs.YtjjbdbklbghlhaaGreatDoor
open Go.RowKit Go.Sort Go.Maps Go.Lib
set_option linter.unusedSimpArgs false

/-- no way down has more than d tests, and no leaf below more than n rows -/
def Dp (L : List NdD) (n : Nat) : Nat → Nat → Prop
 | 0, a => (nodeP L a).f < 0 ∧ (nodeP L a).leaf.length ≤ n
 | d + 1, a => ((nodeP L a).f < 0 ∧ (nodeP L a).leaf.length ≤ n) ∨ (0 ≤ (nodeP L a).f ∧ Dp L n d (nodeP L a).hi.toNat ∧ Dp L n d (nodeP L a).lo.toNat)
theorem Dp.leaf {L : List NdD} {n : Nat} : ∀ {d a : Nat}, Dp L n d a → (nodeP L a).f < 0 → (nodeP L a).leaf.length ≤ n
 | 0, _, h, _ => h.2
 | d + 1, _, h, hf => by
  rcases h with h | h
  ·exact h.2
  ·omega
theorem Dp.of_leaf {L : List NdD} {n d a : Nat} (hf : (nodeP L a).f < 0) (hl : (nodeP L a).leaf.length ≤ n) : Dp L n d a := by
 cases d with
 | zero => exact ⟨hf, hl⟩
 | succ d => exact .inl ⟨hf, hl⟩
theorem Dp.kids {L : List NdD} {n d a : Nat} (h : Dp L n d a) (hf : 0 ≤ (nodeP L a).f) : ∃ e, d = e + 1 ∧ Dp L n e (nodeP L a).hi.toNat ∧ Dp L n e (nodeP L a).lo.toNat := by
 cases d with
 | zero => have := h.1; omega
 | succ d =>
  rcases h with h | h
  ·omega
  ·exact ⟨d, rfl, h.2⟩
theorem Dp.mono {L : List NdD} {n m : Nat} (hn : n ≤ m) : ∀ {d e a : Nat}, Dp L n d a → d ≤ e → Dp L m e a
 | 0, e, a, h, _ => Dp.of_leaf h.1 (by have := h.2; omega)
 | d + 1, e, a, h, hd => by
  obtain ⟨e', rfl⟩ : ∃ e', e = e' + 1 := ⟨e - 1, by omega⟩
  rcases h with h | h
  ·exact .inl ⟨h.1, by omega⟩
  ·exact .inr ⟨h.1, h.2.1.mono hn (by omega), h.2.2.mono hn (by omega)⟩
theorem Dp.pre {L M : List NdD} {n : Nat} (hI : InvO L) (hp : L <+: M) : ∀ {d a : Nat}, a < L.length → Dp L n d a → Dp M n d a
 | 0, a, ha, h => by unfold Dp at *; rw [nodeP_pre hp ha]; exact h
 | d + 1, a, ha, h => by
  unfold Dp at *
  rw [nodeP_pre hp ha]
  rcases h with h | h
  ·exact .inl h
  ·have hk := hI.kids ha h.1
   exact .inr ⟨h.1, Dp.pre hI hp (by omega) h.2.1, Dp.pre hI hp (by omega) h.2.2⟩
theorem Dp.hiP {L : List NdD} (hI : InvO L) {n : Nat} {f v : Int} (hf : 0 ≤ f) : ∀ {k d a : Nat}, a < L.length → Dp L n d a → Dp L n d (hiP L f v k a)
 | 0, _, _, _, h => h
 | k + 1, d, a, ha, h => by
  rw [Go.Proofs.YtjjbdbklbghlhaaGreatDoor.hiP]
  split
  ·rename_i hx
   have hk := hI.kids ha (by omega)
   obtain ⟨e, rfl, h1, h2⟩ := h.kids (by omega)
   split
   ·exact h1.mono (Nat.le_refl _) (by omega)
   ·exact Dp.hiP hI hf (by omega) (h2.mono (Nat.le_refl _) (by omega))
  ·exact h
theorem Dp.hiA {L : List NdD} (hI : InvO L) {n : Nat} {f v : Int} (hf : 0 ≤ f) {d a : Nat} (ha : a < L.length) (h : Dp L n d a) : Dp L n d (hiA L f v a) := Dp.hiP hI hf ha h
theorem Dp.loA {L : List NdD} {n : Nat} {f v : Int} {d a : Nat} (hf : 0 ≤ f) (h : Dp L n d a) : Dp L n d (loA L f v a) := by
 unfold Go.Proofs.YtjjbdbklbghlhaaGreatDoor.loA
 split
 ·rename_i hx
  obtain ⟨e, rfl, h1, h2⟩ := h.kids (by omega)
  exact h2.mono (Nat.le_refl _) (by omega)
 ·exact h
end Go.Proofs.YtjjbdbklbghlhaaGreatDoor
/- What diagrams make, as lists; stars, in plain words. -/
namespace Go.Proofs.YtjjbdbklbghlhaaGreatDoor
open Go.RowKit Go.Sort Go.Maps Go.Lib
set_option linter.unusedSimpArgs false

theorem dd_mem {y : Hdr} : ∀ {l : List Hdr}, y ∈ dd l ↔ y ∈ l
 | [] => Iff.rfl
 | [x] => Iff.rfl
 | x :: z :: r => by
  have ih := dd_mem (y := y) (l := z :: r)
  rw [dd_cons]
  split
  ·rename_i e
   rw [ih, List.mem_cons (a := y) (b := x)]
   constructor
   ·exact .inr
   ·rintro (h | h)
    ·rw [h, e]; exact List.mem_cons_self
    ·exact h
  ·rw [List.mem_cons, ih, ← List.mem_cons]
theorem dd_asc' : ∀ {l : List Hdr}, l.Pairwise (fun a b => (!ltH b a) = true) → Asc (dd l)
 | [], _ => List.Pairwise.nil
 | [x], _ => by simp [dd, Asc]
 | x :: y :: r, h => by
  have h1 := List.pairwise_cons.1 h
  have ih := dd_asc' h1.2
  rw [dd_cons]
  by_cases hxy : x = y
  ·rw [if_pos hxy]; exact ih
  ·rw [if_neg hxy]
   refine List.pairwise_cons.2 ⟨fun z hz => ?_, ih⟩
   rw [dd_mem] at hz
   have hzx : ltH z x = false := by simpa using h1.1 z hz
   cases hxz : ltH x z with
   | true => rfl
   | false =>
    exfalso
    have e : x = z := ltH_conn hxz hzx
    subst e
    have hyx : ltH y x = false := by simpa using h1.1 y List.mem_cons_self
    have h2 := List.pairwise_cons.1 h1.2
    rcases List.mem_cons.1 hz with e | hz
    ·exact hxy e
    ·have hxy2 : ltH x y = false := by simpa using h2.1 x hz
     exact hxy (ltH_conn hxy2 hyx)
/-- what a node of the store makes of a header -/
def runsN (L : List NdD) (a : Nat) (h : Hdr) : List Hdr := makeL L (downP (a + 1) L a h) h
theorem runsN_asc (L : List NdD) (a : Nat) (h : Hdr) : Asc (runsN L a h) := dd_asc' (sortH_sorted _)
theorem runsN_mem {L : List NdD} {a : Nat} {h y : Hdr} : y ∈ runsN L a h ↔ Makes L a h y := by
 unfold runsN makeL Makes leafOf
 rw [dd_mem, (sortH_perm _).mem_iff, List.mem_map]
theorem runsN_len {L : List NdD} (hG : Gd L) {a : Nat} {h : Hdr} (ha : a < L.length) : (runsN L a h).length ≤ 64 := makeL_len (hG.leafLen (down_lt hG.o ha))
/-- rounds -/
def It (D : Hdr → Hdr → Prop) : Nat → Hdr → Hdr → Prop
 | 0, h, y => y = h
 | n + 1, h, y => y = h ∨ ∃ z, It D n h z ∧ D z y
theorem It.up {D : Hdr → Hdr → Prop} : ∀ {n : Nat} {h y : Hdr}, It D n h y → It D (n + 1) h y
 | 0, h, y, e => .inl e
 | n + 1, h, y, e => by
  rcases e with e | ⟨z, hz, hd⟩
  ·exact .inl e
  ·exact .inr ⟨z, It.up hz, hd⟩
theorem It.up_le {D : Hdr → Hdr → Prop} {n m : Nat} {h y : Hdr} (hn : n ≤ m) (e : It D n h y) : It D m h y := by
 induction hn with
 | refl => exact e
 | step _ ih => exact ih.up
theorem It.stay {D : Hdr → Hdr → Prop} {n : Nat} {h : Hdr} (hs : ∀ y, It D (n + 1) h y → It D n h y) : ∀ {m : Nat}, n ≤ m → ∀ {y : Hdr}, It D m h y → It D n h y := by
 intro m hm
 induction hm with
 | refl => exact id
 | @step m _ ih =>
  intro y e
  rcases e with e | ⟨z, hz, hd⟩
  ·exact hs y (.inl e)
  ·exact hs y (.inr ⟨z, ih hz, hd⟩)

structure StarSem (L : List NdD) (a k : Nat) (R : Out) : Prop where
 ok : Okay R
 sem : R.1.1 = 0 → ∃ J, J ≤ k ∧ (∀ h y, Makes R.2 R.1.2 h y ↔ It (Makes L a) J h y) ∧ ∀ h y, It (Makes L a) (J + 1) h y → It (Makes L a) J h y
theorem starR_sem {L : List NdD} {id a out : Nat} (hG : Gd L) (hi : id < L.length) (ha : a < L.length) (ho : out < L.length) (h1 : ∀ h y, Makes L id h y ↔ y = h) : Okay (starR L id a out) ∧ ((starR L id a out).1.1 = 0 → ∀ h y, Makes (starR L id a out).2 (starR L id a out).1.2 h y ↔ (y = h ∨ ∃ z, Makes L out h z ∧ Makes L a z y)) := by
 unfold starR
 have ht := thenP_sem (k := out + 1) hG ho ha (by omega)
 have hf := thenP_fine (k := out + 1) hG.o ho ha
 have hs := thenP_steps (out + 1) L out a
 generalize thenP (out + 1) L out a = T at *
 have hGT := hs.good hG
 have hl := hf.pre.length_le
 have hu : T.1.1 = 0 → UnionSem T.2 id T.1.2 (unionP (id + T.1.2 + 1) T.2 id T.1.2) := fun r => unionP_sem hGT (by omega) (hf.lt r) (by omega)
 refine ⟨ht.ok.bind fun r => (hu r).ok, fun h0 => ?_⟩
 obtain ⟨r1, e1⟩ := bindR_zero h0
 rw [e1] at h0 ⊢
 intro h y
 rw [union_makes (hu r1) h0, makes_pre hG.o hf.pre hi, h1, then_makes hG ho ha ht r1]
theorem starLoop_sem {L : List NdD} {a : Nat} (hG : Gd L) (ha : a < L.length) : ∀ {k : Nat} {M : List NdD} {id out n : Nat}, Gd M → L <+: M → id < M.length → out < M.length → (∀ h y, Makes M id h y ↔ y = h) → (∀ h y, Makes M out h y ↔ It (Makes L a) n h y) → StarSem L a (n + k) (starLoop k M id a out)
 | 0, M, id, out, n, _, _, _, _, _, _ => ⟨.inr rfl, fun h => by
  have h : (200 : Int) = 0 := h
  exact absurd h (by decide)⟩
 | k + 1, M, id, out, n, hGM, hp, hi, ho, h1, h2 => by
  rw [starLoop]
  have haM : a < M.length := Nat.lt_of_lt_of_le ha hp.length_le
  obtain ⟨s1, s2⟩ := starR_sem hGM hi haM ho h1
  have hf := starR_fine hGM.o hi haM ho
  have hst : Steps M (starR M id a out).2 := bindR_steps (thenP_steps _ _ _ _) (unionP_steps _ _ _ _)
  generalize starR M id a out = R at *
  have hl := hf.pre.length_le
  have hnx : R.1.1 = 0 → ∀ h y, Makes R.2 R.1.2 h y ↔ It (Makes L a) (n + 1) h y := fun r h y => by
   rw [s2 r]
   have e : ∀ z, Makes M out h z ∧ Makes M a z y ↔ It (Makes L a) n h z ∧ Makes L a z y := fun z => by rw [h2, makes_pre hG.o hp ha]
   show _ ↔ (y = h ∨ ∃ z, It (Makes L a) n h z ∧ Makes L a z y)
   constructor
   ·rintro (h3 | ⟨z, hz⟩)
    ·exact .inl h3
    ·exact .inr ⟨z, (e z).1 hz⟩
   ·rintro (h3 | ⟨z, hz⟩)
    ·exact .inl h3
    ·exact .inr ⟨z, (e z).2 hz⟩
  have hrest : R.1.1 = 0 → R.1.2 ≠ out → StarSem L a (n + 1 + k) (starLoop k R.2 id a R.1.2) := fun r _ => starLoop_sem hG ha (hst.good hGM) (hp.trans hf.pre) (by omega) (hf.lt r) (fun h y => by rw [makes_pre hGM.o hf.pre hi, h1]) (hnx r)
  refine ⟨s1.bind fun r => ?_, fun h0 => ?_⟩
  ·split
   ·exact .inl rfl
   ·rename_i hne
    exact (hrest r hne).ok
  ·obtain ⟨r1, e1⟩ := bindR_zero h0
   rw [e1] at h0 ⊢
   by_cases he : R.1.2 = out
   ·rw [if_pos he]
    dsimp only
    have ho2 : ∀ h y, Makes R.2 out h y ↔ It (Makes L a) n h y := fun h y => by rw [makes_pre hGM.o hf.pre ho, h2]
    refine ⟨n, by omega, ho2, fun h y hy => ?_⟩
    rw [← ho2, ← he]
    exact (hnx r1 h y).2 hy
   ·rw [if_neg he] at h0 ⊢
    obtain ⟨J, hJ, j1, j2⟩ := (hrest r1 he).sem h0
    exact ⟨J, by omega, j1, j2⟩
theorem rowV_nil : RowV [] := ⟨rfl, by simp⟩
theorem starP_sem {L : List NdD} {a : Nat} (hG : Gd L) (ha : a < L.length) : StarSem L a 64 (starP L a) := by
 unfold starP
 have hn : ∀ r ∈ ([[]] : List RowD), (rowP r).isSome := fun r hr => by simp at hr; subst hr; exact rowV_nil.isSome
 have hls := leafR_sem (L := L) hn
 have hlm := leafR_means (L := L) hn
 have hf := leafR_fine hG.o [[]]
 have hst := leafR_steps L [[]]
 generalize leafR L [[]] = R at *
 have h1 : R.1.1 = 0 → ∀ h y, Makes R.2 R.1.2 h y ↔ y = h := fun r h y => by
  have hnil : rowP [] = some [] := by rw [rowV_nil.some]; exact congrArg some (List.length_eq_zero_iff.1 (sortF_perm []).length_eq)
  unfold Makes
  constructor
  ·rintro ⟨s, hs, he⟩
   obtain ⟨t, ht, hst⟩ := ((hlm r).2 h s).1 hs
   simp at ht
   subst ht
   rw [hnil] at hst
   cases hst
   exact he.symm
  ·intro he
   exact ⟨[], ((hlm r).2 h []).2 ⟨[], by simp, hnil⟩, he.symm⟩
 have hr : R.1.1 = 0 → StarSem L a (0 + 64) (starLoop 64 R.2 R.1.2 a R.1.2) := fun r => starLoop_sem hG ha (hst.good hG) hf.pre (hf.lt r) (hf.lt r) (h1 r) (h1 r)
 refine ⟨hls.1.bind fun r => (hr r).ok, fun h0 => ?_⟩
 obtain ⟨r1, e1⟩ := bindR_zero h0
 rw [e1] at h0 ⊢
 obtain ⟨J, hJ, j1, j2⟩ := (hr r1).sem h0
 exact ⟨J, by omega, j1, j2⟩

end Go.Proofs.YtjjbdbklbghlhaaGreatDoor
