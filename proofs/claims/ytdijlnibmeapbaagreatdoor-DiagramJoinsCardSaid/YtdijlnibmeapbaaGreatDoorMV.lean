/- How great unions, picks and sequences become, measured by the tests that there are. -/
import Derived.Test.YtdijlnibmeapbaaGreatDoorMU
namespace Go.Proofs.YtdijlnibmeapbaaGreatDoor
open Go.RowKit Go.Sort Go.Maps Go.Lib
set_option linter.unusedSimpArgs false

def ltT (s t : Int × Int) : Prop := s.1 < t.1 ∨ (s.1 = t.1 ∧ s.2 < t.2)
def AscT (T : List (Int × Int)) : Prop := T.Pairwise ltT
theorem ltT.trans {a b c : Int × Int} (h : ltT a b) (k : ltT b c) : ltT a c := by unfold ltT at *; omega
theorem ltT.irr {a : Int × Int} (h : ltT a a) : False := by unfold ltT at h; omega
theorem ltT.tri (a b : Int × Int) : ltT a b ∨ a = b ∨ ltT b a := by
  unfold ltT
  by_cases h : a.1 = b.1
  · by_cases h2 : a.2 = b.2
    · exact .inr (.inl (Prod.ext h h2))
    · omega
  · omega
/-- all tests below are of T, in order; no leaf below has more than n rows -/
def Dt (L : List NdD) (n : Nat) : List (Int × Int) → Nat → Prop
  | [], a => (nodeP L a).f < 0 ∧ (nodeP L a).leaf.length ≤ n
  | t :: T, a => ((((nodeP L a).f, (nodeP L a).n) = t ∧ 0 ≤ t.1) ∧ Dt L n T (nodeP L a).hi.toNat ∧ Dt L n T (nodeP L a).lo.toNat) ∨ Dt L n T a
theorem Dt.leaf {L : List NdD} {n : Nat} : ∀ {T : List (Int × Int)} {a : Nat}, Dt L n T a → (nodeP L a).f < 0 → (nodeP L a).leaf.length ≤ n
  | [], _, h, _ => h.2
  | t :: T, a, h, hf => by
    rcases h with ⟨⟨h1, h2⟩, -⟩ | h
    · subst h1
      dsimp only at h2
      omega
    · exact h.leaf hf
theorem Dt.of_leaf {L : List NdD} {n : Nat} : ∀ {T : List (Int × Int)} {a : Nat}, (nodeP L a).f < 0 → (nodeP L a).leaf.length ≤ n → Dt L n T a
  | [], _, hf, hl => ⟨hf, hl⟩
  | _ :: _, _, hf, hl => .inr (Dt.of_leaf hf hl)
theorem Dt.mono {L : List NdD} {n m : Nat} (hn : n ≤ m) : ∀ {T : List (Int × Int)} {a : Nat}, Dt L n T a → Dt L m T a
  | [], _, h => ⟨h.1, Nat.le_trans h.2 hn⟩
  | _ :: _, _, .inl ⟨h, h1, h2⟩ => .inl ⟨h, h1.mono hn, h2.mono hn⟩
  | _ :: _, _, .inr h => .inr (h.mono hn)
theorem Dt.pre {L M : List NdD} {n : Nat} (hI : InvO L) (hp : L <+: M) : ∀ {T : List (Int × Int)} {a : Nat}, a < L.length → Dt L n T a → Dt M n T a
  | [], a, ha, h => by unfold Dt at *; rw [nodeP_pre hp ha]; exact h
  | t :: T, a, ha, h => by
    rcases h with ⟨h, h1, h2⟩ | h
    · have hk := hI.kids ha (by have := h.2; rw [← h.1] at this; exact this)
      refine .inl ?_
      rw [nodeP_pre hp ha]
      exact ⟨h, Dt.pre hI hp (by omega) h1, Dt.pre hI hp (by omega) h2⟩
    · exact .inr (Dt.pre hI hp ha h)
theorem Dt.sub {L : List NdD} {n : Nat} {T U : List (Int × Int)} (hs : T.Sublist U) : ∀ {a : Nat}, Dt L n T a → Dt L n U a := by
  induction hs with
  | slnil => exact id
  | cons t _ ih => exact fun h => .inr (ih h)
  | cons_cons t _ ih =>
    intro a h
    rcases h with ⟨h, h1, h2⟩ | h
    · exact .inl ⟨h, ih h1, ih h2⟩
    · exact .inr (ih h)
theorem Dt.root {L : List NdD} {n : Nat} : ∀ {T : List (Int × Int)} {a : Nat}, Dt L n T a → 0 ≤ (nodeP L a).f → ((nodeP L a).f, (nodeP L a).n) ∈ T
  | [], _, h, hf => by have := h.1; omega
  | t :: T, _, h, hf => by
    rcases h with ⟨⟨h1, -⟩, -⟩ | h
    · rw [h1]; exact List.mem_cons_self
    · exact List.mem_cons_of_mem _ (h.root hf)
theorem Dt.kids {L : List NdD} {n : Nat} : ∀ {T : List (Int × Int)} {a : Nat}, Dt L n T a → 0 ≤ (nodeP L a).f → Dt L n T (nodeP L a).hi.toNat ∧ Dt L n T (nodeP L a).lo.toNat
  | [], _, h, hf => by have := h.1; omega
  | t :: T, _, h, hf => by
    rcases h with ⟨-, h1, h2⟩ | h
    · exact ⟨.inr h1, .inr h2⟩
    · obtain ⟨h1, h2⟩ := h.kids hf
      exact ⟨.inr h1, .inr h2⟩
/-- at the first test -/
theorem Dt.at {L : List NdD} {n : Nat} {t : Int × Int} {T : List (Int × Int)} (hT : AscT (t :: T)) {a : Nat} (h : Dt L n (t :: T) a) (hf : 0 ≤ (nodeP L a).f) (he : ((nodeP L a).f, (nodeP L a).n) = t) : Dt L n T (nodeP L a).hi.toNat ∧ Dt L n T (nodeP L a).lo.toNat := by
  rcases h with ⟨-, h1, h2⟩ | h
  · exact ⟨h1, h2⟩
  · have h1 := h.root hf
    rw [he] at h1
    exact absurd ((List.pairwise_cons.1 hT).1 t h1) (fun h => h.irr)
theorem Dt.past {L : List NdD} {n : Nat} {t : Int × Int} {T : List (Int × Int)} {a : Nat} (h : Dt L n (t :: T) a) (he : ¬ (((nodeP L a).f, (nodeP L a).n) = t ∧ 0 ≤ t.1)) : Dt L n T a := by
  rcases h with ⟨h1, -⟩ | h
  · exact absurd h1 he
  · exact h
theorem Dt.hiP {L : List NdD} (hI : InvO L) {n : Nat} {f v : Int} (hf : 0 ≤ f) {T : List (Int × Int)} : ∀ {k a : Nat}, a < L.length → Dt L n T a → Dt L n T (hiP L f v k a)
  | 0, _, _, h => h
  | k + 1, a, ha, h => by
    rw [Go.Proofs.YtdijlnibmeapbaaGreatDoor.hiP]
    split
    · rename_i hx
      have hk := hI.kids ha (by omega)
      obtain ⟨h1, h2⟩ := h.kids (by omega)
      split
      · exact h1
      · exact Dt.hiP hI hf (by omega) h2
    · exact h
theorem Dt.hiA {L : List NdD} (hI : InvO L) {n : Nat} {T : List (Int × Int)} {t : Int × Int} (hT : AscT (t :: T)) (ht : 0 ≤ t.1) {a : Nat} (ha : a < L.length) (h : Dt L n (t :: T) a) : Dt L n T (hiA L t.1 t.2 a) := by
  by_cases he : ((nodeP L a).f, (nodeP L a).n) = t
  · have h1 : (nodeP L a).f = t.1 := by rw [← he]
    have h2 : (nodeP L a).n = t.2 := by rw [← he]
    unfold Go.Proofs.YtdijlnibmeapbaaGreatDoor.hiA
    rw [Go.Proofs.YtdijlnibmeapbaaGreatDoor.hiP, if_pos h1, if_pos h2]
    exact (h.at hT (by omega) he).1
  · exact Dt.hiP hI ht ha (h.past (fun h9 => he h9.1))
theorem Dt.loA {L : List NdD} {n : Nat} {T : List (Int × Int)} {t : Int × Int} (hT : AscT (t :: T)) (ht : 0 ≤ t.1) {a : Nat} (h : Dt L n (t :: T) a) : Dt L n T (loA L t.1 t.2 a) := by
  unfold Go.Proofs.YtdijlnibmeapbaaGreatDoor.loA
  split
  · rename_i h1
    have he : ((nodeP L a).f, (nodeP L a).n) = t := Prod.ext h1.1 h1.2
    exact (h.at hT (by omega) he).2
  · rename_i h1
    exact h.past (fun h9 => h1 ⟨by rw [← h9.1], by rw [← h9.1]⟩)

theorem testR_dt {L : List NdD} (hG : Gd L) {p : Int × Int} {T : List (Int × Int)} {x y n : Nat} (hx : x < L.length) (hy : y < L.length) (hf : fitsB p.1 p.2 = true) (hA : AftF L p.1 x) (hB : Aft L p y) (hL : L.length < 65536) (dx : Dt L n T x) (dy : Dt L n T y) :
    (testR L p x y).1.1 = 0 ∧ (testR L p x y).2.length ≤ L.length + 1 ∧ Dt (testR L p x y).2 n (p :: T) (testR L p x y).1.2 := by
  have hfb := fits_bd hf
  have hbh : behindB p.1 p.2 (nodeP L x) (nodeP L y) = false := behind_iff.2 ⟨hA, hB⟩
  have htp : testP L p.1 p.2 x y = if x = y then (((x : Int), 0), L) else putN L ⟨p.1, p.2, x, y, []⟩ := by
    unfold testP
    rw [if_pos ⟨hf, ⟨by omega, by omega⟩, by omega, by omega⟩]
    simp only [Int.toNat_natCast, nodeP_some hx, nodeP_some hy, hbh]
    by_cases hxy : x = y
    · rw [if_pos hxy, if_neg (by simp), if_pos (by rw [hxy])]
    · rw [if_neg hxy, if_neg (by simp), if_neg (by omega)]
  by_cases hxy : x = y
  · rw [if_pos hxy] at htp
    have hT : testR L p x y = ((0, x), L) := by unfold testR; rw [htp]; rfl
    rw [hT]
    exact ⟨rfl, by dsimp only; omega, .inr dx⟩
  · rw [if_neg hxy] at htp
    have hfi := testR_fine hG.o p x y
    obtain ⟨h1, h2⟩ := putN_fit (x := ⟨p.1, p.2, x, y, []⟩) hL
    have h3 := putN_at h1
    have hT : testR L p x y = (((putN L ⟨p.1, p.2, x, y, []⟩).1.2, (putN L ⟨p.1, p.2, x, y, []⟩).1.1.toNat), (putN L ⟨p.1, p.2, x, y, []⟩).2) := by unfold testR; rw [htp]
    rw [hT] at hfi ⊢
    refine ⟨h1, h2, .inl ?_⟩
    dsimp only
    rw [h3]
    dsimp only
    rw [Int.toNat_natCast, Int.toNat_natCast]
    exact ⟨⟨rfl, by omega⟩, dx.pre hG.o hfi.pre hx, dy.pre hG.o hfi.pre hy⟩

structure FitT (L : List NdD) (n : Nat) (T : List (Int × Int)) (c : Nat) (R : Out) : Prop where
  ok : R.1.1 = 0
  len : R.2.length + 1 ≤ L.length + c
  dt : Dt R.2 n T R.1.2
theorem first_mem {L : List NdD} {na nb : Nat} {T : List (Int × Int)} {a b : Nat} (ha : Dt L na T a) (hb : Dt L nb T b) (h0 : 0 ≤ (firstA L a b).1) : firstA L a b ∈ T := by
  rcases firstA_root h0 with ⟨e1, e2⟩ | ⟨e1, e2⟩
  · have := ha.root (by omega)
    rwa [show ((nodeP L a).f, (nodeP L a).n) = firstA L a b from Prod.ext e1 e2] at this
  · have := hb.root (by omega)
    rwa [show ((nodeP L b).f, (nodeP L b).n) = firstA L a b from Prod.ext e1 e2] at this
/-- where the first of all tests is not the first of both, it is of neither -/
theorem first_past {L : List NdD} {na nb : Nat} {t : Int × Int} {T : List (Int × Int)} {a b : Nat} (hT : AscT (t :: T)) (ha : Dt L na (t :: T) a) (hb : Dt L nb (t :: T) b) (hne : firstA L a b ≠ t) : Dt L na T a ∧ Dt L nb T b := by
  obtain ⟨n1, n2⟩ := firstA_notB (L := L) (a := a) (b := b)
  have key : ∀ c, NotB L (firstA L a b) c → (0 ≤ (nodeP L c).f → 0 ≤ (firstA L a b).1) → ¬ (((nodeP L c).f, (nodeP L c).n) = t ∧ 0 ≤ t.1) := fun c hc h9 ⟨h1, h2⟩ => by
    have hf : 0 ≤ (nodeP L c).f := by rw [← h1] at h2; exact h2
    have hm := first_mem ha hb (h9 hf)
    rcases List.mem_cons.1 hm with h3 | h3
    · exact hne h3
    · have h4 := (List.pairwise_cons.1 hT).1 _ h3
      have h5 := hc hf
      rw [← h1] at h4
      unfold ltT at h4
      dsimp only at h4
      omega
  have hneg := firstA_neg (L := L) (a := a) (b := b)
  exact ⟨ha.past (key a n1 (fun h => by
    rcases Int.lt_or_le (firstA L a b).1 0 with h1 | h1
    · have := (hneg.1 h1).1; omega
    · exact h1)), hb.past (key b n2 (fun h => by
    rcases Int.lt_or_le (firstA L a b).1 0 with h1 | h1
    · have := (hneg.1 h1).2; omega
    · exact h1))⟩
theorem two_pow_ge (n : Nat) : 2 ≤ 2 ^ (n + 1) := by
  have := Nat.pow_le_pow_right (show 0 < 2 by decide) (show 1 ≤ n + 1 by omega)
  simpa using this
theorem unionP_dt : ∀ {T : List (Int × Int)}, AscT T → ∀ {k : Nat} {L : List NdD} {a b na nb : Nat}, Gd L → a < L.length → b < L.length → a + b < k → Dt L na T a → Dt L nb T b → na + nb ≤ 64 → L.length + 2 ^ (T.length + 1) ≤ 65536 → FitT L (na + nb) T (2 ^ (T.length + 1)) (unionP k L a b)
  | T, hT, 0, _, _, _, _, _, _, _, _, h, _, _, _, _ => absurd h (Nat.not_lt_zero _)
  | T, hT, k + 1, L, a, b, na, nb, hG, ha, hb, hk, hda, hdb, hn64, hL => by
    have hpow := two_pow_ge T.length
    by_cases hab : a = b
    · rw [unionP, if_pos hab]
      exact ⟨rfl, by dsimp only; omega, hda.mono (by omega)⟩
    by_cases hn : (nodeP L a).f < 0 ∧ (nodeP L b).f < 0
    · rw [unionP, if_neg hab, if_pos hn]
      have hrows : ∀ r ∈ (nodeP L a).leaf ++ (nodeP L b).leaf, (rowP r).isSome := fun r hr => by
        rcases List.mem_append.1 hr with hr | hr
        · exact rowN_some (hG.leafN ha r hr)
        · exact rowN_some (hG.leafN hb r hr)
      have l1 := hda.leaf hn.1
      have l2 := hdb.leaf hn.2
      obtain ⟨r1, r2, r3⟩ := leafR_fit hrows (by rw [List.length_append]; omega) (show L.length < 65536 by omega)
      exact ⟨r1, by omega, Dt.of_leaf (r3 0).1 (by have := (r3 0).2; rw [List.length_append] at this; omega)⟩
    match T, hT, hda, hdb, hL, hpow with
    | [], _, hda, hdb, _, _ => exact absurd ⟨hda.1, hdb.1⟩ hn
    | t :: T, hT, hda, hdb, hL, hpow =>
    have hTt := (List.pairwise_cons.1 hT).2
    have hp2 : 2 ^ ((t :: T).length + 1) = 2 ^ (T.length + 1) + 2 ^ (T.length + 1) := by rw [List.length_cons, Nat.pow_succ 2 (T.length + 1)]; omega
    have hpe := two_pow_ge T.length
    by_cases hpt : firstA L a b = t
    case neg =>
      obtain ⟨q1, q2⟩ := first_past hT hda hdb hpt
      have := unionP_dt hTt (k := k + 1) hG ha hb hk q1 q2 hn64 (by omega)
      exact ⟨this.ok, by have := this.len; omega, .inr this.dt⟩
    rw [unionP, if_neg hab, if_neg hn]
    obtain ⟨h0, h1, h2, h3, h4, h5, h6⟩ := first_falls hG.o ha hb hn
    dsimp only
    have hfit := firstA_fit hG ha hb h0
    obtain ⟨na', nb'⟩ := firstA_notB (L := L) (a := a) (b := b)
    rw [hpt] at h0 h1 h2 h3 h4 h5 h6 hfit na' nb' ⊢
    obtain ⟨ha1, ha2, ha3⟩ := hiA_sem hG h0 (a := a) ha
    obtain ⟨hb1, hb2, hb3⟩ := hiA_sem hG h0 (a := b) hb
    obtain ⟨la1, la2, la3, la4⟩ := loA_sem hG h0 (a := a) ha
    obtain ⟨lb1, lb2, lb3, lb4⟩ := loA_sem hG h0 (a := b) hb
    have dha := Dt.hiA hG.o hT h0 ha hda
    have dhb := Dt.hiA hG.o hT h0 hb hdb
    have dla := Dt.loA hT h0 hda
    have dlb := Dt.loA hT h0 hdb
    have hq := unionP_dt hTt (k := k) (a := hiA L t.1 t.2 a) (b := hiA L t.1 t.2 b) hG (by omega) (by omega) (by omega) dha dhb hn64 (by omega)
    have hu := unionP_sem (k := k) (a := hiA L t.1 t.2 a) (b := hiA L t.1 t.2 b) hG (by omega) (by omega) (by omega)
    have hf := unionP_fine (k := k) (a := hiA L t.1 t.2 a) (b := hiA L t.1 t.2 b) hG.o (by omega) (by omega)
    have hs := unionP_steps k L (hiA L t.1 t.2 a) (hiA L t.1 t.2 b)
    generalize unionP k L (hiA L t.1 t.2 a) (hiA L t.1 t.2 b) = R1 at *
    have hG1 := hs.good hG
    have hl := hf.pre.length_le
    have hql := hq.len
    have hlq : loA R1.2 t.1 t.2 a = loA L t.1 t.2 a ∧ loA R1.2 t.1 t.2 b = loA L t.1 t.2 b := ⟨loA_pre hf.pre ha, loA_pre hf.pre hb⟩
    have hq2 := unionP_dt hTt (k := k) (L := R1.2) (a := loA L t.1 t.2 a) (b := loA L t.1 t.2 b) hG1 (by omega) (by omega) (by omega) (dla.pre hG.o hf.pre (by omega)) (dlb.pre hG.o hf.pre (by omega)) hn64 (by omega)
    have hu2 := unionP_sem (k := k) (L := R1.2) (a := loA L t.1 t.2 a) (b := loA L t.1 t.2 b) hG1 (by omega) (by omega) (by omega)
    have hf2 := unionP_fine (k := k) (L := R1.2) (a := loA L t.1 t.2 a) (b := loA L t.1 t.2 b) hf.inv (by omega) (by omega)
    have hs2 := unionP_steps k R1.2 (loA L t.1 t.2 a) (loA L t.1 t.2 b)
    obtain ⟨R2, hR2⟩ : ∃ R2, R2 = unionP k R1.2 (loA L t.1 t.2 a) (loA L t.1 t.2 b) := ⟨_, rfl⟩
    rw [← hR2] at hq2 hu2 hf2 hs2
    have hE : (bindR R1 fun h L1 => bindR (unionP k L1 (loA L1 t.1 t.2 a) (loA L1 t.1 t.2 b)) fun l L2 => testR L2 t h l) = testR R2.2 t R1.1.2 R2.1.2 := by
      unfold bindR
      rw [if_pos hq.ok]
      dsimp only
      rw [hlq.1, hlq.2, ← hR2, if_pos hq2.ok]
    rw [hE]
    have hG2 := hs2.good hG1
    have hl2 := hf2.pre.length_le
    have hql2 := hq2.len
    obtain ⟨t1, t2, t3⟩ := testR_dt hG2 (p := t) (x := R1.1.2) (y := R2.1.2) (by have := hf.lt hq.ok; omega) (hf2.lt hq2.ok) hfit
      ((hu.aftF hq.ok t.1 (ha3 (fun h => by have := na' h; omega)) (hb3 (fun h => by have := nb' h; omega))).pre hf2.pre (hf.lt hq.ok))
      (hu2.aft hq2.ok t ((la4 na').pre hf.pre (by omega)) ((lb4 nb').pre hf.pre (by omega))) (by omega) (hq.dt.pre hf.inv hf2.pre (hf.lt hq.ok)) hq2.dt
    exact ⟨t1, by omega, t3⟩
  termination_by T _ k => (T.length, k)
end Go.Proofs.YtdijlnibmeapbaaGreatDoor
/- How great picks become, measured by the tests that there are. -/
namespace Go.Proofs.YtdijlnibmeapbaaGreatDoor
open Go.RowKit Go.Sort Go.Maps Go.Lib
set_option linter.unusedSimpArgs false

theorem neg_past {L : List NdD} {na nb : Nat} {t : Int × Int} {T : List (Int × Int)} {a b : Nat} (ha : Dt L na (t :: T) a) (hb : Dt L nb (t :: T) b) (hne : (firstA L a b).1 < 0) : Dt L na T a ∧ Dt L nb T b := by
  have hneg := (firstA_neg (L := L) (a := a) (b := b)).1 hne
  exact ⟨ha.past (fun ⟨h1, h2⟩ => by rw [← h1] at h2; have := hneg.1; dsimp only at h2; omega), hb.past (fun ⟨h1, h2⟩ => by rw [← h1] at h2; have := hneg.2; dsimp only at h2; omega)⟩
theorem pickP_dt : ∀ {T : List (Int × Int)}, AscT T → ∀ {k : Nat} {L : List NdD} {t : Int × Int} {a b n : Nat}, Gd L → fitsB t.1 t.2 = true → t ∈ T → a < L.length → b < L.length → a + b < k → Dt L n T a → Dt L n T b → L.length + 2 ^ (T.length + 1) ≤ 65536 → FitT L n T (2 ^ (T.length + 1)) (pickP k L t a b)
  | T, hT, 0, _, _, _, _, _, _, _, _, _, _, h, _, _, _ => absurd h (Nat.not_lt_zero _)
  | [], hT, k + 1, _, _, _, _, _, _, _, htm, _, _, _, _, _, _ => absurd htm (by simp)
  | s :: T, hT, k + 1, L, t, a, b, n, hG, hft, htm, ha, hb, hk, hda, hdb, hL => by
    have ht0 := (fits_bd hft).1
    have hTt := (List.pairwise_cons.1 hT).2
    have hTs := (List.pairwise_cons.1 hT).1
    have hp2 : 2 ^ ((s :: T).length + 1) = 2 ^ (T.length + 1) + 2 ^ (T.length + 1) := by rw [List.length_cons, Nat.pow_succ 2 (T.length + 1)]; omega
    have hpe := two_pow_ge T.length
    by_cases hab : a = b
    · rw [pickP, if_pos hab]
      exact ⟨rfl, by dsimp only; omega, hda⟩
    have tail : t ≠ s → Dt L n T a ∧ Dt L n T b → FitT L n (s :: T) (2 ^ ((s :: T).length + 1)) (pickP (k + 1) L t a b) := fun hts ⟨q1, q2⟩ => by
      have htm2 : t ∈ T := by
        rcases List.mem_cons.1 htm with h | h
        · exact absurd h hts
        · exact h
      have := pickP_dt hTt (k := k + 1) hG hft htm2 ha hb hk q1 q2 (by omega)
      exact ⟨this.ok, by have := this.len; omega, .inr this.dt⟩
    obtain ⟨na, nb⟩ := firstA_notB (L := L) (a := a) (b := b)
    have hneg := firstA_neg (L := L) (a := a) (b := b)
    by_cases hc : (firstA L a b).1 < 0 ∨ t.1 < (firstA L a b).1 ∨ (t.1 = (firstA L a b).1 ∧ t.2 ≤ (firstA L a b).2)
    · by_cases hts : t = s
      · subst hts
        rw [pickP, if_neg hab]
        dsimp only
        rw [if_pos hc]
        obtain ⟨ha1, ha2, ha3⟩ := hiA_sem hG ht0 (a := a) ha
        obtain ⟨lb1, lb2, lb3, lb4⟩ := loA_sem hG ht0 (a := b) hb
        have hA : AftF L t.1 (hiA L t.1 t.2 a) := ha3 (fun h => by
          have := na h
          rcases hc with hc | hc | hc
          · have := (hneg.1 hc).1; omega
          · omega
          · omega)
        have hB : Aft L t (loA L t.1 t.2 b) := lb4 (fun h => by
          have := nb h
          rcases hc with hc | hc | hc
          · have := (hneg.1 hc).2; omega
          · omega
          · omega)
        have hla := hiA_le hG.o ht0 (n := t.2) ha
        have hlb := loA_le hG.o ht0 (n := t.2) hb
        obtain ⟨t1, t2, t3⟩ := testR_dt hG (p := t) (x := hiA L t.1 t.2 a) (y := loA L t.1 t.2 b) (by omega) (by omega) hft hA hB (by omega) (Dt.hiA hG.o hT ht0 ha hda) (Dt.loA hT ht0 hdb)
        exact ⟨t1, by omega, t3⟩
      · have hst : ltT s t := by
          rcases List.mem_cons.1 htm with h | h
          · exact absurd h hts
          · exact hTs t h
        by_cases hng : (firstA L a b).1 < 0
        · exact tail hts (neg_past hda hdb hng)
        · exact tail hts (first_past hT hda hdb (fun h => by rw [h] at hc hng; unfold ltT at hst; omega))
    · by_cases hps : firstA L a b = s
      case neg =>
        have h0 : 0 ≤ (firstA L a b).1 := by omega
        refine tail (fun h => ?_) (first_past hT hda hdb hps)
        rcases List.mem_cons.1 (first_mem hda hdb h0) with h1 | h1
        · exact hps h1
        · have := hTs _ h1
          rw [← h] at this
          unfold ltT at this
          omega
      rw [pickP, if_neg hab]
      dsimp only
      rw [if_neg hc]
      obtain ⟨h0, h1, h2, h3, h4, h5, h6⟩ := pick_falls hG.o ha hb hc
      have hfit := firstA_fit hG ha hb h0
      rw [hps] at h0 h1 h2 h3 h4 h5 h6 hfit na nb hc ⊢
      have htm2 : t ∈ T := by
        rcases List.mem_cons.1 htm with h | h
        · rw [h] at hc; omega
        · exact h
      obtain ⟨ha1, ha2, ha3⟩ := hiA_sem hG h0 (a := a) ha
      obtain ⟨hb1, hb2, hb3⟩ := hiA_sem hG h0 (a := b) hb
      obtain ⟨la1, la2, la3, la4⟩ := loA_sem hG h0 (a := a) ha
      obtain ⟨lb1, lb2, lb3, lb4⟩ := loA_sem hG h0 (a := b) hb
      have dha := Dt.hiA hG.o hT h0 ha hda
      have dhb := Dt.hiA hG.o hT h0 hb hdb
      have dla := Dt.loA hT h0 hda
      have dlb := Dt.loA hT h0 hdb
      have hpt : s.1 < t.1 ∨ (s.1 = t.1 ∧ s.2 < t.2) := by omega
      by_cases hpe2 : s.1 = t.1
      · rw [if_pos hpe2]
        have hq := pickP_dt hTt (k := k) (t := t) (a := loA L s.1 s.2 a) (b := loA L s.1 s.2 b) (n := n) hG hft htm2 (by omega) (by omega) (by omega) dla dlb (by omega)
        have hu := pickP_sem (k := k) (t := t) (a := loA L s.1 s.2 a) (b := loA L s.1 s.2 b) hG hft (by omega) (by omega) (by omega)
        have hf := pickP_fine (k := k) (t := t) (a := loA L s.1 s.2 a) (b := loA L s.1 s.2 b) hG.o (by omega) (by omega)
        have hs := pickP_steps k L t (loA L s.1 s.2 a) (loA L s.1 s.2 b)
        generalize pickP k L t (loA L s.1 s.2 a) (loA L s.1 s.2 b) = R1 at *
        have hG1 := hs.good hG
        have hl := hf.pre.length_le
        have hql := hq.len
        have hE : (bindR R1 fun y L1 => testR L1 s (hiA L s.1 s.2 b) y) = testR R1.2 s (hiA L s.1 s.2 b) R1.1.2 := by
          unfold bindR
          rw [if_pos hq.ok]
        rw [hE]
        obtain ⟨t1, t2, t3⟩ := testR_dt hG1 (p := s) (x := hiA L s.1 s.2 b) (y := R1.1.2) (by omega) (hf.lt hq.ok) hfit
          ((hb3 (fun h => by have := nb h; omega)).pre hf.pre (by omega)) (hu.aft hq.ok s hpt (la4 na) (lb4 nb)) (by omega) (dhb.pre hG.o hf.pre (by omega)) hq.dt
        exact ⟨t1, by omega, t3⟩
      · rw [if_neg hpe2]
        have hplt : s.1 < t.1 := by omega
        have hq := pickP_dt hTt (k := k) (t := t) (a := hiA L s.1 s.2 a) (b := hiA L s.1 s.2 b) (n := n) hG hft htm2 (by omega) (by omega) (by omega) dha dhb (by omega)
        have hu := pickP_sem (k := k) (t := t) (a := hiA L s.1 s.2 a) (b := hiA L s.1 s.2 b) hG hft (by omega) (by omega) (by omega)
        have hf := pickP_fine (k := k) (t := t) (a := hiA L s.1 s.2 a) (b := hiA L s.1 s.2 b) hG.o (by omega) (by omega)
        have hs := pickP_steps k L t (hiA L s.1 s.2 a) (hiA L s.1 s.2 b)
        generalize pickP k L t (hiA L s.1 s.2 a) (hiA L s.1 s.2 b) = R1 at *
        have hG1 := hs.good hG
        have hl := hf.pre.length_le
        have hql := hq.len
        have hlq : loA R1.2 s.1 s.2 a = loA L s.1 s.2 a ∧ loA R1.2 s.1 s.2 b = loA L s.1 s.2 b := ⟨loA_pre hf.pre ha, loA_pre hf.pre hb⟩
        have hq2 := pickP_dt hTt (k := k) (L := R1.2) (t := t) (a := loA L s.1 s.2 a) (b := loA L s.1 s.2 b) (n := n) hG1 hft htm2 (by omega) (by omega) (by omega) (dla.pre hG.o hf.pre (by omega)) (dlb.pre hG.o hf.pre (by omega)) (by omega)
        have hu2 := pickP_sem (k := k) (L := R1.2) (t := t) (a := loA L s.1 s.2 a) (b := loA L s.1 s.2 b) hG1 hft (by omega) (by omega) (by omega)
        have hf2 := pickP_fine (k := k) (L := R1.2) (t := t) (a := loA L s.1 s.2 a) (b := loA L s.1 s.2 b) hf.inv (by omega) (by omega)
        have hs2 := pickP_steps k R1.2 t (loA L s.1 s.2 a) (loA L s.1 s.2 b)
        obtain ⟨R2, hR2⟩ : ∃ R2, R2 = pickP k R1.2 t (loA L s.1 s.2 a) (loA L s.1 s.2 b) := ⟨_, rfl⟩
        rw [← hR2] at hq2 hu2 hf2 hs2
        have hE : (bindR R1 fun x L1 => bindR (pickP k L1 t (loA L1 s.1 s.2 a) (loA L1 s.1 s.2 b)) fun y L2 => testR L2 s x y) = testR R2.2 s R1.1.2 R2.1.2 := by
          unfold bindR
          rw [if_pos hq.ok]
          dsimp only
          rw [hlq.1, hlq.2, ← hR2, if_pos hq2.ok]
        rw [hE]
        have hG2 := hs2.good hG1
        have hl2 := hf2.pre.length_le
        have hql2 := hq2.len
        obtain ⟨t1, t2, t3⟩ := testR_dt hG2 (p := s) (x := R1.1.2) (y := R2.1.2) (by have := hf.lt hq.ok; omega) (hf2.lt hq2.ok) hfit
          ((hu.aftF hq.ok s.1 hplt (ha3 (fun h => by have := na h; omega)) (hb3 (fun h => by have := nb h; omega))).pre hf2.pre (hf.lt hq.ok))
          (hu2.aft hq2.ok s hpt ((la4 na).pre hf.pre (by omega)) ((lb4 nb).pre hf.pre (by omega))) (by omega) (hq.dt.pre hf.inv hf2.pre (hf.lt hq.ok)) hq2.dt
        exact ⟨t1, by omega, t3⟩
  termination_by T _ k => (T.length, k)
end Go.Proofs.YtdijlnibmeapbaaGreatDoor
/- How great what stands behind rows becomes, measured by the tests that there are. -/
namespace Go.Proofs.YtdijlnibmeapbaaGreatDoor
open Go.RowKit Go.Sort Go.Maps Go.Lib
set_option linter.unusedSimpArgs false

/-- the pick of a test ahead of all others -/
theorem pickP_top {T : List (Int × Int)} {k : Nat} {L : List NdD} {t : Int × Int} {a b n : Nat} (hT : AscT (t :: T)) (hG : Gd L) (hft : fitsB t.1 t.2 = true) (ha : a < L.length) (hb : b < L.length) (hda : Dt L n T a) (hdb : Dt L n T b) (hL : L.length < 65536) : FitT L n (t :: T) 2 (pickP (k + 1) L t a b) := by
  have ht0 := (fits_bd hft).1
  have hTs := (List.pairwise_cons.1 hT).1
  by_cases hab : a = b
  · rw [pickP, if_pos hab]
    exact ⟨rfl, by dsimp only; omega, .inr hda⟩
  obtain ⟨na, nb⟩ := firstA_notB (L := L) (a := a) (b := b)
  have hneg := firstA_neg (L := L) (a := a) (b := b)
  have hc : (firstA L a b).1 < 0 ∨ t.1 < (firstA L a b).1 ∨ (t.1 = (firstA L a b).1 ∧ t.2 ≤ (firstA L a b).2) := by
    by_cases h0 : (firstA L a b).1 < 0
    · exact .inl h0
    · have := hTs _ (first_mem hda hdb (by omega))
      unfold ltT at this
      omega
  rw [pickP, if_neg hab]
  dsimp only
  rw [if_pos hc]
  obtain ⟨ha1, ha2, ha3⟩ := hiA_sem hG ht0 (a := a) ha
  obtain ⟨lb1, lb2, lb3, lb4⟩ := loA_sem hG ht0 (a := b) hb
  have hA : AftF L t.1 (hiA L t.1 t.2 a) := ha3 (fun h => by
    have := na h
    rcases hc with hc | hc | hc
    · have := (hneg.1 hc).1; omega
    · omega
    · omega)
  have hB : Aft L t (loA L t.1 t.2 b) := lb4 (fun h => by
    have := nb h
    rcases hc with hc | hc | hc
    · have := (hneg.1 hc).2; omega
    · omega
    · omega)
  have hla := hiA_le hG.o ht0 (n := t.2) ha
  have hlb := loA_le hG.o ht0 (n := t.2) hb
  obtain ⟨t1, t2, t3⟩ := testR_dt hG (p := t) (x := hiA L t.1 t.2 a) (y := loA L t.1 t.2 b) (by omega) (by omega) hft hA hB hL (Dt.hiA hG.o hT ht0 ha (.inr hda)) (Dt.loA hT ht0 (.inr hdb))
  exact ⟨t1, by omega, t3⟩
theorem behindP_dt : ∀ {T : List (Int × Int)}, AscT T → ∀ {k : Nat} {L : List NdD} {row : RowD} {b n : Nat}, Gd L → RowV row → b < L.length → b < k → Dt L n T b → n ≤ 64 → L.length + 2 ^ (T.length + 1) ≤ 65536 → FitT L n T (2 ^ (T.length + 1)) (behindP k L row b)
  | T, hT, 0, _, _, _, _, _, _, _, h, _, _, _ => absurd h (Nat.not_lt_zero _)
  | T, hT, k + 1, L, row, b, n, hG, hv, hb, hk, hd, hn, hL => by
    have hpow := two_pow_ge T.length
    by_cases hf : (nodeP L b).f < 0
    · rw [behindP, if_pos hf]
      have hrows : ∀ r ∈ (nodeP L b).leaf.map (joinA row), (rowP r).isSome := fun r hr => by
        obtain ⟨m, hm, rfl⟩ := List.mem_map.1 hr
        exact (joinA_v hv (hG.leafN hb m hm).v).isSome
      have l1 := hd.leaf hf
      obtain ⟨r1, r2, r3⟩ := leafR_fit hrows (by rw [List.length_map]; omega) (show L.length < 65536 by omega)
      exact ⟨r1, by omega, Dt.of_leaf (r3 0).1 (by have := (r3 0).2; rw [List.length_map] at this; omega)⟩
    match T, hT, hd, hL, hpow with
    | [], _, hd, _, _ => exact absurd hd.1 hf
    | t :: T, hT, hd, hL, hpow =>
    have hTt := (List.pairwise_cons.1 hT).2
    have hp2 : 2 ^ ((t :: T).length + 1) = 2 ^ (T.length + 1) + 2 ^ (T.length + 1) := by rw [List.length_cons, Nat.pow_succ 2 (T.length + 1)]; omega
    have hpe := two_pow_ge T.length
    rcases hd with ⟨⟨he, ht0⟩, hdh, hdl⟩ | hd
    case inr =>
      have := behindP_dt hTt (k := k + 1) hG hv hb hk hd hn (by omega)
      exact ⟨this.ok, by have := this.len; omega, .inr this.dt⟩
    have hf0 : 0 ≤ (nodeP L b).f := by omega
    have hkd := hG.o.kids hb hf0
    have hfit := hG.fit hb hf0
    have up : ∀ {R : Out}, FitT L n T (2 ^ (T.length + 1)) R → FitT L n (t :: T) (2 ^ ((t :: T).length + 1)) R := fun h => ⟨h.ok, by have := h.len; omega, .inr h.dt⟩
    rw [behindP, if_neg hf]
    split
    · split
      · exact up (behindP_dt hTt (k := k) (b := (nodeP L b).hi.toNat) hG hv (by omega) (by omega) hdh hn (by omega))
      · exact up (behindP_dt hTt (k := k) (b := (nodeP L b).lo.toNat) hG hv (by omega) (by omega) hdl hn (by omega))
    · have e1 : (nodeP L b).f = t.1 := by rw [← he]
      have e2 : (nodeP L b).n = t.2 := by rw [← he]
      rw [e1, e2] at hfit ⊢
      have hq := behindP_dt hTt (k := k) (row := row) (b := (nodeP L b).hi.toNat) hG hv (by omega) (by omega) hdh hn (by omega)
      have hfi := behindP_fine (k := k) (row := row) (b := (nodeP L b).hi.toNat) hG.o (by omega)
      have hs := behindP_steps k L row (nodeP L b).hi.toNat
      generalize behindP k L row (nodeP L b).hi.toNat = R1 at *
      have hG1 := hs.good hG
      have hl := hfi.pre.length_le
      have hql := hq.len
      have hq2 := behindP_dt hTt (k := k) (L := R1.2) (row := row) (b := (nodeP L b).lo.toNat) (n := n) hG1 hv (by omega) (by omega) (hdl.pre hG.o hfi.pre (by omega)) hn (by omega)
      have hfi2 := behindP_fine (k := k) (L := R1.2) (row := row) (b := (nodeP L b).lo.toNat) hfi.inv (by omega)
      have hs2 := behindP_steps k R1.2 row (nodeP L b).lo.toNat
      obtain ⟨R2, hR2⟩ : ∃ R2, R2 = behindP k R1.2 row (nodeP L b).lo.toNat := ⟨_, rfl⟩
      rw [← hR2] at hq2 hfi2 hs2
      have hE : (bindR R1 fun h L1 => bindR (behindP k L1 row (nodeP L b).lo.toNat) fun l L2 => pickP (h + l + 1) L2 (t.1, t.2) h l) = pickP (R1.1.2 + R2.1.2 + 1) R2.2 (t.1, t.2) R1.1.2 R2.1.2 := by
        unfold bindR
        rw [if_pos hq.ok]
        dsimp only
        rw [← hR2, if_pos hq2.ok]
      rw [hE]
      have hG2 := hs2.good hG1
      have hl2 := hfi2.pre.length_le
      have hql2 := hq2.len
      have hp := pickP_top (k := R1.1.2 + R2.1.2) (t := (t.1, t.2)) (n := n) hT hG2 hfit (by have := hfi.lt hq.ok; omega) (hfi2.lt hq2.ok) (hq.dt.pre hfi.inv hfi2.pre (hfi.lt hq.ok)) hq2.dt (by omega)
      exact ⟨hp.ok, by have := hp.len; omega, hp.dt⟩
  termination_by T _ k => (T.length, k)
/-- row for row -/
theorem rowsThen_dt {T : List (Int × Int)} (hT : AscT T) {b m : Nat} {L : List NdD} (hG : Gd L) (hb : b < L.length) (hd : Dt L m T b) (hm : m ≤ 64) : ∀ {rs : List RowD} {R : Out} {i c : Nat}, (∀ r ∈ rs, RowV r) → Steps L R.2 → Fine L R → FitT L i T c R → i + rs.length * m ≤ 64 → L.length + c + rs.length * 2 ^ (T.length + 2) ≤ 65536 → FitT L (i + rs.length * m) T (c + rs.length * 2 ^ (T.length + 2)) (rowsThen b rs R)
  | [], R, i, c, _, _, _, h, _, _ => by
    rw [rowsThen]
    exact ⟨h.ok, by have := h.len; simp only [List.length_nil]; omega, by simpa using h.dt⟩
  | r :: rs, R, i, c, hv, hs, hf, h, hi, hL => by
    rw [rowsThen]
    have ee : (r :: rs).length * m = rs.length * m + m := by rw [List.length_cons, Nat.succ_mul]
    have ep : (r :: rs).length * 2 ^ (T.length + 2) = rs.length * 2 ^ (T.length + 2) + 2 ^ (T.length + 2) := by rw [List.length_cons, Nat.succ_mul]
    have e4 : 2 ^ (T.length + 2) = 2 ^ (T.length + 1) + 2 ^ (T.length + 1) := by rw [Nat.pow_succ 2 (T.length + 1)]; omega
    have hpe := two_pow_ge T.length
    have hlen := h.len
    have hfst := rowStep_fine (r := r) hf hb
    have hl := hf.pre.length_le
    have hG1 := hs.good hG
    have hq := behindP_dt hT (k := b + 1) (L := R.2) (row := r) (b := b) (n := m) hG1 (hv r (by simp)) (by omega) (by omega) (hd.pre hG.o hf.pre hb) hm (by omega)
    have hfi := behindP_fine (k := b + 1) (L := R.2) (row := r) (b := b) hf.inv (by omega)
    have hst := behindP_steps (b + 1) R.2 r b
    obtain ⟨R1, hR1⟩ : ∃ R1, R1 = behindP (b + 1) R.2 r b := ⟨_, rfl⟩
    rw [← hR1] at hq hfi hst
    have hE : (bindR R fun o L => bindR (behindP (b + 1) L r b) fun c L1 => unionP (o + c + 1) L1 o c) = unionP (R.1.2 + R1.1.2 + 1) R1.2 R.1.2 R1.1.2 := by
      unfold bindR
      rw [if_pos h.ok]
      dsimp only
      rw [← hR1, if_pos hq.ok]
    unfold rowStep at hfst
    rw [hE] at hfst ⊢
    have hG2 := hst.good hG1
    have hl1 := hfi.pre.length_le
    have hql := hq.len
    have hu := unionP_dt hT (k := R.1.2 + R1.1.2 + 1) (L := R1.2) (a := R.1.2) (b := R1.1.2) (na := i) (nb := m) hG2 (by have := hf.lt h.ok; omega) (hfi.lt hq.ok) (by omega) (h.dt.pre hf.inv hfi.pre (hf.lt h.ok)) hq.dt (by omega) (by omega)
    have hul := hu.len
    have := rowsThen_dt hT hG hb hd hm (rs := rs) (R := unionP (R.1.2 + R1.1.2 + 1) R1.2 R.1.2 R1.1.2) (i := i + m) (c := c + 2 ^ (T.length + 2)) (fun r hr => hv r (by simp [hr])) (hs.trans (hst.trans (unionP_steps _ _ _ _))) hfst ⟨hu.ok, by omega, hu.dt⟩ (by omega) (by omega)
    exact ⟨this.ok, by have := this.len; omega, by have := this.dt; rwa [show i + m + rs.length * m = i + (r :: rs).length * m by omega] at this⟩
end Go.Proofs.YtdijlnibmeapbaaGreatDoor
/- How great sequences become, measured by the tests that there are. -/
namespace Go.Proofs.YtdijlnibmeapbaaGreatDoor
open Go.RowKit Go.Sort Go.Maps Go.Lib
set_option linter.unusedSimpArgs false

instance (s t : Int × Int) : Decidable (ltT s t) := by unfold ltT; infer_instance
/-- a test more, in order, once -/
def insT (t : Int × Int) : List (Int × Int) → List (Int × Int)
  | [] => [t]
  | s :: T => if t = s then s :: T else if ltT t s then t :: s :: T else s :: insT t T
theorem mem_insT {t u : Int × Int} : ∀ {T : List (Int × Int)}, u ∈ insT t T ↔ u = t ∨ u ∈ T
  | [] => by simp [insT]
  | s :: T => by
    rw [insT]
    split
    · rename_i h; subst h; simp
    · split
      · simp
      · rw [List.mem_cons, mem_insT, List.mem_cons]
        constructor
        · rintro (h | h | h)
          · exact .inr (.inl h)
          · exact .inl h
          · exact .inr (.inr h)
        · rintro (h | h | h)
          · exact .inr (.inl h)
          · exact .inl h
          · exact .inr (.inr h)
theorem asc_insT {t : Int × Int} : ∀ {T : List (Int × Int)}, AscT T → AscT (insT t T)
  | [], _ => List.pairwise_singleton _ _
  | s :: T, h => by
    obtain ⟨h1, h2⟩ := List.pairwise_cons.1 h
    rw [insT]
    split
    · exact h
    · rename_i hne
      split
      · rename_i hlt
        refine List.pairwise_cons.2 ⟨fun u hu => ?_, h⟩
        rcases List.mem_cons.1 hu with rfl | hu
        · exact hlt
        · exact hlt.trans (h1 u hu)
      · rename_i hlt
        refine List.pairwise_cons.2 ⟨fun u hu => ?_, asc_insT h2⟩
        rcases mem_insT.1 hu with rfl | hu
        · rcases ltT.tri u s with h | h | h
          · exact absurd h hlt
          · exact absurd h hne
          · exact h
        · exact h1 u hu
theorem sub_insT {t : Int × Int} : ∀ {T : List (Int × Int)}, T.Sublist (insT t T)
  | [] => List.nil_sublist _
  | s :: T => by
    rw [insT]
    split
    · exact List.Sublist.refl _
    · split
      · exact List.sublist_cons_self _ _
      · exact sub_insT.cons_cons _
theorem len_insT {t : Int × Int} : ∀ {T : List (Int × Int)}, (insT t T).length ≤ T.length + 1
  | [] => Nat.le_refl _
  | s :: T => by
    rw [insT]
    split
    · exact Nat.le_succ _
    · split
      · exact Nat.le_refl _
      · have := len_insT (t := t) (T := T)
        simp only [List.length_cons]
        omega
/-- the tests of both -/
def mergeT : List (Int × Int) → List (Int × Int) → List (Int × Int)
  | [], U => U
  | t :: T, U => insT t (mergeT T U)
theorem asc_mergeT {U : List (Int × Int)} (h : AscT U) : ∀ {T : List (Int × Int)}, AscT (mergeT T U)
  | [] => h
  | _ :: _ => asc_insT (asc_mergeT h)
theorem sub_mergeT {U : List (Int × Int)} : ∀ {T : List (Int × Int)}, U.Sublist (mergeT T U)
  | [] => List.Sublist.refl _
  | _ :: _ => sub_mergeT.trans sub_insT
theorem len_mergeT {U : List (Int × Int)} : ∀ {T : List (Int × Int)}, (mergeT T U).length ≤ T.length + U.length
  | [] => by simp [mergeT]
  | t :: T => by
    have := len_mergeT (U := U) (T := T)
    have := len_insT (t := t) (T := mergeT T U)
    rw [mergeT, List.length_cons]
    omega
/-- what a sequence costs -/
def thenC (n d : Nat) : Nat → Nat
  | 0 => 2 + n * 2 ^ (d + 2)
  | j + 1 => 2 * thenC n d j + 2 ^ (j + d + 2)
theorem thenC_zero {n d : Nat} : ∀ {j : Nat}, thenC n d 0 ≤ thenC n d j
  | 0 => Nat.le_refl _
  | j + 1 => by
    have := thenC_zero (n := n) (d := d) (j := j)
    have := Nat.two_pow_pos (j + d + 2)
    rw [thenC.eq_def n d (j + 1)]
    dsimp only
    omega
theorem thenP_dt {Tb : List (Int × Int)} (hTb : AscT Tb) : ∀ {T : List (Int × Int)}, AscT T → ∀ {k : Nat} {L : List NdD} {a b na nb : Nat}, Gd L → a < L.length → b < L.length → a < k → Dt L na T a → Dt L nb Tb b → nb ≤ 64 → na * nb ≤ 64 → L.length + thenC na Tb.length T.length ≤ 65536 → FitT L (na * nb) (mergeT T Tb) (thenC na Tb.length T.length) (thenP k L a b)
  | T, hT, 0, _, _, _, _, _, _, _, _, h, _, _, _, _, _ => absurd h (Nat.not_lt_zero _)
  | T, hT, k + 1, L, a, b, na, nb, hG, ha, hb, hk, hda, hdb, hnb, hn, hL => by
    by_cases hf : (nodeP L a).f < 0
    · rw [thenP, if_pos hf]
      have hz := thenC_zero (n := na) (d := Tb.length) (j := T.length)
      rw [thenC] at hz
      have hl1 := hda.leaf hf
      have e1 := Nat.mul_le_mul_right (2 ^ (Tb.length + 2)) hl1
      have e2 := Nat.mul_le_mul_right nb hl1
      have hnil : ∀ r ∈ ([] : List RowD), (rowP r).isSome := fun r hr => by cases hr
      obtain ⟨r1, r2, r3⟩ := leafR_fit (L := L) hnil (Nat.zero_le _) (show L.length < 65536 by omega)
      have h0 : FitT L 0 Tb 2 (leafR L []) := ⟨r1, by omega, Dt.of_leaf (r3 0).1 (r3 0).2⟩
      have := rowsThen_dt hTb hG hb hdb hnb (rs := (nodeP L a).leaf) (R := leafR L []) (i := 0) (c := 2) (fun r hr => (hG.leafN ha r hr).v) (leafR_steps L []) (leafR_fine hG.o []) h0 (by omega) (by omega)
      exact ⟨this.ok, by have := this.len; omega, (this.dt.mono (by omega)).sub sub_mergeT⟩
    match T, hT, hda, hL with
    | [], _, hda, _ => exact absurd hda.1 hf
    | t :: T, hT, hda, hL =>
    have hTt := (List.pairwise_cons.1 hT).2
    have hC : thenC na Tb.length (t :: T).length = 2 * thenC na Tb.length T.length + 2 ^ (T.length + Tb.length + 2) := by rw [List.length_cons, thenC]
    have hpz := Nat.two_pow_pos (T.length + Tb.length + 2)
    rcases hda with ⟨⟨he, ht0⟩, hdh, hdl⟩ | hda
    case inr =>
      have := thenP_dt hTb hTt (k := k + 1) hG ha hb hk hda hdb hnb hn (by omega)
      exact ⟨this.ok, by have := this.len; omega, this.dt.sub sub_insT⟩
    have hf0 : 0 ≤ (nodeP L a).f := by omega
    have hkd := hG.o.kids ha hf0
    have hfit := hG.fit ha hf0
    rw [thenP, if_neg hf]
    have e1 : (nodeP L a).f = t.1 := by rw [← he]
    have e2 : (nodeP L a).n = t.2 := by rw [← he]
    rw [e1, e2] at hfit ⊢
    have hq := thenP_dt hTb hTt (k := k) (a := (nodeP L a).hi.toNat) (b := b) hG (by omega) hb (by omega) hdh hdb hnb hn (by omega)
    have hfi := thenP_fine (k := k) (a := (nodeP L a).hi.toNat) (b := b) hG.o (by omega) hb
    have hs := thenP_steps k L (nodeP L a).hi.toNat b
    generalize thenP k L (nodeP L a).hi.toNat b = R1 at *
    have hG1 := hs.good hG
    have hl := hfi.pre.length_le
    have hql := hq.len
    have hq2 := thenP_dt hTb hTt (k := k) (L := R1.2) (a := (nodeP L a).lo.toNat) (b := b) hG1 (by omega) (by omega) (by omega) (hdl.pre hG.o hfi.pre (by omega)) (hdb.pre hG.o hfi.pre hb) hnb hn (by omega)
    have hfi2 := thenP_fine (k := k) (L := R1.2) (a := (nodeP L a).lo.toNat) (b := b) hfi.inv (by omega) (by omega)
    have hs2 := thenP_steps k R1.2 (nodeP L a).lo.toNat b
    obtain ⟨R2, hR2⟩ : ∃ R2, R2 = thenP k R1.2 (nodeP L a).lo.toNat b := ⟨_, rfl⟩
    rw [← hR2] at hq2 hfi2 hs2
    have hE : (bindR R1 fun h L1 => bindR (thenP k L1 (nodeP L a).lo.toNat b) fun l L2 => pickP (h + l + 1) L2 (t.1, t.2) h l) = pickP (R1.1.2 + R2.1.2 + 1) R2.2 (t.1, t.2) R1.1.2 R2.1.2 := by
      unfold bindR
      rw [if_pos hq.ok]
      dsimp only
      rw [← hR2, if_pos hq2.ok]
    rw [hE]
    have hG2 := hs2.good hG1
    have hl2 := hfi2.pre.length_le
    have hql2 := hq2.len
    have hpw : 2 ^ ((mergeT (t :: T) Tb).length + 1) ≤ 2 ^ (T.length + Tb.length + 2) := Nat.pow_le_pow_right (by decide) (by have := len_mergeT (U := Tb) (T := t :: T); rw [List.length_cons] at this; omega)
    have hp := pickP_dt (T := mergeT (t :: T) Tb) (asc_mergeT hTb) (k := R1.1.2 + R2.1.2 + 1) (L := R2.2) (t := (t.1, t.2)) (n := na * nb) hG2 hfit (mem_insT.2 (.inl rfl)) (by have := hfi.lt hq.ok; omega) (hfi2.lt hq2.ok) (by omega) ((hq.dt.pre hfi.inv hfi2.pre (hfi.lt hq.ok)).sub sub_insT) (hq2.dt.sub sub_insT) (by omega)
    exact ⟨hp.ok, by have := hp.len; omega, hp.dt⟩
  termination_by T _ k => (T.length, k)
end Go.Proofs.YtdijlnibmeapbaaGreatDoor
/- What is made of parts has few tests and few rows. -/
namespace Go.Proofs.YtdijlnibmeapbaaGreatDoor
open Go.RowKit Go.Sort Go.Maps Go.Lib
set_option linter.unusedSimpArgs false

theorem Dt.cap {L : List NdD} (hG : Gd L) {n : Nat} : ∀ {T : List (Int × Int)} {a : Nat}, a < L.length → Dt L n T a → Dt L (min n 64) T a
  | [], a, ha, h => ⟨h.1, Nat.le_min.2 ⟨h.2, hG.leafLen ha⟩⟩
  | t :: T, a, ha, h => by
    rcases h with ⟨h, h1, h2⟩ | h
    · have hk := hG.o.kids ha (by have := h.2; rw [← h.1] at this; exact this)
      exact .inl ⟨h, Dt.cap hG (by omega) h1, Dt.cap hG (by omega) h2⟩
    · exact .inr (Dt.cap hG ha h)
theorem testR_dtk {L : List NdD} (hG : Gd L) {p : Int × Int} {T : List (Int × Int)} {x y n : Nat} (hx : x < L.length) (hy : y < L.length) (hf : fitsB p.1 p.2 = true) (hA : AftF L p.1 x) (hB : Aft L p y) (dx : Dt L n T x) (dy : Dt L n T y) (h0 : (testR L p x y).1.1 = 0) :
    Dt (testR L p x y).2 n (p :: T) (testR L p x y).1.2 := by
  have hfb := fits_bd hf
  have hbh : behindB p.1 p.2 (nodeP L x) (nodeP L y) = false := behind_iff.2 ⟨hA, hB⟩
  have htp : testP L p.1 p.2 x y = if x = y then (((x : Int), 0), L) else putN L ⟨p.1, p.2, x, y, []⟩ := by
    unfold testP
    rw [if_pos ⟨hf, ⟨by omega, by omega⟩, by omega, by omega⟩]
    simp only [Int.toNat_natCast, nodeP_some hx, nodeP_some hy, hbh]
    by_cases hxy : x = y
    · rw [if_pos hxy, if_neg (by simp), if_pos (by rw [hxy])]
    · rw [if_neg hxy, if_neg (by simp), if_neg (by omega)]
  by_cases hxy : x = y
  · rw [if_pos hxy] at htp
    have hT : testR L p x y = ((0, x), L) := by unfold testR; rw [htp]; rfl
    rw [hT]
    exact .inr dx
  · rw [if_neg hxy] at htp
    have hfi := testR_fine hG.o p x y
    have hT : testR L p x y = (((putN L ⟨p.1, p.2, x, y, []⟩).1.2, (putN L ⟨p.1, p.2, x, y, []⟩).1.1.toNat), (putN L ⟨p.1, p.2, x, y, []⟩).2) := by unfold testR; rw [htp]
    rw [hT] at hfi h0 ⊢
    have h3 := putN_at h0
    refine .inl ?_
    dsimp only
    rw [h3]
    dsimp only
    rw [Int.toNat_natCast, Int.toNat_natCast]
    exact ⟨⟨rfl, by omega⟩, dx.pre hG.o hfi.pre hx, dy.pre hG.o hfi.pre hy⟩
/-- a union that is made, however many its rows -/
theorem unionP_dtk : ∀ {T : List (Int × Int)}, AscT T → ∀ {k : Nat} {L : List NdD} {a b na nb : Nat}, Gd L → a < L.length → b < L.length → a + b < k → Dt L na T a → Dt L nb T b → (unionP k L a b).1.1 = 0 → Dt (unionP k L a b).2 (na + nb) T (unionP k L a b).1.2
  | T, hT, 0, _, _, _, _, _, _, _, _, h, _, _, _ => absurd h (Nat.not_lt_zero _)
  | T, hT, k + 1, L, a, b, na, nb, hG, ha, hb, hk, hda, hdb, hz => by
    by_cases hab : a = b
    · rw [unionP, if_pos hab]
      exact hda.mono (by omega)
    by_cases hn : (nodeP L a).f < 0 ∧ (nodeP L b).f < 0
    · rw [unionP, if_neg hab, if_pos hn] at hz ⊢
      have hrows : ∀ r ∈ (nodeP L a).leaf ++ (nodeP L b).leaf, (rowP r).isSome := fun r hr => by
        rcases List.mem_append.1 hr with hr | hr
        · exact rowN_some (hG.leafN ha r hr)
        · exact rowN_some (hG.leafN hb r hr)
      have l1 := hda.leaf hn.1
      have l2 := hdb.leaf hn.2
      obtain ⟨m, hm, he⟩ := (leafR_sem hrows).2 hz
      have hml := rowsP_len hm
      rw [List.length_append] at hml
      exact Dt.of_leaf (by rw [he]; show (-1 : Int) < 0; decide) (by rw [he]; dsimp only; omega)
    match T, hT, hda, hdb with
    | [], _, hda, hdb => exact absurd ⟨hda.1, hdb.1⟩ hn
    | t :: T, hT, hda, hdb =>
    have hTt := (List.pairwise_cons.1 hT).2
    by_cases hpt : firstA L a b = t
    case neg =>
      obtain ⟨q1, q2⟩ := first_past hT hda hdb hpt
      exact .inr (unionP_dtk hTt (k := k + 1) hG ha hb hk q1 q2 hz)
    rw [unionP, if_neg hab, if_neg hn] at hz ⊢
    obtain ⟨h0, h1, h2, h3, h4, h5, h6⟩ := first_falls hG.o ha hb hn
    dsimp only at hz ⊢
    have hfit := firstA_fit hG ha hb h0
    obtain ⟨na', nb'⟩ := firstA_notB (L := L) (a := a) (b := b)
    rw [hpt] at h0 h1 h2 h3 h4 h5 h6 hfit na' nb' hz ⊢
    obtain ⟨ha1, ha2, ha3⟩ := hiA_sem hG h0 (a := a) ha
    obtain ⟨hb1, hb2, hb3⟩ := hiA_sem hG h0 (a := b) hb
    obtain ⟨la1, la2, la3, la4⟩ := loA_sem hG h0 (a := a) ha
    obtain ⟨lb1, lb2, lb3, lb4⟩ := loA_sem hG h0 (a := b) hb
    have dha := Dt.hiA hG.o hT h0 ha hda
    have dhb := Dt.hiA hG.o hT h0 hb hdb
    have dla := Dt.loA hT h0 hda
    have dlb := Dt.loA hT h0 hdb
    have hq := unionP_dtk hTt (k := k) (a := hiA L t.1 t.2 a) (b := hiA L t.1 t.2 b) hG (by omega) (by omega) (by omega) dha dhb
    have hu := unionP_sem (k := k) (a := hiA L t.1 t.2 a) (b := hiA L t.1 t.2 b) hG (by omega) (by omega) (by omega)
    have hf := unionP_fine (k := k) (a := hiA L t.1 t.2 a) (b := hiA L t.1 t.2 b) hG.o (by omega) (by omega)
    have hs := unionP_steps k L (hiA L t.1 t.2 a) (hiA L t.1 t.2 b)
    generalize unionP k L (hiA L t.1 t.2 a) (hiA L t.1 t.2 b) = R1 at *
    have hG1 := hs.good hG
    have hl := hf.pre.length_le
    have hlq : loA R1.2 t.1 t.2 a = loA L t.1 t.2 a ∧ loA R1.2 t.1 t.2 b = loA L t.1 t.2 b := ⟨loA_pre hf.pre ha, loA_pre hf.pre hb⟩
    have hq2 := unionP_dtk hTt (k := k) (L := R1.2) (a := loA L t.1 t.2 a) (b := loA L t.1 t.2 b) hG1 (by omega) (by omega) (by omega) (dla.pre hG.o hf.pre (by omega)) (dlb.pre hG.o hf.pre (by omega))
    have hu2 := unionP_sem (k := k) (L := R1.2) (a := loA L t.1 t.2 a) (b := loA L t.1 t.2 b) hG1 (by omega) (by omega) (by omega)
    have hf2 := unionP_fine (k := k) (L := R1.2) (a := loA L t.1 t.2 a) (b := loA L t.1 t.2 b) hf.inv (by omega) (by omega)
    have hs2 := unionP_steps k R1.2 (loA L t.1 t.2 a) (loA L t.1 t.2 b)
    obtain ⟨R2, hR2⟩ : ∃ R2, R2 = unionP k R1.2 (loA L t.1 t.2 a) (loA L t.1 t.2 b) := ⟨_, rfl⟩
    rw [← hR2] at hq2 hu2 hf2 hs2
    have hE : (bindR R1 fun h L1 => bindR (unionP k L1 (loA L1 t.1 t.2 a) (loA L1 t.1 t.2 b)) fun l L2 => testR L2 t h l) = bindR R1 fun h L1 => bindR R2 fun l L2 => testR L2 t h l := by
      unfold bindR
      split
      · dsimp only
        rw [hlq.1, hlq.2, ← hR2]
      · rfl
    rw [hE] at hz ⊢
    obtain ⟨r1, e1⟩ := bindR_zero hz
    rw [e1] at hz ⊢
    obtain ⟨r2, e2⟩ := bindR_zero hz
    rw [e2] at hz ⊢
    have hG2 := hs2.good hG1
    exact testR_dtk hG2 (p := t) (x := R1.1.2) (y := R2.1.2) (by have := hf.lt r1; have := hf2.pre.length_le; omega) (hf2.lt r2) hfit
      ((hu.aftF r1 t.1 (ha3 (fun h => by have := na' h; omega)) (hb3 (fun h => by have := nb' h; omega))).pre hf2.pre (hf.lt r1))
      (hu2.aft r2 t ((la4 na').pre hf.pre (by omega)) ((lb4 nb').pre hf.pre (by omega))) ((hq r1).pre hf.inv hf2.pre (hf.lt r1)) (hq2 r2) hz
  termination_by T _ k => (T.length, k)
end Go.Proofs.YtdijlnibmeapbaaGreatDoor
/- What is made of parts has few tests and few rows, all parts. -/
namespace Go.Proofs.YtdijlnibmeapbaaGreatDoor
open Go.RowKit Go.Sort Go.Maps Go.Lib
set_option linter.unusedSimpArgs false

def partT (p : PartD) : List (Int × Int) := if p.sets = [] then [] else [(p.f, p.n)]
theorem part_dt {L : List NdD} (hG : Gd L) (p : PartD) {A M T : (Int × Int) × List NdD} (hA : A = leafP L p.sets) (hM : M = leafP A.2 []) (hT : T = testP M.2 p.f p.n A.1.1 M.1.1) (hL : L.length + 2 ≤ 65536) (hac0 : A.1.2 = 0) (ht0 : T.1.2 = 0) {c : Nat} (hc : T.1.1 = (c : Int)) : Dt T.2 (min p.sets.length 100) (partT p) c := by
  have hGA : Gd A.2 := by rw [hA]; exact (leafR_steps L p.sets).good hG
  have hGM : Gd M.2 := by rw [hM]; exact (leafR_steps A.2 []).good hGA
  have hA1 : A.2.length ≤ L.length + 1 := by rw [hA]; exact leafR_len L p.sets
  have ha0 : 0 ≤ A.1.1 := by rw [hA]; exact (leafP_bd hG.l.2.1).1
  have hm0 : 0 ≤ M.1.1 := by rw [hM]; exact (leafP_bd hGA.l.2.1).1
  have hTR : testR M.2 (p.f, p.n) A.1.1.toNat M.1.1.toNat = ((T.1.2, T.1.1.toNat), T.2) := by
    unfold testR
    rw [hT]
    dsimp only
    rw [Int.toNat_of_nonneg ha0, Int.toNat_of_nonneg hm0]
  have hla : ∃ m, rowsP p.sets = some m ∧ nodeP A.2 A.1.1.toNat = ⟨-1, 0, 0, 0, m⟩ ∧ A.1.1.toNat < A.2.length := by
    have hAR : leafR L p.sets = ((A.1.2, A.1.1.toNat), A.2) := by unfold leafR; rw [hA]
    have hf := leafR_fine hG.o p.sets
    rw [hAR] at hf
    have hlt := hf.lt hac0
    dsimp only at hlt
    have hap : ∃ m, rowsP p.sets = some m ∧ nodeP A.2 A.1.1.toNat = ⟨-1, 0, 0, 0, m⟩ := by
      rw [hA] at hac0 ⊢
      unfold leafP at hac0 ⊢
      split at hac0
      · have h9 : (2 : Int) = 0 := hac0
        exact absurd h9 (by decide)
      · rename_i m hm
        split at hac0
        · have h9 : (200 : Int) = 0 := hac0
          exact absurd h9 (by decide)
        · rename_i h9
          rw [if_neg h9]
          exact ⟨m, hm, putN_at hac0⟩
    obtain ⟨m, hm, hn⟩ := hap
    exact ⟨m, hm, hn, hlt⟩
  obtain ⟨m, hm, hnA, hltA⟩ := hla
  have hpM : A.2 <+: M.2 := by rw [hM]; exact (leafR_fine hGA.o []).pre
  have hmr := leafR_fit (L := A.2) (l := []) (fun r hr => by cases hr) (by simp) (by omega)
  have hms := (leafR_sem (L := A.2) (l := []) (fun r hr => by cases hr)).2
  have hMR : leafR A.2 [] = ((M.1.2, M.1.1.toNat), M.2) := by unfold leafR; rw [hM]
  have hmf := leafR_fine hGA.o []
  rw [hMR] at hmr hmf hms
  have hml := hmf.lt hmr.1
  dsimp only at hml hms
  have hmd := hmr.2.2 0
  dsimp only at hmd
  obtain ⟨m', hm', hnM⟩ := hms hmr.1
  have hfit : fitsB p.f p.n = true := by
    rw [hT] at ht0
    unfold testP at ht0
    split at ht0
    · rename_i hcnd; exact hcnd.1
    · have h9 : (2 : Int) = 0 := ht0
      exact absurd h9 (by decide)
  have hxl : A.1.1.toNat < M.2.length := Nat.lt_of_lt_of_le hltA hpM.length_le
  have hnA2 : nodeP M.2 A.1.1.toNat = ⟨-1, 0, 0, 0, m⟩ := by rw [nodeP_pre hpM hltA]; exact hnA
  have hxf : (nodeP M.2 A.1.1.toNat).f < 0 := by rw [hnA2]; show (-1 : Int) < 0; decide
  have hlen := hGM.leafLen hxl
  have hlen2 := rowsP_len hm
  rw [hnA2] at hlen
  dsimp only at hlen
  have hleaf : (nodeP M.2 A.1.1.toNat).leaf.length ≤ min p.sets.length 100 := by rw [hnA2]; dsimp only; omega
  unfold partT
  split
  · rename_i hs
    rw [hs] at hm
    have hmm : m = m' := by rw [hm] at hm'; exact Option.some.inj hm'
    have hid : A.1.1.toNat = M.1.1.toNat := hGM.inj hxl hml (by rw [hnA2, hnM, hmm])
    have hbl := hfit
    have htp : testR M.2 (p.f, p.n) A.1.1.toNat A.1.1.toNat = ((0, A.1.1.toNat), M.2) := by
      have hbh : behindB p.f p.n (nodeP M.2 A.1.1.toNat) (nodeP M.2 A.1.1.toNat) = false := behind_iff.2 ⟨fun h => by omega, fun h => by omega⟩
      have h1 : testP M.2 p.f p.n (A.1.1.toNat : Int) (A.1.1.toNat : Int) = (((A.1.1.toNat : Int), 0), M.2) := by
        unfold testP
        rw [if_pos ⟨hfit, ⟨by omega, by omega⟩, by omega, by omega⟩]
        simp only [Int.toNat_natCast, nodeP_some hxl, hbh]
        rw [if_neg (by simp), if_pos trivial]
      unfold testR
      dsimp only
      rw [h1]
      rfl
    rw [← hid, htp] at hTR
    have e2 : T.2 = M.2 := (congrArg (fun R : Out => R.2) hTR).symm
    have e3 : A.1.1.toNat = T.1.1.toNat := congrArg (fun R : Out => R.1.2) hTR
    rw [hc, Int.toNat_natCast] at e3
    rw [e2, ← e3]
    exact ⟨hxf, hleaf⟩
  · have htf := testR_dtk hGM (p := (p.f, p.n)) (n := min p.sets.length 100) (T := []) hxl hml hfit (fun h => by omega) (fun h => by have := hmd.1; omega)
      (Dt.of_leaf hxf hleaf) (Dt.of_leaf hmd.1 (by have := hmd.2; simp only [List.length_nil] at this; omega)) (by rw [hTR]; exact ht0)
    rw [hTR] at htf
    dsimp only at htf
    rw [hc, Int.toNat_natCast] at htf
    exact htf
/-- the tests of the parts -/
def partsT (T : List (Int × Int)) : List PartD → List (Int × Int)
  | [] => T
  | p :: ps => partsT (mergeT (partT p) T) ps
theorem Dt.one {L : List NdD} {n : Nat} {p : PartD} {T : List (Int × Int)} {a : Nat} (h : Dt L n (partT p) a) : Dt L n (mergeT (partT p) T) a := by
  unfold partT at *
  split at h
  · rename_i hs
    rw [if_pos hs]
    exact h.sub (List.nil_sublist _)
  · rename_i hs
    rw [if_neg hs]
    exact h.sub (List.singleton_sublist.2 (mem_insT.2 (.inl rfl)))
theorem partT_len (p : PartD) : (partT p).length ≤ 1 ∧ (partT p).length ≤ min p.sets.length 100 := by
  unfold partT
  split
  · simp
  · rename_i hs
    have : 0 < p.sets.length := List.length_pos_iff.2 hs
    simp only [List.length_cons, List.length_nil]
    omega
theorem sub_partsT : ∀ {ps : List PartD} {T : List (Int × Int)}, T.Sublist (partsT T ps)
  | [], _ => List.Sublist.refl _
  | _ :: _, _ => sub_mergeT.trans sub_partsT
theorem asc_partsT : ∀ {ps : List PartD} {T : List (Int × Int)}, AscT T → AscT (partsT T ps)
  | [], _, h => h
  | p :: ps, _, h => by rw [partsT]; exact asc_partsT (asc_mergeT h)
theorem len_partsT : ∀ {ps : List PartD} {T : List (Int × Int)}, (partsT T ps).length ≤ T.length + ps.length ∧ (partsT T ps).length ≤ T.length + rowsN ps
  | [], _ => ⟨Nat.le_refl _, Nat.le_refl _⟩
  | p :: ps, T => by
    have h1 := len_partsT (ps := ps) (T := mergeT (partT p) T)
    have h2 := len_mergeT (T := partT p) (U := T)
    have h3 := partT_len p
    simp only [partsT, rowsN, List.length_cons]
    omega
theorem madeLoop_dt : ∀ (ps : List PartD) {L : List NdD} {out n d : Nat} {T : List (Int × Int)}, Gd L → AscT T → out < L.length → Dp L 64 d out → Dt L n T out → d + ps.length ≤ 5 → L.length + 67 * ps.length ≤ 65536 → (madeLoop ps L (out : Int)).1.2 = 0 → Dt (madeLoop ps L (out : Int)).2 (n + rowsN ps) (partsT T ps) (madeLoop ps L (out : Int)).1.1.toNat
  | [], L, out, n, d, T, hG, hT, ho, hd, ht, h5, hL, h0 => by show Dt L (n + 0) T ((out : Int).toNat); rw [Int.toNat_natCast]; exact ht
  | p :: ps, L, out, n, d, T, hG, hT, ho, hd, hdt, h5, hL, h0 => by
    obtain ⟨A, hA⟩ : ∃ A, A = leafP L p.sets := ⟨_, rfl⟩
    obtain ⟨M, hM⟩ : ∃ M, M = leafP A.2 [] := ⟨_, rfl⟩
    obtain ⟨T2, hT2⟩ : ∃ T2, T2 = testP M.2 p.f p.n A.1.1 M.1.1 := ⟨_, rfl⟩
    obtain ⟨U, hU⟩ : ∃ U, U = unionT T2.2 (out : Int) T2.1.1 := ⟨_, rfl⟩
    rw [madeLoop_cons p ps L (out : Int) hA hM hT2 hU] at h0 ⊢
    obtain ⟨hGA, hpA, hGT, hpT, hid⟩ := part_test hG p hA hM hT2
    simp only [List.length_cons] at h5 hL ⊢
    have hA1 : A.2.length ≤ L.length + 1 := by rw [hA]; exact leafR_len L p.sets
    have hM1 : M.2.length ≤ A.2.length + 1 := by rw [hM]; exact leafR_len A.2 []
    have hT1 : T2.2.length ≤ M.2.length + 1 := by
      rw [hT2]
      rcases testP_cases M.2 p.f p.n A.1.1 M.1.1 with e | ⟨e, -⟩
      · rw [e]; omega
      · rw [e]; simp
    have hAm := asc_mergeT (T := partT p) hT
    have hrn : n + rowsN (p :: ps) = n + min p.sets.length 100 + rowsN ps := by rw [rowsN]; omega
    rw [hrn]
    by_cases hac : A.1.2 ≠ 0
    · rw [if_pos hac] at h0 ⊢
      clear hid
      exact madeLoop_dt ps hGA hAm (Nat.lt_of_lt_of_le ho hpA.length_le) (hd.pre hG.o hpA ho) (((hdt.pre hG.o hpA ho).sub sub_mergeT).mono (by omega)) (by omega) (by omega) h0
    · rw [if_neg hac] at h0 ⊢
      by_cases ht : T2.1.2 ≠ 0
      · rw [if_pos ht] at h0 ⊢
        clear hid
        exact madeLoop_dt ps hGT hAm (Nat.lt_of_lt_of_le ho (hpA.trans hpT).length_le) (hd.pre hG.o (hpA.trans hpT) ho) (((hdt.pre hG.o (hpA.trans hpT) ho).sub sub_mergeT).mono (by omega)) (by omega) (by omega) h0
      · rw [if_neg ht] at h0 ⊢
        have hac0 : A.1.2 = 0 := by simpa using hac
        have ht0 : T2.1.2 = 0 := by simpa using ht
        obtain ⟨c, hc, hcl⟩ := hid ht0
        have hol : out < T2.2.length := Nat.lt_of_lt_of_le ho (hpA.trans hpT).length_le
        have hd' := hd.pre hG.o (hpA.trans hpT) ho
        have hdc := part_dp hG p hA hM hT2 (by omega) hac0 ht0 hc
        have hdt' := (hdt.pre hG.o (hpA.trans hpT) ho).sub (sub_mergeT (T := partT p))
        have hdtc := (part_dt hG p hA hM hT2 (by omega) hac0 ht0 hc).one (T := T)
        rw [hc, unionT_at hol hcl] at hU
        have hpow : 2 ^ (d + 1 + 1) ≤ 64 := by
          have : 2 ^ (d + 1 + 1) ≤ 2 ^ 6 := Nat.pow_le_pow_right (by decide) (by omega)
          simpa using this
        have hq := unionP_len (k := out + c + 1) hGT hol hcl (by omega) hd' hdc
        have hqt := unionP_dtk hAm (k := out + c + 1) hGT hol hcl (by omega) hdt' hdtc
        have huf := unionP_fine (k := out + c + 1) hGT.o hol hcl
        have hust := unionP_steps (out + c + 1) T2.2 out c
        generalize unionP (out + c + 1) T2.2 out c = R at *
        have hU2 : U.2 = R.2 := by rw [hU]; rfl
        have hUe : U.1.2 = R.1.1 := by rw [hU]; rfl
        have hGR := hust.good hGT
        have hql := hq.len
        by_cases hu : U.1.2 ≠ 0
        · rw [if_pos hu] at h0
          exact absurd h0 hu
        · rw [if_neg hu] at h0 ⊢
          have hr0 : R.1.1 = 0 := by rw [← hUe]; simpa using hu
          have hUi : U.1.1 = (R.1.2 : Int) := by rw [hU]; unfold outD; dsimp only; rw [if_pos hr0]
          rw [hUi, hU2] at h0 ⊢
          exact madeLoop_dt ps hGR hAm (huf.lt hr0) (hq.dp hr0) (hqt hr0) (by omega) (by omega) h0
theorem madeT_dt {L : List NdD} (hG : Gd L) (l : List PartD) (hL : L.length ≤ 65000) (h0 : (madeT L l).1.2 = 0) : Dt (madeT L l).2 (rowsN (l.take 5)) (partsT [] (l.take 5)) (madeT L l).1.1.toNat := by
  unfold madeT at *
  have hf := leafR_fine hG.o []
  have hG1 := (leafR_steps L []).good hG
  obtain ⟨h1, h2, h3⟩ := leafR_fit (L := L) (l := []) (fun r hr => by cases hr) (by simp) (by omega)
  have hc : (leafR L []).1.1 = (leafP L []).1.2 := rfl
  have hz : (leafP L []).1.2 = 0 := by rw [← hc]; exact h1
  have hi : (leafP L []).1.1 = (((leafR L []).1.2 : Nat) : Int) := leafP_nn hz
  have hL2 : (leafP L []).2 = (leafR L []).2 := rfl
  rw [if_neg (by rw [hz]; simp), hi] at h0 ⊢
  have h5 : (l.take 5).length ≤ 5 := by rw [List.length_take]; omega
  have hlen : (leafP L []).2.length = (leafR L []).2.length := by rw [hL2]
  have := madeLoop_dt (l.take 5) (L := (leafP L []).2) (out := (leafR L []).1.2) (n := 0) (d := 0) (T := []) hG1 List.Pairwise.nil (hf.lt h1) ((h3 0).mono (by simp) (Nat.le_refl _)) ⟨(h3 0).1, (h3 0).2⟩ (by omega) (by omega) h0
  rwa [Nat.zero_add] at this
end Go.Proofs.YtdijlnibmeapbaaGreatDoor
