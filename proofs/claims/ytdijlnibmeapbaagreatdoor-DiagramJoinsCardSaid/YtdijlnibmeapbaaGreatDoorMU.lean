/- The plain law of DiagramSame: joined with itself, with nothing, with what does nothing. -/
import Derived.Test.YtdijlnibmeapbaaGreatDoorMR
namespace Go.Proofs.YtdijlnibmeapbaaGreatDoor
open Go.RowKit Go.Sort Go.Maps Go.Lib
set_option linter.unusedSimpArgs false

theorem rowsP_self {m : List RowD} (h1 : RAsc m) (h2 : ∀ r ∈ m, RowN r) : rowsP m = some m := by
  cases hr : rowsP m with
  | none =>
    obtain ⟨s, hs, he⟩ := rowsP_no hr
    have := h2 s hs
    unfold RowN at this
    rw [this] at he
    cases he
  | some m' =>
    congr 1
    refine asc_ext (rowsP_rises hr) h1 fun x => ?_
    rw [rowsP_mem hr]
    constructor
    · rintro ⟨s, hs, he⟩
      have := h2 s hs
      unfold RowN at this
      rw [this] at he
      cases he
      exact hs
    · intro hx
      exact ⟨x, hx, h2 x hx⟩
theorem Gd.leafAsc {L : List NdD} (h : Gd L) {a : Nat} (ha : a < L.length) : RAsc (nodeP L a).leaf := by
  rcases (h.l.2.2 _ (List.mem_of_getElem? (nodeP_some ha))).2 with ⟨l', -, hl', -⟩ | ⟨-, hl'⟩
  · exact rowsP_rises hl'
  · rw [hl']; exact List.Pairwise.nil
theorem Gd.leafForm {L : List NdD} (h : Gd L) {a : Nat} (ha : a < L.length) (hf : (nodeP L a).f < 0) : nodeP L a = ⟨-1, 0, 0, 0, (nodeP L a).leaf⟩ := by
  rcases (h.l.2.2 _ (List.mem_of_getElem? (nodeP_some ha))).2 with ⟨l', he, -, -⟩ | ⟨hf0, -⟩
  · exact he
  · omega
theorem Gd.testForm {L : List NdD} (h : Gd L) {a : Nat} (ha : a < L.length) (hf : 0 ≤ (nodeP L a).f) : nodeP L a = ⟨(nodeP L a).f, (nodeP L a).n, ((nodeP L a).hi.toNat : Int), ((nodeP L a).lo.toNat : Int), []⟩ := by
  have hk := h.o.kids ha hf
  have hl : (nodeP L a).leaf = [] := by
    rcases (h.l.2.2 _ (List.mem_of_getElem? (nodeP_some ha))).2 with ⟨l', he, -, -⟩ | ⟨-, hl⟩
    · rw [he] at hf
      have hf : (0 : Int) ≤ -1 := hf
      omega
    · exact hl
  generalize nodeP L a = x at *
  obtain ⟨f, n, hi, lo, leaf⟩ := x
  dsimp only at *
  rw [← hk.1, ← hk.2.1, hl]
/-- equal nodes stand at one place -/
theorem Gd.inj {L : List NdD} (h : Gd L) {a b : Nat} (ha : a < L.length) (hb : b < L.length) (he : nodeP L a = nodeP L b) : a = b := by
  have h1 := findN_at h.l.1 (nodeP_some ha)
  have h2 := findN_at h.l.1 (nodeP_some hb)
  rw [he] at h1
  rw [h1] at h2
  exact Option.some.inj h2
theorem putN_self {L : List NdD} (h : Gd L) {a : Nat} (ha : a < L.length) : putN L (nodeP L a) = (((a : Int), 0), L) := by
  unfold putN
  rw [findN_at h.l.1 (nodeP_some ha)]
theorem leafR_self {L : List NdD} (h : Gd L) {a : Nat} (ha : a < L.length) (hf : (nodeP L a).f < 0) : leafR L (nodeP L a).leaf = ((0, a), L) := by
  have hr := rowsP_self (h.leafAsc ha) (h.leafN ha)
  have h64 := h.leafLen ha
  have hp := putN_self h ha
  rw [h.leafForm ha hf] at hp
  unfold leafR leafP
  rw [hr]
  dsimp only
  rw [if_neg (by omega), hp]
  rfl
theorem testR_self {L : List NdD} (h : Gd L) {a : Nat} (ha : a < L.length) (hf : 0 ≤ (nodeP L a).f) : testR L ((nodeP L a).f, (nodeP L a).n) (nodeP L a).hi.toNat (nodeP L a).lo.toNat = ((0, a), L) := by
  have hk := h.o.kids ha hf
  obtain ⟨hA, hB⟩ := h.kids ha hf
  have hfit := h.fit ha hf
  have hx : (nodeP L a).hi.toNat < L.length := by omega
  have hy : (nodeP L a).lo.toNat < L.length := by omega
  have hbh : behindB (nodeP L a).f (nodeP L a).n (nodeP L (nodeP L a).hi.toNat) (nodeP L (nodeP L a).lo.toNat) = false := behind_iff.2 ⟨hA, hB⟩
  have hp := putN_self h ha
  rw [h.testForm ha hf] at hp
  unfold testR testP
  dsimp only
  rw [if_pos ⟨hfit, ⟨by omega, by omega⟩, by omega, by omega⟩]
  simp only [Int.toNat_natCast, nodeP_some hx, nodeP_some hy, hbh]
  rw [if_neg (by simp), if_neg (by omega)]
  rw [hp]
  rfl
theorem firstA_nilR {L : List NdD} {a e : Nat} (he : (nodeP L e).f < 0) : firstA L a e = ((nodeP L a).f, (nodeP L a).n) := by
  unfold firstA
  rw [if_pos (.inl he)]
theorem firstA_nilL {L : List NdD} {a e : Nat} (he : (nodeP L e).f < 0) (ha : 0 ≤ (nodeP L a).f) : firstA L e a = ((nodeP L a).f, (nodeP L a).n) := by
  unfold firstA
  rw [if_neg (by omega)]
theorem hiA_leaf {L : List NdD} {e : Nat} (he : (nodeP L e).f < 0) {f n : Int} (hf : 0 ≤ f) : hiA L f n e = e := by
  unfold hiA
  rw [hiP, if_neg (by omega)]
theorem loA_leaf {L : List NdD} {e : Nat} (he : (nodeP L e).f < 0) {f n : Int} (hf : 0 ≤ f) : loA L f n e = e := by
  unfold loA
  rw [if_neg (by omega)]
theorem hiA_own {L : List NdD} {a : Nat} : hiA L (nodeP L a).f (nodeP L a).n a = (nodeP L a).hi.toNat := by
  unfold hiA
  rw [hiP, if_pos rfl, if_pos rfl]
theorem loA_own {L : List NdD} {a : Nat} : loA L (nodeP L a).f (nodeP L a).n a = (nodeP L a).lo.toNat := by
  unfold loA
  rw [if_pos ⟨rfl, rfl⟩]
/-- joined with nothing -/
theorem union_nilR {L : List NdD} (h : Gd L) {e : Nat} (he : nodeP L e = ⟨-1, 0, 0, 0, []⟩) : ∀ {k a : Nat}, a < L.length → a + e < k → unionP k L a e = ((0, a), L)
  | 0, _, _, hk => absurd hk (Nat.not_lt_zero _)
  | k + 1, a, ha, hk => by
    have hef : (nodeP L e).f < 0 := by rw [he]; show (-1 : Int) < 0; decide
    rw [unionP]
    split
    · rfl
    · split
      · rename_i hn
        rw [he, List.append_nil]
        exact leafR_self h ha hn.1
      · rename_i hn
        have hf : 0 ≤ (nodeP L a).f := by omega
        have hkd := h.o.kids ha hf
        dsimp only
        rw [firstA_nilR hef]
        dsimp only
        rw [hiA_own, hiA_leaf hef hf, union_nilR h he (k := k) (by omega) (by omega)]
        unfold bindR
        rw [if_pos rfl]
        dsimp only
        rw [loA_own, loA_leaf hef hf, union_nilR h he (k := k) (by omega) (by omega), if_pos rfl]
        exact testR_self h ha hf
theorem union_nilL {L : List NdD} (h : Gd L) {e : Nat} (he : nodeP L e = ⟨-1, 0, 0, 0, []⟩) : ∀ {k a : Nat}, a < L.length → e + a < k → unionP k L e a = ((0, a), L)
  | 0, _, _, hk => absurd hk (Nat.not_lt_zero _)
  | k + 1, a, ha, hk => by
    have hef : (nodeP L e).f < 0 := by rw [he]; show (-1 : Int) < 0; decide
    rw [unionP]
    split
    · rename_i hea
      rw [hea]
    · split
      · rename_i hn
        rw [he, List.nil_append]
        exact leafR_self h ha hn.2
      · rename_i hn
        have hf : 0 ≤ (nodeP L a).f := by omega
        have hkd := h.o.kids ha hf
        dsimp only
        rw [firstA_nilL hef hf]
        dsimp only
        rw [hiA_own, hiA_leaf hef hf, union_nilL h he (k := k) (by omega) (by omega)]
        unfold bindR
        rw [if_pos rfl]
        dsimp only
        rw [loA_own, loA_leaf hef hf, union_nilL h he (k := k) (by omega) (by omega), if_pos rfl]
        exact testR_self h ha hf
theorem pick_self {L : List NdD} (h : Gd L) {a k : Nat} (ha : a < L.length) (hf : 0 ≤ (nodeP L a).f) : pickP (k + 1) L ((nodeP L a).f, (nodeP L a).n) (nodeP L a).hi.toNat (nodeP L a).lo.toNat = ((0, a), L) := by
  have hk := h.o.kids ha hf
  obtain ⟨hA, hB⟩ := h.kids ha hf
  rw [pickP, if_neg hk.2.2.2.2]
  dsimp only
  have hc : (firstA L (nodeP L a).hi.toNat (nodeP L a).lo.toNat).1 < 0 ∨ (nodeP L a).f < (firstA L (nodeP L a).hi.toNat (nodeP L a).lo.toNat).1 ∨ ((nodeP L a).f = (firstA L (nodeP L a).hi.toNat (nodeP L a).lo.toNat).1 ∧ (nodeP L a).n ≤ (firstA L (nodeP L a).hi.toNat (nodeP L a).lo.toNat).2) := by
    rcases Int.lt_or_le (firstA L (nodeP L a).hi.toNat (nodeP L a).lo.toNat).1 0 with h0 | h0
    · exact .inl h0
    · have h1 := firstA_aft h0 (t := ((nodeP L a).f, (nodeP L a).n)) (fun h2 => .inl (hA h2)) hB
      dsimp only at h1
      omega
  rw [if_pos hc]
  have h1 : hiA L (nodeP L a).f (nodeP L a).n (nodeP L a).hi.toNat = (nodeP L a).hi.toNat := by
    unfold hiA
    rw [hiP]
    by_cases h2 : 0 ≤ (nodeP L (nodeP L a).hi.toNat).f
    · have := hA h2
      rw [if_neg (by omega)]
    · rw [if_neg (by omega)]
  have h2 : loA L (nodeP L a).f (nodeP L a).n (nodeP L a).lo.toNat = (nodeP L a).lo.toNat := by
    unfold loA
    by_cases h2 : 0 ≤ (nodeP L (nodeP L a).lo.toNat).f
    · have := hB h2
      dsimp only at this
      rw [if_neg (by omega)]
    · rw [if_neg (by omega)]
  rw [h1, h2]
  exact testR_self h ha hf
theorem joinA_nilL (m : RowD) : joinA [] m = m := rfl
theorem joinA_nilR (r : RowD) : joinA r [] = r := by
  unfold joinA
  rw [List.append_nil, List.filter_eq_self]
  intro a _
  rfl
theorem behind_nil {L : List NdD} (h : Gd L) : ∀ {k b : Nat}, b < L.length → b < k → behindP k L [] b = ((0, b), L)
  | 0, _, _, hk => absurd hk (Nat.not_lt_zero _)
  | k + 1, b, hb, hk => by
    rw [behindP]
    split
    · rename_i hf
      rw [show (nodeP L b).leaf.map (joinA []) = (nodeP L b).leaf from by rw [show (joinA [] : RowD → RowD) = id from rfl, List.map_id]]
      exact leafR_self h hb hf
    · rename_i hf
      have hf0 : 0 ≤ (nodeP L b).f := by omega
      have hkd := h.o.kids hb hf0
      rw [List.find?_nil]
      dsimp only
      rw [behind_nil h (k := k) (by omega) (by omega)]
      unfold bindR
      rw [if_pos rfl]
      dsimp only
      rw [behind_nil h (k := k) (by omega) (by omega), if_pos rfl]
      exact pick_self h hb hf0
/-- nothing done ahead -/
theorem then_oneL {L : List NdD} (h : Gd L) {o e x k : Nat} (ho : nodeP L o = ⟨-1, 0, 0, 0, [[]]⟩) (he : nodeP L e = ⟨-1, 0, 0, 0, []⟩) (hel : e < L.length) (hx : x < L.length) : thenP (k + 1) L o x = ((0, x), L) := by
  have hle := leafR_self h hel (by rw [he]; show (-1 : Int) < 0; decide)
  rw [he] at hle
  rw [thenP, if_pos (by rw [ho]; show (-1 : Int) < 0; decide), ho]
  dsimp only
  rw [rowsThen, rowsThen, hle]
  unfold bindR
  rw [if_pos rfl]
  dsimp only
  rw [behind_nil h hx (by omega), if_pos rfl]
  exact union_nilL h he hx (by omega)

/-- nothing done behind -/
theorem rows_oneR {L : List NdD} {o : Nat} {l : List RowD} (hN : ∀ r ∈ l, RowN r) (hA : RAsc l) (h64 : l.length ≤ 64) (ho : nodeP L o = ⟨-1, 0, 0, 0, [[]]⟩) (hol : o < L.length) : ∀ {n j : Nat} {M : List NdD} {id : Nat}, n + j = l.length → Gd M → L <+: M → id < M.length → nodeP M id = ⟨-1, 0, 0, 0, l.take j⟩ → M.length + 2 * n < 65536 → ∃ M' id', rowsThen o (l.drop j) ((0, id), M) = ((0, id'), M') ∧ Gd M' ∧ L <+: M' ∧ id' < M'.length ∧ nodeP M' id' = ⟨-1, 0, 0, 0, l⟩ ∧ M'.length ≤ M.length + 2 * n
  | 0, j, M, id, hj, hG, hp, hid, hn, hL => by
    rw [List.drop_of_length_le (by omega)]
    rw [List.take_of_length_le (by omega)] at hn
    exact ⟨M, id, rfl, hG, hp, hid, hn, by omega⟩
  | n + 1, j, M, id, hj, hG, hp, hid, hn, hL => by
    have hjl : j < l.length := by omega
    rw [List.drop_eq_getElem_cons hjl, rowsThen]
    have hr : RowN l[j] := hN _ (List.getElem_mem _)
    have hoM : nodeP M o = ⟨-1, 0, 0, 0, [[]]⟩ := by rw [nodeP_pre hp hol]; exact ho
    have hbeh : behindP (o + 1) M l[j] o = leafR M [l[j]] := by
      rw [behindP, if_pos (by rw [hoM]; show (-1 : Int) < 0; decide), hoM]
      show leafR M [joinA l[j] []] = _
      rw [joinA_nilR]
    have hone : ∀ r ∈ [l[j]], (rowP r).isSome := fun r hr2 => by simp at hr2; subst hr2; exact rowN_some hr
    have hfit := leafR_fit (L := M) hone (by simp) (by omega)
    have hfine := leafR_fine hG.o [l[j]]
    have hst := leafR_steps M [l[j]]
    obtain ⟨m, hm, hnm⟩ := (leafR_sem hone).2 hfit.1
    have hm1 : m = [l[j]] := by
      have := rowsP_self (m := [l[j]]) (List.pairwise_singleton _ _) (fun r hr2 => by simp at hr2; subst hr2; exact hr)
      rw [this] at hm
      exact (Option.some.inj hm).symm
    rw [hm1] at hnm
    generalize leafR M [l[j]] = C at *
    have hGC := hst.good hG
    have hidC : nodeP C.2 id = ⟨-1, 0, 0, 0, l.take j⟩ := by rw [nodeP_pre hfine.pre hid]; exact hn
    have hidl : id < C.2.length := Nat.lt_of_lt_of_le hid hfine.pre.length_le
    have hcl := hfine.lt hfit.1
    have hCl := hfit.2.1
    -- the next leaf
    have htk : l.take (j + 1) = l.take j ++ [l[j]] := List.take_succ_eq_append_getElem hjl
    have hrows : rowsP (l.take (j + 1)) = some (l.take (j + 1)) := rowsP_self (hA.sublist (List.take_sublist _ _)) (fun r hr2 => hN r (List.mem_of_mem_take hr2))
    have hne : id ≠ C.1.2 := fun e => by
      rw [e, hnm] at hidC
      have h5 : [l[j]] = l.take j := by injection hidC
      have h6 : l[j] ∈ l.take j := by rw [← h5]; simp
      obtain ⟨i, hi, hie⟩ := List.getElem_of_mem h6
      rw [List.length_take] at hi
      rw [List.getElem_take] at hie
      have h7 := List.pairwise_iff_getElem.1 hA i j (by omega) hjl (by omega)
      rw [hie] at h7
      exact absurd h7 (List.lt_irrefl _)
    have hun : unionP (id + C.1.2 + 1) C.2 id C.1.2 = leafR C.2 (l.take (j + 1)) := by
      rw [unionP, if_neg hne, if_pos ⟨by rw [hidC]; show (-1 : Int) < 0; decide, by rw [hnm]; show (-1 : Int) < 0; decide⟩, hidC, hnm, htk]
    have hall : ∀ r ∈ l.take (j + 1), (rowP r).isSome := fun r hr2 => rowN_some (hN r (List.mem_of_mem_take hr2))
    have hfit2 := leafR_fit (L := C.2) hall (by rw [List.length_take]; omega) (by omega)
    have hfine2 := leafR_fine hGC.o (l.take (j + 1))
    have hst2 := leafR_steps C.2 (l.take (j + 1))
    obtain ⟨m2, hm2, hnm2⟩ := (leafR_sem hall).2 hfit2.1
    rw [hrows] at hm2
    cases hm2
    have hstep : (bindR ((0, id), M) fun o' L' => bindR (behindP (o + 1) L' l[j] o) fun c L1 => unionP (o' + c + 1) L1 o' c) = leafR C.2 (l.take (j + 1)) := by
      unfold bindR
      rw [if_pos rfl]
      dsimp only
      rw [hbeh, if_pos hfit.1]
      exact hun
    rw [hstep, out_eta hfit2.1]
    have hCl2 := hfit2.2.1
    obtain ⟨M', id', r1, r2, r3, r4, r5, r6⟩ := rows_oneR hN hA h64 ho hol (n := n) (j := j + 1) (M := (leafR C.2 (l.take (j + 1))).2) (id := (leafR C.2 (l.take (j + 1))).1.2) (by omega) (hst2.good hGC) (hp.trans (hfine.pre.trans hfine2.pre)) (hfine2.lt hfit2.1) hnm2 (by omega)
    exact ⟨M', id', r1, r2, r3, r4, r5, by omega⟩

theorem then_oneR {L0 : List NdD} {o : Nat} (ho : nodeP L0 o = ⟨-1, 0, 0, 0, [[]]⟩) (hol : o < L0.length) : ∀ {k d x : Nat} {L : List NdD}, Gd L → L0 <+: L → x < L.length → x < k → Dp L 64 d x → L.length + 130 * 2 ^ d < 65536 → ∃ M, thenP k L x o = ((0, x), M) ∧ Gd M ∧ L <+: M ∧ M.length ≤ L.length + 130 * 2 ^ d
  | 0, _, _, _, _, _, _, hk, _, _ => absurd hk (Nat.not_lt_zero _)
  | k + 1, d, x, L, hG, hp, hx, hk, hd, hL => by
    have hp1 : 1 ≤ 2 ^ d := Nat.one_le_two_pow
    rw [thenP]
    split
    · rename_i hf
      have h0 := leafR_fit (L := L) (l := []) (fun r hr => by cases hr) (by simp) (by omega)
      have hf0 := leafR_fine hG.o []
      have hs0 := leafR_steps L []
      obtain ⟨m, hm, hn⟩ := (leafR_sem (L := L) (l := []) (fun r hr => by cases hr)).2 h0.1
      have hm0 : m = [] := by
        have := rowsP_self (m := []) List.Pairwise.nil (fun r hr => by cases hr)
        rw [this] at hm
        exact (Option.some.inj hm).symm
      rw [hm0] at hn
      rw [out_eta h0.1]
      have hl64 := hG.leafLen hx
      have hl1 := h0.2.1
      generalize leafR L [] = R at *
      obtain ⟨M, id', r1, r2, r3, r4, r5, r6⟩ := rows_oneR (L := L) (l := (nodeP L x).leaf) (hG.leafN hx) (hG.leafAsc hx) hl64 (by rw [nodeP_pre hp hol]; exact ho) (Nat.lt_of_lt_of_le hol hp.length_le) (n := (nodeP L x).leaf.length) (j := 0) (M := R.2) (id := R.1.2) (by omega) (hs0.good hG) hf0.pre (hf0.lt h0.1) (by rw [hn, List.take_zero]) (by omega)
      rw [List.drop_zero] at r1
      have hxM : x < M.length := Nat.lt_of_lt_of_le hx r3.length_le
      have he : id' = x := r2.inj r4 hxM (by rw [r5, nodeP_pre r3 hx]; exact (hG.leafForm hx hf).symm)
      rw [he] at r1
      exact ⟨M, r1, r2, r3, by omega⟩
    · rename_i hf
      have hf0 : 0 ≤ (nodeP L x).f := by omega
      have hkd := hG.o.kids hx hf0
      obtain ⟨e, rfl, d1, d2⟩ := hd.kids hf0
      have hpe : 2 ^ (e + 1) = 2 ^ e + 2 ^ e := by rw [Nat.pow_succ]; omega
      obtain ⟨M1, m1, m2, m3, m4⟩ := then_oneR ho hol (k := k) (d := e) (x := (nodeP L x).hi.toNat) hG hp (by omega) (by omega) d1 (by omega)
      have hlo : (nodeP L x).lo.toNat < L.length := by omega
      obtain ⟨M2, n1, n2, n3, n4⟩ := then_oneR ho hol (k := k) (d := e) (x := (nodeP L x).lo.toNat) m2 (hp.trans m3) (Nat.lt_of_lt_of_le hlo m3.length_le) (by omega) (d2.pre hG.o m3 hlo) (by omega)
      have hxM : x < M2.length := Nat.lt_of_lt_of_le hx (m3.trans n3).length_le
      have hsame : nodeP M2 x = nodeP L x := nodeP_pre (m3.trans n3) hx
      have hps := pick_self n2 (k := (nodeP L x).hi.toNat + (nodeP L x).lo.toNat) hxM (by rw [hsame]; exact hf0)
      rw [hsame] at hps
      refine ⟨M2, ?_, n2, m3.trans n3, by omega⟩
      rw [m1]
      unfold bindR
      rw [if_pos rfl]
      dsimp only
      rw [n1, if_pos rfl]
      exact hps

/-- how far a union lets a store grow, whatever becomes of it -/
structure UnionLen (L : List NdD) (d c : Nat) (R : Out) : Prop where
  len : R.2.length + 1 ≤ L.length + c
  dp : R.1.1 = 0 → Dp R.2 64 d R.1.2
theorem leafR_len (L : List NdD) (l : List RowD) : (leafR L l).2.length ≤ L.length + 1 := by
  show (leafP L l).2.length ≤ _
  rcases leafP_cases L l with e | ⟨s, e⟩
  · rw [e]; omega
  · rw [e]; simp
theorem testR_len (L : List NdD) (p : Int × Int) (x y : Nat) : (testR L p x y).2.length ≤ L.length + 1 := by
  show (testP L p.1 p.2 x y).2.length ≤ _
  rcases testP_cases L p.1 p.2 x y with e | ⟨e, -⟩
  · rw [e]; omega
  · rw [e]; simp
theorem testR_dp {L : List NdD} (hG : Gd L) {p : Int × Int} {x y n d : Nat} (hx : x < L.length) (hy : y < L.length) (hf : fitsB p.1 p.2 = true) (hA : AftF L p.1 x) (hB : Aft L p y) (dx : Dp L n d x) (dy : Dp L n d y) (h0 : (testR L p x y).1.1 = 0) : Dp (testR L p x y).2 n (d + 1) (testR L p x y).1.2 := by
  have hfb := fits_bd hf
  have hbh : behindB p.1 p.2 (nodeP L x) (nodeP L y) = false := behind_iff.2 ⟨hA, hB⟩
  have htp : testP L p.1 p.2 x y = if x = y then (((x : Int), 0), L) else putN L ⟨p.1, p.2, x, y, []⟩ := by
    unfold testP
    rw [if_pos ⟨hf, ⟨by omega, by omega⟩, by omega, by omega⟩]
    simp only [Int.toNat_natCast, nodeP_some hx, nodeP_some hy, hbh]
    by_cases hxy : x = y
    · rw [if_pos hxy, if_neg (by simp), if_pos (by rw [hxy])]
    · rw [if_neg hxy, if_neg (by simp), if_neg (by omega)]
  by_cases hxy : x = y
  · rw [if_pos hxy] at htp
    have hT : testR L p x y = ((0, x), L) := by unfold testR; rw [htp]; rfl
    rw [hT]
    exact dx.mono (Nat.le_refl _) (by omega)
  · rw [if_neg hxy] at htp
    have hfi := testR_fine hG.o p x y
    have hT : testR L p x y = (((putN L ⟨p.1, p.2, x, y, []⟩).1.2, (putN L ⟨p.1, p.2, x, y, []⟩).1.1.toNat), (putN L ⟨p.1, p.2, x, y, []⟩).2) := by unfold testR; rw [htp]
    rw [hT] at hfi h0 ⊢
    have h3 := putN_at h0
    refine .inr ?_
    dsimp only
    rw [h3]
    dsimp only
    rw [Int.toNat_natCast, Int.toNat_natCast]
    exact ⟨by omega, dx.pre hG.o hfi.pre hx, dy.pre hG.o hfi.pre hy⟩
theorem unionP_len : ∀ {k : Nat} {L : List NdD} {a b da db : Nat}, Gd L → a < L.length → b < L.length → a + b < k → Dp L 64 da a → Dp L 64 db b → UnionLen L (da + db) (2 ^ (da + db + 1)) (unionP k L a b)
  | 0, _, _, _, _, _, _, _, _, h, _, _ => absurd h (Nat.not_lt_zero _)
  | k + 1, L, a, b, da, db, hG, ha, hb, hk, hda, hdb => by
    have hpow : 2 ≤ 2 ^ (da + db + 1) := by
      have := Nat.pow_le_pow_right (show 0 < 2 by decide) (show 1 ≤ da + db + 1 by omega)
      simpa using this
    rw [unionP]
    split
    · exact ⟨by dsimp only; omega, fun _ => hda.mono (Nat.le_refl _) (by omega)⟩
    · split
      · rename_i hn
        have hrows : ∀ r ∈ (nodeP L a).leaf ++ (nodeP L b).leaf, (rowP r).isSome := fun r hr => by
          rcases List.mem_append.1 hr with hr | hr
          · exact rowN_some (hG.leafN ha r hr)
          · exact rowN_some (hG.leafN hb r hr)
        have hl := leafR_len L ((nodeP L a).leaf ++ (nodeP L b).leaf)
        have hst := leafR_steps L ((nodeP L a).leaf ++ (nodeP L b).leaf)
        have hfi := leafR_fine hG.o ((nodeP L a).leaf ++ (nodeP L b).leaf)
        exact ⟨by omega, fun h0 => Dp.of_leaf (leafR_means hrows h0).1 ((hst.good hG).leafLen (hfi.lt h0))⟩
      · rename_i hn
        obtain ⟨h0, h1, h2, h3, h4, h5, h6⟩ := first_falls hG.o ha hb hn
        dsimp only
        have hfit := firstA_fit hG ha hb h0
        obtain ⟨na', nb'⟩ := firstA_notB (L := L) (a := a) (b := b)
        have hroot := firstA_root h0
        generalize firstA L a b = p at *
        obtain ⟨ha1, ha2, ha3⟩ := hiA_sem hG h0 (a := a) ha
        obtain ⟨hb1, hb2, hb3⟩ := hiA_sem hG h0 (a := b) hb
        obtain ⟨la1, la2, la3, la4⟩ := loA_sem hG h0 (a := a) ha
        obtain ⟨lb1, lb2, lb3, lb4⟩ := loA_sem hG h0 (a := b) hb
        obtain ⟨ea, eb, he, dha, dla, dhb, dlb⟩ : ∃ ea eb, ea + eb + 1 = da + db ∧ Dp L 64 ea (hiA L p.1 p.2 a) ∧ Dp L 64 ea (loA L p.1 p.2 a) ∧ Dp L 64 eb (hiA L p.1 p.2 b) ∧ Dp L 64 eb (loA L p.1 p.2 b) := by
          rcases hroot with ⟨e1, e2⟩ | ⟨e1, e2⟩
          · obtain ⟨e, he, h7, h8⟩ := hda.fall h0 e1 e2
            exact ⟨e, db, by omega, h7, h8, hdb.hiA hG.o h0 hb, hdb.loA h0⟩
          · obtain ⟨e, he, h7, h8⟩ := hdb.fall h0 e1 e2
            exact ⟨da, e, by omega, hda.hiA hG.o h0 ha, hda.loA h0, h7, h8⟩
        have hp2 : 2 ^ (da + db + 1) = 2 ^ (ea + eb + 1) + 2 ^ (ea + eb + 1) := by rw [← he, Nat.pow_succ]; omega
        have hq := unionP_len (k := k) (a := hiA L p.1 p.2 a) (b := hiA L p.1 p.2 b) hG (by omega) (by omega) (by omega) dha dhb
        have hu := unionP_sem (k := k) (a := hiA L p.1 p.2 a) (b := hiA L p.1 p.2 b) hG (by omega) (by omega) (by omega)
        have hf := unionP_fine (k := k) (a := hiA L p.1 p.2 a) (b := hiA L p.1 p.2 b) hG.o (by omega) (by omega)
        have hs := unionP_steps k L (hiA L p.1 p.2 a) (hiA L p.1 p.2 b)
        generalize unionP k L (hiA L p.1 p.2 a) (hiA L p.1 p.2 b) = R1 at *
        have hG1 := hs.good hG
        have hl := hf.pre.length_le
        have hql := hq.len
        have hlq : loA R1.2 p.1 p.2 a = loA L p.1 p.2 a ∧ loA R1.2 p.1 p.2 b = loA L p.1 p.2 b := ⟨loA_pre hf.pre ha, loA_pre hf.pre hb⟩
        have hq2 := unionP_len (k := k) (L := R1.2) (a := loA L p.1 p.2 a) (b := loA L p.1 p.2 b) hG1 (by omega) (by omega) (by omega) (dla.pre hG.o hf.pre (by omega)) (dlb.pre hG.o hf.pre (by omega))
        have hu2 := unionP_sem (k := k) (L := R1.2) (a := loA L p.1 p.2 a) (b := loA L p.1 p.2 b) hG1 (by omega) (by omega) (by omega)
        have hf2 := unionP_fine (k := k) (L := R1.2) (a := loA L p.1 p.2 a) (b := loA L p.1 p.2 b) hf.inv (by omega) (by omega)
        have hs2 := unionP_steps k R1.2 (loA L p.1 p.2 a) (loA L p.1 p.2 b)
        obtain ⟨R2, hR2⟩ : ∃ R2, R2 = unionP k R1.2 (loA L p.1 p.2 a) (loA L p.1 p.2 b) := ⟨_, rfl⟩
        rw [← hR2] at hq2 hu2 hf2 hs2
        have hE : (bindR R1 fun h L1 => bindR (unionP k L1 (loA L1 p.1 p.2 a) (loA L1 p.1 p.2 b)) fun l L2 => testR L2 p h l) = bindR R1 fun h L1 => bindR R2 fun l L2 => testR L2 p h l := by
          unfold bindR
          split
          · dsimp only
            rw [hlq.1, hlq.2, ← hR2]
          · rfl
        rw [hE]
        have hG2 := hs2.good hG1
        have hql2 := hq2.len
        constructor
        · unfold bindR
          split
          · dsimp only
            split
            · have h9 := testR_len R2.2 p R1.1.2 R2.1.2
              omega
            · omega
          · omega
        · intro z
          obtain ⟨r1, e1⟩ := bindR_zero z
          rw [e1] at z
          obtain ⟨r2, e2⟩ := bindR_zero z
          rw [e2] at z
          rw [e1, e2]
          have := testR_dp hG2 (p := p) (x := R1.1.2) (y := R2.1.2) (by have := hf.lt r1; have := hf2.pre.length_le; omega) (hf2.lt r2) hfit
            ((hu.aftF r1 p.1 (ha3 (fun h => by have := na' h; omega)) (hb3 (fun h => by have := nb' h; omega))).pre hf2.pre (hf.lt r1))
            (hu2.aft r2 p ((la4 na').pre hf.pre (by omega)) ((lb4 nb').pre hf.pre (by omega))) ((hq.dp r1).pre hf.inv hf2.pre (hf.lt r1)) (hq2.dp r2) z
          exact this.mono (Nat.le_refl _) (by omega)
end Go.Proofs.YtdijlnibmeapbaaGreatDoor
/- What is made of parts is small. -/
namespace Go.Proofs.YtdijlnibmeapbaaGreatDoor
open Go.RowKit Go.Sort Go.Maps Go.Lib
set_option linter.unusedSimpArgs false

theorem part_dp {L : List NdD} (hG : Gd L) (p : PartD) {A M T : (Int × Int) × List NdD} (hA : A = leafP L p.sets) (hM : M = leafP A.2 []) (hT : T = testP M.2 p.f p.n A.1.1 M.1.1) (hL : L.length + 2 ≤ 65536) (hac0 : A.1.2 = 0) (ht0 : T.1.2 = 0) {c : Nat} (hc : T.1.1 = (c : Int)) : Dp T.2 64 1 c := by
  have hGA : Gd A.2 := by rw [hA]; exact (leafR_steps L p.sets).good hG
  have hGM : Gd M.2 := by rw [hM]; exact (leafR_steps A.2 []).good hGA
  have hA1 : A.2.length ≤ L.length + 1 := by rw [hA]; exact leafR_len L p.sets
  have ha0 : 0 ≤ A.1.1 := by rw [hA]; exact (leafP_bd hG.l.2.1).1
  have hm0 : 0 ≤ M.1.1 := by rw [hM]; exact (leafP_bd hGA.l.2.1).1
  have hTR : testR M.2 (p.f, p.n) A.1.1.toNat M.1.1.toNat = ((T.1.2, T.1.1.toNat), T.2) := by
    unfold testR
    rw [hT]
    dsimp only
    rw [Int.toNat_of_nonneg ha0, Int.toNat_of_nonneg hm0]
  have hla : (nodeP A.2 A.1.1.toNat).f < 0 ∧ A.1.1.toNat < A.2.length := by
    have hAR : leafR L p.sets = ((A.1.2, A.1.1.toNat), A.2) := by unfold leafR; rw [hA]
    have hf := leafR_fine hG.o p.sets
    rw [hAR] at hf
    have hlt := hf.lt hac0
    dsimp only at hlt
    refine ⟨?_, hlt⟩
    rw [hA] at hac0 ⊢
    unfold leafP at hac0 ⊢
    split at hac0
    · have h9 : (2 : Int) = 0 := hac0
      exact absurd h9 (by decide)
    · rename_i m hm
      split at hac0
      · have h9 : (200 : Int) = 0 := hac0
        exact absurd h9 (by decide)
      · rename_i h9
        rw [if_neg h9, putN_at hac0]
        show (-1 : Int) < 0
        decide
  have hpM : A.2 <+: M.2 := by rw [hM]; exact (leafR_fine hGA.o []).pre
  have hmr := leafR_fit (L := A.2) (l := []) (fun r hr => by cases hr) (by simp) (by omega)
  have hMR : leafR A.2 [] = ((M.1.2, M.1.1.toNat), M.2) := by unfold leafR; rw [hM]
  have hmf := leafR_fine hGA.o []
  rw [hMR] at hmr hmf
  have hml := hmf.lt hmr.1
  dsimp only at hml
  have hmd := hmr.2.2 0
  dsimp only at hmd
  have hfit : fitsB p.f p.n = true := by
    rw [hT] at ht0
    unfold testP at ht0
    split at ht0
    · rename_i hcnd; exact hcnd.1
    · have h9 : (2 : Int) = 0 := ht0
      exact absurd h9 (by decide)
  have hxl : A.1.1.toNat < M.2.length := Nat.lt_of_lt_of_le hla.2 hpM.length_le
  have hxf : (nodeP M.2 A.1.1.toNat).f < 0 := by rw [nodeP_pre hpM hla.2]; exact hla.1
  have htf := testR_dp hGM (p := (p.f, p.n)) (n := 64) (d := 0) hxl hml hfit (fun h => by omega) (fun h => by have := hmd.1; omega)
    (Dp.of_leaf hxf (hGM.leafLen hxl)) (hmd.mono (by simp) (Nat.le_refl _)) (by rw [hTR]; exact ht0)
  rw [hTR] at htf
  dsimp only at htf
  rw [hc, Int.toNat_natCast] at htf
  exact htf
theorem madeLoop_len : ∀ (ps : List PartD) {L : List NdD} {out d : Nat}, Gd L → out < L.length → Dp L 64 d out → d + ps.length ≤ 5 → L.length + 67 * ps.length ≤ 65536 → (madeLoop ps L (out : Int)).1.2 = 0 → (madeLoop ps L (out : Int)).2.length ≤ L.length + 67 * ps.length ∧ Dp (madeLoop ps L (out : Int)).2 64 (d + ps.length) (madeLoop ps L (out : Int)).1.1.toNat
  | [], L, out, d, hG, ho, hd, h5, hL, h0 => ⟨by show L.length ≤ _; omega, by show Dp L 64 (d + 0) ((out : Int).toNat); rw [Int.toNat_natCast]; exact hd⟩
  | p :: ps, L, out, d, hG, ho, hd, h5, hL, h0 => by
    obtain ⟨A, hA⟩ : ∃ A, A = leafP L p.sets := ⟨_, rfl⟩
    obtain ⟨M, hM⟩ : ∃ M, M = leafP A.2 [] := ⟨_, rfl⟩
    obtain ⟨T, hT⟩ : ∃ T, T = testP M.2 p.f p.n A.1.1 M.1.1 := ⟨_, rfl⟩
    obtain ⟨U, hU⟩ : ∃ U, U = unionT T.2 (out : Int) T.1.1 := ⟨_, rfl⟩
    rw [madeLoop_cons p ps L (out : Int) hA hM hT hU] at h0 ⊢
    obtain ⟨hGA, hpA, hGT, hpT, hid⟩ := part_test hG p hA hM hT
    simp only [List.length_cons] at h5 hL ⊢
    have hA1 : A.2.length ≤ L.length + 1 := by rw [hA]; exact leafR_len L p.sets
    have hM1 : M.2.length ≤ A.2.length + 1 := by rw [hM]; exact leafR_len A.2 []
    have hT1 : T.2.length ≤ M.2.length + 1 := by
      rw [hT]
      rcases testP_cases M.2 p.f p.n A.1.1 M.1.1 with e | ⟨e, -⟩
      · rw [e]; omega
      · rw [e]; simp
    by_cases hac : A.1.2 ≠ 0
    · rw [if_pos hac] at h0 ⊢
      clear hid
      obtain ⟨c2, c3⟩ := madeLoop_len ps hGA (Nat.lt_of_lt_of_le ho hpA.length_le) (hd.pre hG.o hpA ho) (by omega) (by omega) h0
      exact ⟨by omega, c3.mono (Nat.le_refl _) (by omega)⟩
    · rw [if_neg hac] at h0 ⊢
      by_cases ht : T.1.2 ≠ 0
      · rw [if_pos ht] at h0 ⊢
        clear hid
        obtain ⟨c2, c3⟩ := madeLoop_len ps hGT (Nat.lt_of_lt_of_le ho (hpA.trans hpT).length_le) (hd.pre hG.o (hpA.trans hpT) ho) (by omega) (by omega) h0
        exact ⟨by omega, c3.mono (Nat.le_refl _) (by omega)⟩
      · rw [if_neg ht] at h0 ⊢
        have hac0 : A.1.2 = 0 := by simpa using hac
        have ht0 : T.1.2 = 0 := by simpa using ht
        obtain ⟨c, hc, hcl⟩ := hid ht0
        have hol : out < T.2.length := Nat.lt_of_lt_of_le ho (hpA.trans hpT).length_le
        have hd' := hd.pre hG.o (hpA.trans hpT) ho
        have hdc := part_dp hG p hA hM hT (by omega) hac0 ht0 hc
        rw [hc, unionT_at hol hcl] at hU
        have hpow : 2 ^ (d + 1 + 1) ≤ 64 := by
          have : 2 ^ (d + 1 + 1) ≤ 2 ^ 6 := Nat.pow_le_pow_right (by decide) (by omega)
          simpa using this
        have hq := unionP_len (k := out + c + 1) hGT hol hcl (by omega) hd' hdc
        have huf := unionP_fine (k := out + c + 1) hGT.o hol hcl
        have hust := unionP_steps (out + c + 1) T.2 out c
        generalize unionP (out + c + 1) T.2 out c = R at *
        have hU2 : U.2 = R.2 := by rw [hU]; rfl
        have hUe : U.1.2 = R.1.1 := by rw [hU]; rfl
        have hGR := hust.good hGT
        have hql := hq.len
        by_cases hu : U.1.2 ≠ 0
        · rw [if_pos hu] at h0
          exact absurd h0 hu
        · rw [if_neg hu] at h0 ⊢
          have hr0 : R.1.1 = 0 := by rw [← hUe]; simpa using hu
          have hUi : U.1.1 = (R.1.2 : Int) := by rw [hU]; unfold outD; dsimp only; rw [if_pos hr0]
          rw [hUi, hU2] at h0 ⊢
          obtain ⟨c2, c3⟩ := madeLoop_len ps hGR (huf.lt hr0) (hq.dp hr0) (by omega) (by omega) h0
          exact ⟨by omega, c3.mono (Nat.le_refl _) (by omega)⟩
theorem madeT_len {L : List NdD} (hG : Gd L) (l : List PartD) (hL : L.length ≤ 65000) (h0 : (madeT L l).1.2 = 0) : (madeT L l).2.length ≤ L.length + 336 ∧ Dp (madeT L l).2 64 5 (madeT L l).1.1.toNat := by
  unfold madeT at *
  have hf := leafR_fine hG.o []
  have hG1 := (leafR_steps L []).good hG
  obtain ⟨h1, h2, h3⟩ := leafR_fit (L := L) (l := []) (fun r hr => by cases hr) (by simp) (by omega)
  have hc : (leafR L []).1.1 = (leafP L []).1.2 := rfl
  have hz : (leafP L []).1.2 = 0 := by rw [← hc]; exact h1
  have hi : (leafP L []).1.1 = (((leafR L []).1.2 : Nat) : Int) := leafP_nn hz
  have hL2 : (leafP L []).2 = (leafR L []).2 := rfl
  rw [if_neg (by rw [hz]; simp), hi] at h0 ⊢
  have h5 : (l.take 5).length ≤ 5 := by rw [List.length_take]; omega
  have hlen : (leafP L []).2.length = (leafR L []).2.length := by rw [hL2]
  obtain ⟨c2, c3⟩ := madeLoop_len (l.take 5) (L := (leafP L []).2) (out := (leafR L []).1.2) (d := 0) hG1 (hf.lt h1) ((h3 0).mono (by simp) (Nat.le_refl _)) (by omega) (by omega) h0
  exact ⟨by omega, c3.mono (Nat.le_refl _) (by omega)⟩
/-- the empty leaf stands in what was made -/
theorem made_nil {L : List NdD} (hG : Gd L) (hL : L.length < 65536) : ∃ e, leafR L [] = ((0, e), (leafR L []).2) ∧ e < (leafR L []).2.length ∧ nodeP (leafR L []).2 e = ⟨-1, 0, 0, 0, []⟩ := by
  have h1 := leafR_fit (L := L) (l := []) (fun r hr => by cases hr) (by simp) hL
  have hf := leafR_fine hG.o []
  obtain ⟨m, hm, hn⟩ := (leafR_sem (L := L) (l := []) (fun r hr => by cases hr)).2 h1.1
  have hm0 : m = [] := by
    have := rowsP_self (m := []) List.Pairwise.nil (fun r hr => by cases hr)
    rw [this] at hm
    exact (Option.some.inj hm).symm
  rw [hm0] at hn
  exact ⟨_, out_eta h1.1, hf.lt h1.1, hn⟩
theorem made_one {L : List NdD} (hG : Gd L) (hL : L.length < 65536) : ∃ o, leafR L [[]] = ((0, o), (leafR L [[]]).2) ∧ o < (leafR L [[]]).2.length ∧ nodeP (leafR L [[]]).2 o = ⟨-1, 0, 0, 0, [[]]⟩ := by
  have hrow : ∀ r ∈ ([[]] : List RowD), RowN r := fun r hr => by
    simp at hr
    subst hr
    unfold RowN
    rw [rowV_nil.some]
    exact congrArg some (List.length_eq_zero_iff.1 (sortF_perm []).length_eq)
  have h1 := leafR_fit (L := L) (l := [[]]) (fun r hr => rowN_some (hrow r hr)) (by simp) hL
  have hf := leafR_fine hG.o [[]]
  obtain ⟨m, hm, hn⟩ := (leafR_sem (L := L) (l := [[]]) (fun r hr => rowN_some (hrow r hr))).2 h1.1
  have hm0 : m = [[]] := by
    have := rowsP_self (m := [[]]) (List.pairwise_singleton _ _) hrow
    rw [this] at hm
    exact (Option.some.inj hm).symm
  rw [hm0] at hn
  exact ⟨_, out_eta h1.1, hf.lt h1.1, hn⟩
end Go.Proofs.YtdijlnibmeapbaaGreatDoor
