/- The document's Rows (law 20). -/
import Derived.Test.YtehdddilcakmlaaDoorNRef2
namespace Go.Proofs.YtehdddilcakmlaaDoor
open Go.RowKit Go.Sort Go.Maps Go.Lib
set_option linter.unusedSimpArgs false

def RRows (l : List RowD) (w : World) (e : Ending) (w' : World) : Prop := Ext w w' ∧ match rowsP l with
  | none => ∃ u, e = .returned (.tuple #[u, .bool false])
  | some s => ∃ u, e = .returned (.tuple #[u, .bool true]) ∧ RowsOn (fun b => w.heap.size ≤ b) w' s u
theorem RRows.no {l : List RowD} {w w' : World} {u : Value} (h : rowsP l = none) (hx : Ext w w') : RRows l w (.returned (.tuple #[u, .bool false])) w' := by
  unfold RRows; rw [h]; exact ⟨hx, u, rfl⟩
theorem RRows.yes {l s : List RowD} {w w' : World} {u : Value} (h : rowsP l = some s) (hx : Ext w w') (hu : RowsOn (fun b => w.heap.size ≤ b) w' s u) : RRows l w (.returned (.tuple #[u, .bool true])) w' := by
  unfold RRows; rw [h]; exact ⟨hx, u, rfl, hu⟩
/-- rows as a slice of cells -/
theorem rowsVs {B : Nat → Prop} {w : World} {l : List RowD} {p : Option Addr} {n c : Nat} (h : RowsOn B w l (.slice p n c)) : ∃ vs, RowsV B w l vs ∧ (l = [] ∨ ∃ b o, p = some ⟨b, o, none⟩ ∧ w.rangeAt b o vs) := by
  obtain ⟨_, _, _, he, h1, h2, h3, hh⟩ := h
  cases he
  rcases hh with rfl | ⟨b, o, vs, rfl, -, -, hvl, hr, hrow⟩
  · exact ⟨[], RowsV.nil, .inl rfl⟩
  · exact ⟨vs, ⟨hvl, hrow⟩, .inr ⟨b, o, rfl, hr⟩⟩
theorem RowsV.take {B : Nat → Prop} {w : World} {l : List RowD} {vs : List Value} (h : RowsV B w l vs) (k : Nat) : RowsV B w (l.take k) (vs.take k) := by
  refine ⟨by rw [List.length_take, List.length_take, h.1], fun i h1 h2 => ?_⟩
  rw [List.getElem_take, List.getElem_take]
  exact h.2 i _ _
theorem RowsV.drop {B : Nat → Prop} {w : World} {l : List RowD} {vs : List Value} (h : RowsV B w l vs) (k : Nat) : RowsV B w (l.drop k) (vs.drop k) := by
  refine ⟨by rw [List.length_drop, List.length_drop, h.1], fun i h1 h2 => ?_⟩
  rw [List.getElem_drop, List.getElem_drop]
  exact h.2 _ _ _
theorem RowsV.app {B : Nat → Prop} {w : World} {l m : List RowD} {vs us : List Value} (h : RowsV B w l vs) (k : RowsV B w m us) : RowsV B w (l ++ m) (vs ++ us) := by
  refine ⟨by rw [List.length_append, List.length_append, h.1, k.1], fun i h1 h2 => ?_⟩
  by_cases hi : i < l.length
  · rw [List.getElem_append_left hi, List.getElem_append_left (by rw [h.1]; exact hi)]
    exact h.2 i _ _
  · have hi2 : l.length ≤ i := by omega
    rw [List.getElem_append_right hi2, List.getElem_append_right (by rw [h.1]; exact hi2)]
    have := k.2 (i - l.length) (by rw [List.length_append] at h1; omega) (by rw [k.1]; rw [List.length_append] at h1; omega)
    simpa [h.1] using this
theorem RowsV.single {B : Nat → Prop} {w : World} {r : RowD} {v : Value} (h : RowOn B w r v) : RowsV B w [r] [v] := by
  have := RowsV.snoc (RowsV.nil (B := B) (w := w)) h
  simpa using this

theorem news_take {w : World} {p : Option Addr} {m : List RowD} {vs : List Value} {K : Nat} (h : m = [] ∨ ∃ b o, p = some ⟨b, o, none⟩ ∧ w.rangeAt b o vs) (hK : K ≤ m.length) : K = 0 ∨ ∃ a, p = some a ∧ ∀ j u, (vs.take K)[j]? = some u → w.cell? (a.add j) = some u := by
  rcases h with rfl | ⟨b, o, rfl, hr⟩
  · exact .inl (by simpa using hK)
  · refine .inr ⟨_, rfl, fun j u hu => ?_⟩
    rw [Addr.add_mid]
    refine hr j u ?_
    rw [List.getElem?_take] at hu
    split at hu
    · exact hu
    · cases hu
theorem news_drop {w : World} {p : Option Addr} {m : List RowD} {vs : List Value} {K n c : Nat} (h : m = [] ∨ ∃ b o, p = some ⟨b, o, none⟩ ∧ w.rangeAt b o vs) (hn : n = m.length) (hK : K ≤ n) (hc : n ≤ c) : n - K = 0 ∨ ∃ a, (if c = K then p else p.map (·.add (K * 1))) = some a ∧ ∀ j u, (vs.drop K)[j]? = some u → w.cell? (a.add j) = some u := by
  rcases h with rfl | ⟨b, o, rfl, hr⟩
  · exact .inl (by simp at hn; omega)
  · by_cases he : c = K
    · exact .inl (by omega)
    · refine .inr ⟨_, by rw [if_neg he]; rfl, fun j u hu => ?_⟩
      rw [List.getElem?_drop] at hu
      have := hr (K + j) u hu
      show w.cell? (((⟨b, o, none⟩ : Addr).add (K * 1)).add j) = some u
      rw [Addr.add_mid, Addr.add_mid, Nat.mul_one, Nat.add_assoc]
      exact this
theorem news_later {w w' : World} (hx : Ext w w') {p : Option Addr} {m : List RowD} {vs : List Value} (h : m = [] ∨ ∃ b o, p = some ⟨b, o, none⟩ ∧ w.rangeAt b o vs) : m = [] ∨ ∃ b o, p = some ⟨b, o, none⟩ ∧ w'.rangeAt b o vs :=
  h.imp id fun ⟨b, o, hp, hr⟩ => ⟨b, o, hp, World.rangeAt.later hx.later hr⟩
theorem news_dropMid {w : World} {b0 o0 : Nat} {m : List RowD} {vs : List Value} {K n : Nat} (h : m = [] ∨ ∃ b o, some (⟨b0, o0, none⟩ : Addr) = some ⟨b, o, none⟩ ∧ w.rangeAt b o vs) (hn : n = m.length) (hK : K ≤ n) : n - K = 0 ∨ ∃ a, some (⟨b0, o0 + K, none⟩ : Addr) = some a ∧ ∀ j u, (vs.drop K)[j]? = some u → w.cell? (a.add j) = some u := by
  rcases h with rfl | ⟨b, o, he, hr⟩
  · exact .inl (by simp at hn; omega)
  · cases he
    refine .inr ⟨_, rfl, fun j u hu => ?_⟩
    rw [List.getElem?_drop] at hu
    rw [Addr.add_mid, Nat.add_assoc]
    exact hr (K + j) u hu
theorem news_dropAt {w : World} {a0 : Addr} {m : List RowD} {vs : List Value} {K n c : Nat} (h : m = [] ∨ ∃ b o, some a0 = some ⟨b, o, none⟩ ∧ w.rangeAt b o vs) (hn : n = m.length) (hK : K ≤ n) (hc : n ≤ c) : n - K = 0 ∨ ∃ a, some (if c = K then a0 else a0.add (K * 1)) = some a ∧ ∀ j u, (vs.drop K)[j]? = some u → w.cell? (a.add j) = some u := by
  rcases news_drop h hn hK hc with h1 | ⟨a, h1, h2⟩
  · exact .inl h1
  · refine .inr ⟨a, ?_, h2⟩
    rw [← h1]
    split <;> rfl

set_option maxHeartbeats 16000000 in
set_option maxRecDepth 100000 in
theorem refRows_any {B : Nat → Prop} (l : List RowD) (v : Value) (w : World) (h : RowsOn B w l v) (hl : l.length ≤ 10000) (hrl : ∀ r ∈ l, r.length ≤ 10000) :
    Calls Tryd.prog 24 #[v] w (RRows l w) := by
  have HR := Lib.hid h
  have HRL := Lib.hid hrl
  obtain ⟨pl, ll, cl, rfl, hll, hlc, hlm, -⟩ := h
  have HLL := Lib.hid hll
  have hll2 : ll ≤ 10000 := by omega
  have HRA := Lib.hid (rowsAt HR.out)
  clear hll hl hrl
  go_enter Tryd.func24, Tryd.ntmps24
  go_wp2_with fail
  go_loopw [4, 5] (fun ov i wr => ∃ (j : Nat) (m : List RowD), j ≤ ll ∧ i = .int .i64 j ∧ Hid (InsI (l.take j) m) ∧ Hid (RowsOn (fun b => w.heap.size ≤ b) wr m ov) ∧ Hid (Ext w wr)) (fun _ i _ => ll - (intOf i).toNat)
  case atStart => exact ⟨0, [], Nat.zero_le _, rfl, InsI.nil, RowsOn.nil, Ext.refl _⟩
  case round =>
    obtain ⟨wo, rfl⟩ : ∃ wo : World, wo = wr := ⟨_, rfl⟩
    obtain ⟨j, m, hj, rfl, hins, hom, hx⟩ := hrel
    by_cases hj1 : j < ll
    case neg =>
      have HF := Lib.hid (show InsI l m from by
        have h3 := hins.out
        rwa [List.take_of_length_le (by have := HLL.out; omega)] at h3)
      go_wp2_with fail
      go_ret2
      exact RRows.yes HF.out.rows hx.out hom.out
    have hjl : j < l.length := by rw [← HLL.out]; exact hj1
    obtain ⟨bl, ol, u, rfl, hu, hru⟩ := HRA.out wo hx.out j hjl
    obtain ⟨r, hr⟩ : ∃ r, r = l[j] := ⟨_, rfl⟩
    have HMEM := Lib.hid (show r ∈ l from by rw [hr]; exact List.getElem_mem _)
    have HTK := Lib.hid (show l.take (j + 1) = l.take j ++ [r] from by rw [hr]; exact List.take_succ_eq_append_getElem hjl)
    rw [← hr] at hru
    have HRW := Lib.hid (refRow_any r u wo hru (HRL.out r HMEM.out))
    obtain ⟨pu, lu, cu, rfl, -⟩ := hru
    obtain ⟨p4, n4, c4, rfl, hn4, hc4, hm4, -⟩ : ∃ p len cap, u4 = .slice p len cap ∧ len = m.length ∧ len ≤ cap ∧ cap ≤ 9223372036854775807 ∧ True := by
      obtain ⟨p, a, b, h1, h2, h3, h4, -⟩ := hom.out
      exact ⟨p, a, b, h1, h2, h3, h4, trivial⟩
    have HN4 := Lib.hid hn4
    have hn4b : n4 ≤ 10000 := by
      have h3 := hins.out.len
      rw [List.length_take] at h3
      omega
    clear hr hn4
    go_wp2_with fail
    refine HRW.out.mono ?_
    rintro e w2 ⟨hx2, hp⟩
    have HX2 := Lib.hid (hx.out.trans hx2)
    cases hR : rowP r with
    | none =>
      rw [hR] at hp
      obtain ⟨u', rfl⟩ := hp
      have HF := Lib.hid (rowsP_none HMEM.out hR)
      clear hR hu HRW
      go_wp2_with fail
      go_ret2
      exact RRows.no HF.out HX2.out
    | some s =>
      rw [hR] at hp
      obtain ⟨su, rfl, hsu⟩ := hp
      have HRS := Lib.hid hR
      have HSU := Lib.hid hsu
      have HOM := Lib.hid (hom.out.ext hx2)
      obtain ⟨ps, ls, cs, rfl, -⟩ := hsu
      clear hR hu HRW hom
      go_wp2_with fail
      try rw [show decide ((j : Int) < (ll : Int)) = true from decide_eq_true (by omega)]
      go_loopw [8] (fun k wr => ∃ K : Nat, K ≤ n4 ∧ k = .int .i64 K ∧ Hid (∀ i (h : i < m.length), i < K → rkey m[i] < rkey s) ∧ Hid (Ext w2 wr)) (fun k _ => n4 - (intOf k).toNat)
      case atStart => exact ⟨0, Nat.zero_le _, rfl, (fun i h h2 => by omega), Ext.refl _⟩
      case round =>
        obtain ⟨wy, rfl⟩ : ∃ wy : World, wy = wr := ⟨_, rfl⟩
        obtain ⟨K, hK, rfl, hbe, hxy⟩ := hrel
        by_cases hK1 : K < n4
        case neg =>
          have HA := Lib.hid (show ∀ h : K < m.length, rkey s < rkey m[K] from fun h => absurd h (by have := HN4.out; omega))
          have HNEW := Lib.hid (hins.out.new HRS.out (k := K) (by have := HN4.out; omega) hbe.out HA.out)
          obtain ⟨wz, rfl⟩ : ∃ wz : World, wz = wy := ⟨_, rfl⟩
          have HXZ := Lib.hid hxy.out
          clear hbe HA hxy hins
          obtain ⟨vs, hvs, hrg⟩ := rowsVs (HOM.out.ext HXZ.out)
          have hKm2 : K ≤ m.length := by have := HN4.out; omega
          have hvl := hvs.1
          have HVS := Lib.hid (And.intro hvs hrg)
          have HON := Lib.hid hvs.one
          have HO0 := Lib.hid (World.ownsRow_nil wz wz.heap.size 52 1)
          clear hvs hrg
          go_upto_region 14 with (at_builtin; refine wpList_append_E elemR rfl (.tmp 54) (.tmp 57) rfl wz.heap.size (.slice none 0 0) 0 [] rfl HO0.out _ K c4 (vs.take K) rfl (by rw [List.length_take]; omega) (news_take HVS.out.2 hKm2) (fun u hu => HON.out u (List.mem_of_mem_take hu)) (by omega) (by omega) (Nat.le_refl _) ?_; intro v1 w1 o1 g1 t1)
          have z1 := Lib.hid (((Ext.refl wz).grownV g1 (fun i hi => by cases hi)).andAlloc (.cells #[.slice ps ls cs] 52))
          have HO1 := Lib.hid (owns_ext o1 (Ext.alloc w1 (.cells #[.slice ps ls cs] 52)))
          have hs1 := z1.out.size
          clear o1 g1 t1
          go_upto_region 15 with (at_builtin; refine wpList_append_E elemR rfl (.tmp 59) (.tmp 61) rfl wz.heap.size v1 _ _ rfl HO1.out (some ⟨w1.heap.size, 0, none⟩) 1 1 [.slice ps ls cs] rfl rfl (.inr ⟨_, rfl, fun i u hu => by
                        cases i with
                        | zero => simp at hu; subst hu; simp [go_sem]
                        | succ i => simp at hu⟩) (by intro u hu; simp at hu; subst hu; rfl) (by omega) (by omega) hs1 ?_; intro v2 y2 o2 g2 t2)
          have z2 := Lib.hid (z1.out.grownV g2 (fun i hi => (owns_lt HO1.out i hi).1))
          have HO2 := Lib.hid o2
          have hs2 := z2.out.size
          clear o2 g2 t2
          have HR2 := Lib.hid (news_later z2.out HVS.out.2)
          go_wp2_with (at_builtin; refine wpList_append_E elemR rfl (.tmp 63) (.tmp 66) rfl wz.heap.size v2 _ _ rfl HO2.out _ (n4 - K) _ (vs.drop K) rfl (by rw [List.length_drop, hvl, ← HN4.out]; omega) (by first | exact .inl (by omega) | exact news_dropMid HR2.out HN4.out hK | exact news_drop HR2.out HN4.out hK hc4 | exact news_dropAt HR2.out HN4.out hK hc4) (fun u hu => HON.out u (List.mem_of_mem_drop hu)) (by omega) (by omega) hs2 ?_; intro v3 w3 o3 g3 t3)
          have z3 := Lib.hid (z2.out.grownV g3 (fun i hi => (owns_lt HO2.out i hi).1))
          have HOO := Lib.hid (show RowsOn (fun b => w.heap.size ≤ b) w3 (m.take K ++ [s] ++ m.drop K) v3 from by
            have hsz : w.heap.size ≤ wz.heap.size := (HX2.out.trans HXZ.out).size
            have hv3 : RowsV (fun b => w.heap.size ≤ b) w3 (m.take K ++ [s] ++ m.drop K) (vs.take K ++ [.slice ps ls cs] ++ vs.drop K) :=
              RowsV.ext (RowsV.app (RowsV.app (HVS.out.1.take K) (RowsV.single ((HSU.out.ext HXZ.out).mono fun b _ hb => Nat.le_trans hx.out.size hb))) (HVS.out.1.drop K)) z3.out
            refine RowsOn.of_owns (base := wz.heap.size) ?_ hv3 (fun b hb => ?_)
            · have e : (m.take K ++ [s] ++ m.drop K).length = 0 + K + 1 + (n4 - K) := by
                simp only [List.length_append, List.length_take, List.length_drop, List.length_singleton, ← HN4.out]
                omega
              rw [e]
              simpa using o3
            · have := (owns_lt o3 b hb).1
              omega)
          clear o3 g3 t3
          go_roundw
          case rel => exact ⟨j + 1, m.take K ++ [s] ++ m.drop K, by omega, by go_num, by rw [HTK.out]; exact HNEW.out, HOO.out, HX2.out.trans (HXZ.out.trans z3.out)⟩
          case measure => simp [intOf]; omega
        have hKm : K < m.length := by rw [← HN4.out]; exact hK1
        obtain ⟨b4, o4, mk, rfl, hmk, hrk⟩ := rowsAt HOM.out wy hxy.out K hKm
        have HSIG := Lib.hid (And.intro (ordI_neg (r := m[K]) (s := s)) (ordI_zero (r := m[K]) (s := s)))
        have HRO := Lib.hid (fun W (hW : Ext wy W) => refOrder_any _ s mk (.slice ps ls cs) W (hrk.ext hW) (HSU.out.ext (hxy.out.trans hW)))
        obtain ⟨q, hq⟩ : ∃ q, q = ordI m[K] s := ⟨_, rfl⟩
        rw [← hq] at HSIG HRO
        obtain ⟨pk, lk, ck, rfl, -⟩ := hrk
        clear hq
        go_wp2_with fail
        refine (HRO.out wy (Ext.refl _)).mono ?_
        rintro e w5 ⟨rfl, hx5⟩
        by_cases hq0 : q < 0
        · have HB := Lib.hid (show ∀ i (h : i < m.length), i < K + 1 → rkey m[i] < rkey s from fun i h h2 => by
            rcases Nat.lt_succ_iff_lt_or_eq.1 h2 with h3 | rfl
            · exact hbe.out i h h3
            · exact HSIG.out.1.1 hq0)
          clear hbe hmk
          go_wp2_with fail
          go_roundw
          case rel => exact ⟨K + 1, by omega, by go_num, HB.out, hxy.out.trans hx5⟩
          case measure => simp [intOf]; omega
        have hmk5 := hx5.later _ _ hmk
        clear hmk
        go_wp2_with fail
        refine (HRO.out w5 hx5).mono ?_
        rintro e w6 ⟨rfl, hx6⟩
        clear hmk5
        by_cases hq1 : q = 0
        · have hqb : (q == 0) = true := by rw [beq_iff_eq]; exact hq1
          have HB := Lib.hid (hins.out.old HRS.out hKm (HSIG.out.2.1 hq1))
          have HX6 := Lib.hid (hxy.out.trans (hx5.trans hx6))
          clear hbe hins
          go_wp2_with fail
          go_roundw
          case rel => exact ⟨j + 1, m, by omega, by go_num, by rw [HTK.out]; exact HB.out, HOM.out.ext HX6.out, HX2.out.trans HX6.out⟩
          case measure => simp [intOf]; omega
        have hqb : (q == 0) = false := by rw [beq_eq_false_iff_ne]; exact hq1
        have HNEW := Lib.hid (hins.out.new HRS.out (k := K) (by omega) hbe.out (fun h => by
          have h3 : ¬ rkey m[K] < rkey s := fun h => absurd (HSIG.out.1.2 h) (by omega)
          have h4 : ¬ rkey m[K] = rkey s := fun h => absurd (HSIG.out.2.2 h) hq1
          rcases List.le_iff_lt_or_eq.1 (List.not_lt.1 h3) with h5 | h5
          · exact h5
          · exact absurd h5.symm h4))
        have HXZ := Lib.hid (hxy.out.trans (hx5.trans hx6))
        obtain ⟨wz, rfl⟩ : ∃ wz : World, wz = w6 := ⟨_, rfl⟩
        clear hbe hins hxy hx5 hx6 HSIG HRO
        obtain ⟨vs, hvs, hrg⟩ := rowsVs (HOM.out.ext HXZ.out)
        have hKm2 : K ≤ m.length := by have := HN4.out; omega
        have hvl := hvs.1
        have HVS := Lib.hid (And.intro hvs hrg)
        have HON := Lib.hid hvs.one
        have HO0 := Lib.hid (World.ownsRow_nil wz wz.heap.size 52 1)
        clear hvs hrg
        go_upto_region 14 with (at_builtin; refine wpList_append_E elemR rfl (.tmp 54) (.tmp 57) rfl wz.heap.size (.slice none 0 0) 0 [] rfl HO0.out _ K c4 (vs.take K) rfl (by rw [List.length_take]; omega) (news_take HVS.out.2 hKm2) (fun u hu => HON.out u (List.mem_of_mem_take hu)) (by omega) (by omega) (Nat.le_refl _) ?_; intro v1 w1 o1 g1 t1)
        have z1 := Lib.hid (((Ext.refl wz).grownV g1 (fun i hi => by cases hi)).andAlloc (.cells #[.slice ps ls cs] 52))
        have HO1 := Lib.hid (owns_ext o1 (Ext.alloc w1 (.cells #[.slice ps ls cs] 52)))
        have hs1 := z1.out.size
        clear o1 g1 t1
        go_upto_region 15 with (at_builtin; refine wpList_append_E elemR rfl (.tmp 59) (.tmp 61) rfl wz.heap.size v1 _ _ rfl HO1.out (some ⟨w1.heap.size, 0, none⟩) 1 1 [.slice ps ls cs] rfl rfl (.inr ⟨_, rfl, fun i u hu => by
                      cases i with
                      | zero => simp at hu; subst hu; simp [go_sem]
                      | succ i => simp at hu⟩) (by intro u hu; simp at hu; subst hu; rfl) (by omega) (by omega) hs1 ?_; intro v2 y2 o2 g2 t2)
        have z2 := Lib.hid (z1.out.grownV g2 (fun i hi => (owns_lt HO1.out i hi).1))
        have HO2 := Lib.hid o2
        have hs2 := z2.out.size
        clear o2 g2 t2
        have HR2 := Lib.hid (news_later z2.out HVS.out.2)
        go_wp2_with (at_builtin; refine wpList_append_E elemR rfl (.tmp 63) (.tmp 66) rfl wz.heap.size v2 _ _ rfl HO2.out _ (n4 - K) _ (vs.drop K) rfl (by rw [List.length_drop, hvl, ← HN4.out]; omega) (by first | exact .inl (by omega) | exact news_dropMid HR2.out HN4.out hK | exact news_drop HR2.out HN4.out hK hc4 | exact news_dropAt HR2.out HN4.out hK hc4) (fun u hu => HON.out u (List.mem_of_mem_drop hu)) (by omega) (by omega) hs2 ?_; intro v3 w3 o3 g3 t3)
        have z3 := Lib.hid (z2.out.grownV g3 (fun i hi => (owns_lt HO2.out i hi).1))
        have HOO := Lib.hid (show RowsOn (fun b => w.heap.size ≤ b) w3 (m.take K ++ [s] ++ m.drop K) v3 from by
          have hsz : w.heap.size ≤ wz.heap.size := (HX2.out.trans HXZ.out).size
          have hv3 : RowsV (fun b => w.heap.size ≤ b) w3 (m.take K ++ [s] ++ m.drop K) (vs.take K ++ [.slice ps ls cs] ++ vs.drop K) :=
            RowsV.ext (RowsV.app (RowsV.app (HVS.out.1.take K) (RowsV.single ((HSU.out.ext HXZ.out).mono fun b _ hb => Nat.le_trans hx.out.size hb))) (HVS.out.1.drop K)) z3.out
          refine RowsOn.of_owns (base := wz.heap.size) ?_ hv3 (fun b hb => ?_)
          · have e : (m.take K ++ [s] ++ m.drop K).length = 0 + K + 1 + (n4 - K) := by
              simp only [List.length_append, List.length_take, List.length_drop, List.length_singleton, ← HN4.out]
              omega
            rw [e]
            simpa using o3
          · have := (owns_lt o3 b hb).1
            omega)
        clear o3 g3 t3
        go_roundw
        case rel => exact ⟨j + 1, m.take K ++ [s] ++ m.drop K, by omega, by go_num, by rw [HTK.out]; exact HNEW.out, HOO.out, HX2.out.trans (HXZ.out.trans z3.out)⟩
        case measure => simp [intOf]; omega
end Go.Proofs.YtehdddilcakmlaaDoor
