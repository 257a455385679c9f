/- DiagramJoins in plain words. -/
import Derived.Test.YtdijlnibmeapbaaGreatDoorMV
import Derived.Test.YtdijlnibmeapbaaGreatDoorMS
import Derived.Test.YtdijlnibmeapbaaGreatDoorMD
import Derived.Test.YtdijlnibmeapbaaGreatDoorMO
import Derived.Test.YtdijlnibmeapbaaGreatDoorMB
import Derived.Carry
import Derived.Test.YtdijlnibmeapbaaGreatDoorCards
import Derived.Test.YtdijlnibmeapbaaGreatDoorTie
import Derived.SevenTiedAt
namespace Go.Proofs.YtdijlnibmeapbaaGreatDoor
open Go.RowKit Go.Sort Go.Maps Go.Lib
set_option linter.unusedSimpArgs false

theorem thenT_of {L : List NdD} {a b : Nat} (ha : a < L.length) (hb : b < L.length) : thenT L (a : Int) (b : Int) = outD (thenP (a + 1) L a b) := by
  unfold thenT runIds
  have h : okIds L [(a : Int), (b : Int)] = true := by
    unfold okIds
    simp [getP_in ha, getP_in hb]
  rw [if_pos h, Int.toNat_natCast, Int.toNat_natCast]
theorem thenC_tab0 : ((List.range 65).all fun na => (List.range 65).all fun nb => (List.range 6).all fun ta => (List.range 6).all fun tb => !(decide (na * nb ≤ 64) && decide (ta ≤ na) && decide (tb ≤ nb)) || decide (thenC na tb ta ≤ 62000)) = true := by decide +kernel
theorem thenC_tab {na nb ta tb : Nat} (h1 : na < 65) (h2 : nb < 65) (h3 : na * nb ≤ 64) (h4 : ta < 6) (h5 : ta ≤ na) (h6 : tb < 6) (h7 : tb ≤ nb) : thenC na tb ta ≤ 62000 := by
  have h := List.all_eq_true.1 (List.all_eq_true.1 (List.all_eq_true.1 (List.all_eq_true.1 thenC_tab0 na (List.mem_range.2 h1)) nb (List.mem_range.2 h2)) ta (List.mem_range.2 h4)) tb (List.mem_range.2 h6)
  rw [decide_eq_true h3, decide_eq_true h5, decide_eq_true h7] at h
  simpa using h
structure JoinFacts (l1 l2 : List PartD) (h : Hdr) (x y : Nat) (U S : (Int × Int) × List NdD) : Prop where
  bx : x ≤ 65536
  by' : y ≤ 65536
  uc : U.1.2 = 0 ∨ U.1.2 = 200
  un : rowsN (l1.take 5) + rowsN (l2.take 5) ≤ 64 → U.1.2 = 0
  sc : S.1.2 = 0 ∨ S.1.2 = 200
  sn : rowsN (l1.take 5) * rowsN (l2.take 5) ≤ 64 → S.1.2 = 0
  gd : Gd S.2
  lx : x < S.2.length
  ly : y < S.2.length
  ids : U.1.2 = 0 → S.1.2 = 0 → ∃ u s : Nat, U.1.1 = (u : Int) ∧ S.1.1 = (s : Int) ∧ u < S.2.length ∧ s < S.2.length ∧
    runsN S.2 u h = (runsN S.2 y h).foldl addH (afterP S.2 x [h]) ∧ runsN S.2 s h = afterP S.2 y (runsN S.2 x h)
theorem joins_facts (l1 l2 : List PartD) (h : Hdr) (h1 : (madeT [] l1).1.2 = 0) (h2 : (madeT (madeT [] l1).2 l2).1.2 = 0) :
    ∃ x y : Nat, (madeT [] l1).1.1 = (x : Int) ∧ (madeT (madeT [] l1).2 l2).1.1 = (y : Int) ∧
      JoinFacts l1 l2 h x y (unionT (madeT (madeT [] l1).2 l2).2 (x : Int) (y : Int)) (thenT (unionT (madeT (madeT [] l1).2 l2).2 (x : Int) (y : Int)).2 (x : Int) (y : Int)) := by
  have hs1 := madeT_stands Gd.nil l1
  obtain ⟨hlen1, hdp1⟩ := madeT_len Gd.nil l1 (by simp) h1
  have hdt1 := madeT_dt Gd.nil l1 (by simp) h1
  have hft1 := fun hr => madeT_fit Gd.nil l1 hr (by simp)
  obtain ⟨x, hx, hxl⟩ := hs1.id h1
  have hG1 := hs1.gd
  rw [hx, Int.toNat_natCast] at hdp1 hdt1
  have hfd1 : rowsN (l1.take 5) ≤ 64 → Dp (madeT [] l1).2 (rowsN (l1.take 5)) 5 x := fun hr => by
    have := (hft1 hr).dp
    rwa [hx, Int.toNat_natCast] at this
  clear hft1 hs1 h1
  generalize (madeT [] l1).2 = L1 at *
  simp only [List.length_nil] at hlen1
  have hs2 := madeT_stands hG1 l2
  obtain ⟨hlen2, hdp2⟩ := madeT_len hG1 l2 (by omega) h2
  have hdt2 := madeT_dt hG1 l2 (by omega) h2
  have hft2 := fun hr => madeT_fit hG1 l2 hr (by omega)
  obtain ⟨y, hy, hyl⟩ := hs2.id h2
  have hG2 := hs2.gd
  have hp2 := hs2.pre
  rw [hy, Int.toNat_natCast] at hdp2 hdt2
  have hfd2 : rowsN (l2.take 5) ≤ 64 → Dp (madeT L1 l2).2 (rowsN (l2.take 5)) 5 y := fun hr => by
    have := (hft2 hr).dp
    rwa [hy, Int.toNat_natCast] at this
  clear hft2 hs2 h2
  generalize (madeT L1 l2).2 = L2 at *
  have hxl2 : x < L2.length := Nat.lt_of_lt_of_le hxl hp2.length_le
  refine ⟨x, y, hx, hy, ?_⟩
  rw [unionT_at hxl2 hyl]
  have hul := unionP_len (k := x + y + 1) hG2 hxl2 hyl (by omega) (hdp1.pre hG1.o hp2 hxl) hdp2
  have hus := unionP_sem (k := x + y + 1) hG2 hxl2 hyl (by omega)
  have huf := unionP_fine (k := x + y + 1) hG2.o hxl2 hyl
  have hug := (unionP_steps (x + y + 1) L2 x y).good hG2
  have hun : rowsN (l1.take 5) + rowsN (l2.take 5) ≤ 64 → (unionP (x + y + 1) L2 x y).1.1 = 0 := fun hr =>
    (unionP_fit (k := x + y + 1) hG2 hxl2 hyl (by omega) ((hfd1 (by omega)).pre hG1.o hp2 hxl) (hfd2 (by omega)) hr (by show L2.length + 2048 ≤ 65536; omega)).ok
  generalize unionP (x + y + 1) L2 x y = R at *
  have hul2 : R.2.length + 1 ≤ L2.length + 2048 := hul.len
  have hup := huf.pre
  have hU2 : (outD R).2 = R.2 := rfl
  rw [hU2]
  have hx3 : x < R.2.length := Nat.lt_of_lt_of_le hxl2 hup.length_le
  have hy3 : y < R.2.length := Nat.lt_of_lt_of_le hyl hup.length_le
  rw [thenT_of hx3 hy3]
  have hts := thenP_sem (k := x + 1) hug hx3 hy3 (by omega)
  have htf := thenP_fine (k := x + 1) hug.o hx3 hy3
  have htg := (thenP_steps (x + 1) R.2 x y).good hug
  have htn : rowsN (l1.take 5) * rowsN (l2.take 5) ≤ 64 → (thenP (x + 1) R.2 x y).1.1 = 0 := fun hr => by
    have c1 := ((hdt1.pre hG1.o hp2 hxl).pre hG2.o hup hxl2).cap hug hx3
    have c2 := (hdt2.pre hG2.o hup hyl).cap hug hy3
    have a1 : AscT (partsT [] (l1.take 5)) := asc_partsT List.Pairwise.nil
    have a2 : AscT (partsT [] (l2.take 5)) := asc_partsT List.Pairwise.nil
    have b1 := len_partsT (ps := l1.take 5) (T := [])
    have b2 := len_partsT (ps := l2.take 5) (T := [])
    rw [List.length_take, List.length_nil] at b1 b2
    have hm : min (rowsN (l1.take 5)) 64 * min (rowsN (l2.take 5)) 64 ≤ 64 := Nat.le_trans (Nat.mul_le_mul (Nat.min_le_left _ _) (Nat.min_le_left _ _)) hr
    have hC := thenC_tab (na := min (rowsN (l1.take 5)) 64) (nb := min (rowsN (l2.take 5)) 64) (ta := (partsT [] (l1.take 5)).length) (tb := (partsT [] (l2.take 5)).length) (by omega) (by omega) hm (by omega) (by omega) (by omega) (by omega)
    exact (thenP_dt a2 a1 (k := x + 1) hug hx3 hy3 (by omega) c1 c2 (Nat.min_le_right _ _) hm (by omega)).ok
  generalize thenP (x + 1) R.2 x y = Q at *
  have hx4 : x < Q.2.length := Nat.lt_of_lt_of_le hx3 htf.pre.length_le
  have hy4 : y < Q.2.length := Nat.lt_of_lt_of_le hy3 htf.pre.length_le
  refine ⟨by omega, by omega, hus.ok, hun, hts.ok, htn, htg, hx4, hy4, fun z1 z2 => ⟨R.1.2, Q.1.2, ?_, ?_, ?_, htf.lt z2, ?_, ?_⟩⟩
  · have z : R.1.1 = 0 := z1
    unfold outD
    dsimp only
    rw [if_pos z]
  · have z : Q.1.1 = 0 := z2
    unfold outD
    dsimp only
    rw [if_pos z]
  · exact Nat.lt_of_lt_of_le (huf.lt z1) htf.pre.length_le
  · have hl3 := huf.lt z1
    show runsN Q.2 R.1.2 h = (runsN Q.2 y h).foldl addH (afterP Q.2 x [h])
    obtain ⟨s1, s2⟩ := afterP_spec Q.2 x [h]
    obtain ⟨t1, t2⟩ := addAll_spec s1 (runsN Q.2 y h)
    refine Asc.ext (runsN_asc _ _ _) t1 fun z => ?_
    rw [runsN_mem, t2, s2, makes_pre hug.o htf.pre hl3, union_makes hus z1, runsN_mem]
    rw [makes_pre hug.o htf.pre hy3, makes_pre hG2.o hup hyl]
    constructor
    · rintro (h9 | h9)
      · exact .inl ⟨h, by simp, (makes_pre hug.o htf.pre hx3).2 ((makes_pre hG2.o hup hxl2).2 h9)⟩
      · exact .inr h9
    · rintro (⟨g, hg, h9⟩ | h9)
      · simp at hg
        subst hg
        exact .inl ((makes_pre hG2.o hup hxl2).1 ((makes_pre hug.o htf.pre hx3).1 h9))
      · exact .inr h9
  · show runsN Q.2 Q.1.2 h = afterP Q.2 y (runsN Q.2 x h)
    obtain ⟨s1, s2⟩ := afterP_spec Q.2 y (runsN Q.2 x h)
    refine Asc.ext (runsN_asc _ _ _) s1 fun z => ?_
    rw [runsN_mem, s2, then_makes hug hx3 hy3 hts z2]
    constructor
    · rintro ⟨g, g1, g2⟩
      exact ⟨g, runsN_mem.2 ((makes_pre hug.o htf.pre hx3).2 g1), (makes_pre hug.o htf.pre hy3).2 g2⟩
    · rintro ⟨g, g1, g2⟩
      exact ⟨g, (makes_pre hug.o htf.pre hx3).1 (runsN_mem.1 g1), (makes_pre hug.o htf.pre hy3).1 g2⟩
end Go.Proofs.YtdijlnibmeapbaaGreatDoor
/- DiagramJoins walked. -/
namespace Go.Proofs.YtdijlnibmeapbaaGreatDoor
open Go.RowKit Go.Sort Go.Maps Go.Lib
set_option linter.unusedSimpArgs false

theorem PartsAt.free {F : Nat → Prop} {w w1 : World} {l : List PartD} {v : Value} (h : PartsAt AnyB w l v) (hx1 : Ext w w1) (hnF : ∀ b, b < w.heap.size → ¬ F b) : PartsAt (fun b => ¬ F b) w1 l v := by
  obtain ⟨p2, n2, c2, he, hn2, hnc2, hcm2, hat⟩ := h
  refine ⟨p2, n2, c2, he, hn2, hnc2, hcm2, fun i hi => ?_⟩
  obtain ⟨ho, b, o, q3, k, e, e1, -, e3, e4, e5, e6, e7⟩ := hat i hi
  exact ⟨ho, b, o, q3, k, e, e1, hnF b e3, Nat.lt_of_lt_of_le e3 hx1.size, hx1.later _ _ e4, hx1.later _ _ e5, hx1.later _ _ e6, (e7.mono (C := fun b => ¬ F b) (fun b hb _ => hnF b hb)).ext hx1⟩

set_option maxHeartbeats 16000000 in
set_option maxRecDepth 100000 in
theorem lawJoins_row (l1 l2 : List PartD) (h : Hdr) (v1 v2 : Value) (w : World) (hv1 : PartsAt AnyB w l1 v1) (hv2 : PartsAt AnyB w l2 v2) (ht : Tb w) :
    Calls Tryz.prog 4 #[v1, v2, .agg h.cs] w fun e w' => e = .returned (.bool true) ∧ Ext w w' := by
  have HT := Lib.hid ht
  obtain ⟨wA, hA⟩ : ∃ W : World, w.alloc (.cells h.cs 25) = W := ⟨_, rfl⟩
  have xA : Ext w wA := hA ▸ Ext.alloc _ _
  have HHR := Lib.hid (show ∀ W, Ext wA W → W.rangeAt w.heap.size 0 h.cs.toList from fun W hW => World.rangeAt.later hW.later (by rw [← hA]; exact rangeAt_new w h.cs 25))
  have HXA := Lib.hid xA
  have HEA := Lib.hid hA
  have HP1 := Lib.hid (hv1.ext xA)
  have HP2 := Lib.hid (hv2.ext xA)
  obtain ⟨q1, n1, c1, rfl, -⟩ := id hv1
  obtain ⟨q2, n2, c2, rfl, -⟩ := id hv2
  clear hv1 hv2 ht xA hA
  go_enter Tryz.func4, Tryz.ntmps4
  go_upto_region 1 with fail
  rw [HEA.out]
  clear HEA
  go_wp2_with fail
  refine (newS_any wA).mono ?_
  rintro e w1 ⟨p, F1, rfl, hst, hF1, hx1⟩
  have HS1 := Lib.hid (show SD F1 w1 p [] from ⟨hst, InvO.nil, wA, HT.out.ext HXA.out, hx1, hF1⟩)
  have hnF : ∀ b, b < wA.heap.size → ¬ F1 b := fun b hb hF => by have := hF1 b hF; omega
  have HMA := Lib.hid (made_any p [] l1 (.slice q1 n1 c1) w1 HS1.out (HP1.out.free hx1 hnF))
  have H1 := Lib.hid (And.intro hF1 hx1)
  have HSTD := Lib.hid (madeT_stands Gd.nil l1)
  have HFT := Lib.hid (fun hr => madeT_fit Gd.nil l1 hr (by simp))
  have HJF := Lib.hid (joins_facts l1 l2 h)
  have HLN := Lib.hid (fun h0 => (madeT_len Gd.nil l1 (by simp) h0).1)
  obtain ⟨MT, hMT⟩ : ∃ MT, MT = madeT [] l1 := ⟨_, rfl⟩
  rw [← hMT] at HMA HSTD HFT HJF HLN
  clear hst hF1 hx1 hnF hMT
  go_wp2_with fail
  refine HMA.out.mono ?_
  intro e w2 hp
  obtain rfl := hp.1
  obtain ⟨F2, hs2, hF2, hx2⟩ := hp.ext0 H1.out.2 H1.out.1
  have HS2 := Lib.hid hs2
  have H2 := Lib.hid (And.intro hF2 hx2)
  have hnF2 : ∀ b, b < wA.heap.size → ¬ F2 b := fun b hb hF => by have := hF2 b hF; omega
  have HMB := Lib.hid (made_any p MT.2 l2 (.slice q2 n2 c2) w2 HS2.out (HP2.out.free hx2 hnF2))
  have HST2 := Lib.hid (madeT_stands HSTD.out.gd l2)
  have HFT2 := Lib.hid (fun (h0 : MT.1.2 = 0) hr => madeT_fit HSTD.out.gd l2 hr (by have := HLN.out h0; simp only [List.length_nil] at this; omega))
  obtain ⟨MU, hMU⟩ : ∃ MU, MU = madeT MT.2 l2 := ⟨_, rfl⟩
  rw [← hMU] at HMB HST2 HFT2 HJF
  clear hp hs2 hF2 hx2 HMA hnF2 hMU
  dsimp only
  go_wp2_with fail
  refine HMB.out.mono ?_
  intro e w3 hp
  obtain rfl := hp.1
  obtain ⟨F3, hs3, hF3, hx3⟩ := hp.ext0 H2.out.2 H2.out.1
  have HS3 := Lib.hid hs3
  have H3 := Lib.hid (And.intro hF3 hx3)
  have HBG := Lib.hid (lbig_any MT.1.2 l1 (.slice q1 n1 c1) w3 (HP1.out.ext hx3))
  have HBG2 := Lib.hid (lbig_any MU.1.2 l2 (.slice q2 n2 c2) w3 (HP2.out.ext hx3))
  have HWK3 := Lib.hid (wakes21_any w3 (HT.out.ext (HXA.out.trans hx3)))
  clear hp hs3 hF3 hx3 HMB
  dsimp only
  by_cases r0 : MT.1.2 = 0
  case neg =>
    have hc200 : MT.1.2 = 200 := HSTD.out.code.resolve_left r0
    have hbig : 64 < rowsN (l1.take 5) := by
      rcases Nat.lt_or_ge 64 (rowsN (l1.take 5)) with h9 | h9
      · exact h9
      · exact absurd (HFT.out h9).code r0
    rw [hc200, show ((200 : Int) == 200 && decide (64 < rowsN (l1.take 5))) = true from by simp [hbig]] at HBG
    rw [hc200]
    clear r0 hc200 hbig
    go_wp2_with fail
    refine HBG.out.mono ?_
    rintro e wy ⟨rfl, rfl⟩
    go_wp2_with fail
    refine HWK3.out.mono ?_
    rintro e wz ⟨rfl, hxz⟩
    have HFZ := Lib.hid ((HXA.out.trans H3.out.2).trans hxz)
    clear hxz
    go_wp2_with fail
    go_ret
    exact ⟨rfl, HFZ.out⟩
  rw [r0, show ((0 : Int) == 200 && decide (64 < rowsN (l1.take 5))) = false from rfl] at HBG
  by_cases r1 : MU.1.2 = 0
  case neg =>
    have hc200 : MU.1.2 = 200 := HST2.out.code.resolve_left r1
    have hbig : 64 < rowsN (l2.take 5) := by
      rcases Nat.lt_or_ge 64 (rowsN (l2.take 5)) with h9 | h9
      · exact h9
      · exact absurd (HFT2.out r0 h9).code r1
    rw [hc200, show ((200 : Int) == 200 && decide (64 < rowsN (l2.take 5))) = true from by simp [hbig]] at HBG2
    rw [hc200, r0]
    clear r0 r1 hc200 hbig
    go_wp2_with fail
    refine HBG.out.mono ?_
    rintro e wy ⟨rfl, rfl⟩
    go_wp2_with fail
    refine HBG2.out.mono ?_
    rintro e wy ⟨rfl, rfl⟩
    go_wp2_with fail
    refine HWK3.out.mono ?_
    rintro e wz ⟨rfl, hxz⟩
    have HFZ := Lib.hid ((HXA.out.trans H3.out.2).trans hxz)
    clear hxz
    go_wp2_with fail
    go_ret
    exact ⟨rfl, HFZ.out⟩
  rw [r1, show ((0 : Int) == 200 && decide (64 < rowsN (l2.take 5))) = false from rfl] at HBG2
  obtain ⟨x, y, hx, hy, hjf⟩ := HJF.out r0 r1
  rw [hx, hy, r0, r1]
  obtain ⟨L2, hL2⟩ : ∃ L2, L2 = MU.2 := ⟨_, rfl⟩
  rw [← hL2] at hjf HS3
  have HUU := Lib.hid (dUnion_any p L2 (x : Int) (y : Int) w3 HS3.out (by have := hjf.bx; omega) (by have := hjf.by'; omega))
  have hr1 : rowsN (l1.take 5) ≤ 500 := by have := rowsN_le (l1.take 5); rw [List.length_take] at this; omega
  have hr2 : rowsN (l2.take 5) ≤ 500 := by have := rowsN_le (l2.take 5); rw [List.length_take] at this; omega
  obtain ⟨U, hU⟩ : ∃ U, U = unionT L2 (x : Int) (y : Int) := ⟨_, rfl⟩
  rw [← hU] at HUU hjf
  have HJ := Lib.hid hjf
  clear hjf hU r0 r1 hx hy hL2 HJF HSTD HFT HST2 HFT2 HLN
  go_wp2_with fail
  refine HBG.out.mono ?_
  rintro e wy ⟨rfl, rfl⟩
  go_wp2_with fail
  refine HBG2.out.mono ?_
  rintro e wy ⟨rfl, rfl⟩
  clear HBG HBG2 HWK3
  go_wp2_with fail
  refine HUU.out.mono ?_
  intro e w4 hp
  obtain rfl := hp.1
  obtain ⟨F4, hs4, hF4, hx4⟩ := hp.ext0 H3.out.2 H3.out.1
  have H4 := Lib.hid (And.intro hF4 hx4)
  have HTH := Lib.hid (dThen_any p U.2 (x : Int) (y : Int) w4 hs4 (by have := HJ.out.bx; omega) (by have := HJ.out.by'; omega))
  obtain ⟨S, hS⟩ : ∃ S, S = thenT U.2 (x : Int) (y : Int) := ⟨_, rfl⟩
  rw [← hS] at HTH HJ
  clear hp hs4 hF4 hx4 HUU hS
  dsimp only
  go_wp2_with fail
  refine HTH.out.mono ?_
  intro e w5 hp
  obtain rfl := hp.1
  obtain ⟨F5, hs5, hF5, hx5⟩ := hp.ext0 H4.out.2 H4.out.1
  have HS5 := Lib.hid hs5.st
  have HX5 := Lib.hid hx5
  have HR1 := Lib.hid (lrows_any l1 (.slice q1 n1 c1) w5 (HP1.out.ext hx5))
  have HR2 := Lib.hid (lrows_any l2 (.slice q2 n2 c2) w5 (HP2.out.ext hx5))
  have HWK := Lib.hid (wakes21_any w5 (HT.out.ext (HXA.out.trans hx5)))
  obtain ⟨N, hN⟩ : ∃ N, N = rowsN (l1.take 5) := ⟨_, rfl⟩
  obtain ⟨M, hM⟩ : ∃ M, M = rowsN (l2.take 5) := ⟨_, rfl⟩
  rw [← hN] at HR1 hr1
  rw [← hM] at HR2 hr2
  have huc := HJ.out.uc
  have hsc := HJ.out.sc
  have hun : N + M ≤ 64 → U.1.2 = 0 := by rw [hN, hM]; exact HJ.out.un
  have hsn : N * M ≤ 64 → S.1.2 = 0 := by rw [hN, hM]; exact HJ.out.sn
  have hNM : N * M ≤ 250000 := Nat.le_trans (Nat.mul_le_mul hr1 hr2) (by decide)
  clear hp hs5 hF5 hx5 HTH hN hM
  dsimp only
  by_cases u0 : U.1.2 = 0
  case neg =>
    have hbig : 64 < N + M := by
      rcases Nat.lt_or_ge 64 (N + M) with h9 | h9
      · exact h9
      · exact absurd (hun h9) u0
    rw [huc.resolve_left u0]
    clear u0 huc hsc hun hsn
    go_wp2_with fail
    refine HR1.out.mono ?_
    rintro e wy ⟨rfl, rfl⟩
    go_wp2_with fail
    refine HR2.out.mono ?_
    rintro e wy ⟨rfl, rfl⟩
    go_wp2_with fail
    refine HWK.out.mono ?_
    rintro e wz ⟨rfl, hxz⟩
    have HFZ := Lib.hid ((HXA.out.trans HX5.out).trans hxz)
    clear hxz
    go_wp2_with fail
    go_ret
    exact ⟨rfl, HFZ.out⟩
  by_cases s0 : S.1.2 = 0
  case neg =>
    have hbig : 64 < N * M := by
      rcases Nat.lt_or_ge 64 (N * M) with h9 | h9
      · exact h9
      · exact absurd (hsn h9) s0
    rw [u0, hsc.resolve_left s0]
    clear u0 s0 huc hsc hun hsn
    go_wp2_with fail
    refine HR1.out.mono ?_
    rintro e wy ⟨rfl, rfl⟩
    go_wp2_with fail
    refine HR2.out.mono ?_
    rintro e wy ⟨rfl, rfl⟩
    go_wp2_with fail
    refine HWK.out.mono ?_
    rintro e wz ⟨rfl, hxz⟩
    have HFZ := Lib.hid ((HXA.out.trans HX5.out).trans hxz)
    clear hxz
    go_wp2_with fail
    go_ret
    exact ⟨rfl, HFZ.out⟩
  obtain ⟨u, s, hu, hs, hul, hsl, hru, hrs⟩ := HJ.out.ids u0 s0
  rw [hu, hs, u0, s0]
  clear hu hs u0 s0 huc hsc hun hsn
  obtain ⟨L, hL⟩ : ∃ L, L = S.2 := ⟨_, rfl⟩
  have HG := Lib.hid (show Gd L from hL ▸ HJ.out.gd)
  have HLX := Lib.hid (show x < L.length from hL ▸ HJ.out.lx)
  have HLY := Lib.hid (show y < L.length from hL ▸ HJ.out.ly)
  rw [← hL] at hul hsl hru hrs HS5
  have HLU := Lib.hid hul
  have HLS := Lib.hid hsl
  have HRU := Lib.hid hru
  have HRS := Lib.hid hrs
  obtain ⟨A, hA⟩ : ∃ A, A = afterP L x [h] := ⟨_, rfl⟩
  obtain ⟨B, hB⟩ : ∃ B, B = runsN L y h := ⟨_, rfl⟩
  have HBL := Lib.hid (show ∀ J, ((B.take J).foldl addH A).length ≤ 64 from fun J => by
    obtain ⟨a1, a2⟩ := addAll_spec (afterP_spec L x [h]).1 (B.take J)
    obtain ⟨b1, b2⟩ := addAll_spec (afterP_spec L x [h]).1 B
    rw [← hA] at a1 a2 b1 b2
    refine Nat.le_trans (len_le_sub a1.nodup fun y hy => ?_) (runsN_len (h := h) HG.out HLU.out)
    rw [HRU.out, ← hA, ← hB, b2]
    rcases (a2 y).1 hy with h9 | h9
    · exact .inl h9
    · exact .inr (List.mem_of_mem_take h9))
  have hA64 : A.length ≤ 64 := HBL.out 0
  obtain ⟨wb, hwb⟩ : ∃ W : World, w5.alloc (.cells h.cs 25) = W := ⟨_, rfl⟩
  have xb : Ext w5 wb := hwb ▸ Ext.alloc _ _
  have HLB := Lib.hid (show HSl wb w5.heap.size [h] (.slice (some ⟨w5.heap.size, 0, none⟩) 1 1) from ⟨_, 1, 1, rfl, rfl, .inr ⟨w5.heap.size, 0, rfl, Nat.le_refl _, by
    have h9 := rangeAt_new w5 h.cs 25
    rw [hwb] at h9
    rw [show flatH [h] = h.cs.toList from by simp [flatH]]
    exact h9⟩⟩)
  have HAF := Lib.hid (lafter_any p L x [h] _ wb (HS5.out.ext xb) HG.out HLX.out HLB.out (by simp) (by rw [← hA]; omega))
  rw [← hA] at HAF
  rw [← hA, ← hB] at HRU
  have HEB := Lib.hid hwb
  have HXB := Lib.hid xb
  have HR5 := Lib.hid (HHR.out w5 HX5.out)
  clear hul hsl hru hrs hL hA hwb xb HLB HJ
  go_wp2_with fail
  refine HR1.out.mono ?_
  rintro e wy ⟨rfl, rfl⟩
  go_wp2_with fail
  refine HR2.out.mono ?_
  rintro e wy ⟨rfl, rfl⟩
  clear HR1 HR2 HWK hr1 hr2 hNM
  go_wp2_with (first | (refine wpList_load_H rfl _ rfl w.heap.size 0 rfl h HR5.out ?_) | (refine wpList_one_H rfl _ rfl h rfl ?_))
  try simp only [Act.put]
  rw [HEB.out]
  clear HEB HR5
  refine HAF.out.mono ?_
  rintro e w6 ⟨⟨bv, rfl, hbv⟩, hx6⟩
  have HX6 := Lib.hid (HX5.out.trans (HXB.out.trans hx6))
  have HX56 := Lib.hid (HXB.out.trans hx6)
  have HBV := Lib.hid hbv
  have HRY := Lib.hid (lruns_any p L y h w6 (HS5.out.ext HX56.out) HG.out HLY.out)
  rw [← hB] at HRY
  have hB64 : B.length ≤ 64 := by rw [hB]; exact runsN_len HG.out HLY.out
  have HR6 := Lib.hid (HHR.out w6 HX6.out)
  have hlo : wb.heap.size ≤ w6.heap.size := hx6.size
  clear hbv hx6 HAF hB
  go_wp2_with (first | (refine wpList_load_H rfl _ rfl w.heap.size 0 rfl h HR6.out ?_))
  refine HRY.out.mono ?_
  rintro e w7 ⟨⟨rv, rfl, hrv⟩, hx7⟩
  obtain ⟨qb, nb, cb, rfl, hnb, hor⟩ := hrv
  have HNB := Lib.hid hnb
  have HBA := Lib.hid (show ∀ W, Ext w7 W → ∀ J (hJ : J < B.length), ∃ b o, qb = some ⟨b, o, none⟩ ∧ W.rangeAt b (o + J * 11) (B[J]).cs.toList from fun W hW J hJ => by
    rcases hor with e | ⟨b, o, hp, -, hr⟩
    · rw [e] at hJ; simp at hJ
    · exact ⟨b, o, hp, rangeAt_get Hdr.len_cs (World.rangeAt.later hW.later hr) J hJ⟩)
  have HX7 := Lib.hid (HX6.out.trans hx7)
  have HX57 := Lib.hid (HX56.out.trans hx7)
  have HBV7 := Lib.hid (HSl.ext HBV.out hx7)
  have hlo7 : wb.heap.size ≤ w7.heap.size := Nat.le_trans hlo hx7.size
  have hnbm : nb ≤ 64 := by omega
  clear hnb hor hx7 HRY HR6 hlo HBV
  go_wp2_with fail
  go_loopw [18, 112] (fun ov j wr => ∃ J : Nat, J ≤ nb ∧ j = .int .i64 J ∧ Hid (HSl wr wb.heap.size ((B.take J).foldl addH A) ov) ∧ Hid (Ext w7 wr)) (fun _ j _ => nb - (intOf j).toNat)
  case atStart => exact ⟨0, Nat.zero_le _, rfl, by show HSl w7 wb.heap.size ((B.take 0).foldl addH A) _; rw [List.take_zero]; exact HBV7.out, Ext.refl _⟩
  case round =>
    obtain ⟨wi, rfl⟩ : ∃ wi : World, wi = wr := ⟨_, rfl⟩
    obtain ⟨J, hJ, rfl, hY, hxi⟩ := hrel
    by_cases h2 : J < nb
    case neg =>
      have HMV := Lib.hid (show HSl wi wb.heap.size (runsN L u h) u18 from by
        have h3 := hY.out
        rw [List.take_of_length_le (by have := HNB.out; omega)] at h3
        rw [HRU.out]
        exact h3)
      obtain ⟨qm, nm, cm, rfl, -⟩ := id HMV.out
      have hdr : Ext wi wi.drew := Ext.drew _
      have HXI := Lib.hid ((HX7.out.trans hxi.out).trans hdr)
      have HX5I := Lib.hid ((HX57.out.trans hxi.out).trans hdr)
      have HMD := Lib.hid (HSl.ext HMV.out hdr)
      have HC1 := Lib.hid (lruns_any p L u h wi.drew (HS5.out.ext HX5I.out) HG.out HLU.out)
      have HSS := Lib.hid (fun W (hW : Ext wA W) => show (fun W : World => W.rangeAt w.heap.size 0 h.cs.toList) W from HHR.out W hW)
      have HUS := Lib.hid (show Tryz.prog.underlying 25 = some (.array 11 23) ∧ ∀ (x : Hdr), (Tryz.prog.info? 25).map (·.size) = some x.cs.toList.length from ⟨Tryz.underlying25, fun x => by rw [x.len_cs]; kernel_rfl⟩)
      have huH := HUS.out.1
      have hiH := HUS.out.2
      clear hY hxi hdr HMV
      go_upto_region 19 with fail
      refine wp_region_noPanic ?_
      refine wp_region_held_drew (S := (fun W : World => W.rangeAt w.heap.size 0 h.cs.toList)) (by kernel_rfl) (HSS.out _ HXI.out) (fun hHeld0 => ?_)
      refine wpAnyH_take (i := 0) (v := .pointer (some ⟨p, 0, none⟩)) rfl (by kernel_rfl) (by kernel_rfl) (by kernel_rfl) (fun _ _ _ h => h) (Or.inl ⟨by rfl, by (intro w hSw; (try dsimp only at hSw); go_simp; try (first | omega | (rw [IntKind.wrap_i64]; omega)))⟩) (by assumption) ?_
      try simp only [List.getElem_toArray, List.getElem_cons_zero, List.getElem_cons_succ, Act.put, List.setIfInBounds_toArray, List.set_cons_zero, List.set_cons_succ, Array.toArray_toList]
      refine wpAnyH_take (i := 1) (v := .int .i64 u) rfl (by kernel_rfl) (by kernel_rfl) (by kernel_rfl) (fun _ _ _ h => h) (Or.inl ⟨by rfl, by (intro w hSw; (try dsimp only at hSw); go_simp; try (first | omega | (rw [IntKind.wrap_i64]; omega)))⟩) (by assumption) ?_
      try simp only [List.getElem_toArray, List.getElem_cons_zero, List.getElem_cons_succ, Act.put, List.setIfInBounds_toArray, List.set_cons_zero, List.set_cons_succ, Array.toArray_toList]
      refine wpAnyH_take (i := 2) (v := .agg h.cs.toList.toArray) rfl (by kernel_rfl) (by kernel_rfl) (by kernel_rfl) (fun _ _ _ h => h) ?_ (by assumption) ?_
      · try simp only [List.getElem_toArray, List.getElem_cons_zero, List.getElem_cons_succ]
        exact yieldsIf_load_mid (by rfl) _ _ rfl (w.heap.size) (0) rfl h.cs.toList _ (fun w hSw => hSw) huH rfl (hiH h)
      try simp only [List.getElem_toArray, List.getElem_cons_zero, List.getElem_cons_succ, Act.put, List.setIfInBounds_toArray, List.set_cons_zero, List.set_cons_succ, Array.toArray_toList]
      refine wpAnyH_take (i := 4) (v := .slice qm nm cm) rfl (by kernel_rfl) (by kernel_rfl) (by kernel_rfl) (fun _ _ _ h => h) (Or.inl ⟨by rfl, by (intro w hSw; (try dsimp only at hSw); go_simp; try (first | omega | (rw [IntKind.wrap_i64]; omega)))⟩) (by assumption) ?_
      try simp only [List.getElem_toArray, List.getElem_cons_zero, List.getElem_cons_succ, Act.put, List.setIfInBounds_toArray, List.set_cons_zero, List.set_cons_succ, Array.toArray_toList]
      refine wpAnyH_ready (rs := [3]) (by kernel_rfl) (by simp) ?_
      refine AllReadyH.cons (i := 3) rfl (fun K hK => ?_) AllReadyH.nil
      go_simp
      go_at_call 15
      refine (HC1.out).mono ?_
      rintro e wj ⟨⟨va, rfl, hva⟩, hxj⟩
      have HSM := Lib.hid (same_any (runsN L u h) (runsN L u h) va (.slice qm nm cm) wi.drew.heap.size wb.heap.size wj hva (HSl.ext HMD.out hxj) (runsN_len HG.out HLU.out))
      rw [decide_eq_true rfl] at HSM
      have HXJ := Lib.hid (HXI.out.trans hxj)
      have HX5J := Lib.hid (HX5I.out.trans hxj)
      obtain ⟨qa, na, ca, rfl, -⟩ := id hva
      clear hva hxj
      refine hK.out _ _ (HSS.out _ HXJ.out) (fun hHeld1 => ?_)
      clear hK K hHeld0 HC1
      try simp only [List.getElem_toArray, List.getElem_cons_zero, List.getElem_cons_succ, Act.put, List.setIfInBounds_toArray, List.set_cons_zero, List.set_cons_succ, Array.toArray_toList]
      refine wpAnyH_ready (rs := [5]) (by kernel_rfl) (by simp) ?_
      refine AllReadyH.cons (i := 5) rfl (fun K hK => ?_) AllReadyH.nil
      go_simp
      go_at_call 14
      refine (HSM.out).mono ?_
      rintro e wk ⟨rfl, hxk⟩
      have HXK := Lib.hid (HXJ.out.trans hxk)
      have HX5K := Lib.hid (HX5J.out.trans hxk)
      have HC1 := Lib.hid (lruns_any p L s h wk (HS5.out.ext HX5K.out) HG.out HLS.out)
      clear hxk
      refine hK.out _ _ (HSS.out _ HXK.out) (fun hHeld2 => ?_)
      clear hK K hHeld1 HSM
      try simp only [List.getElem_toArray, List.getElem_cons_zero, List.getElem_cons_succ, Act.put, List.setIfInBounds_toArray, List.set_cons_zero, List.set_cons_succ, Array.toArray_toList]
      refine wpAnyH_take (i := 6) (v := .bool true) rfl (by kernel_rfl) (by kernel_rfl) (by kernel_rfl) (fun _ _ _ h => h) (Or.inl ⟨by rfl, by (intro w hSw; (try dsimp only at hSw); go_simp; try (first | omega | (rw [IntKind.wrap_i64]; omega)))⟩) (by assumption) ?_
      try simp only [List.getElem_toArray, List.getElem_cons_zero, List.getElem_cons_succ, Act.put, List.setIfInBounds_toArray, List.set_cons_zero, List.set_cons_succ, Array.toArray_toList]
      refine wpAnyH_take (i := 7) (v := .pointer (some ⟨p, 0, none⟩)) rfl (by kernel_rfl) (by kernel_rfl) (by kernel_rfl) (fun _ _ _ h => h) (Or.inl ⟨by rfl, by (intro w hSw; (try dsimp only at hSw); go_simp; try (first | omega | (rw [IntKind.wrap_i64]; omega)))⟩) (by assumption) ?_
      try simp only [List.getElem_toArray, List.getElem_cons_zero, List.getElem_cons_succ, Act.put, List.setIfInBounds_toArray, List.set_cons_zero, List.set_cons_succ, Array.toArray_toList]
      refine wpAnyH_take (i := 8) (v := .int .i64 s) rfl (by kernel_rfl) (by kernel_rfl) (by kernel_rfl) (fun _ _ _ h => h) (Or.inl ⟨by rfl, by (intro w hSw; (try dsimp only at hSw); go_simp; try (first | omega | (rw [IntKind.wrap_i64]; omega)))⟩) (by assumption) ?_
      try simp only [List.getElem_toArray, List.getElem_cons_zero, List.getElem_cons_succ, Act.put, List.setIfInBounds_toArray, List.set_cons_zero, List.set_cons_succ, Array.toArray_toList]
      refine wpAnyH_take (i := 9) (v := .agg h.cs.toList.toArray) rfl (by kernel_rfl) (by kernel_rfl) (by kernel_rfl) (fun _ _ _ h => h) ?_ (by assumption) ?_
      · try simp only [List.getElem_toArray, List.getElem_cons_zero, List.getElem_cons_succ]
        exact yieldsIf_load_mid (by rfl) _ _ rfl (w.heap.size) (0) rfl h.cs.toList _ (fun w hSw => hSw) huH rfl (hiH h)
      try simp only [List.getElem_toArray, List.getElem_cons_zero, List.getElem_cons_succ, Act.put, List.setIfInBounds_toArray, List.set_cons_zero, List.set_cons_succ, Array.toArray_toList]
      refine wpAnyH_take (i := 11) (v := .pointer (some ⟨p, 0, none⟩)) rfl (by kernel_rfl) (by kernel_rfl) (by kernel_rfl) (fun _ _ _ h => h) (Or.inl ⟨by rfl, by (intro w hSw; (try dsimp only at hSw); go_simp; try (first | omega | (rw [IntKind.wrap_i64]; omega)))⟩) (by assumption) ?_
      try simp only [List.getElem_toArray, List.getElem_cons_zero, List.getElem_cons_succ, Act.put, List.setIfInBounds_toArray, List.set_cons_zero, List.set_cons_succ, Array.toArray_toList]
      refine wpAnyH_take (i := 12) (v := .int .i64 y) rfl (by kernel_rfl) (by kernel_rfl) (by kernel_rfl) (fun _ _ _ h => h) (Or.inl ⟨by rfl, by (intro w hSw; (try dsimp only at hSw); go_simp; try (first | omega | (rw [IntKind.wrap_i64]; omega)))⟩) (by assumption) ?_
      try simp only [List.getElem_toArray, List.getElem_cons_zero, List.getElem_cons_succ, Act.put, List.setIfInBounds_toArray, List.set_cons_zero, List.set_cons_succ, Array.toArray_toList]
      refine wpAnyH_take (i := 13) (v := .pointer (some ⟨p, 0, none⟩)) rfl (by kernel_rfl) (by kernel_rfl) (by kernel_rfl) (fun _ _ _ h => h) (Or.inl ⟨by rfl, by (intro w hSw; (try dsimp only at hSw); go_simp; try (first | omega | (rw [IntKind.wrap_i64]; omega)))⟩) (by assumption) ?_
      try simp only [List.getElem_toArray, List.getElem_cons_zero, List.getElem_cons_succ, Act.put, List.setIfInBounds_toArray, List.set_cons_zero, List.set_cons_succ, Array.toArray_toList]
      refine wpAnyH_take (i := 14) (v := .int .i64 x) rfl (by kernel_rfl) (by kernel_rfl) (by kernel_rfl) (fun _ _ _ h => h) (Or.inl ⟨by rfl, by (intro w hSw; (try dsimp only at hSw); go_simp; try (first | omega | (rw [IntKind.wrap_i64]; omega)))⟩) (by assumption) ?_
      try simp only [List.getElem_toArray, List.getElem_cons_zero, List.getElem_cons_succ, Act.put, List.setIfInBounds_toArray, List.set_cons_zero, List.set_cons_succ, Array.toArray_toList]
      refine wpAnyH_take (i := 15) (v := .agg h.cs.toList.toArray) rfl (by kernel_rfl) (by kernel_rfl) (by kernel_rfl) (fun _ _ _ h => h) ?_ (by assumption) ?_
      · try simp only [List.getElem_toArray, List.getElem_cons_zero, List.getElem_cons_succ]
        exact yieldsIf_load_mid (by rfl) _ _ rfl (w.heap.size) (0) rfl h.cs.toList _ (fun w hSw => hSw) huH rfl (hiH h)
      try simp only [List.getElem_toArray, List.getElem_cons_zero, List.getElem_cons_succ, Act.put, List.setIfInBounds_toArray, List.set_cons_zero, List.set_cons_succ, Array.toArray_toList]
      refine wpAnyH_ready (rs := [10]) (by kernel_rfl) (by simp) ?_
      refine AllReadyH.cons (i := 10) rfl (fun K hK => ?_) AllReadyH.nil
      go_simp
      go_at_call 15
      refine (HC1.out).mono ?_
      rintro e wl ⟨⟨vs, rfl, hvs⟩, hxl⟩
      have HVS := Lib.hid hvs
      have HXL := Lib.hid (HXK.out.trans hxl)
      have HX5L := Lib.hid (HX5K.out.trans hxl)
      have HC2 := Lib.hid (lruns_any p L x h wl (HS5.out.ext HX5L.out) HG.out HLX.out)
      obtain ⟨qs, ns, cs, rfl, -⟩ := id hvs
      clear hvs hxl
      refine hK.out _ _ (HSS.out _ HXL.out) (fun hHeld3 => ?_)
      clear hK K hHeld2 HC1
      try simp only [List.getElem_toArray, List.getElem_cons_zero, List.getElem_cons_succ, Act.put, List.setIfInBounds_toArray, List.set_cons_zero, List.set_cons_succ, Array.toArray_toList]
      refine wpAnyH_ready (rs := [16]) (by kernel_rfl) (by simp) ?_
      refine AllReadyH.cons (i := 16) rfl (fun K hK => ?_) AllReadyH.nil
      go_simp
      go_at_call 15
      refine (HC2.out).mono ?_
      rintro e wm ⟨⟨vx, rfl, hvx⟩, hxm⟩
      have HXM := Lib.hid (HXL.out.trans hxm)
      have HX5M := Lib.hid (HX5L.out.trans hxm)
      have HAF := Lib.hid (lafter_any p L y (runsN L x h) vx wm (HS5.out.ext HX5M.out) HG.out HLY.out hvx (by have := runsN_len (h := h) HG.out HLX.out; omega) (by rw [← HRS.out]; have := runsN_len (h := h) HG.out HLS.out; omega))
      rw [← HRS.out] at HAF
      have HVSM := Lib.hid (HSl.ext HVS.out hxm)
      obtain ⟨qx, nx, cx, rfl, -⟩ := id hvx
      clear hvx hxm
      refine hK.out _ _ (HSS.out _ HXM.out) (fun hHeld4 => ?_)
      clear hK K hHeld3 HC2
      try simp only [List.getElem_toArray, List.getElem_cons_zero, List.getElem_cons_succ, Act.put, List.setIfInBounds_toArray, List.set_cons_zero, List.set_cons_succ, Array.toArray_toList]
      refine wpAnyH_ready (rs := [17]) (by kernel_rfl) (by simp) ?_
      refine AllReadyH.cons (i := 17) rfl (fun K hK => ?_) AllReadyH.nil
      go_simp
      go_at_call 12
      refine (HAF.out).mono ?_
      rintro e wn ⟨⟨vn, rfl, hvn⟩, hxn⟩
      have HSM := Lib.hid (same_any (runsN L s h) (runsN L s h) (.slice qs ns cs) vn wk.heap.size wm.heap.size wn (HSl.ext HVSM.out hxn) hvn (runsN_len HG.out HLS.out))
      rw [decide_eq_true rfl] at HSM
      have HXN := Lib.hid (HXM.out.trans hxn)
      obtain ⟨qn, nn, cn, rfl, -⟩ := id hvn
      clear hvn hxn
      refine hK.out _ _ (HSS.out _ HXN.out) (fun hHeld5 => ?_)
      clear hK K hHeld4 HAF
      try simp only [List.getElem_toArray, List.getElem_cons_zero, List.getElem_cons_succ, Act.put, List.setIfInBounds_toArray, List.set_cons_zero, List.set_cons_succ, Array.toArray_toList]
      refine wpAnyH_ready (rs := [18]) (by kernel_rfl) (by simp) ?_
      refine AllReadyH.cons (i := 18) rfl (fun K hK => ?_) AllReadyH.nil
      go_simp
      go_at_call 14
      refine (HSM.out).mono ?_
      rintro e wo ⟨rfl, hxo⟩
      have HXN2 := Lib.hid (HXN.out.trans hxo)
      have HXO := Lib.hid (HXA.out.trans HXN2.out)
      have HWK := Lib.hid (wakes21_any wo (HT.out.ext HXO.out))
      clear hxo
      refine hK.out _ _ (HSS.out _ HXN2.out) (fun hHeld6 => ?_)
      clear hK K hHeld5 HSM
      try simp only [List.getElem_toArray, List.getElem_cons_zero, List.getElem_cons_succ, Act.put, List.setIfInBounds_toArray, List.set_cons_zero, List.set_cons_succ, Array.toArray_toList]
      refine wpAnyH_take (i := 19) (v := .bool true) rfl (by kernel_rfl) (by kernel_rfl) (by kernel_rfl) (fun _ _ _ h => h) (Or.inl ⟨by rfl, by (intro w hSw; (try dsimp only at hSw); go_simp; try (first | omega | (rw [IntKind.wrap_i64]; omega)))⟩) (by assumption) ?_
      try simp only [List.getElem_toArray, List.getElem_cons_zero, List.getElem_cons_succ, Act.put, List.setIfInBounds_toArray, List.set_cons_zero, List.set_cons_succ, Array.toArray_toList]
      refine wpAnyH_take (i := 20) (v := .bool true) rfl (by kernel_rfl) (by kernel_rfl) (by kernel_rfl) (fun _ _ _ h => h) (Or.inl ⟨by rfl, by (intro w hSw; (try dsimp only at hSw); go_simp; try (first | omega | (rw [IntKind.wrap_i64]; omega)))⟩) (by assumption) ?_
      try simp only [List.getElem_toArray, List.getElem_cons_zero, List.getElem_cons_succ, Act.put, List.setIfInBounds_toArray, List.set_cons_zero, List.set_cons_succ, Array.toArray_toList]
      refine wpAnyH_ready (rs := [21]) (by kernel_rfl) (by simp) ?_
      refine AllReadyH.cons (i := 21) rfl (fun K hK => ?_) AllReadyH.nil
      go_simp
      go_at_call 10
      refine (HWK.out).mono ?_
      rintro e wz ⟨rfl, hxz⟩
      have HFZ := Lib.hid (HXO.out.trans hxz)
      have HFZ2 := Lib.hid (HXN2.out.trans hxz)
      clear hxz
      refine hK.out _ _ (HSS.out _ HFZ2.out) (fun hHeld7 => ?_)
      clear hK K hHeld6
      try simp only [List.getElem_toArray, List.getElem_cons_zero, List.getElem_cons_succ, Act.put, List.setIfInBounds_toArray, List.set_cons_zero, List.set_cons_succ, Array.toArray_toList]
      refine wpAnyH_take (i := 22) (v := .bool true) rfl (by kernel_rfl) (by kernel_rfl) (by kernel_rfl) (fun _ _ _ h => h) (Or.inl ⟨by rfl, by (intro w hSw; (try dsimp only at hSw); go_simp; try (first | omega | (rw [IntKind.wrap_i64]; omega)))⟩) (by assumption) ?_
      try simp only [List.getElem_toArray, List.getElem_cons_zero, List.getElem_cons_succ, Act.put, List.setIfInBounds_toArray, List.set_cons_zero, List.set_cons_succ, Array.toArray_toList]
      refine wpAnyH_take (i := 23) (v := .bool true) rfl (by kernel_rfl) (by kernel_rfl) (by kernel_rfl) (fun _ _ _ h => h) (Or.inl ⟨by rfl, by (intro w hSw; (try dsimp only at hSw); go_simp; try (first | omega | (rw [IntKind.wrap_i64]; omega)))⟩) (by assumption) ?_
      try simp only [List.getElem_toArray, List.getElem_cons_zero, List.getElem_cons_succ, Act.put, List.setIfInBounds_toArray, List.set_cons_zero, List.set_cons_succ, Array.toArray_toList]
      refine wpAnyH_done (by kernel_rfl) ?_ _
      refine NoPanic.normal ?_
      go_wp2_with fail
      go_ret
      exact ⟨rfl, HFZ.out⟩
    have hJl : J < B.length := by rw [← HNB.out]; exact h2
    obtain ⟨b3, o3, rfl, hrJ⟩ := HBA.out wi hxi.out J hJl
    have HTJ := Lib.hid (show (B.take (J + 1)).foldl addH A = addH ((B.take J).foldl addH A) B[J] from by rw [List.take_succ_eq_append_getElem hJl, List.foldl_append]; rfl)
    have hlen := HBL.out J
    obtain ⟨k, hk⟩ : ∃ k, k = B[J] := ⟨_, rfl⟩
    rw [← hk] at hrJ HTJ
    have HRJ := Lib.hid hrJ
    obtain ⟨w8, hw8⟩ : ∃ W : World, wi.alloc (.cells k.cs 25) = W := ⟨_, rfl⟩
    have x8 : Ext wi w8 := hw8 ▸ Ext.alloc _ _
    have HR8 := Lib.hid (show w8.rangeAt wi.heap.size 0 k.cs.toList from by rw [← hw8]; exact rangeAt_new wi k.cs 25)
    have HE8 := Lib.hid hw8
    have HX8 := Lib.hid (hxi.out.trans x8)
    have HAD := Lib.hid (refAdd_any ((B.take J).foldl addH A) u18 k wb.heap.size w8 (HSl.ext hY.out x8) (by omega) (Nat.le_trans hlo7 HX8.out.size))
    obtain ⟨qu, nu, cu, rfl, -⟩ := id hY.out
    clear hrJ hk hw8 x8 hY hxi hlen
    go_upto_region 17 with (first | (refine wpList_load_H rfl _ rfl b3 (o3 + J * 11) rfl k HRJ.out ?_) | (refine wpList_store_new rfl 25 _ _ rfl _ k.cs rfl rfl (by rw [k.size_cs]; kernel_rfl) (by rw [k.size_cs]; rfl) (all_oneCell_toArray k.one) ?_))
    try simp only [Act.put]
    rw [HE8.out]
    clear HE8 HRJ
    go_wp2_with (first | (refine wpList_load_H rfl _ rfl wi.heap.size 0 rfl k HR8.out ?_))
    refine HAD.out.mono ?_
    rintro e w9 ⟨⟨u, rfl, hu⟩, hx9⟩
    have HU := Lib.hid (show HSl w9 wb.heap.size ((B.take (J + 1)).foldl addH A) u from by rw [HTJ.out]; exact hu)
    have HX9 := Lib.hid (HX8.out.trans hx9)
    clear hu hx9 HAD HR8
    go_wp2_with fail
    go_roundw
    case rel => exact ⟨J + 1, by omega, by go_num, HU.out, HX9.out⟩
    case measure => simp [intOf]; omega
end Go.Proofs.YtdijlnibmeapbaaGreatDoor
/- The arguments of law 21 with their bounds: parts. -/
namespace Go.Proofs.YtdijlnibmeapbaaGreatDoor
open Go.ChangeShapes Go.WideShapes Go.ChangeAt Go.RowKit Go.Deep
set_option linter.unusedSimpArgs false

section
variable {H : Type} {enc : TypeId × Value → H} {w : World} {spare : Nat → Bool} {held : Bool}
/-- a slice, its elements' cells, its bounds -/
theorem open_slb {E e : TypeId} {k : Nat} (hu : Tryz.prog.underlying E = some (.slice e)) (hk : Tryz.prog.cellsOf e = k) (hk0 : 0 < k) (fuel : Nat) (c : Value) (d : DataW H) (ps : List MemPlace) (hw : Wt E d)
    (h : DataW.trod enc Tryz.prog w 0 spare held fuel E [c] = some (d, ps)) : ∃ p len cap, c = .slice p len cap ∧ len ≤ cap ∧ cap ≤ 9223372036854775807 ∧ len * Tryz.prog.bytesOf e ≤ maxB ∧ (len = 0 ∨ ∃ b o, p = some ⟨b, o, none⟩ ∧ b < w.heap.size ∧
      ∀ i, i < len → ∃ cs m d ps, cs.length = k ∧ w.rangeAt b (o + i * k) cs ∧ DataW.trod enc Tryz.prog w 0 spare held m e cs = some (d, ps) ∧ Wt e d) := by
  rcases DataW.trod_slice hu h with ⟨h3, -⟩ | ⟨a, len, cap, elems, rest, m, rfl, h3, hd, -, hlc, hcm, hel, hat, -⟩
  · simp only [List.cons.injEq, and_true] at h3
    subst h3
    exact ⟨none, 0, 0, rfl, Nat.le_refl _, by omega, by simp, .inl rfl⟩
  · simp only [List.cons.injEq, and_true] at h3
    subst h3
    rw [maxLen_eq] at hcm
    have hd1 : d = .slice (elems.map (·.1)) (rest.map (·.1)) := (Prod.mk.inj hd).1
    subst hd1
    have hlw : len * Tryz.prog.bytesOf e ≤ maxB := by
      have h1 := hw (((elems.map (·.1)).length + (rest.map (·.1)).length) * Tryz.prog.bytesOf e) (by simp [DataW.weights, hu])
      rw [List.length_map, List.length_map, hel] at h1
      exact Nat.le_trans (Nat.mul_le_mul_right _ (by omega)) h1
    refine ⟨some a, len, cap, rfl, hlc, hcm, hlw, ?_⟩
    by_cases hz : len = 0
    · exact .inl hz
    · have h0' := hat 0 (by omega)
      rw [List.getElem?_eq_getElem (by omega), Option.bind_eq_some_iff] at h0'
      obtain ⟨cs0, hc0, -⟩ := h0'
      obtain ⟨-, hcl0, hce0⟩ := World.cells?_some hc0
      rw [hk] at hcl0 hce0
      have h00 := hce0 0 hk0
      rw [List.getElem?_eq_getElem (by omega)] at h00
      have ha : a = ⟨a.block, a.off, none⟩ := by simpa [Addr.add] using cell_nospot h00
      refine .inr ⟨a.block, a.off, by rw [← ha], ?_, fun i hi => ?_⟩
      · have h01 := World.block_lt_of_cell? _ _ h00
        simpa [Addr.add] using h01
      · have hi' := hat i hi
        have hie : i < elems.length := by omega
        rw [List.getElem?_eq_getElem hie, Option.bind_eq_some_iff] at hi'
        obtain ⟨cs', hc, ht⟩ := hi'
        obtain ⟨-, hcl, hce⟩ := World.cells?_some hc
        rw [hk] at hcl hce
        refine ⟨cs', m, (elems[i]).1, (elems[i]).2, hcl, fun j v hjv => ?_, ht, fun n hn => ?_⟩
        · have hj : j < k := by
            have := (List.getElem?_eq_some_iff.1 hjv).1
            omega
          have := hce j hj
          rw [ha, Addr.add_mid, Addr.add_mid] at this
          rw [this]
          exact hjv
        · refine hw n ?_
          have := wt_all (l := elems.map (·.1)) (i := i) (d := (elems[i]).1) (e := e) (by simp [hie]) n hn
          simp only [DataW.weights, hu, List.mem_cons, List.mem_append]
          exact .inr (.inl this)
set_option maxRecDepth 4000 in
theorem open_rowb (fuel : Nat) (c : Value) (d : DataW H) (ps : List MemPlace) (hw : Wt 44 d) (h : DataW.trod enc Tryz.prog w 0 spare held fuel 44 [c] = some (d, ps)) : ∃ r : RowD, RowOn AnyB w r c ∧ r.length ≤ 8796093021952 := by
  obtain ⟨p, len, cap, rfl, hlc, hcm, hlm, hh⟩ := open_slb Tryz.underlying44 (k := 3) (by kernel_rfl) (by omega) fuel c d ps hw h
  rw [show Tryz.prog.bytesOf 61 = 16 from by kernel_rfl] at hlm
  have hmb : maxB = 140737488351232 := rfl
  rcases hh with rfl | ⟨b, o, rfl, hb, hat⟩
  · exact ⟨[], ⟨p, 0, cap, rfl, rfl, hlc, hcm, (fun _ h => by cases h), .inl rfl⟩, by simp⟩
  · have hx : ∀ i, i < len → ∃ x : AcD, w.rangeAt b (o + i * 3) x.cs ∧ x.ok := fun i hi => by
      obtain ⟨cs, m, d, ps, -, hr, ht, -⟩ := hat i hi
      obtain ⟨x, rfl, hok⟩ := open_act m cs d ps ht
      exact ⟨x, hr, hok⟩
    let l : List AcD := List.ofFn fun i : Fin len => Classical.choose (hx i.1 i.2)
    have hll : l.length = len := by simp [l]
    have hl : ∀ i (h : i < l.length), w.rangeAt b (o + i * 3) (l[i]).cs ∧ (l[i]).ok := fun i hi => by
      have hi' : i < len := by omega
      have e : l[i] = Classical.choose (hx i hi') := by simp [l]
      rw [e]
      exact Classical.choose_spec (hx i hi')
    refine ⟨l, ⟨_, len, cap, rfl, hll.symm, hlc, hcm, fun x hx => ?_, .inr ⟨b, o, rfl, trivial, hb, ?_⟩⟩, by omega⟩
    · obtain ⟨i, hi, rfl⟩ := List.getElem_of_mem hx
      exact (hl i hi).2
    · exact range_parts (enc := AcD.cs) (fun _ => rfl) l o (fun i hi => (hl i hi).1)
set_option maxRecDepth 4000 in
theorem open_rowsb (fuel : Nat) (c : Value) (d : DataW H) (ps : List MemPlace) (hw : Wt 45 d) (h : DataW.trod enc Tryz.prog w 0 spare held fuel 45 [c] = some (d, ps)) : ∃ r : List RowD, RowsOn AnyB w r c ∧ r.length ≤ 5864062014634 ∧ ∀ x ∈ r, x.length ≤ 8796093021952 := by
  obtain ⟨p, len, cap, rfl, hlc, hcm, hlm, hh⟩ := open_slb Tryz.underlying45 (k := 1) (by kernel_rfl) (by omega) fuel c d ps hw h
  rw [show Tryz.prog.bytesOf 44 = 24 from by kernel_rfl] at hlm
  have hmb : maxB = 140737488351232 := rfl
  rcases hh with rfl | ⟨b, o, rfl, hb, hat⟩
  · exact ⟨[], ⟨p, 0, cap, rfl, rfl, hlc, hcm, .inl rfl⟩, by simp, (fun _ h => by cases h)⟩
  · have hx : ∀ i, i < len → ∃ x : RowD × Value, w.rangeAt b (o + i * 1) [x.2] ∧ RowOn AnyB w x.1 x.2 ∧ x.1.length ≤ 8796093021952 := fun i hi => by
      obtain ⟨cs, m, d, ps, hl, hr, ht, hwd⟩ := hat i hi
      match cs, hl with
      | [c], _ =>
      obtain ⟨x, hx, hm⟩ := open_rowb m c d ps hwd ht
      exact ⟨(x, c), hr, hx, hm⟩
    let l : List (RowD × Value) := List.ofFn fun i : Fin len => Classical.choose (hx i.1 i.2)
    have hll : l.length = len := by simp [l]
    have hl : ∀ i (h : i < l.length), w.rangeAt b (o + i * 1) [(l[i]).2] ∧ RowOn AnyB w (l[i]).1 (l[i]).2 ∧ (l[i]).1.length ≤ 8796093021952 := fun i hi => by
      have hi' : i < len := by omega
      have e : l[i] = Classical.choose (hx i hi') := by simp [l]
      rw [e]
      exact Classical.choose_spec (hx i hi')
    refine ⟨l.map (·.1), ⟨_, len, cap, rfl, by rw [List.length_map]; exact hll.symm, hlc, hcm, .inr ⟨b, o, l.map (·.2), rfl, trivial, hb, by simp, ?_, fun i h1 h2 => ?_⟩⟩, by rw [List.length_map]; omega, fun r hr => ?_⟩
    · rw [List.map_eq_flatMap]
      exact range_parts (w := w) (b := b) (k := 1) (enc := fun x : RowD × Value => [x.2]) (fun _ => rfl) l o (fun i hi => (hl i hi).1)
    · have := (hl i (by simpa using h1)).2.1
      simpa using this
    · obtain ⟨i, hi, rfl⟩ := List.getElem_of_mem hr
      have := (hl i (by simpa using hi)).2.2
      simpa using this
set_option maxRecDepth 4000 in
theorem open_part (fuel : Nat) (cs : List Value) (d : DataW H) (ps : List MemPlace) (hw : Wt 58 d) (h : DataW.trod enc Tryz.prog w 0 spare held fuel 58 cs = some (d, ps)) : ∃ (x : PartD) (q : Option Addr) (k e : Nat), x.ok ∧ cs = [.int .i8 x.f, .int .u64 x.n, .slice q k e] ∧ RowsOn AnyB w x.sets (.slice q k e) := by
  obtain ⟨xs, n, rfl, hd, hlen, hxl, hf⟩ := DataW.trod_struct Tryz.underlying58 h
  have hd1 : d = .agg (xs.map (·.1)) := (Prod.mk.inj hd).1
  subst hd1
  rw [show Tryz.prog.cellsOf 58 = 3 from by kernel_rfl] at hlen
  match cs, hlen with
  | [c0, c1, c2], _ =>
  have hxl : xs.length = 3 := hxl
  have hw2 : Wt 45 (xs[2]).1 := wt_struct (j := 2) Tryz.underlying58 hw rfl (by rw [List.getElem?_map, List.getElem?_eq_getElem (by omega)]; rfl)
  have g0 : DataW.trod enc Tryz.prog w 0 spare held n 56 [c0] = xs[0]? := hf 0 _ rfl
  have g1 : DataW.trod enc Tryz.prog w 0 spare held n 23 [c1] = xs[1]? := hf 1 _ rfl
  have g2 : DataW.trod enc Tryz.prog w 0 spare held n 45 [c2] = xs[2]? := hf 2 _ rfl
  rw [List.getElem?_eq_getElem (by omega)] at g0 g1 g2
  obtain ⟨v0, h0, -, w0⟩ := DataW.trod_int Tryz.underlying56 g0
  obtain ⟨v1, h1, -, w1⟩ := DataW.trod_int Tryz.underlying23 g1
  obtain ⟨r, hr, hr1, hr2⟩ := open_rowsb n c2 (xs[2]).1 (xs[2]).2 hw2 g2
  simp only [List.cons.injEq, and_true] at h0 h1
  subst h0 h1
  simp [Lit.wf, IntKind.min, IntKind.max, IntKind.bits, IntKind.signed] at w0 w1
  obtain ⟨q, k, e, rfl, -⟩ := id hr
  refine ⟨⟨v0, v1, r⟩, q, k, e, ⟨?_, ?_, hr1, hr2⟩, rfl, hr⟩ <;> dsimp only <;> omega
set_option maxRecDepth 4000 in
theorem open_parts (fuel : Nat) (c : Value) (d : DataW H) (ps : List MemPlace) (hw : Wt 22 d) (h : DataW.trod enc Tryz.prog w 0 spare held fuel 22 [c] = some (d, ps)) : ∃ l : List PartD, PartsAt AnyB w l c := by
  obtain ⟨p, len, cap, rfl, hlc, hcm, hlm, hh⟩ := open_slb Tryz.underlying22 (k := 3) (by kernel_rfl) (by omega) fuel c d ps hw h
  rcases hh with rfl | ⟨b, o, rfl, hb, hat⟩
  · exact ⟨[], p, 0, cap, rfl, rfl, hlc, hcm, fun i hi => by simp at hi⟩
  · have hx : ∀ i, i < len → ∃ y : PartD × (Option Addr × Nat × Nat), y.1.ok ∧ w.rangeAt b (o + i * 3) [.int .i8 y.1.f, .int .u64 y.1.n, .slice y.2.1 y.2.2.1 y.2.2.2] ∧ RowsOn AnyB w y.1.sets (.slice y.2.1 y.2.2.1 y.2.2.2) := fun i hi => by
      obtain ⟨cs, m, d, ps, hl, hr, ht, hwd⟩ := hat i hi
      obtain ⟨x, q, k, e, ho, rfl, hs⟩ := open_part m cs d ps hwd ht
      exact ⟨(x, q, k, e), ho, hr, hs⟩
    let l : List PartD := List.ofFn fun i : Fin len => (Classical.choose (hx i.1 i.2)).1
    have hll : l.length = len := by simp [l]
    refine ⟨l, _, len, cap, rfl, hll.symm, hlc, hcm, fun i hi => ?_⟩
    have hi' : i < len := by omega
    have e : l[i] = (Classical.choose (hx i hi')).1 := by simp [l]
    obtain ⟨s1, s2, s3⟩ := Classical.choose_spec (hx i hi')
    rw [e]
    exact ⟨s1, b, o, _, _, _, rfl, trivial, hb, s2 0 _ rfl, s2 1 _ rfl, s2 2 _ rfl, s3⟩
end
theorem recPt : Tryz.prog.readableRec 22 = true := by kernel_rfl
theorem rowPt : (22 : TypeId) < Tryz.prog.types.size := of_decide_eq_true (by kernel_rfl)
section
variable {H : Type} {enc : TypeId × Value → H} {base : Nat}
set_option maxRecDepth 4000 in
theorem parts_val {W : World} {v : Value} {d : DataW H} {ps : List MemPlace} (ho : Value.okWide Tryz.prog W .any base 22 v) (h : DataW.Trod enc Tryz.prog W 0 (fun _ => true) true 22 v d ps) (hw : Wt 22 d) : ∃ l : List PartD, PartsAt AnyB W l v := by
  obtain ⟨fuel, hf⟩ := h
  have hc : v.cells = #[v] := by
    obtain ⟨a, len, cap, rfl⟩ := okWide_slice Tryz.underlying22 ho
    rfl
  rw [hc] at hf
  exact open_parts fuel v _ _ hw hf
theorem stays_Parts {W W' : World} {v : Value} {d : DataW H} {ps : List MemPlace} (sp : Nat → Bool) (h : DataW.Trod enc Tryz.prog W 0 (fun _ => true) true 22 v d ps) (hb : Below W.heap.size W W') (hlt : ∀ x ∈ ps, x.block < W.heap.size) (hs : ∀ x ∈ ps, sp x.block = true) :
    DataW.Trod enc Tryz.prog W' 0 sp true 22 v d ps := WideElems.Trod_stays laidL recPt rowPt h (fun x hx => hb.same (hlt x hx)) hs
end
end Go.Proofs.YtdijlnibmeapbaaGreatDoor
/- DiagramJoins returns true for every input, and each argument reads behind the call as before it. Conditions: the tables as laid. -/
namespace Go.Proofs.YtdijlnibmeapbaaGreatDoor
open Go.ChangeShapes Go.WideShapes Go.ChangeAt Go.RowKit
set_option linter.unusedSimpArgs false

set_option maxRecDepth 100000 in
theorem diagramJoins_lifted (os : Os) (started : os.Started) (H : Type) (enc : TypeId × Value → H) :
    ReturnsInHanded {} Tryz.checked os 4 .any (fun w args => (Rows.diagramJoinsSpec.pre enc Tryz.prog Tryz.f4 Rows.diagramJoinsRow.domain false w args ∧ laidMet Tryz.prog laid20 w) ∧ sizedMet enc Tryz.prog Tryz.f4 (OpenSpec.ofChange Rows.diagramJoinsSpec) false w args) (Rows.diagramJoinsSpec.post enc Tryz.prog Tryz.f4 false true false false) := by
  refine returnsInHanded_of_change_and (C := Tryz.checked) (X := fun w _ => laidMet Tryz.prog laid20 w) (fun _ _ _ hh h => h.of_heap hh) ownL started (by kernel_rfl) Tryz.func4
    (ChangeSpec.witness_at (enc := enc) (C := Tryz.checked) (os := os) (X := fun w _ => laidMet Tryz.prog laid20 w) false (laidWorld os) #[.slice none 0 0, .slice none 0 0, .agg #[.int .u64 0, .int .u64 0, .int .u64 0, .int .u64 0, .int .u64 0, .int .u64 0, .int .u64 0, .int .u64 0, .int .u64 0, .int .u64 0, .int .u64 0]] 8 rfl (by kernel_rfl) (by kernel_rfl) (by kernel_rfl) (by kernel_rfl) (by kernel_rfl) (laid_met os _)) ?_
  intro W base args ds gs before hval0 hW hcnd hwt hL _
  have hval : ∀ (j : Nat) t v, Tryz.f4.params[j]? = some t → args[j]? = some v → Value.okWide Tryz.prog W .any base t v := hval0
  have hW' := hW
  obtain ⟨p, q, hA0, hV, rfl, hfz, hnd⟩ := hW
  have hA : DataW.TrodAll enc Tryz.prog W 0 (fun _ => true) true Tryz.f4.params.toList args.toList ds p := hA0
  rw [Tryz.params4] at hA hval
  obtain ⟨v0, v1, v2, d0, d1, d2, p0, p1, p2, rfl, rfl, rfl, h0, h1, h2⟩ := trodAll_three hA
  obtain ⟨rfl, rfl⟩ := trodVars_none hV
  obtain ⟨l0, w0⟩ := parts_val (hval 0 22 v0 rfl rfl) h0 (wt_at (j := 0) hwt rfl rfl)
  obtain ⟨l1, w1⟩ := parts_val (hval 1 22 v1 rfl rfl) h1 (wt_at (j := 1) hwt rfl rfl)
  obtain ⟨x2, rfl⟩ := hdr_val (hval 2 25 v2 rfl rfl) h2
  have hlt : ∀ y ∈ p0 ++ (p1 ++ p2), y.block < W.heap.size := fun y hy => hW'.lt y (by simpa using hy)
  simp only [List.append_nil, List.append_assoc] at hW'
  refine (lawJoins_row l0 l1 x2 v0 v1 W w0 w1 (tb_of_laid hL)).mono fun e W' ⟨he, hw⟩ => ?_
  subst he
  have hb : Below W.heap.size W W' := hw
  exact ⟨_, rfl, post_below (pa := p0 ++ (p1 ++ p2)) (pv := []) hW' (fun _ _ _ => trodAll_mk1 (shut_bool Tryz.underlying4 true))
    (fun sp hsp => trodAll_mk3 (stays_Parts sp h0 hb (fun y hy => hlt y (List.mem_append_left _ hy)) (fun y hy => hsp y (List.mem_append_left _ hy))) (stays_Parts sp h1 hb (fun y hy => hlt y (List.mem_append_right _ (List.mem_append_left _ hy))) (fun y hy => hsp y (List.mem_append_right _ (List.mem_append_left _ hy)))) (stays_H sp h2 hb (fun y hy => hlt y (List.mem_append_right _ (List.mem_append_right _ hy))) (fun y hy => hsp y (List.mem_append_right _ (List.mem_append_right _ hy)))))
    (fun _ _ => rfl) (by simp) hb (ok_one (by kernel_rfl) rfl (okWide_bool_mk Tryz.underlying4 true))⟩

theorem DiagramJoins_holds : Rows.DiagramJoinsSaid :=
  OpenClaim.holds_of_wide 4 Tryz.f4 rfl rfl rfl rfl rfl rfl rfl ⟨rfl, rfl, rfl, rfl, rfl⟩ rfl rfl rfl rfl rfl (by kernel_rfl) Tryz.func4 (by kernel_rfl)
    (of_decide_eq_true (by kernel_rfl)) (by unfold Func.isWrapper; first | (rw [if_pos (by decide +kernel)]; kernel_rfl) | (rw [if_neg (by decide +kernel)]; exact ⟨rfl, rfl⟩))
    (fun os started H enc _ => diagramJoins_lifted os started H enc)
#print axioms DiagramJoins_holds
end Go.Proofs.YtdijlnibmeapbaaGreatDoor
/- The tied card of DiagramJoins. -/
namespace Go.Proofs.YtdijlnibmeapbaaGreatDoor
open Go
set_option linter.unusedSimpArgs false
theorem DiagramJoins_card : Rows.DiagramJoinsCardSaid :=
  Claim7.holds_tied_plain_at .later [] [.data, .data, .data] true (true, "cb09d7aea95a5ae10bb86d4a414370ef927c5762b6b929fdd2cb4d876293af36") true
    DiagramJoins_holds (fun _ h => by cases h) (by kernel_rfl) (fun _ h => by cases h) diagramJoins_row_tie rfl ⟨rfl, rfl⟩ (by kernel_rfl) rfl
    (fun f fn hf hfn => by
      obtain rfl : f = 4 := Option.some.inj ((show Tryz.prog.funcNamed "tollbridge/tollbridgelaw21.DiagramJoins" = some 4 by kernel_rfl).symm.trans hf) |>.symm
      obtain rfl : fn = Tryz.f4 := (Option.some.inj (Tryz.func4.symm.trans hfn)).symm
      exact ⟨by kernel_rfl, fun j t ht => by
        rw [Tryz.params4] at ht
        have hm : t ∈ ([22, 25] : List TypeId) := by simpa using Array.mem_of_getElem? ht
        have hall : (([22, 25] : List TypeId).all fun u => !Tryz.prog.wantsStandIn u) = true := by kernel_rfl
        exact (show Tryz.prog.wantsStandIn t = false by simpa using List.all_eq_true.1 hall t hm)⟩)
    (by kernel_rfl)
#print axioms DiagramJoins_card
end Go.Proofs.YtdijlnibmeapbaaGreatDoor
