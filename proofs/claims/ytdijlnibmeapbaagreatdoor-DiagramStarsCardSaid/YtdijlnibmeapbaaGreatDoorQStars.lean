/- DiagramStars walked. -/
import Derived.Test.YtdijlnibmeapbaaGreatDoorMS
import Derived.Test.YtdijlnibmeapbaaGreatDoorMD
import Derived.Test.YtdijlnibmeapbaaGreatDoorMO
import Derived.Test.YtdijlnibmeapbaaGreatDoorMB
import Derived.Carry
import Derived.Test.YtdijlnibmeapbaaGreatDoorCards
import Derived.Test.YtdijlnibmeapbaaGreatDoorTie
import Derived.SevenTiedAt
namespace Go.Proofs.YtdijlnibmeapbaaGreatDoor
open Go.RowKit Go.Sort Go.Maps Go.Lib
set_option linter.unusedSimpArgs false

theorem starLoop_fine : ∀ {k : Nat} {L : List NdD} {id a out : Nat}, InvO L → id < L.length → a < L.length → out < L.length → Fine L (starLoop k L id a out)
  | 0, L, _, _, _, h, _, _, _ => ⟨List.prefix_refl _, h, fun e => absurd e (by show ¬ (200 : Int) = 0; decide)⟩
  | k + 1, L, id, a, out, h, hi, ha, ho => by
    rw [starLoop]
    have hf := starR_fine h hi ha ho
    have hl := hf.pre.length_le
    refine bindR_fine hf fun e => ?_
    split
    · exact ⟨List.prefix_refl _, hf.inv, fun _ => by dsimp only; omega⟩
    · exact starLoop_fine hf.inv (by omega) (by omega) (hf.lt e)
theorem starP_fine {L : List NdD} {a : Nat} (h : InvO L) (ha : a < L.length) : Fine L (starP L a) := by
  unfold starP
  have hf := leafR_fine h [[]]
  have hl := hf.pre.length_le
  exact bindR_fine hf fun e => starLoop_fine hf.inv (hf.lt e) (by omega) (hf.lt e)
theorem starT_at {L : List NdD} {a : Nat} (ha : a < L.length) : starT L (a : Int) = outD (starP L a) := by
  unfold starT runIds
  have h : okIds L [(a : Int)] = true := by
    unfold okIds
    simp [getP_in ha]
  rw [if_pos h, Int.toNat_natCast]
theorem runsN_pre {L M : List NdD} (hI : InvO L) (hp : L <+: M) {a : Nat} (ha : a < L.length) (h : Hdr) : runsN M a h = runsN L a h := by
  have h1 := leafOf_pre hI hp (h := h) ha
  unfold leafOf at h1
  unfold runsN makeL
  rw [h1]
theorem afterP_congr {L M : List NdD} {a : Nat} (h : ∀ x, runsN L a x = runsN M a x) (l : List Hdr) : afterP L a l = afterP M a l := by
  unfold afterP
  congr 1
  funext o x
  rw [h x]
theorem allP_congr {L M : List NdD} {a : Nat} (h : ∀ x, runsN L a x = runsN M a x) : ∀ (k : Nat) (l : List Hdr), allP L a k l = allP M a k l
  | 0, _ => rfl
  | k + 1, l => by
    rw [allP, allP]
    have hm : moreP L a l = moreP M a l := by unfold moreP; rw [afterP_congr h]
    rw [hm, allP_congr h k]
/-- what a star tells: the rounds' own set, closed -/
theorem star_closed {L : List NdD} {a : Nat} (hG : Gd L) (ha : a < L.length) (h0 : (starP L a).1.1 = 0) (h : Hdr) :
    h ∈ runsN (starP L a).2 (starP L a).1.2 h ∧ ∀ z ∈ runsN (starP L a).2 (starP L a).1.2 h, ∀ y, Makes L a z y → y ∈ runsN (starP L a).2 (starP L a).1.2 h := by
  obtain ⟨J, hJ, j1, j2⟩ := (starP_sem hG ha).sem h0
  constructor
  · rw [runsN_mem, j1]
    exact It.up_le (Nat.zero_le J) rfl
  · intro z hz y hy
    rw [runsN_mem, j1] at hz ⊢
    exact j2 h y (.inr ⟨z, hz, hy⟩)
theorem PartsAt.cut {B : Nat → Prop} {w : World} {l : List PartD} {p : Option Addr} {n c k : Nat} (h : PartsAt B w l (.slice p n c)) (hk : k ≤ n) : PartsAt B w (l.take k) (.slice p k c) := by
  obtain ⟨p, n, c, he, hn, hnc, hcm, hat⟩ := h
  cases he
  refine ⟨_, k, _, rfl, by rw [List.length_take]; omega, by omega, hcm, fun i hi => ?_⟩
  rw [List.length_take] at hi
  rw [List.getElem_take]
  exact hat i (by omega)
set_option maxHeartbeats 16000000 in
set_option maxRecDepth 100000 in
theorem lawStars4_any (l : List PartD) (v : Value) (h : Hdr) (w : World) (hv : PartsAt AnyB w l v) (ht : Tb w) :
    Calls Tryz.prog 3 #[v, .agg h.cs] w fun e w' => e = .returned (.bool true) ∧ Ext w w' := by
  have HT := Lib.hid ht
  obtain ⟨wA, hA⟩ : ∃ W : World, w.alloc (.cells h.cs 25) = W := ⟨_, rfl⟩
  have xA : Ext w wA := hA ▸ Ext.alloc _ _
  have HHR := Lib.hid (show ∀ W, Ext wA W → W.rangeAt w.heap.size 0 h.cs.toList from fun W hW => World.rangeAt.later hW.later (by rw [← hA]; exact rangeAt_new w h.cs 25))
  have HXA := Lib.hid xA
  have HEA := Lib.hid hA
  have HV := Lib.hid (hv.ext xA)
  obtain ⟨q, n, c, rfl, hn, hnc, hcm, -⟩ := id hv
  clear hv ht xA hA hn
  -- the first four
  obtain ⟨l4, n4, hl4, HV4⟩ : ∃ (l4 : List PartD) (n4 : Nat), (n4 = if 4 < n then 4 else n) ∧ PartsAt AnyB wA l4 (.slice q n4 c) := by
    by_cases h4 : 4 < n
    · exact ⟨l.take 4, 4, by rw [if_pos h4], HV.out.cut (by omega)⟩
    · exact ⟨l, n, by rw [if_neg h4], HV.out⟩
  have HP4 := Lib.hid HV4
  go_enter Tryz.func3, Tryz.ntmps3
  go_upto_region 1 with fail
  rw [HEA.out]
  clear HEA HV HV4
  go_cut [14, 15, 16] (fun v14 v15 v16 wx => v14 = .slice q n c ∧ v15 = .int .i64 n ∧ v16 = .bool (decide ((4 : Int) < n)) ∧ wA = wx)
  case first =>
    go_wp2_with fail
    go_meet
    exact ⟨rfl, rfl, rfl, rfl⟩
  case rest =>
    skip
    obtain ⟨rfl, rfl, rfl, rfl⟩ := hcut
    apply_assumption
    go_cut [0] (fun v0 wx => v0 = .slice q n4 c ∧ wA = wx)
    case first =>
      by_cases h4 : 4 < n
      · rw [if_pos h4] at hl4
        subst hl4
        go_wp2_with fail
        go_meet
        exact ⟨rfl, rfl⟩
      · rw [if_neg h4] at hl4
        subst hl4
        go_wp2_with fail
        go_meet
        exact ⟨rfl, rfl⟩
    case rest =>
      obtain ⟨rfl, rfl⟩ := hcut
      apply_assumption
      clear hl4 hcm hnc
      go_wp2_with fail
      refine (newS_any wA).mono ?_
      rintro e w1 ⟨p, F1, rfl, hst, hF1, hx1⟩
      have HS1 := Lib.hid (show SD F1 w1 p [] from ⟨hst, InvO.nil, wA, HT.out.ext HXA.out, hx1, hF1⟩)
      have hnF : ∀ b, b < wA.heap.size → ¬ F1 b := fun b hb hF => by have := hF1 b hF; omega
      have HMA := Lib.hid (made_any p [] l4 (.slice q n4 c) w1 HS1.out (by
        obtain ⟨p2, n2, c2, he, hn2, hnc2, hcm2, hat⟩ := HP4.out
        refine ⟨p2, n2, c2, he, hn2, hnc2, hcm2, fun i hi => ?_⟩
        obtain ⟨ho, b, o, q3, k, e, e1, -, e3, e4, e5, e6, e7⟩ := hat i hi
        exact ⟨ho, b, o, q3, k, e, e1, hnF b e3, Nat.lt_of_lt_of_le e3 hx1.size, hx1.later _ _ e4, hx1.later _ _ e5, hx1.later _ _ e6, (e7.mono (C := fun b => ¬ F1 b) (fun b hb _ => hnF b hb)).ext hx1⟩))
      have H1 := Lib.hid (And.intro hF1 hx1)
      have HSTD := Lib.hid (madeT_stands Gd.nil l4)
      have HFT := Lib.hid (fun hr => madeT_fit Gd.nil l4 hr (by simp))
      obtain ⟨MT, hMT⟩ : ∃ MT, MT = madeT [] l4 := ⟨_, rfl⟩
      rw [← hMT] at HMA HSTD HFT
      clear hst hF1 hx1 hnF hMT
      go_wp2_with fail
      refine HMA.out.mono ?_
      intro e w2 hp
      obtain rfl := hp.1
      obtain ⟨F2, hs2, hF2, hx2⟩ := hp.ext0 H1.out.2 H1.out.1
      have HS2 := Lib.hid hs2
      have H2 := Lib.hid (And.intro hF2 hx2)
      clear hp hs2 hF2 hx2 HMA
      by_cases r0 : MT.1.2 = 0
      case neg =>
        have hc200 : MT.1.2 = 200 := HSTD.out.code.resolve_left r0
        have hbig : 64 < rowsN (l4.take 5) := by
          rcases Nat.lt_or_ge 64 (rowsN (l4.take 5)) with h9 | h9
          · exact h9
          · exact absurd (HFT.out h9).code r0
        have HBG := Lib.hid (lbig_any 200 l4 (.slice q n4 c) w2 (HP4.out.ext H2.out.2))
        rw [show ((200 : Int) == 200 && decide (64 < rowsN (l4.take 5))) = true from by simp [hbig]] at HBG
        have HWK := Lib.hid (wakes21_any w2 (HT.out.ext (HXA.out.trans H2.out.2)))
        rw [hc200]
        clear r0 hc200 hbig
        go_wp2_with fail
        refine HBG.out.mono ?_
        rintro e w3 ⟨rfl, rfl⟩
        go_wp2_with fail
        refine HWK.out.mono ?_
        rintro e wz ⟨rfl, hxz⟩
        have HFZ := Lib.hid ((HXA.out.trans H2.out.2).trans hxz)
        clear hxz
        go_wp2_with fail
        go_ret
        exact ⟨rfl, HFZ.out⟩
      obtain ⟨x, hx, hxl⟩ := HSTD.out.id r0
      have HG1 := Lib.hid HSTD.out.gd
      have HSTR := Lib.hid (dStar_any p MT.2 (x : Int) w2 HS2.out ⟨by omega, by have := HSTD.out.gd.l.2.1; omega⟩)
      rw [starT_at hxl] at HSTR
      have HSS := Lib.hid (starP_sem HSTD.out.gd hxl)
      have HSF := Lib.hid (starP_fine HSTD.out.gd.o hxl)
      have HSP := Lib.hid ((starP_steps MT.2 x).good HSTD.out.gd)
      have HSC := Lib.hid (fun h0 => star_closed HSTD.out.gd hxl h0 h)
      have HSL := Lib.hid (fun h0 => star_law (h := h) HSTD.out.gd hxl h0)
      have HXL := Lib.hid hxl
      obtain ⟨L1, hL1⟩ : ∃ L1, L1 = MT.2 := ⟨_, rfl⟩
      rw [← hL1] at HSTR HSS HSF HSP HSC HSL HXL HG1
      obtain ⟨R, hR⟩ : ∃ R, R = starP L1 x := ⟨_, rfl⟩
      rw [← hR] at HSTR HSS HSF HSP HSC HSL
      rw [hx, r0]
      clear hx r0 hR hL1 HSTD HFT hxl
      go_wp2_with fail
      refine HSTR.out.mono ?_
      intro e w3 hp
      obtain rfl := hp.1
      obtain ⟨F3, hs3, hF3, hx3⟩ := hp.ext0 H2.out.2 H2.out.1
      clear hp HSTR
      unfold outD at *
      dsimp only at hs3 ⊢
      by_cases r1 : R.1.1 = 0
      case neg =>
        have hc200 : R.1.1 = 200 := HSS.out.ok.resolve_left r1
        have HX3 := Lib.hid (HXA.out.trans hx3)
        have HWK := Lib.hid (wakes21_any w3 (HT.out.ext HX3.out))
        rw [if_neg r1, hc200]
        clear r1 hc200 hs3 hF3 hx3
        go_wp2_with fail
        refine HWK.out.mono ?_
        rintro e wz ⟨rfl, hxz⟩
        have HFZ := Lib.hid (HX3.out.trans hxz)
        clear hxz
        go_wp2_with fail
        go_ret
        exact ⟨rfl, HFZ.out⟩
      rw [if_pos r1, r1]
      obtain ⟨t, ht⟩ : ∃ t, t = R.1.2 := ⟨_, rfl⟩
      obtain ⟨L2, hL2⟩ : ∃ L2, L2 = R.2 := ⟨_, rfl⟩
      have HG2 := Lib.hid (show Gd L2 from by rw [hL2]; exact HSP.out)
      have HTL := Lib.hid (show t < L2.length from by rw [ht, hL2]; exact HSF.out.lt r1)
      have hpre12 : L1 <+: L2 := by rw [hL2]; exact HSF.out.pre
      have HRP := Lib.hid (show ∀ y, runsN L2 x y = runsN L1 x y from fun y => runsN_pre HG1.out.o hpre12 HXL.out y)
      have HXL2 := Lib.hid (show x < L2.length from Nat.lt_of_lt_of_le HXL.out hpre12.length_le)
      have HKE := Lib.hid (show runsN L2 t h = allP L2 x 200 [h] from by
        rw [allP_congr HRP.out, ht, hL2]
        exact HSL.out r1)
      have HKC := Lib.hid (show h ∈ runsN L2 t h ∧ ∀ z ∈ runsN L2 t h, ∀ y, Makes L2 x z y → y ∈ runsN L2 t h from by
        have h9 := HSC.out r1
        rw [ht, hL2]
        refine ⟨h9.1, fun z hz y hy => h9.2 z hz y ?_⟩
        rw [← runsN_mem, ← HRP.out, hL2, runsN_mem]
        exact hy)
      have HS3 := Lib.hid (show St F3 w3 p L2 from by rw [hL2]; exact hs3.st)
      have HX3 := Lib.hid hx3
      rw [← ht]
      clear hs3 hF3 hx3 r1 ht hL2 hpre12 HSS HSF HSP HSC HSL HS2 HG1 HXL
      obtain ⟨wb, hwb⟩ : ∃ W : World, w3.alloc (.cells h.cs 25) = W := ⟨_, rfl⟩
      have xb : Ext w3 wb := hwb ▸ Ext.alloc _ _
      have hsx : w.heap.size ≤ w3.heap.size := (HXA.out.trans HX3.out).size
      have HLB := Lib.hid (show HSl wb w.heap.size [h] (.slice (some ⟨w3.heap.size, 0, none⟩) 1 1) from ⟨_, 1, 1, rfl, rfl, .inr ⟨w3.heap.size, 0, rfl, hsx, by
        have h9 := rangeAt_new w3 h.cs 25
        rw [hwb] at h9
        rw [show flatH [h] = h.cs.toList from by simp [flatH]]
        exact h9⟩⟩)
      have HEB := Lib.hid hwb
      have HXB := Lib.hid xb
      have HR3 := Lib.hid (HHR.out w3 HX3.out)
      clear hwb xb
      go_upto_region 11 with (first | (refine wpList_load_H rfl _ rfl w.heap.size 0 rfl h HR3.out ?_) | (refine wpList_one_H rfl _ rfl h rfl ?_))
      try simp only [Act.put]
      rw [HEB.out]
      clear HEB HR3
      go_wp2_with fail
      go_loopw [10, 49] (fun ov i wr => ∃ (I : Nat) (A : List Hdr), I ≤ 200 ∧ i = .int .i64 I ∧ Hid (HSl wr w.heap.size A ov) ∧ Hid (Asc A) ∧ Hid (∀ y ∈ A, y ∈ runsN L2 t h) ∧ Hid (allP L2 x 200 [h] = allP L2 x (200 - I) A) ∧ Hid (Ext w3 wr)) (fun _ i _ => 200 - (intOf i).toNat)
      case atStart => exact ⟨0, [h], by omega, rfl, HLB.out, (show Asc [h] from by simp [Asc]), (fun y hy => by simp at hy; subst hy; exact HKC.out.1), rfl, HXB.out⟩
      case round =>
        obtain ⟨wo, rfl⟩ : ∃ wo : World, wo = wr := ⟨_, rfl⟩
        obtain ⟨I, A, hI, rfl, hvA, hasc, hsub, heq, hxo⟩ := hrel
        by_cases h1 : I < 200
        case neg =>
          have HEQ := Lib.hid (show allP L2 x 200 [h] = A from by rw [heq.out, show 200 - I = 0 from by omega]; rfl)
          have HVA := Lib.hid hvA.out
          have HXO := Lib.hid (HXA.out.trans (HX3.out.trans hxo.out))
          have HST := Lib.hid (HS3.out.ext hxo.out)
          have HHO := Lib.hid (HX3.out.trans hxo.out)
          have HRT := Lib.hid (lruns_any p L2 t h wo HST.out HG2.out HTL.out)
          have HRL := Lib.hid (HHR.out _ HHO.out)
          obtain ⟨qa, na, ca, rfl, -⟩ := id HVA.out
          clear hvA hasc hsub heq hxo
          go_wp2_with (first | (refine wpList_load_H rfl _ rfl w.heap.size 0 rfl h HRL.out ?_))
          refine HRT.out.mono ?_
          rintro e wx ⟨⟨vt, rfl, hvt⟩, hxx⟩
          have HSM := Lib.hid (same_any (runsN L2 t h) A vt (.slice qa na ca) wo.heap.size w.heap.size wx hvt (HSl.ext HVA.out hxx) (runsN_len HG2.out HTL.out))
          have HXX := Lib.hid (HXO.out.trans hxx)
          obtain ⟨qt, nt, ct, rfl, -⟩ := id hvt
          clear hvt hxx HRT HRL
          go_wp2_with fail
          refine HSM.out.mono ?_
          rintro e wy ⟨rfl, hxy⟩
          have hd : decide (runsN L2 t h = A) = true := decide_eq_true (by rw [HKE.out, HEQ.out])
          rw [hd]
          have HXY := Lib.hid (HXX.out.trans hxy)
          have HWK := Lib.hid (wakes21_any wy (HT.out.ext HXY.out))
          clear hd hxy HSM
          go_wp2_with fail
          refine HWK.out.mono ?_
          rintro e wz ⟨rfl, hxz⟩
          have HFZ := Lib.hid (HXY.out.trans hxz)
          clear hxz
          go_wp2_with fail
          go_ret
          exact ⟨rfl, HFZ.out⟩
        have hKlen := runsN_len (h := h) HG2.out HTL.out
        have hA64 : A.length ≤ 64 := Nat.le_trans (len_le_sub hasc.out.nodup hsub.out) hKlen
        have haf : ∀ y, y ∈ afterP L2 x A → y ∈ runsN L2 t h := fun y hy => by
          obtain ⟨z, hz, hm⟩ := ((afterP_spec L2 x A).2 y).1 hy
          exact HKC.out.2 z (hsub.out z hz) y hm
        have haf64 : (afterP L2 x A).length ≤ 64 := Nat.le_trans (len_le_sub (afterP_spec L2 x A).1.nodup haf) hKlen
        have HMS := Lib.hid (moreP_spec (L := L2) (a := x) hasc.out)
        have hmsub : ∀ y, y ∈ moreP L2 x A → y ∈ runsN L2 t h := fun y hy => by
          rcases (HMS.out.2 y).1 hy with h9 | ⟨z, hz, hm⟩
          · exact hsub.out y h9
          · exact HKC.out.2 z (hsub.out z hz) y hm
        have HMSUB := Lib.hid hmsub
        have HAFT := Lib.hid (lafter_any p L2 x A u10 wo (HS3.out.ext hxo.out) HG2.out HXL2.out hvA.out (by omega) (by omega))
        obtain ⟨B, hB⟩ : ∃ B, B = afterP L2 x A := ⟨_, rfl⟩
        have HMB := Lib.hid (show moreP L2 x A = B.foldl addH A from by rw [hB]; rfl)
        have HB64 := Lib.hid (show B.length ≤ 64 from by rw [hB]; exact haf64)
        have HBL := Lib.hid (show ∀ J, ((B.take J).foldl addH A).length ≤ 64 from fun J => by
          obtain ⟨a1, a2⟩ := addAll_spec hasc.out (B.take J)
          refine Nat.le_trans (len_le_sub a1.nodup fun y hy => ?_) hKlen
          rcases (a2 y).1 hy with h9 | h9
          · exact hsub.out y h9
          · exact haf y (by rw [← hB]; exact List.mem_of_mem_take h9))
        rw [← hB] at HAFT
        have HVA := Lib.hid hvA.out
        obtain ⟨qa, na, ca, rfl, hna, -⟩ := id hvA.out
        have HNA := Lib.hid hna
        have HASC := Lib.hid hasc.out
        have HEQ := Lib.hid (show allP L2 x 200 [h] = (if (moreP L2 x A).length = A.length then A else allP L2 x (200 - (I + 1)) (moreP L2 x A)) from by
          rw [heq.out, show 200 - I = (200 - (I + 1)) + 1 from by omega, allP])
        have HXo := Lib.hid hxo.out
        have hsxo : w.heap.size ≤ wo.heap.size := Nat.le_trans hsx hxo.out.size
        clear hvA hasc hsub heq hxo hKlen haf haf64 hmsub hB hna
        go_wp2_with fail
        refine HAFT.out.mono ?_
        rintro e w5 ⟨⟨bv, rfl, hbv⟩, hx5⟩
        obtain ⟨qb, nb, cb, rfl, hnb, hor⟩ := hbv
        have HNB := Lib.hid hnb
        have HBA := Lib.hid (show ∀ W, Ext w5 W → ∀ J (hJ : J < B.length), ∃ b o, qb = some ⟨b, o, none⟩ ∧ W.rangeAt b (o + J * 11) (B[J]).cs.toList from fun W hW J hJ => by
          rcases hor with e | ⟨b, o, hp, -, hr⟩
          · rw [e] at hJ; simp at hJ
          · exact ⟨b, o, hp, rangeAt_get Hdr.len_cs (World.rangeAt.later hW.later hr) J hJ⟩)
        have HX5 := Lib.hid (HXo.out.trans hx5)
        have HX56 := Lib.hid hx5
        have HVA5 := Lib.hid (HSl.ext HVA.out hx5)
        have hnbm : nb ≤ 64 := by have := HB64.out; omega
        clear hnb hor hx5 HAFT
        go_wp2_with fail
        go_loopw [11, 57] (fun ov j wr => ∃ J : Nat, J ≤ nb ∧ j = .int .i64 J ∧ Hid (HSl wr w.heap.size ((B.take J).foldl addH A) ov) ∧ Hid (Ext w5 wr)) (fun _ j _ => nb - (intOf j).toNat)
        case atStart => exact ⟨0, Nat.zero_le _, rfl, by show HSl w5 w.heap.size ((B.take 0).foldl addH A) _; rw [List.take_zero]; exact HVA5.out, Ext.refl _⟩
        case round =>
          obtain ⟨wi, rfl⟩ : ∃ wi : World, wi = wr := ⟨_, rfl⟩
          obtain ⟨J, hJ, rfl, hY, hxi⟩ := hrel
          by_cases h2 : J < nb
          case neg =>
            have HMV := Lib.hid (show HSl wi w.heap.size (moreP L2 x A) u11 from by
              have h3 := hY.out
              rw [List.take_of_length_le (by have := HNB.out; omega)] at h3
              rw [HMB.out]
              exact h3)
            obtain ⟨Mo, hMo⟩ : ∃ Mo, Mo = moreP L2 x A := ⟨_, rfl⟩
            rw [← hMo] at HMV HMS HMSUB HEQ
            have hMl : Mo.length ≤ 64 := by
              rw [hMo, HMB.out]
              have := HBL.out B.length
              rwa [List.take_length] at this
            obtain ⟨qm, nm, cm, rfl, hnm, -⟩ := id HMV.out
            have HNM := Lib.hid hnm
            have HXI := Lib.hid (HX5.out.trans hxi.out)
            have HXOI := Lib.hid (HX56.out.trans hxi.out)
            clear hY hxi hnm hMo
            by_cases hlen : Mo.length = A.length
            · have hq1 : ((nm : Int) == (na : Int)) = true := by rw [beq_iff_eq]; have := HNM.out; have := HNA.out; omega
              have HEQ2 := Lib.hid (HEQ.out.trans (if_pos hlen))
              have HVAi := Lib.hid (show HSl wi w.heap.size A (.slice qa na ca) from HSl.ext HVA.out HXOI.out)
              have HXO := Lib.hid (HXA.out.trans (HX3.out.trans HXI.out))
              have HST := Lib.hid (HS3.out.ext HXI.out)
              have HHO := Lib.hid (HX3.out.trans HXI.out)
              clear hlen
              have HRT := Lib.hid (lruns_any p L2 t h wi HST.out HG2.out HTL.out)
              have HRL := Lib.hid (HHR.out _ HHO.out)
              skip
              go_wp2_with (first | (refine wpList_load_H rfl _ rfl w.heap.size 0 rfl h HRL.out ?_))
              refine HRT.out.mono ?_
              rintro e wx ⟨⟨vt, rfl, hvt⟩, hxx⟩
              have HSM := Lib.hid (same_any (runsN L2 t h) A vt (.slice qa na ca) wi.heap.size w.heap.size wx hvt (HSl.ext HVAi.out hxx) (runsN_len HG2.out HTL.out))
              have HXX := Lib.hid (HXO.out.trans hxx)
              obtain ⟨qt, nt, ct, rfl, -⟩ := id hvt
              clear hvt hxx HRT HRL
              go_wp2_with fail
              refine HSM.out.mono ?_
              rintro e wy ⟨rfl, hxy⟩
              have hd : decide (runsN L2 t h = A) = true := decide_eq_true (by rw [HKE.out, HEQ2.out])
              rw [hd]
              have HXY := Lib.hid (HXX.out.trans hxy)
              have HWK := Lib.hid (wakes21_any wy (HT.out.ext HXY.out))
              clear hd hxy HSM
              go_wp2_with fail
              refine HWK.out.mono ?_
              rintro e wz ⟨rfl, hxz⟩
              have HFZ := Lib.hid (HXY.out.trans hxz)
              clear hxz
              go_wp2_with fail
              go_ret
              exact ⟨rfl, HFZ.out⟩
            · have hq1 : ((nm : Int) == (na : Int)) = false := by rw [beq_eq_false_iff_ne]; have := HNM.out; have := HNA.out; omega
              have HEQ2 := Lib.hid (HEQ.out.trans (if_neg hlen))
              have HAS2 := Lib.hid HMS.out.1
              clear hlen
              go_wp2_with fail
              go_roundw
              case rel => exact ⟨I + 1, Mo, by omega, by go_num, HMV.out, HAS2.out, HMSUB.out, HEQ2.out, HXI.out⟩
              case measure => simp [intOf]; omega
          have hJl : J < B.length := by rw [← HNB.out]; exact h2
          obtain ⟨b3, o3, rfl, hrJ⟩ := HBA.out wi hxi.out J hJl
          have HTJ := Lib.hid (show (B.take (J + 1)).foldl addH A = addH ((B.take J).foldl addH A) B[J] from by rw [List.take_succ_eq_append_getElem hJl, List.foldl_append]; rfl)
          have hlen := HBL.out J
          obtain ⟨k, hk⟩ : ∃ k, k = B[J] := ⟨_, rfl⟩
          rw [← hk] at hrJ HTJ
          have HRJ := Lib.hid hrJ
          obtain ⟨w6, hw6⟩ : ∃ W : World, wi.alloc (.cells k.cs 25) = W := ⟨_, rfl⟩
          have x6 : Ext wi w6 := hw6 ▸ Ext.alloc _ _
          have HR6 := Lib.hid (show w6.rangeAt wi.heap.size 0 k.cs.toList from by rw [← hw6]; exact rangeAt_new wi k.cs 25)
          have HE6 := Lib.hid hw6
          have HX6 := Lib.hid (hxi.out.trans x6)
          have HAD := Lib.hid (refAdd_any ((B.take J).foldl addH A) u11 k w.heap.size w6 (HSl.ext hY.out x6) (by omega) (Nat.le_trans hsxo (HX56.out.trans HX6.out).size))
          obtain ⟨qu, nu, cu, rfl, -⟩ := id hY.out
          clear hrJ hk hw6 x6 hY hxi hlen
          go_upto_region 17 with (first | (refine wpList_load_H rfl _ rfl b3 (o3 + J * 11) rfl k HRJ.out ?_) | (refine wpList_store_new rfl 25 _ _ rfl _ k.cs rfl rfl (by rw [k.size_cs]; kernel_rfl) (by rw [k.size_cs]; rfl) (all_oneCell_toArray k.one) ?_))
          try simp only [Act.put]
          rw [HE6.out]
          clear HE6 HRJ
          go_wp2_with (first | (refine wpList_load_H rfl _ rfl wi.heap.size 0 rfl k HR6.out ?_))
          refine HAD.out.mono ?_
          rintro e w7 ⟨⟨u, rfl, hu⟩, hx7⟩
          have HU := Lib.hid (show HSl w7 w.heap.size ((B.take (J + 1)).foldl addH A) u from by rw [HTJ.out]; exact hu)
          have HX7 := Lib.hid (HX6.out.trans hx7)
          clear hu hx7 HAD HR6
          go_wp2_with fail
          go_roundw
          case rel => exact ⟨J + 1, by omega, by go_num, HU.out, HX7.out⟩
          case measure => simp [intOf]; omega
theorem lawStars_row (l : List PartD) (h : Hdr) (v : Value) (w : World) (hv : PartsAt AnyB w l v) (ht : Tb w) :
    Calls Tryz.prog 3 #[v, .agg h.cs] w fun e w' => e = .returned (.bool true) ∧ Ext w w' := lawStars4_any l v h w hv ht
end Go.Proofs.YtdijlnibmeapbaaGreatDoor
/- The arguments of law 21 with their bounds: parts. -/
namespace Go.Proofs.YtdijlnibmeapbaaGreatDoor
open Go.ChangeShapes Go.WideShapes Go.ChangeAt Go.RowKit Go.Deep
set_option linter.unusedSimpArgs false

section
variable {H : Type} {enc : TypeId × Value → H} {w : World} {spare : Nat → Bool} {held : Bool}
/-- a slice, its elements' cells, its bounds -/
theorem open_slb {E e : TypeId} {k : Nat} (hu : Tryz.prog.underlying E = some (.slice e)) (hk : Tryz.prog.cellsOf e = k) (hk0 : 0 < k) (fuel : Nat) (c : Value) (d : DataW H) (ps : List MemPlace) (hw : Wt E d)
    (h : DataW.trod enc Tryz.prog w 0 spare held fuel E [c] = some (d, ps)) : ∃ p len cap, c = .slice p len cap ∧ len ≤ cap ∧ cap ≤ 9223372036854775807 ∧ len * Tryz.prog.bytesOf e ≤ maxB ∧ (len = 0 ∨ ∃ b o, p = some ⟨b, o, none⟩ ∧ b < w.heap.size ∧
      ∀ i, i < len → ∃ cs m d ps, cs.length = k ∧ w.rangeAt b (o + i * k) cs ∧ DataW.trod enc Tryz.prog w 0 spare held m e cs = some (d, ps) ∧ Wt e d) := by
  rcases DataW.trod_slice hu h with ⟨h3, -⟩ | ⟨a, len, cap, elems, rest, m, rfl, h3, hd, -, hlc, hcm, hel, hat, -⟩
  · simp only [List.cons.injEq, and_true] at h3
    subst h3
    exact ⟨none, 0, 0, rfl, Nat.le_refl _, by omega, by simp, .inl rfl⟩
  · simp only [List.cons.injEq, and_true] at h3
    subst h3
    rw [maxLen_eq] at hcm
    have hd1 : d = .slice (elems.map (·.1)) (rest.map (·.1)) := (Prod.mk.inj hd).1
    subst hd1
    have hlw : len * Tryz.prog.bytesOf e ≤ maxB := by
      have h1 := hw (((elems.map (·.1)).length + (rest.map (·.1)).length) * Tryz.prog.bytesOf e) (by simp [DataW.weights, hu])
      rw [List.length_map, List.length_map, hel] at h1
      exact Nat.le_trans (Nat.mul_le_mul_right _ (by omega)) h1
    refine ⟨some a, len, cap, rfl, hlc, hcm, hlw, ?_⟩
    by_cases hz : len = 0
    · exact .inl hz
    · have h0' := hat 0 (by omega)
      rw [List.getElem?_eq_getElem (by omega), Option.bind_eq_some_iff] at h0'
      obtain ⟨cs0, hc0, -⟩ := h0'
      obtain ⟨-, hcl0, hce0⟩ := World.cells?_some hc0
      rw [hk] at hcl0 hce0
      have h00 := hce0 0 hk0
      rw [List.getElem?_eq_getElem (by omega)] at h00
      have ha : a = ⟨a.block, a.off, none⟩ := by simpa [Addr.add] using cell_nospot h00
      refine .inr ⟨a.block, a.off, by rw [← ha], ?_, fun i hi => ?_⟩
      · have h01 := World.block_lt_of_cell? _ _ h00
        simpa [Addr.add] using h01
      · have hi' := hat i hi
        have hie : i < elems.length := by omega
        rw [List.getElem?_eq_getElem hie, Option.bind_eq_some_iff] at hi'
        obtain ⟨cs', hc, ht⟩ := hi'
        obtain ⟨-, hcl, hce⟩ := World.cells?_some hc
        rw [hk] at hcl hce
        refine ⟨cs', m, (elems[i]).1, (elems[i]).2, hcl, fun j v hjv => ?_, ht, fun n hn => ?_⟩
        · have hj : j < k := by
            have := (List.getElem?_eq_some_iff.1 hjv).1
            omega
          have := hce j hj
          rw [ha, Addr.add_mid, Addr.add_mid] at this
          rw [this]
          exact hjv
        · refine hw n ?_
          have := wt_all (l := elems.map (·.1)) (i := i) (d := (elems[i]).1) (e := e) (by simp [hie]) n hn
          simp only [DataW.weights, hu, List.mem_cons, List.mem_append]
          exact .inr (.inl this)
set_option maxRecDepth 4000 in
theorem open_rowb (fuel : Nat) (c : Value) (d : DataW H) (ps : List MemPlace) (hw : Wt 44 d) (h : DataW.trod enc Tryz.prog w 0 spare held fuel 44 [c] = some (d, ps)) : ∃ r : RowD, RowOn AnyB w r c ∧ r.length ≤ 8796093021952 := by
  obtain ⟨p, len, cap, rfl, hlc, hcm, hlm, hh⟩ := open_slb Tryz.underlying44 (k := 3) (by kernel_rfl) (by omega) fuel c d ps hw h
  rw [show Tryz.prog.bytesOf 61 = 16 from by kernel_rfl] at hlm
  have hmb : maxB = 140737488351232 := rfl
  rcases hh with rfl | ⟨b, o, rfl, hb, hat⟩
  · exact ⟨[], ⟨p, 0, cap, rfl, rfl, hlc, hcm, (fun _ h => by cases h), .inl rfl⟩, by simp⟩
  · have hx : ∀ i, i < len → ∃ x : AcD, w.rangeAt b (o + i * 3) x.cs ∧ x.ok := fun i hi => by
      obtain ⟨cs, m, d, ps, -, hr, ht, -⟩ := hat i hi
      obtain ⟨x, rfl, hok⟩ := open_act m cs d ps ht
      exact ⟨x, hr, hok⟩
    let l : List AcD := List.ofFn fun i : Fin len => Classical.choose (hx i.1 i.2)
    have hll : l.length = len := by simp [l]
    have hl : ∀ i (h : i < l.length), w.rangeAt b (o + i * 3) (l[i]).cs ∧ (l[i]).ok := fun i hi => by
      have hi' : i < len := by omega
      have e : l[i] = Classical.choose (hx i hi') := by simp [l]
      rw [e]
      exact Classical.choose_spec (hx i hi')
    refine ⟨l, ⟨_, len, cap, rfl, hll.symm, hlc, hcm, fun x hx => ?_, .inr ⟨b, o, rfl, trivial, hb, ?_⟩⟩, by omega⟩
    · obtain ⟨i, hi, rfl⟩ := List.getElem_of_mem hx
      exact (hl i hi).2
    · exact range_parts (enc := AcD.cs) (fun _ => rfl) l o (fun i hi => (hl i hi).1)
set_option maxRecDepth 4000 in
theorem open_rowsb (fuel : Nat) (c : Value) (d : DataW H) (ps : List MemPlace) (hw : Wt 45 d) (h : DataW.trod enc Tryz.prog w 0 spare held fuel 45 [c] = some (d, ps)) : ∃ r : List RowD, RowsOn AnyB w r c ∧ r.length ≤ 5864062014634 ∧ ∀ x ∈ r, x.length ≤ 8796093021952 := by
  obtain ⟨p, len, cap, rfl, hlc, hcm, hlm, hh⟩ := open_slb Tryz.underlying45 (k := 1) (by kernel_rfl) (by omega) fuel c d ps hw h
  rw [show Tryz.prog.bytesOf 44 = 24 from by kernel_rfl] at hlm
  have hmb : maxB = 140737488351232 := rfl
  rcases hh with rfl | ⟨b, o, rfl, hb, hat⟩
  · exact ⟨[], ⟨p, 0, cap, rfl, rfl, hlc, hcm, .inl rfl⟩, by simp, (fun _ h => by cases h)⟩
  · have hx : ∀ i, i < len → ∃ x : RowD × Value, w.rangeAt b (o + i * 1) [x.2] ∧ RowOn AnyB w x.1 x.2 ∧ x.1.length ≤ 8796093021952 := fun i hi => by
      obtain ⟨cs, m, d, ps, hl, hr, ht, hwd⟩ := hat i hi
      match cs, hl with
      | [c], _ =>
      obtain ⟨x, hx, hm⟩ := open_rowb m c d ps hwd ht
      exact ⟨(x, c), hr, hx, hm⟩
    let l : List (RowD × Value) := List.ofFn fun i : Fin len => Classical.choose (hx i.1 i.2)
    have hll : l.length = len := by simp [l]
    have hl : ∀ i (h : i < l.length), w.rangeAt b (o + i * 1) [(l[i]).2] ∧ RowOn AnyB w (l[i]).1 (l[i]).2 ∧ (l[i]).1.length ≤ 8796093021952 := fun i hi => by
      have hi' : i < len := by omega
      have e : l[i] = Classical.choose (hx i hi') := by simp [l]
      rw [e]
      exact Classical.choose_spec (hx i hi')
    refine ⟨l.map (·.1), ⟨_, len, cap, rfl, by rw [List.length_map]; exact hll.symm, hlc, hcm, .inr ⟨b, o, l.map (·.2), rfl, trivial, hb, by simp, ?_, fun i h1 h2 => ?_⟩⟩, by rw [List.length_map]; omega, fun r hr => ?_⟩
    · rw [List.map_eq_flatMap]
      exact range_parts (w := w) (b := b) (k := 1) (enc := fun x : RowD × Value => [x.2]) (fun _ => rfl) l o (fun i hi => (hl i hi).1)
    · have := (hl i (by simpa using h1)).2.1
      simpa using this
    · obtain ⟨i, hi, rfl⟩ := List.getElem_of_mem hr
      have := (hl i (by simpa using hi)).2.2
      simpa using this
set_option maxRecDepth 4000 in
theorem open_part (fuel : Nat) (cs : List Value) (d : DataW H) (ps : List MemPlace) (hw : Wt 58 d) (h : DataW.trod enc Tryz.prog w 0 spare held fuel 58 cs = some (d, ps)) : ∃ (x : PartD) (q : Option Addr) (k e : Nat), x.ok ∧ cs = [.int .i8 x.f, .int .u64 x.n, .slice q k e] ∧ RowsOn AnyB w x.sets (.slice q k e) := by
  obtain ⟨xs, n, rfl, hd, hlen, hxl, hf⟩ := DataW.trod_struct Tryz.underlying58 h
  have hd1 : d = .agg (xs.map (·.1)) := (Prod.mk.inj hd).1
  subst hd1
  rw [show Tryz.prog.cellsOf 58 = 3 from by kernel_rfl] at hlen
  match cs, hlen with
  | [c0, c1, c2], _ =>
  have hxl : xs.length = 3 := hxl
  have hw2 : Wt 45 (xs[2]).1 := wt_struct (j := 2) Tryz.underlying58 hw rfl (by rw [List.getElem?_map, List.getElem?_eq_getElem (by omega)]; rfl)
  have g0 : DataW.trod enc Tryz.prog w 0 spare held n 56 [c0] = xs[0]? := hf 0 _ rfl
  have g1 : DataW.trod enc Tryz.prog w 0 spare held n 23 [c1] = xs[1]? := hf 1 _ rfl
  have g2 : DataW.trod enc Tryz.prog w 0 spare held n 45 [c2] = xs[2]? := hf 2 _ rfl
  rw [List.getElem?_eq_getElem (by omega)] at g0 g1 g2
  obtain ⟨v0, h0, -, w0⟩ := DataW.trod_int Tryz.underlying56 g0
  obtain ⟨v1, h1, -, w1⟩ := DataW.trod_int Tryz.underlying23 g1
  obtain ⟨r, hr, hr1, hr2⟩ := open_rowsb n c2 (xs[2]).1 (xs[2]).2 hw2 g2
  simp only [List.cons.injEq, and_true] at h0 h1
  subst h0 h1
  simp [Lit.wf, IntKind.min, IntKind.max, IntKind.bits, IntKind.signed] at w0 w1
  obtain ⟨q, k, e, rfl, -⟩ := id hr
  refine ⟨⟨v0, v1, r⟩, q, k, e, ⟨?_, ?_, hr1, hr2⟩, rfl, hr⟩ <;> dsimp only <;> omega
set_option maxRecDepth 4000 in
theorem open_parts (fuel : Nat) (c : Value) (d : DataW H) (ps : List MemPlace) (hw : Wt 22 d) (h : DataW.trod enc Tryz.prog w 0 spare held fuel 22 [c] = some (d, ps)) : ∃ l : List PartD, PartsAt AnyB w l c := by
  obtain ⟨p, len, cap, rfl, hlc, hcm, hlm, hh⟩ := open_slb Tryz.underlying22 (k := 3) (by kernel_rfl) (by omega) fuel c d ps hw h
  rcases hh with rfl | ⟨b, o, rfl, hb, hat⟩
  · exact ⟨[], p, 0, cap, rfl, rfl, hlc, hcm, fun i hi => by simp at hi⟩
  · have hx : ∀ i, i < len → ∃ y : PartD × (Option Addr × Nat × Nat), y.1.ok ∧ w.rangeAt b (o + i * 3) [.int .i8 y.1.f, .int .u64 y.1.n, .slice y.2.1 y.2.2.1 y.2.2.2] ∧ RowsOn AnyB w y.1.sets (.slice y.2.1 y.2.2.1 y.2.2.2) := fun i hi => by
      obtain ⟨cs, m, d, ps, hl, hr, ht, hwd⟩ := hat i hi
      obtain ⟨x, q, k, e, ho, rfl, hs⟩ := open_part m cs d ps hwd ht
      exact ⟨(x, q, k, e), ho, hr, hs⟩
    let l : List PartD := List.ofFn fun i : Fin len => (Classical.choose (hx i.1 i.2)).1
    have hll : l.length = len := by simp [l]
    refine ⟨l, _, len, cap, rfl, hll.symm, hlc, hcm, fun i hi => ?_⟩
    have hi' : i < len := by omega
    have e : l[i] = (Classical.choose (hx i hi')).1 := by simp [l]
    obtain ⟨s1, s2, s3⟩ := Classical.choose_spec (hx i hi')
    rw [e]
    exact ⟨s1, b, o, _, _, _, rfl, trivial, hb, s2 0 _ rfl, s2 1 _ rfl, s2 2 _ rfl, s3⟩
end
theorem recPt : Tryz.prog.readableRec 22 = true := by kernel_rfl
theorem rowPt : (22 : TypeId) < Tryz.prog.types.size := of_decide_eq_true (by kernel_rfl)
section
variable {H : Type} {enc : TypeId × Value → H} {base : Nat}
set_option maxRecDepth 4000 in
theorem parts_val {W : World} {v : Value} {d : DataW H} {ps : List MemPlace} (ho : Value.okWide Tryz.prog W .any base 22 v) (h : DataW.Trod enc Tryz.prog W 0 (fun _ => true) true 22 v d ps) (hw : Wt 22 d) : ∃ l : List PartD, PartsAt AnyB W l v := by
  obtain ⟨fuel, hf⟩ := h
  have hc : v.cells = #[v] := by
    obtain ⟨a, len, cap, rfl⟩ := okWide_slice Tryz.underlying22 ho
    rfl
  rw [hc] at hf
  exact open_parts fuel v _ _ hw hf
theorem stays_Parts {W W' : World} {v : Value} {d : DataW H} {ps : List MemPlace} (sp : Nat → Bool) (h : DataW.Trod enc Tryz.prog W 0 (fun _ => true) true 22 v d ps) (hb : Below W.heap.size W W') (hlt : ∀ x ∈ ps, x.block < W.heap.size) (hs : ∀ x ∈ ps, sp x.block = true) :
    DataW.Trod enc Tryz.prog W' 0 sp true 22 v d ps := WideElems.Trod_stays laidL recPt rowPt h (fun x hx => hb.same (hlt x hx)) hs
end
end Go.Proofs.YtdijlnibmeapbaaGreatDoor
/- DiagramStars returns true for every input, and each argument reads behind the call as before it. Conditions: the tables as laid. -/
namespace Go.Proofs.YtdijlnibmeapbaaGreatDoor
open Go.ChangeShapes Go.WideShapes Go.ChangeAt Go.RowKit
set_option linter.unusedSimpArgs false

set_option maxRecDepth 100000 in
theorem diagramStars_lifted (os : Os) (started : os.Started) (H : Type) (enc : TypeId × Value → H) :
    ReturnsInHanded {} Tryz.checked os 3 .any (fun w args => (Rows.diagramStarsSpec.pre enc Tryz.prog Tryz.f3 Rows.diagramStarsRow.domain false w args ∧ laidMet Tryz.prog laid20 w) ∧ sizedMet enc Tryz.prog Tryz.f3 (OpenSpec.ofChange Rows.diagramStarsSpec) false w args) (Rows.diagramStarsSpec.post enc Tryz.prog Tryz.f3 false true false false) := by
  refine returnsInHanded_of_change_and (C := Tryz.checked) (X := fun w _ => laidMet Tryz.prog laid20 w) (fun _ _ _ hh h => h.of_heap hh) ownL started (by kernel_rfl) Tryz.func3
    (ChangeSpec.witness_at (enc := enc) (C := Tryz.checked) (os := os) (X := fun w _ => laidMet Tryz.prog laid20 w) false (laidWorld os) #[.slice none 0 0, .agg #[.int .u64 0, .int .u64 0, .int .u64 0, .int .u64 0, .int .u64 0, .int .u64 0, .int .u64 0, .int .u64 0, .int .u64 0, .int .u64 0, .int .u64 0]] 8 rfl (by kernel_rfl) (by kernel_rfl) (by kernel_rfl) (by kernel_rfl) (by kernel_rfl) (laid_met os _)) ?_
  intro W base args ds gs before hval0 hW hcnd hwt hL _
  have hval : ∀ (j : Nat) t v, Tryz.f3.params[j]? = some t → args[j]? = some v → Value.okWide Tryz.prog W .any base t v := hval0
  have hW' := hW
  obtain ⟨p, q, hA0, hV, rfl, hfz, hnd⟩ := hW
  have hA : DataW.TrodAll enc Tryz.prog W 0 (fun _ => true) true Tryz.f3.params.toList args.toList ds p := hA0
  rw [Tryz.params3] at hA hval
  obtain ⟨v0, v1, d0, d1, p0, p1, rfl, rfl, rfl, h0, h1⟩ := trodAll_two hA
  obtain ⟨rfl, rfl⟩ := trodVars_none hV
  obtain ⟨l0, w0⟩ := parts_val (hval 0 22 v0 rfl rfl) h0 (wt_at (j := 0) hwt rfl rfl)
  obtain ⟨x1, rfl⟩ := hdr_val (hval 1 25 v1 rfl rfl) h1
  have hlt : ∀ y ∈ p0 ++ p1, y.block < W.heap.size := fun y hy => hW'.lt y (by simpa using hy)
  simp only [List.append_nil, List.append_assoc] at hW'
  refine (lawStars_row l0 x1 v0 W w0 (tb_of_laid hL)).mono fun e W' ⟨he, hw⟩ => ?_
  subst he
  have hb : Below W.heap.size W W' := hw
  exact ⟨_, rfl, post_below (pa := p0 ++ p1) (pv := []) hW' (fun _ _ _ => trodAll_mk1 (shut_bool Tryz.underlying4 true))
    (fun sp hsp => trodAll_mk2 (stays_Parts sp h0 hb (fun y hy => hlt y (List.mem_append_left _ hy)) (fun y hy => hsp y (List.mem_append_left _ hy))) (stays_H sp h1 hb (fun y hy => hlt y (List.mem_append_right _ hy)) (fun y hy => hsp y (List.mem_append_right _ hy))))
    (fun _ _ => rfl) (by simp) hb (ok_one (by kernel_rfl) rfl (okWide_bool_mk Tryz.underlying4 true))⟩

theorem DiagramStars_holds : Rows.DiagramStarsSaid :=
  OpenClaim.holds_of_wide 3 Tryz.f3 rfl rfl rfl rfl rfl rfl rfl ⟨rfl, rfl, rfl, rfl, rfl⟩ rfl rfl rfl rfl rfl (by kernel_rfl) Tryz.func3 (by kernel_rfl)
    (of_decide_eq_true (by kernel_rfl)) (by unfold Func.isWrapper; first | (rw [if_pos (by decide +kernel)]; kernel_rfl) | (rw [if_neg (by decide +kernel)]; exact ⟨rfl, rfl⟩))
    (fun os started H enc _ => diagramStars_lifted os started H enc)
#print axioms DiagramStars_holds
end Go.Proofs.YtdijlnibmeapbaaGreatDoor
/- The tied card of DiagramStars. -/
namespace Go.Proofs.YtdijlnibmeapbaaGreatDoor
open Go
set_option linter.unusedSimpArgs false
theorem DiagramStars_card : Rows.DiagramStarsCardSaid :=
  Claim7.holds_tied_plain_at .later [] [.data, .data, .data] true (true, "cb09d7aea95a5ae10bb86d4a414370ef927c5762b6b929fdd2cb4d876293af36") true
    DiagramStars_holds (fun _ h => by cases h) (by kernel_rfl) (fun _ h => by cases h) diagramStars_row_tie rfl ⟨rfl, rfl⟩ (by kernel_rfl) rfl
    (fun f fn hf hfn => by
      obtain rfl : f = 3 := Option.some.inj ((show Tryz.prog.funcNamed "tollbridge/tollbridgelaw21.DiagramStars" = some 3 by kernel_rfl).symm.trans hf) |>.symm
      obtain rfl : fn = Tryz.f3 := (Option.some.inj (Tryz.func3.symm.trans hfn)).symm
      exact ⟨by kernel_rfl, fun j t ht => by
        rw [Tryz.params3] at ht
        have hm : t ∈ ([22, 25] : List TypeId) := by simpa using Array.mem_of_getElem? ht
        have hall : (([22, 25] : List TypeId).all fun u => !Tryz.prog.wantsStandIn u) = true := by kernel_rfl
        exact (show Tryz.prog.wantsStandIn t = false by simpa using List.all_eq_true.1 hall t hm)⟩)
    (by kernel_rfl)
#print axioms DiagramStars_card
end Go.Proofs.YtdijlnibmeapbaaGreatDoor
