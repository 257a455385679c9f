/- JudgeFewer, walked. -/
import Derived.Test.YtddeelepaiklgaaJFewP
import Derived.Test.YtddeelepaiklgaaJApp
import Derived.Test.YtddeelepaiklgaaJOpenH
namespace Go.Proofs.Ytddeelepaiklgaa
open Go.RowKit Go.Maps Go.Sort Go.Lib
set_option linter.unusedSimpArgs false

theorem tmod_in (d : Int) (n : Nat) (h0 : 0 < n) (h1 : n ≤ 200) : ∃ k : Nat, (wrap64 (d.tmod n + n)).tmod n = (k : Int) ∧ k < n := by
  have a1 : d.tmod n < n := Int.tmod_lt_of_pos d (by omega)
  have a2 : -(n : Int) < d.tmod n := Int.lt_tmod_of_pos d (by omega)
  have hw : wrap64 (d.tmod n + n) = d.tmod n + n := by unfold wrap64; omega
  rw [hw, Int.tmod_eq_emod_of_nonneg (by omega)]
  have b1 := Int.emod_nonneg (d.tmod n + n) (show (n : Int) ≠ 0 by omega)
  have b2 := Int.emod_lt_of_pos (d.tmod n + n) (show (0 : Int) < n by omega)
  exact ⟨((d.tmod n + n) % n).toNat, by omega, by omega⟩
theorem hopCs_set (a b : Int) (x : Hdr) (v u : Value) : ((hopCs a b x v).toArray.setIfInBounds 13 u).toList = hopCs a b x u := by
  unfold hopCs
  rw [List.setIfInBounds_toArray, List.toList_toArray, List.set_append_right _ _ (by simp), List.set_append_right _ _ (by rw [x.len_cs]; simp), x.len_cs]
  rfl

set_option maxHeartbeats 8000000 in
set_option maxRecDepth 100000 in
theorem lawFewer_any (h : HopD) (t : Tm) (qs : List Qr) (dr : Int) (hv pv : Value) (w : World) (hh : HopF w h hv) (hp : PVal w t qs pv) :
    Calls Try.prog 6 #[hv, pv, .int .i64 dr] w fun e w' => e = .returned (.bool true) ∧ Ext w w' := by
  have HPV := Lib.hid hp
  obtain ⟨step, pol, x, out⟩ := h
  obtain ⟨ov, rfl, hso, -, -⟩ := hh
  have hsl := hsl_of hso
  obtain ⟨po, lo, co, rfl, hlo, hlc, hcm, -⟩ := hso
  have HSLO := Lib.hid hsl
  have HLO := Lib.hid (show lo = out.length from hlo)
  have hlm : lo ≤ 9223372036854775807 := by omega
  have HLM := Lib.hid (show out.length ≤ 9223372036854775807 by have := HLO.out; omega)
  obtain ⟨p, len, cap, qv, rfl, hvt, -⟩ := hp
  have HVT := Lib.hid hvt
  dsimp only at *
  obtain ⟨wA, hA⟩ : ∃ W : World, w.alloc (.cells (hopCs step pol x (.slice po lo co)).toArray 27) = W := ⟨_, rfl⟩
  have xA : Ext w wA := hA ▸ Ext.alloc _ _
  have sA : wA.heap.size = w.heap.size + 1 := by rw [← hA, World.size_alloc]
  have rA : wA.rangeAt w.heap.size 0 (hopCs step pol x (.slice po lo co)) := by
    have := rangeAt_new w (hopCs step pol x (.slice po lo co)).toArray 27
    rw [hA] at this
    exact this
  obtain ⟨wB, hB⟩ : ∃ W : World, wA.alloc (.cells #[.int .i8 t.op, .int .i8 t.fld, .int .u64 t.n, .slice p len cap, qv] 34) = W := ⟨_, rfl⟩
  have xB : Ext wA wB := hB ▸ Ext.alloc _ _
  have rB : wB.rangeAt (w.heap.size + 1) 0 [.int .i8 t.op, .int .i8 t.fld, .int .u64 t.n, .slice p len cap, qv] := by
    have := rangeAt_new wA #[.int .i8 t.op, .int .i8 t.fld, .int .u64 t.n, .slice p len cap, qv] 34
    rw [hB, sA] at this
    exact this
  have HX := Lib.hid (xA.trans xB)
  have HHR := Lib.hid (fun W (hW : Ext wB W) => World.rangeAt.later (xB.trans hW).later rA)
  have HHC := Lib.hid (fun W (hW : Ext wB W) => hop_cells (World.rangeAt.later (xB.trans hW).later rA))
  have HPC := Lib.hid (fun W (hW : Ext wB W) => show W.cell? ⟨w.heap.size + 1, 0, none⟩ = some (.int .i8 t.op) ∧ W.cell? ⟨w.heap.size + 1, 1, none⟩ = some (.int .i8 t.fld) ∧ W.cell? ⟨w.heap.size + 1, 2, none⟩ = some (.int .u64 t.n) ∧ W.cell? ⟨w.heap.size + 1, 3, none⟩ = some (.slice p len cap) ∧ W.cell? ⟨w.heap.size + 1, 4, none⟩ = some qv from by
    have hr := World.rangeAt.later hW.later rB
    exact ⟨by simpa using hr 0 _ rfl, by simpa using hr 1 _ rfl, by simpa using hr 2 _ rfl, by simpa using hr 3 _ rfl, by simpa using hr 4 _ rfl⟩)
  have HEQ := Lib.hid (show w.alloc (.cells (hopCs step pol x (.slice po lo co)).toArray 27) = wA ∧ wA.alloc (.cells #[.int .i8 t.op, .int .i8 t.fld, .int .u64 t.n, .slice p len cap, qv] 34) = wB from ⟨hA, hB⟩)
  have HUS := Lib.hid (And.intro Try.underlying27 (fun (a b : Int) (x : Hdr) (v : Value) => show (Try.prog.info? 27).map (·.size) = some (hopCs a b x v).length from by
    rw [← List.size_toArray, size_hopCs]; kernel_rfl))
  have HHOP := Lib.hid (fun (o2 : List Hdr) (v2 : Value) W (hW : Ext w W) (h2 : HSl W 0 o2 v2) (hm : o2.length ≤ 9223372036854775807) => hop_any t qs step pol x o2 (.agg (hopCs step pol x v2).toArray) _ W ⟨v2, rfl, h2, hm⟩ (HPV.out.later hW.later))
  have HCK := Lib.hid (fun W (hW : Ext w W) => checkQ_any t qs _ W (HPV.out.later hW.later))
  have HALL := Lib.hid (fun h1 h2 h3 => few_all (t := t) (qs := qs) (x := x) h1 h2 h3)
  clear xA sA rA hA xB rB hB hlo hsl hvt hcm
  have c13 := (HHC.out _ (Ext.refl _)).2.2.2
  simp only [Nat.zero_add, Nat.reduceAdd] at c13
  go_enter Try.func6, Try.ntmps6
  go_upto_region 1 with fail
  rw [HEQ.out.1, HEQ.out.2]
  clear HEQ
  by_cases h200 : 200 < lo
  · go_wp2_with fail
    refine (wakes30_any wB).mono ?_
    rintro e w1 ⟨rfl, hx1⟩
    go_wp2_with fail
    go_ret
    exact ⟨rfl, HX.out.trans hx1⟩
  have HOF := Lib.hid (meaningOf_any t _ x wB (show t.Val wB (.agg #[.int .i8 t.op, .int .i8 t.fld, .int .u64 t.n, .slice p len cap]) from HVT.out.later HX.out.later))
  have HLX := Lib.hid ((HHC.out _ (Ext.refl _)).2.2.1)
  have HAL := Lib.hid (fun h1 h2 h3 => HALL.out h1 h2 h3)
  have HO64 := Lib.hid (ofC_len t x)
  obtain ⟨b0, b1, b2, b3, b4⟩ := HPC.out _ (Ext.refl _)
  generalize hR : ofC t x = R at *
  have HR := Lib.hid hR
  clear hR
  obtain ⟨c, l⟩ := R
  go_upto_region 3 with fail
  go_wp2_with (first | (refine wpList_load_H rfl _ rfl w.heap.size 2 rfl x HLX.out ?_))
  refine HOF.out.mono ?_
  rintro e w2 ⟨hx2, h64, v2, rfl, hown2⟩
  have HX2 := Lib.hid hx2
  have HOW2 := Lib.hid (HSl.of_owns hown2)
  clear b0 b1 b2 b3 b4 c13 hown2 HLX
  have c3 := cellAt (HHC.out _ HX2.out).2.2.1 3 (by omega)
  obtain ⟨b0, b1, b2, b3, b4⟩ := HPC.out _ HX2.out
  have HCK2 := Lib.hid (HCK.out w2 (HX.out.trans HX2.out))
  simp only [Nat.zero_add, Nat.reduceAdd] at c3
  go_upto_region 4 with fail
  go_cut [38] (fun s38 wx => s38 = .bool (decide (checkP t qs = 0) && (decide (c = 0) && decide (x.f 3 = 0))) ∧ Hid (Ext w2 wx))
  case first =>
    go_wp2_with fail
    refine HCK2.out.mono ?_
    rintro e w3 ⟨rfl, hx3⟩
    have d3 := cellAt (HHC.out _ (HX2.out.trans hx3)).2.2.1 3 (by omega)
    simp only [Nat.zero_add, Nat.reduceAdd] at d3
    have HX3 := Lib.hid hx3
    clear c3 b0 b1 b2 b3 b4 hx3
    by_cases k1 : checkP t qs = 0
    case neg =>
      have HF := Lib.hid (show (decide (checkP t qs = 0) && (decide (c = 0) && decide (x.f 3 = 0))) = false from by simp [k1])
      have hd : (checkP t qs == 0) = false := by simpa using k1
      generalize checkP t qs = y at *
      go_wp2_with fail
      go_meet
      exact ⟨by rw [HF.out], HX3.out⟩
    by_cases k2 : c = 0
    case neg =>
      have HF := Lib.hid (show (decide (checkP t qs = 0) && (decide (c = 0) && decide (x.f 3 = 0))) = false from by simp [k2])
      have hd : (c == 0) = false := by simpa using k2
      rw [k1]
      clear k1
      go_wp2_with fail
      go_meet
      exact ⟨by rw [HF.out], HX3.out⟩
    subst k2
    by_cases k3 : x.f 3 = 0
    case neg =>
      have HF := Lib.hid (show (decide (checkP t qs = 0) && (decide ((0 : Int) = 0) && decide (x.f 3 = 0))) = false from by simp [k3])
      have hd : (x.f 3 == 0) = false := by simpa using k3
      rw [k1]
      clear k1
      generalize x.f 3 = y at *
      go_wp2_with fail
      go_meet
      exact ⟨by rw [HF.out], HX3.out⟩
    have HF := Lib.hid (show (decide (checkP t qs = 0) && (decide ((0 : Int) = 0) && decide (x.f 3 = 0))) = true from by simp [k1, k3])
    rw [k1]
    rw [k3] at d3
    clear k1 k3
    go_wp2_with fail
    go_meet
    exact ⟨by rw [HF.out], HX3.out⟩
  case rest =>
    obtain ⟨rfl, hx3⟩ := hcut
    have HX3 := Lib.hid (HX2.out.trans hx3.out)
    have HS3 := Lib.hid (HOW2.out.ext hx3.out)
    clear c3 b0 b1 b2 b3 b4 hx3
    go_upto_if 38 with fail
    go_cut [] (fun wx => Hid (Ext wc wx))
    case first =>
      cases hk : (decide (checkP t qs = 0) && (decide (c = 0) && decide (x.f 3 = 0))) with
      | false =>
        clear hk
        go_wp2_with fail
        go_meet
        exact Ext.refl _
      | true =>
        simp only [Bool.and_eq_true, decide_eq_true_eq] at hk
        have HHL := Lib.hid (HAL.out hk.1 hk.2.1 hk.2.2)
        clear hk
        have HRH := Lib.hid (HHR.out _ HX3.out)
        obtain ⟨p2, n2, cap2, rfl, hn2, hl2⟩ := HS3.out
        have HN2 := Lib.hid hn2
        have HSL := Lib.hid (show HSl wc 0 l (.slice p2 n2 cap2) from ⟨p2, n2, cap2, rfl, hn2, hl2.imp id fun ⟨b, o, hp, _, hr⟩ => ⟨b, o, hp, Nat.zero_le _, hr⟩⟩)
        clear hn2 hl2
        go_upto_region 6 with (first
          | (refine wpList_load_mid rfl 27 _ rfl w.heap.size 0 rfl (hopCs step pol x (.slice po lo co)) _ HRH.out HUS.out.1 rfl (HUS.out.2 _ _ _ _) ?_)
          | (refine wpList_store_new rfl 27 _ _ rfl _ (hopCs step pol x (.slice po lo co)).toArray rfl rfl (by rw [size_hopCs]; kernel_rfl) (by rw [size_hopCs]; rfl) (all_oneCell_toArray (all_one_hop (h := ⟨step, pol, x, out⟩) (n := pol) rfl)) ?_))
        obtain ⟨w4, h4⟩ : ∃ W : World, wc.alloc (.cells (hopCs step pol x (.slice po lo co)).toArray 27) = W := ⟨_, rfl⟩
        have r4 : w4.rangeAt wc.heap.size 0 (hopCs step pol x (.slice po lo co)).toArray.toList := by rw [← h4]; exact rangeAt_new _ _ _
        have d13 := (hop_cells r4).2.2.2
        simp only [Nat.zero_add, Nat.reduceAdd] at d13
        have f13 : w4.frozen? ⟨wc.heap.size, 13, none⟩ = false := by
          have := World.frozen?_alloc_mark wc (hopCs step pol x (.slice po lo co)).toArray 27 0 0 13
          rw [h4] at this
          simpa using this
        obtain ⟨w5, h5⟩ : ∃ W : World, w4.setCell ⟨wc.heap.size, 13, none⟩ (.slice p2 n2 cap2) = W := ⟨_, rfl⟩
        have r5 : w5.rangeAt wc.heap.size 0 (hopCs step pol x (.slice p2 n2 cap2)) := by
          have := rangeAt_set r4 (f := 13) (by rw [size_hopCs]; omega) (.slice p2 n2 cap2)
          rw [h5, hopCs_set] at this
          exact this
        have x4 : Ext wc w4 := h4 ▸ Ext.alloc _ _
        have x5 : Ext wc w5 := h5 ▸ x4.andSet (Nat.le_refl _) _
        have HR5 := Lib.hid r5
        have HX5 := Lib.hid x5
        have HH4 := Lib.hid h4
        have HH5 := Lib.hid h5
        have HC5 := Lib.hid (HHOP.out l (.slice p2 n2 cap2) w5 (HX.out.trans (HX3.out.trans x5)) (HSL.out.ext x5) (by have := HO64.out; omega))
        obtain ⟨b0, b1, b2, b3, b4⟩ := HPC.out _ (HX3.out.trans x5)
        rw [HHL.out] at HC5
        clear r4 r5 x4 x5 h4 h5 HHL
        rw [HH4.out]
        try simp only [Act.put]
        go_upto_region 7 with fail
        rw [HH5.out]
        clear d13 f13
        go_wp2_with (first
          | (refine wpList_load_mid rfl 27 _ rfl wc.heap.size 0 rfl (hopCs step pol x (.slice p2 n2 cap2)) _ HR5.out HUS.out.1 rfl (HUS.out.2 _ _ _ _) ?_))
        refine HC5.out.mono ?_
        rintro e w6 ⟨rfl, hx6⟩
        go_wp2_with fail
        go_meet
        exact HX5.out.trans hx6
    case rest =>
      have HXc := Lib.hid (HX3.out.trans hcut.out)
      clear hcut
      go_upto_region 9 with fail
      have HRH := Lib.hid (HHR.out _ HXc.out)
      have HCo := Lib.hid (HHOP.out out (.slice po lo co) wc (HX.out.trans HXc.out) (HSLO.out.ext (HX.out.trans HXc.out)) HLM.out)
      obtain ⟨b0, b1, b2, b3, b4⟩ := HPC.out _ HXc.out
      go_wp2_with (first
        | (refine wpList_load_mid rfl 27 _ rfl w.heap.size 0 rfl (hopCs step pol x (.slice po lo co)) _ HRH.out HUS.out.1 rfl (HUS.out.2 _ _ _ _) ?_))
      refine HCo.out.mono ?_
      rintro e w6 ⟨rfl, hx6⟩
      have HX6 := Lib.hid (HXc.out.trans hx6)
      have c13 := (HHC.out _ HX6.out).2.2.2
      simp only [Nat.zero_add, Nat.reduceAdd] at c13
      clear b0 b1 b2 b3 b4 hx6
      have HLESS := Lib.hid (fun (h : hopP t qs x out = true) k => few_less h k)
      cases hh : hopP t qs x out with
      | false =>
        clear hh
        go_wp2_with fail
        refine (wakes30_any w6).mono ?_
        rintro e w7 ⟨rfl, hx7⟩
        go_wp2_with fail
        go_ret
        exact ⟨rfl, HX.out.trans (HX6.out.trans hx7)⟩
      | true =>
      have HHT := Lib.hid hh
      clear hh
      rcases Nat.eq_zero_or_pos lo with h0 | hpos
      · subst h0
        go_wp2_with fail
        refine (wakes30_any w6).mono ?_
        rintro e w7 ⟨rfl, hx7⟩
        go_wp2_with fail
        go_ret
        exact ⟨rfl, HX.out.trans (HX6.out.trans hx7)⟩
      have hlo0 : ¬ lo = 0 := by omega
      go_upto_region 11 with fail
      go_cut [10] (fun s10 wx => ∃ k : Nat, s10 = .int .i64 k ∧ k < lo ∧ Hid (Ext w6 wx))
      case first =>
        have HTM := Lib.hid (tmod_in dr lo hpos (by omega))
        go_region
        all_goals go_wp2_with fail
        all_goals (obtain ⟨k, hk1, hk2⟩ := HTM.out; rw [hk1])
        all_goals go_meet
        all_goals exact ⟨k, rfl, hk2, Ext.drew _⟩
      case rest =>
        obtain ⟨wq, rfl⟩ : ∃ W : World, W = wc := ⟨_, rfl⟩
        obtain ⟨k, rfl, hk, hx7⟩ := hcut
        have hkl : k < out.length := by rw [← HLO.out]; exact hk
        obtain ⟨bo, oo, rfl, hro⟩ : ∃ b o, po = some ⟨b, o, none⟩ ∧ ∀ W, Ext w W → W.rangeAt b o (flatH out) := by
          obtain ⟨_, _, _, e, -, hl⟩ := HSLO.out
          rcases hl with h | ⟨b, o, hp, -, hr⟩
          · exfalso; subst h; simp at hkl
          · simp only [Value.slice.injEq] at e
            exact ⟨b, o, e.1.trans hp, fun W hW => World.rangeAt.later hW.later hr⟩
        have HRO := Lib.hid hro
        have HX7 := Lib.hid (HX6.out.trans hx7.out)
        have HRH7 := Lib.hid (HHR.out _ HX7.out)
        clear hro hx7 c13
        go_upto_region 13 with (first
          | (refine wpList_load_mid rfl 27 _ rfl w.heap.size 0 rfl (hopCs step pol x (.slice (some ⟨bo, oo, none⟩) lo co)) _ HRH7.out HUS.out.1 rfl (HUS.out.2 _ _ _ _) ?_)
          | (refine wpList_store_new rfl 27 _ _ rfl _ (hopCs step pol x (.slice (some ⟨bo, oo, none⟩) lo co)).toArray rfl rfl (by rw [size_hopCs]; kernel_rfl) (by rw [size_hopCs]; rfl) (all_oneCell_toArray (all_one_hop (h := ⟨step, pol, x, out⟩) (n := pol) rfl)) ?_))
        -- REGIONS
        obtain ⟨w8, h8⟩ : ∃ W : World, wq.alloc (.cells (hopCs step pol x (.slice (some ⟨bo, oo, none⟩) lo co)).toArray 27) = W := ⟨_, rfl⟩
        have r8 : w8.rangeAt wq.heap.size 0 (hopCs step pol x (.slice (some ⟨bo, oo, none⟩) lo co)).toArray.toList := by rw [← h8]; exact rangeAt_new _ _ _
        have f8 : w8.frozen? ⟨wq.heap.size, 13, none⟩ = false := by
          have := World.frozen?_alloc_mark wq (hopCs step pol x (.slice (some ⟨bo, oo, none⟩) lo co)).toArray 27 0 0 13
          rw [h8] at this
          simpa using this
        have x8 : Ext wq w8 := h8 ▸ Ext.alloc _ _
        have HSZ8 := Lib.hid (show w8.heap.size = wq.heap.size + 1 from by rw [← h8, World.size_alloc])
        rw [h8]
        try simp only [Act.put]
        have HX8 := Lib.hid (HX7.out.trans x8)
        have HX8c := Lib.hid x8
        have HX8s := HX7
        have HR8 := Lib.hid r8
        have HF8 := Lib.hid f8
        clear r8 f8 x8 h8
        go_cut [] (fun wx => Hid (∃ v' : Value, wx.rangeAt wq.heap.size 0 (hopCs step pol x v') ∧ HSl wx 0 (out.take k ++ out.drop (k + 1)) v' ∧ Ext wq wx))
        case first =>
          have HSB := Lib.hid (fun W (hW : Ext wB W) => (show (fun W => W.cell? ⟨w.heap.size, 13, none⟩ = some (.slice (some ⟨bo, oo, none⟩) lo co)) W from by
            simpa using (HHC.out W hW).2.2.2))
          have HSS := Lib.hid (fun W (hW : Ext w8 W) => HSB.out W (HX8.out.trans hW))
          have hsz8 : wB.heap.size ≤ wq.heap.size := HX8s.out.size
          have zd : Ext w8 w8.drew := Ext.drew _
          refine wp_region_noPanic ?_
          refine wp_region_held_drew (S := fun W => W.cell? ⟨w.heap.size, 13, none⟩ = some (.slice (some ⟨bo, oo, none⟩) lo co)) (by kernel_rfl) (HSS.out _ (Ext.drew _)) (fun hHeld => ?_)
          obtain ⟨u4, hu4⟩ : ∃ u, sliced (some ⟨bo, oo, none⟩) 0 k co 11 = u := ⟨_, rfl⟩
          obtain ⟨u10, hu10⟩ : ∃ u, sliced (some ⟨bo, oo, none⟩) (k + 1) lo co 11 = u := ⟨_, rfl⟩
          have HEAD := Lib.hid (fun W (hW : Ext w8 W) => show HSl W 0 (out.take k) u4 from by rw [← hu4]; exact hsl_head (HRO.out W (HX.out.trans (HX8.out.trans hW))) k co (by omega))
          have TAIL := Lib.hid (fun W (hW : Ext w8 W) => show HSl W 0 (out.drop (k + 1)) u10 from by rw [← hu10]; exact hsl_tail (HRO.out W (HX.out.trans (HX8.out.trans hW))) k lo co HLO.out (by omega) (by omega))
          have HU4 := Lib.hid hu4
          have HU10 := Lib.hid hu10
          clear hu4 hu10
          have hk0 : (0 : Int) ≤ k := by omega
          have hk1 : (k : Int) + 1 ≤ lo := by omega
          have hk2 : (k : Int) ≤ co := by omega
          have hk3 : (k : Int) < 200 := by omega
          have hb1 : out.length ≤ 200 := by have := HLO.out; omega
          have hkw : IntKind.i64.wrap ((k : Int) + 1) = (k : Int) + 1 := by rw [IntKind.wrap_i64]; omega
          have htn : ((k : Int) + 1).toNat = k + 1 := by omega
          refine wpAnyH_take (i := 1) (v := .pointer (some ⟨w.heap.size, 13, none⟩)) rfl (by kernel_rfl) (by kernel_rfl) (by kernel_rfl) (fun _ _ _ h => h) (Or.inl ⟨by rfl, by (intro w hSw; (try dsimp only at hSw); go_simp)⟩) (by assumption) ?_
          try simp only [List.getElem_toArray, List.getElem_cons_zero, List.getElem_cons_succ, Act.put, List.setIfInBounds_toArray, List.set_cons_zero, List.set_cons_succ, Array.toArray_toList]
          refine wpAnyH_take (i := 2) (v := .slice (some ⟨bo, oo, none⟩) lo co) rfl (by kernel_rfl) (by kernel_rfl) (by kernel_rfl) (fun _ _ _ h => h) (Or.inl ⟨by rfl, by (intro w hSw; (try dsimp only at hSw); go_simp)⟩) (by assumption) ?_
          try simp only [List.getElem_toArray, List.getElem_cons_zero, List.getElem_cons_succ, Act.put, List.setIfInBounds_toArray, List.set_cons_zero, List.set_cons_succ, Array.toArray_toList]
          refine wpAnyH_take (i := 3) (v := .int .i64 k) rfl (by kernel_rfl) (by kernel_rfl) (by kernel_rfl) (fun _ _ _ h => h) (Or.inl ⟨by rfl, by (intro w hSw; (try dsimp only at hSw); go_simp)⟩) (by assumption) ?_
          try simp only [List.getElem_toArray, List.getElem_cons_zero, List.getElem_cons_succ, Act.put, List.setIfInBounds_toArray, List.set_cons_zero, List.set_cons_succ, Array.toArray_toList]
          refine wpAnyH_take (i := 4) (v := u4) rfl (by kernel_rfl) (by kernel_rfl) (by kernel_rfl) (fun _ _ _ h => h) (Or.inl ⟨by rfl, by (intro w hSw; (try dsimp only at hSw); rw [← HU4.out]; go_simp)⟩) (by assumption) ?_
          try simp only [List.getElem_toArray, List.getElem_cons_zero, List.getElem_cons_succ, Act.put, List.setIfInBounds_toArray, List.set_cons_zero, List.set_cons_succ, Array.toArray_toList]
          refine wpAnyH_take (i := 6) (v := .pointer (some ⟨w.heap.size, 13, none⟩)) rfl (by kernel_rfl) (by kernel_rfl) (by kernel_rfl) (fun _ _ _ h => h) (Or.inl ⟨by rfl, by (intro w hSw; (try dsimp only at hSw); go_simp)⟩) (by assumption) ?_
          try simp only [List.getElem_toArray, List.getElem_cons_zero, List.getElem_cons_succ, Act.put, List.setIfInBounds_toArray, List.set_cons_zero, List.set_cons_succ, Array.toArray_toList]
          refine wpAnyH_take (i := 7) (v := .slice (some ⟨bo, oo, none⟩) lo co) rfl (by kernel_rfl) (by kernel_rfl) (by kernel_rfl) (fun _ _ _ h => h) (Or.inl ⟨by rfl, by (intro w hSw; (try dsimp only at hSw); go_simp)⟩) (by assumption) ?_
          try simp only [List.getElem_toArray, List.getElem_cons_zero, List.getElem_cons_succ, Act.put, List.setIfInBounds_toArray, List.set_cons_zero, List.set_cons_succ, Array.toArray_toList]
          refine wpAnyH_take (i := 8) (v := .int .i64 k) rfl (by kernel_rfl) (by kernel_rfl) (by kernel_rfl) (fun _ _ _ h => h) (Or.inl ⟨by rfl, by (intro w hSw; (try dsimp only at hSw); go_simp)⟩) (by assumption) ?_
          try simp only [List.getElem_toArray, List.getElem_cons_zero, List.getElem_cons_succ, Act.put, List.setIfInBounds_toArray, List.set_cons_zero, List.set_cons_succ, Array.toArray_toList]
          refine wpAnyH_take (i := 9) (v := .int .i64 ((k : Int) + 1)) rfl (by kernel_rfl) (by kernel_rfl) (by kernel_rfl) (fun _ _ _ h => h) (Or.inl ⟨by rfl, by (intro w hSw; (try dsimp only at hSw); go_simp)⟩) (by assumption) ?_
          try simp only [List.getElem_toArray, List.getElem_cons_zero, List.getElem_cons_succ, Act.put, List.setIfInBounds_toArray, List.set_cons_zero, List.set_cons_succ, Array.toArray_toList]
          refine wpAnyH_take (i := 10) (v := u10) rfl (by kernel_rfl) (by kernel_rfl) (by kernel_rfl) (fun _ _ _ h => h) (Or.inl ⟨by rfl, by (intro w hSw; (try dsimp only at hSw); rw [← HU10.out]; go_simp <;> (intro hneg; exact absurd hneg (by omega)))⟩) (by assumption) ?_
          try simp only [List.getElem_toArray, List.getElem_cons_zero, List.getElem_cons_succ, Act.put, List.setIfInBounds_toArray, List.set_cons_zero, List.set_cons_succ, Array.toArray_toList]
          refine wpAnyH_ready (rs := [0]) (by kernel_rfl) (by simp) ?_
          refine AllReadyH.cons (i := 0) rfl (fun K hK => ?_) AllReadyH.nil
          go_simp
          obtain ⟨y1, ey1⟩ : ∃ Y : World, (w8.alloc (.cells #[] 24)).drew = Y := ⟨_, rfl⟩
          have xy1 : Ext w8 y1 := ey1 ▸ (Ext.alloc _ _).andDrew
          have zy1 := (Ext.refl w8).trans xy1
          rw [ey1]
          refine hK.out _ _ (HSS.out _ zy1) (fun hHeldy1 => ?_)
          clear hK K
          try simp only [List.getElem_toArray, List.getElem_cons_zero, List.getElem_cons_succ, Act.put, List.setIfInBounds_toArray, List.set_cons_zero, List.set_cons_succ, Array.toArray_toList]
          have o1 : y1.ownsRow w8.heap.size 24 11 (.slice (some ⟨w8.heap.size, 0, none⟩) 0 0) ([] : List Hdr).length (flatH []) := by
            rw [← ey1]
            exact ownsRow_ext (World.ownsRow_lit (base := w8.heap.size) (e := 24) (size := 11) w8 #[] 0 (Nat.le_refl _) (by unfold maxLen; omega) rfl) (Ext.drew _)
          refine wpAnyH_ready (rs := [5]) (by kernel_rfl) (by simp) ?_
          refine AllReadyH.cons (i := 5) rfl (fun K hK => ?_) AllReadyH.nil
          refine step_append_sl rfl (.tmp 71) (.tmp 75) rfl w8.heap.size (.slice (some ⟨w8.heap.size, 0, none⟩) 0 0) [] (by rfl) o1 _ (out.take k) u4 (by rfl) (HEAD.out _ zy1) (by simp only [List.length_append, List.length_take, List.length_drop, List.length_nil, List.length_cons]; omega) (zy1.size) ?_
          intro u2 y2 oy2 gy2 _
          have zy2 := zy1.grow' gy2 (fun i hi => (o1.lt i hi).1)
          refine hK.out _ _ (HSS.out _ zy2) (fun hHeldy2 => ?_)
          clear hK K
          try simp only [List.getElem_toArray, List.getElem_cons_zero, List.getElem_cons_succ, Act.put, List.setIfInBounds_toArray, List.set_cons_zero, List.set_cons_succ, Array.toArray_toList]
          refine wpAnyH_ready (rs := [11]) (by kernel_rfl) (by simp) ?_
          refine AllReadyH.cons (i := 11) rfl (fun K hK => ?_) AllReadyH.nil
          refine step_append_sl rfl (.tmp 76) (.tmp 81) rfl w8.heap.size u2 ([] ++ out.take k) (by rfl) oy2 _ (out.drop (k + 1)) u10 (by rfl) (TAIL.out _ zy2) (by simp only [List.length_append, List.length_take, List.length_drop, List.length_nil, List.length_cons]; omega) (zy2.size) ?_
          intro u3 y3 oy3 gy3 _
          have zy3 := zy2.grow' gy3 (fun i hi => (oy2.lt i hi).1)
          refine hK.out _ _ (HSS.out _ zy3) (fun hHeldy3 => ?_)
          clear hK K
          try simp only [List.getElem_toArray, List.getElem_cons_zero, List.getElem_cons_succ, Act.put, List.setIfInBounds_toArray, List.set_cons_zero, List.set_cons_succ, Array.toArray_toList]
          obtain ⟨pu, nu, cu, rfl, hnu, -⟩ := HSl.of_owns oy3
          have HNU := Lib.hid hnu
          clear hnu
          have qy3 := zy3
          have cy3 : y3.cell? ⟨wq.heap.size, 13, none⟩ = some (.slice (some ⟨bo, oo, none⟩) lo co) := by
            have := (hop_cells (World.rangeAt.later qy3.later HR8.out)).2.2.2
            simpa using this
          have ffy3 : y3.frozen? ⟨wq.heap.size, 13, none⟩ = false := by
            rw [Below.frozen qy3 (by have := HSZ8.out; show wq.heap.size < _; omega)]; exact HF8.out
          have HEy3 := Lib.hid (show ∃ v' : Value, (y3.setCell ⟨wq.heap.size, 13, none⟩ (.slice pu nu cu)).rangeAt wq.heap.size 0 (hopCs step pol x v') ∧ HSl (y3.setCell ⟨wq.heap.size, 13, none⟩ (.slice pu nu cu)) 0 (out.take k ++ out.drop (k + 1)) v' ∧ Ext wq (y3.setCell ⟨wq.heap.size, 13, none⟩ (.slice pu nu cu)) from by
            refine ⟨(.slice pu nu cu), ?_, ?_, (HX8c.out.trans qy3).andSet (Nat.le_refl _) _⟩
            · have := rangeAt_set (World.rangeAt.later qy3.later HR8.out) (f := 13) (by rw [size_hopCs]; omega) (.slice pu nu cu)
              rw [hopCs_set] at this
              exact this
            · have h1 := HSl.of_owns oy3
              have h2 := h1.keep (Keep.set (S := (· = wq.heap.size)) y3 ⟨wq.heap.size, 13, none⟩ (.slice pu nu cu) rfl) (fun b hb => by have := HSZ8.out; show ¬ b = wq.heap.size; omega)
              obtain ⟨a1, a2, a3, a4, a5, a6⟩ := h2
              refine ⟨a1, a2, a3, a4, ?_, a6.imp id fun ⟨b, o, hp, _, hr⟩ => ⟨b, o, hp, Nat.zero_le _, hr⟩⟩
              simpa using a5)
          refine wpAnyH_take (i := 12) (v := .pointer (some ⟨wq.heap.size, 13, none⟩)) rfl (by kernel_rfl) (by kernel_rfl) (by kernel_rfl) (fun _ _ _ h => h) (Or.inl ⟨by rfl, by (intro w hSw; (try dsimp only at hSw); go_simp)⟩) (by assumption) ?_
          try simp only [List.getElem_toArray, List.getElem_cons_zero, List.getElem_cons_succ, Act.put, List.setIfInBounds_toArray, List.set_cons_zero, List.set_cons_succ, Array.toArray_toList]
          refine wpAnyH_ready (rs := [13]) (by kernel_rfl) (by simp) ?_
          refine AllReadyH.cons (i := 13) rfl (fun K hK => ?_) AllReadyH.nil
          go_simp
          refine hK.out _ _ (HSB.out _ (Ext.andSet (p := ⟨wq.heap.size, 13, none⟩) (HX8.out.trans qy3) hsz8 _)) (fun hHeld => ?_)
          clear hK K
          try simp only [List.getElem_toArray, List.getElem_cons_zero, List.getElem_cons_succ, Act.put, List.setIfInBounds_toArray, List.set_cons_zero, List.set_cons_succ, Array.toArray_toList]
          refine wpAnyH_done (by kernel_rfl) ?_ _
          refine NoPanic.normal ?_
          go_wp2_with fail
          go_meet
          exact HEy3.out
        case rest =>
          obtain ⟨wk, rfl⟩ : ∃ W : World, W = wc := ⟨_, rfl⟩
          obtain ⟨v1, hr1, hs1, hx1⟩ := hcut.out
          have HX9 := Lib.hid (HX7.out.trans hx1)
          have HR9 := Lib.hid (fun W (hW : Ext wk W) => World.rangeAt.later hW.later hr1)
          have HS9 := Lib.hid (fun W (hW : Ext wk W) => hs1.ext hW)
          have HRH9 := Lib.hid (HHR.out _ HX9.out)
          clear hcut hr1 hs1 hx1 HX8 HX8c HX8s HR8 HF8 HSZ8
          go_upto_region 15 with (first
            | (refine wpList_load_mid rfl 27 _ rfl w.heap.size 0 rfl (hopCs step pol x (.slice (some ⟨bo, oo, none⟩) lo co)) _ HRH9.out HUS.out.1 rfl (HUS.out.2 _ _ _ _) ?_)
            | (refine wpList_store_new rfl 27 _ _ rfl _ (hopCs step pol x (.slice (some ⟨bo, oo, none⟩) lo co)).toArray rfl rfl (by rw [size_hopCs]; kernel_rfl) (by rw [size_hopCs]; rfl) (all_oneCell_toArray (all_one_hop (h := ⟨step, pol, x, out⟩) (n := pol) rfl)) ?_))
          obtain ⟨w20, h20⟩ : ∃ W : World, wk.alloc (.cells (hopCs step pol x (.slice (some ⟨bo, oo, none⟩) lo co)).toArray 27) = W := ⟨_, rfl⟩
          have r20 : w20.rangeAt wk.heap.size 0 (hopCs step pol x (.slice (some ⟨bo, oo, none⟩) lo co)).toArray.toList := by rw [← h20]; exact rangeAt_new _ _ _
          have f20 : w20.frozen? ⟨wk.heap.size, 13, none⟩ = false := by
            have := World.frozen?_alloc_mark wk (hopCs step pol x (.slice (some ⟨bo, oo, none⟩) lo co)).toArray 27 0 0 13
            rw [h20] at this
            simpa using this
          have x20 : Ext wk w20 := h20 ▸ Ext.alloc _ _
          have HSZ20 := Lib.hid (show w20.heap.size = wk.heap.size + 1 from by rw [← h20, World.size_alloc])
          rw [h20]
          try simp only [Act.put]
          have HX20 := Lib.hid (HX9.out.trans x20)
          have HX20c := Lib.hid x20
          have HX20s := HX9
          have HR20 := Lib.hid r20
          have HF20 := Lib.hid f20
          clear r20 f20 x20 h20
          obtain ⟨z, hz⟩ : ∃ z, z = out[k] := ⟨_, rfl⟩
          have HZ := Lib.hid hz
          have HRZ := Lib.hid (fun W (hW : Ext w W) => show W.rangeAt bo (oo + k * 11) z.cs.toList from by rw [hz]; exact rangeAt_get Hdr.len_cs (HRO.out W hW) k hkl)
          clear hz
          go_cut [] (fun wx => Hid (∃ v' : Value, wx.rangeAt wk.heap.size 0 (hopCs step pol x v') ∧ HSl wx 0 (out ++ [z]) v' ∧ Ext wk wx))
          case first =>
            have HSB := Lib.hid (fun W (hW : Ext wB W) => (show (fun W => W.cell? ⟨w.heap.size, 13, none⟩ = some (.slice (some ⟨bo, oo, none⟩) lo co) ∧ W.rangeAt bo (oo + k * 11) z.cs.toList) W from by
              exact ⟨by simpa using (HHC.out W hW).2.2.2, HRZ.out W (HX.out.trans hW)⟩))
            have HSS := Lib.hid (fun W (hW : Ext w20 W) => HSB.out W (HX20.out.trans hW))
            have hsz20 : wB.heap.size ≤ wk.heap.size := HX20s.out.size
            have zd : Ext w20 w20.drew := Ext.drew _
            refine wp_region_noPanic ?_
            refine wp_region_held_drew (S := fun W => W.cell? ⟨w.heap.size, 13, none⟩ = some (.slice (some ⟨bo, oo, none⟩) lo co) ∧ W.rangeAt bo (oo + k * 11) z.cs.toList) (by kernel_rfl) (HSS.out _ (Ext.drew _)) (fun hHeld => ?_)
            have huH := Try.underlying24
            have hiH : (Try.prog.info? 24).map (·.size) = some z.cs.toList.length := by rw [z.len_cs]; kernel_rfl
            have hk0 : (0 : Int) ≤ k := by omega
            have hk2 : (k : Int) < lo := by omega
            have hk3 : (k : Int) < 200 := by omega
            have hb1 : out.length ≤ 200 := by have := HLO.out; omega
            have HALLO := Lib.hid (fun W (hW : Ext w20 W) => HSLO.out.ext (HX.out.trans (HX20.out.trans hW)))
            refine wpAnyH_take (i := 1) (v := .pointer (some ⟨w.heap.size, 13, none⟩)) rfl (by kernel_rfl) (by kernel_rfl) (by kernel_rfl) (fun _ _ _ h => h) (Or.inl ⟨by rfl, by (intro w hSw; (try dsimp only at hSw); go_simp)⟩) (by assumption) ?_
            try simp only [List.getElem_toArray, List.getElem_cons_zero, List.getElem_cons_succ, Act.put, List.setIfInBounds_toArray, List.set_cons_zero, List.set_cons_succ, Array.toArray_toList]
            refine wpAnyH_take (i := 2) (v := .slice (some ⟨bo, oo, none⟩) lo co) rfl (by kernel_rfl) (by kernel_rfl) (by kernel_rfl) (fun _ _ _ h => h) (Or.inl ⟨by rfl, by (intro w hSw; (try dsimp only at hSw); go_simp)⟩) (by assumption) ?_
            try simp only [List.getElem_toArray, List.getElem_cons_zero, List.getElem_cons_succ, Act.put, List.setIfInBounds_toArray, List.set_cons_zero, List.set_cons_succ, Array.toArray_toList]
            refine wpAnyH_take (i := 4) (v := .pointer (some ⟨w.heap.size, 13, none⟩)) rfl (by kernel_rfl) (by kernel_rfl) (by kernel_rfl) (fun _ _ _ h => h) (Or.inl ⟨by rfl, by (intro w hSw; (try dsimp only at hSw); go_simp)⟩) (by assumption) ?_
            try simp only [List.getElem_toArray, List.getElem_cons_zero, List.getElem_cons_succ, Act.put, List.setIfInBounds_toArray, List.set_cons_zero, List.set_cons_succ, Array.toArray_toList]
            refine wpAnyH_take (i := 5) (v := .slice (some ⟨bo, oo, none⟩) lo co) rfl (by kernel_rfl) (by kernel_rfl) (by kernel_rfl) (fun _ _ _ h => h) (Or.inl ⟨by rfl, by (intro w hSw; (try dsimp only at hSw); go_simp)⟩) (by assumption) ?_
            try simp only [List.getElem_toArray, List.getElem_cons_zero, List.getElem_cons_succ, Act.put, List.setIfInBounds_toArray, List.set_cons_zero, List.set_cons_succ, Array.toArray_toList]
            refine wpAnyH_take (i := 6) (v := .int .i64 k) rfl (by kernel_rfl) (by kernel_rfl) (by kernel_rfl) (fun _ _ _ h => h) (Or.inl ⟨by rfl, by (intro w hSw; (try dsimp only at hSw); go_simp)⟩) (by assumption) ?_
            try simp only [List.getElem_toArray, List.getElem_cons_zero, List.getElem_cons_succ, Act.put, List.setIfInBounds_toArray, List.set_cons_zero, List.set_cons_succ, Array.toArray_toList]
            refine wpAnyH_take (i := 7) (v := .pointer (some ⟨bo, oo + k * 11, none⟩)) rfl (by kernel_rfl) (by kernel_rfl) (by kernel_rfl) (fun _ _ _ h => h) (Or.inl ⟨by rfl, by (intro w hSw; (try dsimp only at hSw); go_simp)⟩) (by assumption) ?_
            try simp only [List.getElem_toArray, List.getElem_cons_zero, List.getElem_cons_succ, Act.put, List.setIfInBounds_toArray, List.set_cons_zero, List.set_cons_succ, Array.toArray_toList]
            refine wpAnyH_take (i := 8) (v := .agg z.cs.toList.toArray) rfl (by kernel_rfl) (by kernel_rfl) (by kernel_rfl) (fun _ _ _ h => h) ?_ (by assumption) ?_
            · try simp only [List.getElem_toArray, List.getElem_cons_zero, List.getElem_cons_succ]
              exact yieldsIf_load_mid (by rfl) _ _ rfl (bo) (oo + k * 11) rfl z.cs.toList _ (fun w hSw => hSw.2) huH rfl hiH
            try simp only [List.getElem_toArray, List.getElem_cons_zero, List.getElem_cons_succ, Act.put, List.setIfInBounds_toArray, List.set_cons_zero, List.set_cons_succ, Array.toArray_toList]
            refine wpAnyH_ready (rs := [0, 9]) (by kernel_rfl) (by simp) ?_
            refine AllReadyH.cons (i := 0) rfl (fun K hK => ?_) (AllReadyH.cons (i := 9) rfl (fun K hK => ?_) AllReadyH.nil)
            · skip
              go_simp
              obtain ⟨y1, ey1⟩ : ∃ Y : World, (w20.alloc (.cells #[] 24)).drew = Y := ⟨_, rfl⟩
              have xy1 : Ext w20 y1 := ey1 ▸ (Ext.alloc _ _).andDrew
              have zy1 := (Ext.refl w20).trans xy1
              rw [ey1]
              refine hK.out _ _ (HSS.out _ zy1) (fun hHeldy1 => ?_)
              clear hK K
              try simp only [List.getElem_toArray, List.getElem_cons_zero, List.getElem_cons_succ, Act.put, List.setIfInBounds_toArray, List.set_cons_zero, List.set_cons_succ, Array.toArray_toList]
              have o1 : y1.ownsRow w20.heap.size 24 11 (.slice (some ⟨w20.heap.size, 0, none⟩) 0 0) ([] : List Hdr).length (flatH []) := by
                rw [← ey1]
                exact ownsRow_ext (World.ownsRow_lit (base := w20.heap.size) (e := 24) (size := 11) w20 #[] 0 (Nat.le_refl _) (by unfold maxLen; omega) rfl) (Ext.drew _)
              refine wpAnyH_ready (rs := [3, 9]) (by kernel_rfl) (by simp) ?_
              refine AllReadyH.cons (i := 3) rfl (fun K hK => ?_) (AllReadyH.cons (i := 9) rfl (fun K hK => ?_) AllReadyH.nil)
              · skip
                refine step_append_sl rfl (.tmp 85) (.tmp 87) rfl w20.heap.size (.slice (some ⟨w20.heap.size, 0, none⟩) 0 0) [] (by rfl) o1 _ out (.slice (some ⟨bo, oo, none⟩) lo co) (by rfl) (HALLO.out _ zy1) (by simp only [List.length_append, List.length_nil, List.length_cons]; omega) (zy1.size) ?_
                intro u2 y2 oy2 gy2 _
                have zy2 := zy1.grow' gy2 (fun i hi => (o1.lt i hi).1)
                refine hK.out _ _ (HSS.out _ zy2) (fun hHeldy2 => ?_)
                clear hK K
                try simp only [List.getElem_toArray, List.getElem_cons_zero, List.getElem_cons_succ, Act.put, List.setIfInBounds_toArray, List.set_cons_zero, List.set_cons_succ, Array.toArray_toList]
                refine wpAnyH_ready (rs := [9]) (by kernel_rfl) (by simp) ?_
                refine AllReadyH.cons (i := 9) rfl (fun K hK => ?_) AllReadyH.nil
                refine step_one_H rfl (.tmp 93) rfl z (by rfl) ?_
                obtain ⟨y3, ey3⟩ : ∃ Y : World, y2.alloc (.cells z.cs 24) = Y := ⟨_, rfl⟩
                have xy3 : Ext y2 y3 := ey3 ▸ Ext.alloc _ _
                have zy3 := zy2.trans xy3
                rw [ey3]
                refine hK.out _ _ (HSS.out _ zy3) (fun hHeldy3 => ?_)
                clear hK K
                try simp only [List.getElem_toArray, List.getElem_cons_zero, List.getElem_cons_succ, Act.put, List.setIfInBounds_toArray, List.set_cons_zero, List.set_cons_succ, Array.toArray_toList]
                have p1 : HSl y3 0 [z] (.slice (some ⟨y2.heap.size, 0, none⟩) 1 1) := by
                  rw [← ey3]
                  exact hsl_one 0 (Nat.zero_le _)
                have oy3 := ownsRow_ext oy2 xy3
                refine wpAnyH_ready (rs := [10]) (by kernel_rfl) (by simp) ?_
                refine AllReadyH.cons (i := 10) rfl (fun K hK => ?_) AllReadyH.nil
                refine step_append_sl rfl (.tmp 88) (.tmp 94) rfl w20.heap.size u2 ([] ++ out) (by rfl) oy3 _ [z] (.slice (some ⟨y2.heap.size, 0, none⟩) 1 1) (by rfl) p1 (by simp only [List.length_append, List.length_nil, List.length_cons]; omega) (zy3.size) ?_
                intro u4 y4 oy4 gy4 _
                have zy4 := zy3.grow' gy4 (fun i hi => (oy3.lt i hi).1)
                refine hK.out _ _ (HSS.out _ zy4) (fun hHeldy4 => ?_)
                clear hK K
                try simp only [List.getElem_toArray, List.getElem_cons_zero, List.getElem_cons_succ, Act.put, List.setIfInBounds_toArray, List.set_cons_zero, List.set_cons_succ, Array.toArray_toList]
                obtain ⟨pu, nu, cu, rfl, hnu, -⟩ := HSl.of_owns oy4
                have HNU := Lib.hid hnu
                clear hnu
                have qy4 := zy4
                have cy4 : y4.cell? ⟨wk.heap.size, 13, none⟩ = some (.slice (some ⟨bo, oo, none⟩) lo co) := by
                  have := (hop_cells (World.rangeAt.later qy4.later HR20.out)).2.2.2
                  simpa using this
                have ffy4 : y4.frozen? ⟨wk.heap.size, 13, none⟩ = false := by
                  rw [Below.frozen qy4 (by have := HSZ20.out; show wk.heap.size < _; omega)]; exact HF20.out
                have HEy4 := Lib.hid (show ∃ v' : Value, (y4.setCell ⟨wk.heap.size, 13, none⟩ (.slice pu nu cu)).rangeAt wk.heap.size 0 (hopCs step pol x v') ∧ HSl (y4.setCell ⟨wk.heap.size, 13, none⟩ (.slice pu nu cu)) 0 (out ++ [z]) v' ∧ Ext wk (y4.setCell ⟨wk.heap.size, 13, none⟩ (.slice pu nu cu)) from by
                  refine ⟨(.slice pu nu cu), ?_, ?_, (HX20c.out.trans qy4).andSet (Nat.le_refl _) _⟩
                  · have := rangeAt_set (World.rangeAt.later qy4.later HR20.out) (f := 13) (by rw [size_hopCs]; omega) (.slice pu nu cu)
                    rw [hopCs_set] at this
                    exact this
                  · have h1 := HSl.of_owns oy4
                    have h2 := h1.keep (Keep.set (S := (· = wk.heap.size)) y4 ⟨wk.heap.size, 13, none⟩ (.slice pu nu cu) rfl) (fun b hb => by have := HSZ20.out; show ¬ b = wk.heap.size; omega)
                    obtain ⟨a1, a2, a3, a4, a5, a6⟩ := h2
                    refine ⟨a1, a2, a3, a4, ?_, a6.imp id fun ⟨b, o, hp, _, hr⟩ => ⟨b, o, hp, Nat.zero_le _, hr⟩⟩
                    simpa using a5)
                refine wpAnyH_take (i := 11) (v := .pointer (some ⟨wk.heap.size, 13, none⟩)) rfl (by kernel_rfl) (by kernel_rfl) (by kernel_rfl) (fun _ _ _ h => h) (Or.inl ⟨by rfl, by (intro w hSw; (try dsimp only at hSw); go_simp)⟩) (by assumption) ?_
                try simp only [List.getElem_toArray, List.getElem_cons_zero, List.getElem_cons_succ, Act.put, List.setIfInBounds_toArray, List.set_cons_zero, List.set_cons_succ, Array.toArray_toList]
                refine wpAnyH_ready (rs := [12]) (by kernel_rfl) (by simp) ?_
                refine AllReadyH.cons (i := 12) rfl (fun K hK => ?_) AllReadyH.nil
                go_simp
                refine hK.out _ _ (HSB.out _ (Ext.andSet (p := ⟨wk.heap.size, 13, none⟩) (HX20.out.trans qy4) hsz20 _)) (fun hHeld => ?_)
                clear hK K
                try simp only [List.getElem_toArray, List.getElem_cons_zero, List.getElem_cons_succ, Act.put, List.setIfInBounds_toArray, List.set_cons_zero, List.set_cons_succ, Array.toArray_toList]
                refine wpAnyH_done (by kernel_rfl) ?_ _
                refine NoPanic.normal ?_
                go_wp2_with fail
                go_meet
                exact HEy4.out
              · skip
                refine step_one_H rfl (.tmp 93) rfl z (by rfl) ?_
                obtain ⟨y2, ey2⟩ : ∃ Y : World, y1.alloc (.cells z.cs 24) = Y := ⟨_, rfl⟩
                have xy2 : Ext y1 y2 := ey2 ▸ Ext.alloc _ _
                have zy2 := zy1.trans xy2
                rw [ey2]
                refine hK.out _ _ (HSS.out _ zy2) (fun hHeldy2 => ?_)
                clear hK K
                try simp only [List.getElem_toArray, List.getElem_cons_zero, List.getElem_cons_succ, Act.put, List.setIfInBounds_toArray, List.set_cons_zero, List.set_cons_succ, Array.toArray_toList]
                have p1 : HSl y2 0 [z] (.slice (some ⟨y1.heap.size, 0, none⟩) 1 1) := by
                  rw [← ey2]
                  exact hsl_one 0 (Nat.zero_le _)
                have o2 := ownsRow_ext o1 xy2
                refine wpAnyH_ready (rs := [3]) (by kernel_rfl) (by simp) ?_
                refine AllReadyH.cons (i := 3) rfl (fun K hK => ?_) AllReadyH.nil
                refine step_append_sl rfl (.tmp 85) (.tmp 87) rfl w20.heap.size (.slice (some ⟨w20.heap.size, 0, none⟩) 0 0) [] (by rfl) o2 _ out (.slice (some ⟨bo, oo, none⟩) lo co) (by rfl) (HALLO.out _ zy2) (by simp only [List.length_append, List.length_nil, List.length_cons]; omega) (zy2.size) ?_
                intro u3 y3 oy3 gy3 _
                have zy3 := zy2.grow' gy3 (fun i hi => (o2.lt i hi).1)
                refine hK.out _ _ (HSS.out _ zy3) (fun hHeldy3 => ?_)
                clear hK K
                try simp only [List.getElem_toArray, List.getElem_cons_zero, List.getElem_cons_succ, Act.put, List.setIfInBounds_toArray, List.set_cons_zero, List.set_cons_succ, Array.toArray_toList]
                have p3 : HSl y3 0 [z] (.slice (some ⟨y1.heap.size, 0, none⟩) 1 1) := by
                  have p1' : HSl y2 y1.heap.size [z] (.slice (some ⟨y1.heap.size, 0, none⟩) 1 1) := by rw [← ey2]; exact hsl_one _ (Nat.le_refl _)
                  exact (p1'.keep (Keep.grown gy3) (fun b hb => by have := ey1 ▸ (show w20.heap.size + 1 ≤ (w20.alloc (.cells #[] 24)).drew.heap.size from by simp [World.size_alloc]); show ¬ b = w20.heap.size; omega)).mono (Nat.zero_le _)
                refine wpAnyH_ready (rs := [10]) (by kernel_rfl) (by simp) ?_
                refine AllReadyH.cons (i := 10) rfl (fun K hK => ?_) AllReadyH.nil
                refine step_append_sl rfl (.tmp 88) (.tmp 94) rfl w20.heap.size u3 ([] ++ out) (by rfl) oy3 _ [z] (.slice (some ⟨y1.heap.size, 0, none⟩) 1 1) (by rfl) p3 (by simp only [List.length_append, List.length_nil, List.length_cons]; omega) (zy3.size) ?_
                intro u4 y4 oy4 gy4 _
                have zy4 := zy3.grow' gy4 (fun i hi => (oy3.lt i hi).1)
                refine hK.out _ _ (HSS.out _ zy4) (fun hHeldy4 => ?_)
                clear hK K
                try simp only [List.getElem_toArray, List.getElem_cons_zero, List.getElem_cons_succ, Act.put, List.setIfInBounds_toArray, List.set_cons_zero, List.set_cons_succ, Array.toArray_toList]
                obtain ⟨pu, nu, cu, rfl, hnu, -⟩ := HSl.of_owns oy4
                have HNU := Lib.hid hnu
                clear hnu
                have qy4 := zy4
                have cy4 : y4.cell? ⟨wk.heap.size, 13, none⟩ = some (.slice (some ⟨bo, oo, none⟩) lo co) := by
                  have := (hop_cells (World.rangeAt.later qy4.later HR20.out)).2.2.2
                  simpa using this
                have ffy4 : y4.frozen? ⟨wk.heap.size, 13, none⟩ = false := by
                  rw [Below.frozen qy4 (by have := HSZ20.out; show wk.heap.size < _; omega)]; exact HF20.out
                have HEy4 := Lib.hid (show ∃ v' : Value, (y4.setCell ⟨wk.heap.size, 13, none⟩ (.slice pu nu cu)).rangeAt wk.heap.size 0 (hopCs step pol x v') ∧ HSl (y4.setCell ⟨wk.heap.size, 13, none⟩ (.slice pu nu cu)) 0 (out ++ [z]) v' ∧ Ext wk (y4.setCell ⟨wk.heap.size, 13, none⟩ (.slice pu nu cu)) from by
                  refine ⟨(.slice pu nu cu), ?_, ?_, (HX20c.out.trans qy4).andSet (Nat.le_refl _) _⟩
                  · have := rangeAt_set (World.rangeAt.later qy4.later HR20.out) (f := 13) (by rw [size_hopCs]; omega) (.slice pu nu cu)
                    rw [hopCs_set] at this
                    exact this
                  · have h1 := HSl.of_owns oy4
                    have h2 := h1.keep (Keep.set (S := (· = wk.heap.size)) y4 ⟨wk.heap.size, 13, none⟩ (.slice pu nu cu) rfl) (fun b hb => by have := HSZ20.out; show ¬ b = wk.heap.size; omega)
                    obtain ⟨a1, a2, a3, a4, a5, a6⟩ := h2
                    refine ⟨a1, a2, a3, a4, ?_, a6.imp id fun ⟨b, o, hp, _, hr⟩ => ⟨b, o, hp, Nat.zero_le _, hr⟩⟩
                    simpa using a5)
                refine wpAnyH_take (i := 11) (v := .pointer (some ⟨wk.heap.size, 13, none⟩)) rfl (by kernel_rfl) (by kernel_rfl) (by kernel_rfl) (fun _ _ _ h => h) (Or.inl ⟨by rfl, by (intro w hSw; (try dsimp only at hSw); go_simp)⟩) (by assumption) ?_
                try simp only [List.getElem_toArray, List.getElem_cons_zero, List.getElem_cons_succ, Act.put, List.setIfInBounds_toArray, List.set_cons_zero, List.set_cons_succ, Array.toArray_toList]
                refine wpAnyH_ready (rs := [12]) (by kernel_rfl) (by simp) ?_
                refine AllReadyH.cons (i := 12) rfl (fun K hK => ?_) AllReadyH.nil
                go_simp
                refine hK.out _ _ (HSB.out _ (Ext.andSet (p := ⟨wk.heap.size, 13, none⟩) (HX20.out.trans qy4) hsz20 _)) (fun hHeld => ?_)
                clear hK K
                try simp only [List.getElem_toArray, List.getElem_cons_zero, List.getElem_cons_succ, Act.put, List.setIfInBounds_toArray, List.set_cons_zero, List.set_cons_succ, Array.toArray_toList]
                refine wpAnyH_done (by kernel_rfl) ?_ _
                refine NoPanic.normal ?_
                go_wp2_with fail
                go_meet
                exact HEy4.out
            · skip
              refine step_one_H rfl (.tmp 93) rfl z (by rfl) ?_
              obtain ⟨y1, ey1⟩ : ∃ Y : World, w20.drew.alloc (.cells z.cs 24) = Y := ⟨_, rfl⟩
              have xy1 : Ext w20 y1 := ey1 ▸ (Ext.drew _).andAlloc _
              have zy1 := (Ext.refl w20).trans xy1
              rw [ey1]
              refine hK.out _ _ (HSS.out _ zy1) (fun hHeldy1 => ?_)
              clear hK K
              try simp only [List.getElem_toArray, List.getElem_cons_zero, List.getElem_cons_succ, Act.put, List.setIfInBounds_toArray, List.set_cons_zero, List.set_cons_succ, Array.toArray_toList]
              have p1 : HSl y1 0 [z] (.slice (some ⟨w20.heap.size, 0, none⟩) 1 1) := by
                rw [← ey1]
                exact hsl_one 0 (Nat.zero_le _)
              refine wpAnyH_ready (rs := [0]) (by kernel_rfl) (by simp) ?_
              refine AllReadyH.cons (i := 0) rfl (fun K hK => ?_) AllReadyH.nil
              go_simp
              obtain ⟨y2, ey2⟩ : ∃ Y : World, y1.alloc (.cells #[] 24) = Y := ⟨_, rfl⟩
              have xy2 : Ext y1 y2 := ey2 ▸ Ext.alloc _ _
              have zy2 := zy1.trans xy2
              rw [ey2]
              refine hK.out _ _ (HSS.out _ zy2) (fun hHeldy2 => ?_)
              clear hK K
              try simp only [List.getElem_toArray, List.getElem_cons_zero, List.getElem_cons_succ, Act.put, List.setIfInBounds_toArray, List.set_cons_zero, List.set_cons_succ, Array.toArray_toList]
              have o1 : y2.ownsRow w20.heap.size 24 11 (.slice (some ⟨y1.heap.size, 0, none⟩) 0 0) ([] : List Hdr).length (flatH []) := by
                rw [← ey2]
                exact World.ownsRow_lit (base := w20.heap.size) (e := 24) (size := 11) y1 #[] 0 zy1.size (by unfold maxLen; omega) rfl
              refine wpAnyH_ready (rs := [3]) (by kernel_rfl) (by simp) ?_
              refine AllReadyH.cons (i := 3) rfl (fun K hK => ?_) AllReadyH.nil
              refine step_append_sl rfl (.tmp 85) (.tmp 87) rfl w20.heap.size (.slice (some ⟨y1.heap.size, 0, none⟩) 0 0) [] (by rfl) o1 _ out (.slice (some ⟨bo, oo, none⟩) lo co) (by rfl) (HALLO.out _ zy2) (by simp only [List.length_append, List.length_nil, List.length_cons]; omega) (zy2.size) ?_
              intro u3 y3 oy3 gy3 _
              have zy3 := zy2.grow' gy3 (fun i hi => (o1.lt i hi).1)
              refine hK.out _ _ (HSS.out _ zy3) (fun hHeldy3 => ?_)
              clear hK K
              try simp only [List.getElem_toArray, List.getElem_cons_zero, List.getElem_cons_succ, Act.put, List.setIfInBounds_toArray, List.set_cons_zero, List.set_cons_succ, Array.toArray_toList]
              have p3 : HSl y3 0 [z] (.slice (some ⟨w20.heap.size, 0, none⟩) 1 1) := by
                have h2 := p1.ext xy2
                exact p1.ext (xy2.grow' gy3 (fun i hi => by simp [Value.ownBlock] at hi; omega))
              refine wpAnyH_ready (rs := [10]) (by kernel_rfl) (by simp) ?_
              refine AllReadyH.cons (i := 10) rfl (fun K hK => ?_) AllReadyH.nil
              refine step_append_sl rfl (.tmp 88) (.tmp 94) rfl w20.heap.size u3 ([] ++ out) (by rfl) oy3 _ [z] (.slice (some ⟨w20.heap.size, 0, none⟩) 1 1) (by rfl) p3 (by simp only [List.length_append, List.length_nil, List.length_cons]; omega) (zy3.size) ?_
              intro u4 y4 oy4 gy4 _
              have zy4 := zy3.grow' gy4 (fun i hi => (oy3.lt i hi).1)
              refine hK.out _ _ (HSS.out _ zy4) (fun hHeldy4 => ?_)
              clear hK K
              try simp only [List.getElem_toArray, List.getElem_cons_zero, List.getElem_cons_succ, Act.put, List.setIfInBounds_toArray, List.set_cons_zero, List.set_cons_succ, Array.toArray_toList]
              obtain ⟨pu, nu, cu, rfl, hnu, -⟩ := HSl.of_owns oy4
              have HNU := Lib.hid hnu
              clear hnu
              have qy4 := zy4
              have cy4 : y4.cell? ⟨wk.heap.size, 13, none⟩ = some (.slice (some ⟨bo, oo, none⟩) lo co) := by
                have := (hop_cells (World.rangeAt.later qy4.later HR20.out)).2.2.2
                simpa using this
              have ffy4 : y4.frozen? ⟨wk.heap.size, 13, none⟩ = false := by
                rw [Below.frozen qy4 (by have := HSZ20.out; show wk.heap.size < _; omega)]; exact HF20.out
              have HEy4 := Lib.hid (show ∃ v' : Value, (y4.setCell ⟨wk.heap.size, 13, none⟩ (.slice pu nu cu)).rangeAt wk.heap.size 0 (hopCs step pol x v') ∧ HSl (y4.setCell ⟨wk.heap.size, 13, none⟩ (.slice pu nu cu)) 0 (out ++ [z]) v' ∧ Ext wk (y4.setCell ⟨wk.heap.size, 13, none⟩ (.slice pu nu cu)) from by
                refine ⟨(.slice pu nu cu), ?_, ?_, (HX20c.out.trans qy4).andSet (Nat.le_refl _) _⟩
                · have := rangeAt_set (World.rangeAt.later qy4.later HR20.out) (f := 13) (by rw [size_hopCs]; omega) (.slice pu nu cu)
                  rw [hopCs_set] at this
                  exact this
                · have h1 := HSl.of_owns oy4
                  have h2 := h1.keep (Keep.set (S := (· = wk.heap.size)) y4 ⟨wk.heap.size, 13, none⟩ (.slice pu nu cu) rfl) (fun b hb => by have := HSZ20.out; show ¬ b = wk.heap.size; omega)
                  obtain ⟨a1, a2, a3, a4, a5, a6⟩ := h2
                  refine ⟨a1, a2, a3, a4, ?_, a6.imp id fun ⟨b, o, hp, _, hr⟩ => ⟨b, o, hp, Nat.zero_le _, hr⟩⟩
                  simpa using a5)
              refine wpAnyH_take (i := 11) (v := .pointer (some ⟨wk.heap.size, 13, none⟩)) rfl (by kernel_rfl) (by kernel_rfl) (by kernel_rfl) (fun _ _ _ h => h) (Or.inl ⟨by rfl, by (intro w hSw; (try dsimp only at hSw); go_simp)⟩) (by assumption) ?_
              try simp only [List.getElem_toArray, List.getElem_cons_zero, List.getElem_cons_succ, Act.put, List.setIfInBounds_toArray, List.set_cons_zero, List.set_cons_succ, Array.toArray_toList]
              refine wpAnyH_ready (rs := [12]) (by kernel_rfl) (by simp) ?_
              refine AllReadyH.cons (i := 12) rfl (fun K hK => ?_) AllReadyH.nil
              go_simp
              refine hK.out _ _ (HSB.out _ (Ext.andSet (p := ⟨wk.heap.size, 13, none⟩) (HX20.out.trans qy4) hsz20 _)) (fun hHeld => ?_)
              clear hK K
              try simp only [List.getElem_toArray, List.getElem_cons_zero, List.getElem_cons_succ, Act.put, List.setIfInBounds_toArray, List.set_cons_zero, List.set_cons_succ, Array.toArray_toList]
              refine wpAnyH_done (by kernel_rfl) ?_ _
              refine NoPanic.normal ?_
              go_wp2_with fail
              go_meet
              exact HEy4.out
          case rest =>
            obtain ⟨wl, rfl⟩ : ∃ W : World, W = wc := ⟨_, rfl⟩
            obtain ⟨v2, hr2, hs2, hx2'⟩ := hcut.out
            have HX30 := Lib.hid (HX9.out.trans hx2')
            have HRL := Lib.hid (HR9.out _ hx2')
            have HRT := Lib.hid (fun W (hW : Ext wl W) => World.rangeAt.later hW.later hr2)
            have hlm1 : (out.take k ++ out.drop (k + 1)).length ≤ 9223372036854775807 := by have := HLM.out; simp only [List.length_append, List.length_take, List.length_drop]; omega
            have hlm2 : (out ++ [z]).length ≤ 9223372036854775807 := by have := HLO.out; simp only [List.length_append, List.length_nil, List.length_cons]; omega
            have HCL := Lib.hid (HHOP.out (out.take k ++ out.drop (k + 1)) v1 wl (HX.out.trans HX30.out) (HS9.out _ hx2') hlm1)
            have HCT := Lib.hid (fun W (hW : Ext wl W) => HHOP.out (out ++ [z]) v2 W (HX.out.trans (HX30.out.trans hW)) (hs2.ext hW) hlm2)
            rw [HLESS.out HHT.out k] at HCL
            rw [show hopP t qs x (out ++ [z]) = false from by rw [HZ.out]; exact few_twice hkl] at HCT
            clear hcut hr2 hs2 hx2' HX20 HX20c HX20s HR20 HF20 HSZ20 hlm1 hlm2
            obtain ⟨b0, b1, b2, b3, b4⟩ := HPC.out _ HX30.out
            go_wp2_with (first | (refine wpList_load_mid rfl 27 _ rfl wq.heap.size 0 rfl (hopCs step pol x v1) _ HRL.out HUS.out.1 rfl (HUS.out.2 _ _ _ _) ?_))
            refine HCL.out.mono ?_
            rintro e wm ⟨rfl, hxm⟩
            have HXM := Lib.hid hxm
            have HRM := Lib.hid (HRT.out _ hxm)
            clear b0 b1 b2 b3 b4 hxm
            obtain ⟨b0, b1, b2, b3, b4⟩ := HPC.out _ (HX30.out.trans HXM.out)
            obtain ⟨e0, e1, er, e13⟩ := hop_cells HRM.out
            have es : ∀ i, i < 11 → wm.cell? ⟨wk.heap.size, 2 + i, none⟩ = some (.int .u64 (x.f i)) := fun i hi => by
              have := cellAt er i hi
              rwa [Nat.zero_add] at this
            have e2 := es 0 (by omega)
            have e3 := es 1 (by omega)
            have e4 := es 2 (by omega)
            have e5 := es 3 (by omega)
            have e6 := es 4 (by omega)
            have e7 := es 5 (by omega)
            have e8 := es 6 (by omega)
            have e9 := es 7 (by omega)
            have e10 := es 8 (by omega)
            have e11 := es 9 (by omega)
            have e12 := es 10 (by omega)
            have HCT2 := HCT.out _ HXM.out
            simp only [hopCs, Hdr.cs_eq, List.cons_append, List.nil_append] at HCT2
            have HCT3 := Lib.hid HCT2
            simp only [Nat.zero_add, Nat.reduceAdd] at e1 e13 e2 e3 e4 e5 e6 e7 e8 e9 e10 e11 e12
            clear er es HCT2
            go_wp2_with fail
            refine HCT3.out.mono ?_
            rintro e wo ⟨rfl, hxo⟩
            have HXO := Lib.hid hxo
            clear b0 b1 b2 b3 b4 hxo e0 e1 e2 e3 e4 e5 e6 e7 e8 e9 e10 e11 e12 e13
            go_wp2_with fail
            refine (wakes30_any wo).mono ?_
            rintro e wp ⟨rfl, hxp⟩
            go_wp2_with fail
            go_ret
            exact ⟨rfl, HX.out.trans (HX30.out.trans (HXM.out.trans (HXO.out.trans hxp)))⟩
end Go.Proofs.Ytddeelepaiklgaa
