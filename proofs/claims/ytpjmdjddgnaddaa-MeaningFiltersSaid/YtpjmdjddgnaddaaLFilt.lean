/- MeaningFilters, walked. -/
import Derived.Test.YtpjmdjddgnaddaaLawOf
import Derived.Test.YtpjmdjddgnaddaaWakes
import Derived.Test.YtpjmdjddgnaddaaAlg
import Derived.Test.YtpjmdjddgnaddaaLStar
namespace Go.Proofs.Ytpjmdjddgnaddaa
open Go.RowKit Go.Maps

set_option maxHeartbeats 1000000 in
theorem filter_any (t : Tm) (v : Value) (w : World) (hv : t.Val w v) :
    Calls Try.prog 20 #[v] w fun e w' => ∃ u, e = .returned u ∧ (Tm.mk 6 0 0 [t]).Val w' u ∧ Ext w w' := by
  have HV := Lib.hid hv
  obtain ⟨p, len, cap, rfl⟩ := hv.cs
  clear hv
  go_enter Try.func20, Try.ntmps20
  go_wp2_with fail
  have h1 := allAt_one (HV.out.later ((Ext.alloc w (.cells #[.int .i8 t.op, .int .i8 t.fld, .int .u64 t.n, .slice p len cap] 26)).andAlloc (.cells #[.int .i8 6, .int .i8 0, .int .u64 0, .slice (some ⟨w.heap.size + 1 + 1, 0, none⟩) 1 1] 26)).later) 26
  rw [World.size_alloc, World.size_alloc] at h1
  have h2 := val_mk (op := 6) (f := 0) (n := 0) (by omega) (by omega) (by omega) _ 1 1 rfl (by omega) (by omega) h1
  exact bodyPost_ret (v := .agg #[.int .i8 6, .int .i8 0, .int .u64 0, .slice (some ⟨w.heap.size + 1 + 1, 0, none⟩) 1 1]) (by simp [results, Try.results20, go_sem]) rfl ⟨_, rfl, h2, ((Ext.alloc _ _).andAlloc _).andAlloc _⟩
set_option maxRecDepth 100000 in
set_option maxHeartbeats 8000000 in
theorem lawFilters_any (a b : Tm) (v1 v2 : Value) (x : Hdr) (w : World) (h1 : a.Val w v1) (h2 : b.Val w v2) :
    Calls Try.prog 6 #[v1, v2, .agg x.cs] w fun e w' => e = .returned (.bool true) ∧ Ext w w' := by
  have HA := Lib.hid h1
  have HB := Lib.hid h2
  obtain ⟨pa, la, ka, rfl⟩ := h1.cs
  obtain ⟨pb, lb, kb, rfl⟩ := h2.cs
  clear h1 h2
  obtain ⟨wA, hA⟩ : ∃ W : World, w.alloc (.cells #[.int .i8 a.op, .int .i8 a.fld, .int .u64 a.n, .slice pa la ka] 26) = W := ⟨_, rfl⟩
  have xA : Ext w wA := hA ▸ Ext.alloc _ _
  have sA : wA.heap.size = w.heap.size + 1 := by rw [← hA, World.size_alloc]
  have rA : wA.rangeAt (w.heap.size) 0 [.int .i8 a.op, .int .i8 a.fld, .int .u64 a.n, .slice pa la ka] := by
    have := rangeAt_new w #[.int .i8 a.op, .int .i8 a.fld, .int .u64 a.n, .slice pa la ka] 26
    rw [hA] at this
    exact this
  obtain ⟨wB, hB⟩ : ∃ W : World, wA.alloc (.cells #[.int .i8 b.op, .int .i8 b.fld, .int .u64 b.n, .slice pb lb kb] 26) = W := ⟨_, rfl⟩
  have xB : Ext wA wB := hB ▸ Ext.alloc _ _
  have sB : wB.heap.size = w.heap.size + 1 + 1 := by rw [← hB, World.size_alloc, sA]
  have rB : wB.rangeAt (w.heap.size + 1) 0 [.int .i8 b.op, .int .i8 b.fld, .int .u64 b.n, .slice pb lb kb] := by
    have := rangeAt_new wA #[.int .i8 b.op, .int .i8 b.fld, .int .u64 b.n, .slice pb lb kb] 26
    rw [hB, sA] at this
    exact this
  obtain ⟨wC, hC⟩ : ∃ W : World, wB.alloc (.cells x.cs 28) = W := ⟨_, rfl⟩
  have xC : Ext wB wC := hC ▸ Ext.alloc _ _
  have sC : wC.heap.size = w.heap.size + 1 + 1 + 1 := by rw [← hC, World.size_alloc, sB]
  have rC : wC.rangeAt (w.heap.size + 1 + 1) 0 x.cs.toList := by
    have := rangeAt_new wB x.cs 28
    rw [hC, sB] at this
    exact this
  have HRA := Lib.hid (fun W (hW : Ext wC W) => World.rangeAt.later ((xB.trans xC).trans hW).later rA)
  have HRB := Lib.hid (fun W (hW : Ext wC W) => World.rangeAt.later (xC.trans hW).later rB)
  have HRX := Lib.hid (fun W (hW : Ext wC W) => World.rangeAt.later hW.later rC)
  have HVA := Lib.hid (fun W (hW : Ext wC W) => HA.out.later (((xA.trans xB).trans xC).trans hW).later)
  have HVB := Lib.hid (fun W (hW : Ext wC W) => HB.out.later (((xA.trans xB).trans xC).trans hW).later)
  have HZ := Lib.hid ((xA.trans xB).trans xC)
  have HEQ := Lib.hid (And.intro hA (And.intro hB hC))
  clear xA xB xC sA sB sC rA rB rC hA hB hC
  go_enter Try.func6, Try.ntmps6
  go_wp2_with fail
  rw [HEQ.out.1, HEQ.out.2.1, HEQ.out.2.2]
  clear HEQ
  refine (pred_any a _ _ (HVA.out _ (Ext.refl _))).mono ?_
  rintro e w1 ⟨rfl, hx1⟩
  by_cases ha0 : predT a = 0
  · rw [ha0]
    obtain ⟨b0, b1, b2, b3⟩ := cells4 (HRB.out _ hx1)
    have HPb := Lib.hid (pred_any b _ _ (HVB.out _ hx1))
    go_wp2_with fail
    refine HPb.out.mono ?_
    rintro e w2 ⟨rfl, hx2⟩
    have hz2 := hx1.trans hx2
    by_cases hb0 : predT b = 0
    · rw [hb0]
      have HA0 := Lib.hid ha0
      have HB0 := Lib.hid hb0
      clear ha0 hb0 b0 b1 b2 b3 hx1 hx2
      obtain ⟨a0, a1, a2, a3⟩ := cells4 (HRA.out _ hz2)
      obtain ⟨b0, b1, b2, b3⟩ := cells4 (HRB.out _ hz2)
      have hla : w.heap.size < w2.heap.size := World.block_lt_of_cell? w2 _ a0
      have hlb : w.heap.size + 1 < w2.heap.size := World.block_lt_of_cell? w2 _ b0
      have hk := allAt_two (HVA.out _ hz2) (HVB.out _ hz2) 26
      have HF1 := Lib.hid (filter_any _ _ _ (val_mk (op := 4) (f := 0) (n := 0) (by omega) (by omega) (by omega) _ 2 2 rfl (by omega) (by omega) hk))
      clear hk
      go_wp2_with fail
      refine HF1.out.mono ?_
      rintro e w3 ⟨u1, rfl, hu1, hx3⟩
      obtain ⟨p1, l1, k1, rfl⟩ := hu1.cs
      have HU1 := Lib.hid hu1
      have hx23 : Ext w2 w3 := (Ext.alloc _ _).trans hx3
      have hz3 := hz2.trans hx23
      clear hu1 hx3 hx23 hz2 a0 a1 a2 a3 b0 b1 b2 b3 hla hlb
      obtain ⟨a0, a1, a2, a3⟩ := cells4 (HRA.out _ hz3)
      obtain ⟨b0, b1, b2, b3⟩ := cells4 (HRB.out _ hz3)
      have hla : w.heap.size < w3.heap.size := World.block_lt_of_cell? w3 _ a0
      have hlb : w.heap.size + 1 < w3.heap.size := World.block_lt_of_cell? w3 _ b0
      obtain ⟨wm, hm⟩ : ∃ W : World, w3.alloc (.cells #[.int .i8 (Tm.mk 6 0 0 [.mk 4 0 0 [a, b]]).op, .int .i8 (Tm.mk 6 0 0 [.mk 4 0 0 [a, b]]).fld, .int .u64 (Tm.mk 6 0 0 [.mk 4 0 0 [a, b]]).n, .slice p1 l1 k1] 26) = W := ⟨_, rfl⟩
      have hxm : Ext w3 wm := hm ▸ Ext.alloc _ _
      have sM : wm.heap.size = w3.heap.size + 1 := by rw [← hm, World.size_alloc]
      have rM : wm.rangeAt w3.heap.size 0 [.int .i8 (Tm.mk 6 0 0 [.mk 4 0 0 [a, b]]).op, .int .i8 (Tm.mk 6 0 0 [.mk 4 0 0 [a, b]]).fld, .int .u64 (Tm.mk 6 0 0 [.mk 4 0 0 [a, b]]).n, .slice p1 l1 k1] := by
        have := rangeAt_new w3 #[.int .i8 (Tm.mk 6 0 0 [.mk 4 0 0 [a, b]]).op, .int .i8 (Tm.mk 6 0 0 [.mk 4 0 0 [a, b]]).fld, .int .u64 (Tm.mk 6 0 0 [.mk 4 0 0 [a, b]]).n, .slice p1 l1 k1] 26
        rw [hm] at this
        exact this
      have HRM := Lib.hid (fun W (hW : Ext wm W) => World.rangeAt.later hW.later rM)
      have HVM := Lib.hid (fun W (hW : Ext wm W) => HU1.out.later (hxm.trans hW).later)
      have hk := allAt_two (HVA.out _ (hz3.trans hxm)) (HVB.out _ (hz3.trans hxm)) 26
      rw [sM] at hk
      have HF2 := Lib.hid (filter_any _ _ _ (val_mk (op := 5) (f := 0) (n := 0) (by omega) (by omega) (by omega) _ 2 2 rfl (by omega) (by omega) hk))
      have HM := Lib.hid hm
      have HXM := Lib.hid hxm
      clear hk hm hxm rM
      go_wp2_with fail
      rw [HM.out]
      refine HF2.out.mono ?_
      rintro e w4 ⟨u2, rfl, hu2, hx4⟩
      obtain ⟨p2, l2, k2, rfl⟩ := hu2.cs
      have HU2 := Lib.hid hu2
      have hxm4 : Ext wm w4 := (Ext.alloc _ _).trans hx4
      obtain ⟨wn, hn⟩ : ∃ W : World, w4.alloc (.cells #[.int .i8 (Tm.mk 6 0 0 [.mk 5 0 0 [a, b]]).op, .int .i8 (Tm.mk 6 0 0 [.mk 5 0 0 [a, b]]).fld, .int .u64 (Tm.mk 6 0 0 [.mk 5 0 0 [a, b]]).n, .slice p2 l2 k2] 26) = W := ⟨_, rfl⟩
      have hxn : Ext w4 wn := hn ▸ Ext.alloc _ _
      have rN : wn.rangeAt w4.heap.size 0 [.int .i8 (Tm.mk 6 0 0 [.mk 5 0 0 [a, b]]).op, .int .i8 (Tm.mk 6 0 0 [.mk 5 0 0 [a, b]]).fld, .int .u64 (Tm.mk 6 0 0 [.mk 5 0 0 [a, b]]).n, .slice p2 l2 k2] := by
        have := rangeAt_new w4 #[.int .i8 (Tm.mk 6 0 0 [.mk 5 0 0 [a, b]]).op, .int .i8 (Tm.mk 6 0 0 [.mk 5 0 0 [a, b]]).fld, .int .u64 (Tm.mk 6 0 0 [.mk 5 0 0 [a, b]]).n, .slice p2 l2 k2] 26
        rw [hn] at this
        exact this
      have HRN := Lib.hid (fun W (hW : Ext wn W) => World.rangeAt.later hW.later rN)
      have HVN := Lib.hid (fun W (hW : Ext wn W) => HU2.out.later (hxn.trans hW).later)
      have HC1 := Lib.hid (meaningOf_any (Tm.mk 6 0 0 [.mk 4 0 0 [a, b]]) _ x wn (HVM.out _ (hxm4.trans hxn)))
      have hzn := ((hz3.trans HXM.out).trans hxm4).trans hxn
      have hmn := hxm4.trans hxn
      obtain ⟨m0, m1, m2, m3⟩ := cells4 (HRM.out _ hxm4)
      have hlm : w3.heap.size < w4.heap.size := World.block_lt_of_cell? w4 _ m0
      have HN := Lib.hid hn
      have HRX4 := Lib.hid (HRX.out _ ((hz3.trans HXM.out).trans hxm4))
      clear hu2 hx4 hxm4 hn rN a0 a1 a2 a3 b0 b1 b2 b3 hla hlb sM HM HXM
      go_wp2_with (first | (refine wpList_load_H rfl _ rfl (w.heap.size + 1 + 1) 0 rfl x (by repeat (first | exact HRX4.out | refine World.rangeAt.later (Ext.alloc _ _).later ?_)) ?_))
      rw [HN.out]
      refine HC1.out.mono ?_
      rintro e w5 ⟨hx5, hl5, s5, rfl, hown5⟩
      have HS5 := Lib.hid (HSl.of_owns hown5)
      obtain ⟨q5, n5, c5, rfl⟩ := HS5.out.at
      have hz5 := hzn.trans hx5
      have hm5 := hmn.trans hx5
      clear m0 m1 m2 m3 hown5 hlm HC1 HF1 HF2
      go_wp2_with fail
      have hu28 : Try.prog.underlying 28 = some (.array 11 23) := Try.underlying28
      have hi28 : (Try.prog.info? 28).map (·.size) = some x.cs.toList.length := by rw [x.len_cs]; kernel_rfl
      have HSS := Lib.hid (fun W (hW : Ext wC W) => (show (fun W => W.cell? ⟨w.heap.size, 0, none⟩ = some (.int .i8 a.op) ∧ W.cell? ⟨w.heap.size, 1, none⟩ = some (.int .i8 a.fld) ∧ W.cell? ⟨w.heap.size, 2, none⟩ = some (.int .u64 a.n) ∧ W.cell? ⟨w.heap.size, 3, none⟩ = some (.slice pa la ka) ∧ W.cell? ⟨w.heap.size + 1, 0, none⟩ = some (.int .i8 b.op) ∧ W.cell? ⟨w.heap.size + 1, 1, none⟩ = some (.int .i8 b.fld) ∧ W.cell? ⟨w.heap.size + 1, 2, none⟩ = some (.int .u64 b.n) ∧ W.cell? ⟨w.heap.size + 1, 3, none⟩ = some (.slice pb lb kb) ∧ W.rangeAt (w.heap.size + 1 + 1) 0 x.cs.toList) W from by
        obtain ⟨a0, a1, a2, a3⟩ := cells4 (HRA.out _ hW)
        obtain ⟨b0, b1, b2, b3⟩ := cells4 (HRB.out _ hW)
        exact ⟨a0, a1, a2, a3, b0, b1, b2, b3, HRX.out _ hW⟩))
      have HFA := Lib.hid (fun W (hW : Ext wC W) => filter_any a _ W (HVA.out _ hW))
      have HFB := Lib.hid (fun W (hW : Ext wC W) => filter_any b _ W (HVB.out _ hW))
      have hz5d := hz5.andDrew
      obtain ⟨a0, a1, a2, a3, b0, b1, b2, b3, hrx5⟩ := HSS.out _ hz5
      go_region_held3 (fun W => W.cell? ⟨w.heap.size, 0, none⟩ = some (.int .i8 a.op) ∧ W.cell? ⟨w.heap.size, 1, none⟩ = some (.int .i8 a.fld) ∧ W.cell? ⟨w.heap.size, 2, none⟩ = some (.int .u64 a.n) ∧ W.cell? ⟨w.heap.size, 3, none⟩ = some (.slice pa la ka) ∧ W.cell? ⟨w.heap.size + 1, 0, none⟩ = some (.int .i8 b.op) ∧ W.cell? ⟨w.heap.size + 1, 1, none⟩ = some (.int .i8 b.fld) ∧ W.cell? ⟨w.heap.size + 1, 2, none⟩ = some (.int .u64 b.n) ∧ W.cell? ⟨w.heap.size + 1, 3, none⟩ = some (.slice pb lb kb) ∧ W.rangeAt (w.heap.size + 1 + 1) 0 x.cs.toList) (first | exact HSS.out _ hz5d | exact HSS.out _ (hz5d.trans hx6) | exact HSS.out _ ((hz5d.trans hx6).trans hx7) | exact HSS.out _ (((hz5d.trans hx6).trans hx7).andAlloc _) | exact HSS.out _ ((((hz5d.trans hx6).trans hx7).andAlloc _).trans hx8)) (first
        | (go_at_call 20; refine (HFA.out _ hz5d).mono ?_; rintro e w6 ⟨u6, rfl, hu6, hx6⟩; obtain ⟨p6, l6, k6, rfl⟩ := hu6.cs)
        | (go_at_call 20; refine (HFB.out _ (hz5d.trans hx6)).mono ?_; rintro e w7 ⟨u7, rfl, hu7, hx7⟩; obtain ⟨p7, l7, k7, rfl⟩ := hu7.cs)
        | (go_at_call 18; refine (lawOf_any 9 _ _ x _ (by omega) (tms_of (len := 2) rfl (Nat.le_refl 2) (by omega) (allAt_two (hu6.later hx7.later) hu7 26))).mono ?_; rintro e w8 ⟨hx8, hl8, s8, rfl, hown8⟩; obtain ⟨q8, n8, c8, rfl⟩ := (HSl.of_owns hown8).at))
      have hz8 : Ext wC w8 := (((hz5d.trans hx6).trans hx7).andAlloc _).trans hx8
      have hn8 : Ext wn w8 := (((hx5.andDrew.trans hx6).trans hx7).andAlloc _).trans hx8
      have h58 : Ext w5 w8 := ((((Ext.drew w5).trans hx6).trans hx7).andAlloc _).trans hx8
      have HS8 := Lib.hid (HSl.of_owns hown8)
      have HL8 := Lib.hid hl8
      clear hown8 hl8 hx5 hx6 hx7 hx8 hu6 hu7 a0 a1 a2 a3 b0 b1 b2 b3 hrx5
      obtain ⟨m0, m1, m2, m3⟩ := cells4 (HRN.out _ hn8)
      have HRX8 := Lib.hid (HRX.out _ hz8)
      have HC2 := Lib.hid (meaningOf_any (Tm.mk 6 0 0 [.mk 5 0 0 [a, b]]) _ x w8 (HVN.out _ hn8))
      go_wp2_with (first | (refine wpList_load_H rfl _ rfl (w.heap.size + 1 + 1) 0 rfl x HRX8.out ?_))
      refine HC2.out.mono ?_
      rintro e w9 ⟨hx9, hl9, s9, rfl, hown9⟩
      have HS9 := Lib.hid (HSl.of_owns hown9)
      have HL9 := Lib.hid hl9
      obtain ⟨q9, n9, c9, rfl⟩ := HS9.out.at
      have hz9 := hz8.trans hx9
      have h59 := h58.trans hx9
      clear m0 m1 m2 m3 hown9 hl9 HC2
      go_wp2_with fail
      have hz9d := hz9.andDrew
      obtain ⟨a0, a1, a2, a3, b0, b1, b2, b3, hrx9⟩ := HSS.out _ hz9
      go_region_held3 (fun W => W.cell? ⟨w.heap.size, 0, none⟩ = some (.int .i8 a.op) ∧ W.cell? ⟨w.heap.size, 1, none⟩ = some (.int .i8 a.fld) ∧ W.cell? ⟨w.heap.size, 2, none⟩ = some (.int .u64 a.n) ∧ W.cell? ⟨w.heap.size, 3, none⟩ = some (.slice pa la ka) ∧ W.cell? ⟨w.heap.size + 1, 0, none⟩ = some (.int .i8 b.op) ∧ W.cell? ⟨w.heap.size + 1, 1, none⟩ = some (.int .i8 b.fld) ∧ W.cell? ⟨w.heap.size + 1, 2, none⟩ = some (.int .u64 b.n) ∧ W.cell? ⟨w.heap.size + 1, 3, none⟩ = some (.slice pb lb kb) ∧ W.rangeAt (w.heap.size + 1 + 1) 0 x.cs.toList) (first | exact HSS.out _ hz9d | exact HSS.out _ (hz9d.trans hx10) | exact HSS.out _ ((hz9d.trans hx10).trans hx11) | exact HSS.out _ (((hz9d.trans hx10).trans hx11).andAlloc _) | exact HSS.out _ ((((hz9d.trans hx10).trans hx11).andAlloc _).trans hx12)) (first
        | (go_at_call 20; refine (HFA.out _ hz9d).mono ?_; rintro e w10 ⟨u10, rfl, hu10, hx10⟩; obtain ⟨p10, l10, k10, rfl⟩ := hu10.cs)
        | (go_at_call 20; refine (HFB.out _ (hz9d.trans hx10)).mono ?_; rintro e w11 ⟨u11, rfl, hu11, hx11⟩; obtain ⟨p11, l11, k11, rfl⟩ := hu11.cs)
        | (go_at_call 18; refine (lawOf_any 8 _ _ x _ (by omega) (tms_of (len := 2) rfl (Nat.le_refl 2) (by omega) (allAt_two (hu10.later hx11.later) hu11 26))).mono ?_; rintro e w12 ⟨hx12, hl12, s12, rfl, hown12⟩; obtain ⟨q12, n12, c12, rfl⟩ := (HSl.of_owns hown12).at))
      have hz12 : Ext wC w12 := (((hz9d.trans hx10).trans hx11).andAlloc _).trans hx12
      have h912 : Ext w9 w12 := ((((Ext.drew w9).trans hx10).trans hx11).andAlloc _).trans hx12
      have HS12 := Lib.hid (HSl.of_owns hown12)
      have HL12 := Lib.hid hl12
      clear hown12 hl12 hx10 hx11 hx12 hu10 hu11 a0 a1 a2 a3 b0 b1 b2 b3 hrx9
      go_wp2_with fail
      have hz12d := hz12.andDrew
      obtain ⟨a0, a1, a2, a3, b0, b1, b2, b3, hrx12⟩ := HSS.out _ hz12
      have hk13 := allAt_one (HVA.out _ hz12d) 26
      rw [show w12.drew.heap.size = w12.heap.size from rfl] at hk13
      have HF13 := Lib.hid (filter_any _ _ _ (val_mk (op := 3) (f := 0) (n := 0) (by omega) (by omega) (by omega) _ 1 1 rfl (by omega) (by omega) hk13))
      have HM14 := Lib.hid (fun W v (h : (Tm.mk 6 0 0 [.mk 3 0 0 [a]]).Val W v) => meaningOf_any (Tm.mk 6 0 0 [.mk 3 0 0 [a]]) v x W h)
      clear hk13
      go_region_held3 (fun W => W.cell? ⟨w.heap.size, 0, none⟩ = some (.int .i8 a.op) ∧ W.cell? ⟨w.heap.size, 1, none⟩ = some (.int .i8 a.fld) ∧ W.cell? ⟨w.heap.size, 2, none⟩ = some (.int .u64 a.n) ∧ W.cell? ⟨w.heap.size, 3, none⟩ = some (.slice pa la ka) ∧ W.cell? ⟨w.heap.size + 1, 0, none⟩ = some (.int .i8 b.op) ∧ W.cell? ⟨w.heap.size + 1, 1, none⟩ = some (.int .i8 b.fld) ∧ W.cell? ⟨w.heap.size + 1, 2, none⟩ = some (.int .u64 b.n) ∧ W.cell? ⟨w.heap.size + 1, 3, none⟩ = some (.slice pb lb kb) ∧ W.rangeAt (w.heap.size + 1 + 1) 0 x.cs.toList) (first | exact HSS.out _ hz12d | exact HSS.out _ (hz12d.andAlloc _) | exact HSS.out _ ((hz12d.andAlloc _).trans hx13) | exact HSS.out _ (((hz12d.andAlloc _).trans hx13).trans hx14)) (first
        | (go_at_call 20; refine HF13.out.mono ?_; rintro e w13 ⟨u13, rfl, hu13, hx13⟩; obtain ⟨p13, l13, k13, rfl⟩ := hu13.cs)
        | (go_at_call 8; refine (HM14.out _ _ hu13).mono ?_; rintro e w14 ⟨hx14, hl14, s14, rfl, hown14⟩; obtain ⟨q14, n14, c14, rfl⟩ := (HSl.of_owns hown14).at))
      have hz14 : Ext wC w14 := ((hz12d.andAlloc _).trans hx13).trans hx14
      have h1214 : Ext w12 w14 := (((Ext.drew w12).andAlloc _).trans hx13).trans hx14
      have HS14 := Lib.hid (HSl.of_owns hown14)
      have hn14 : n14 = (ofC (Tm.mk 6 0 0 [.mk 3 0 0 [a]]) x).2.length := by
        obtain ⟨_, _, _, he, hl, -⟩ := HS14.out
        injection he with h1 h2 h3
        rw [h2]; exact hl
      have HN14 := Lib.hid hn14
      clear hn14 hown14 hx13 hx14 hu13 a0 a1 a2 a3 b0 b1 b2 b3 hrx12
      have hw14 : Ext w w14 := HZ.out.trans hz14
      have HW := Lib.hid hw14
      have HA1 := Lib.hid (alike_any _ _ _ _ ((ofC (Tm.mk 6 0 0 [.mk 4 0 0 [a, b]]) x).1 == 0) (decide ((ofC (Tm.mk 9 0 0 [.mk 6 0 0 [a], .mk 6 0 0 [b]]) x).1 = 0)) _ _ w14 (HS5.out.ext (h59.trans (h912.trans h1214))) (HS8.out.ext (hx9.trans (h912.trans h1214))) hl5)
      rw [show (!((ofC (Tm.mk 6 0 0 [.mk 4 0 0 [a, b]]) x).1 == 0) || !(decide ((ofC (Tm.mk 9 0 0 [.mk 6 0 0 [a], .mk 6 0 0 [b]]) x).1 = 0)) || decide ((ofC (Tm.mk 6 0 0 [.mk 4 0 0 [a, b]]) x).2 = (ofC (Tm.mk 9 0 0 [.mk 6 0 0 [a], .mk 6 0 0 [b]]) x).2)) = true from same_of_den (alg_both a b x)] at HA1
      have HA2 := Lib.hid (fun W (hW : Ext w14 W) => alike_any _ _ _ _ ((ofC (Tm.mk 6 0 0 [.mk 5 0 0 [a, b]]) x).1 == 0) (decide ((ofC (Tm.mk 8 0 0 [.mk 6 0 0 [a], .mk 6 0 0 [b]]) x).1 = 0)) _ _ W (HS9.out.ext ((h912.trans h1214).trans hW)) (HS12.out.ext (h1214.trans hW)) HL9.out)
      rw [show (!((ofC (Tm.mk 6 0 0 [.mk 5 0 0 [a, b]]) x).1 == 0) || !(decide ((ofC (Tm.mk 8 0 0 [.mk 6 0 0 [a], .mk 6 0 0 [b]]) x).1 = 0)) || decide ((ofC (Tm.mk 6 0 0 [.mk 5 0 0 [a, b]]) x).2 = (ofC (Tm.mk 8 0 0 [.mk 6 0 0 [a], .mk 6 0 0 [b]]) x).2)) = true from same_of_den (alg_either a b x)] at HA2
      have HH := Lib.hid (fun W (hW : Ext w14 W) => Holds_any a _ x W (HVA.out _ (hz14.trans hW)))
      have HNOT := Lib.hid (alg_not a x)
      generalize ofC (Tm.mk 6 0 0 [.mk 4 0 0 [a, b]]) x = R5 at *
      generalize ofC (Tm.mk 9 0 0 [.mk 6 0 0 [a], .mk 6 0 0 [b]]) x = R8 at *
      generalize ofC (Tm.mk 6 0 0 [.mk 5 0 0 [a, b]]) x = R9 at *
      generalize ofC (Tm.mk 8 0 0 [.mk 6 0 0 [a], .mk 6 0 0 [b]]) x = R12 at *
      generalize ofC (Tm.mk 6 0 0 [.mk 3 0 0 [a]]) x = R14 at *
      obtain ⟨g5, l5⟩ := R5
      obtain ⟨g8, l8⟩ := R8
      obtain ⟨g9, l9⟩ := R9
      obtain ⟨g12, l12⟩ := R12
      obtain ⟨g14, l14⟩ := R14
      dsimp only at *
      generalize (decide (g8 = 0)) = e8 at *
      generalize (decide (g12 = 0)) = e12 at *
      go_wp2_with fail
      generalize (g5 == 0) = e1 at *
      refine HA1.out.mono ?_
      rintro e w15 ⟨rfl, hx15⟩
      go_wp2_with fail
      generalize (g9 == 0) = e2 at *
      refine (HA2.out _ hx15).mono ?_
      rintro e w16 ⟨rfl, hx16⟩
      have hx1416 := hx15.trans hx16
      by_cases hg : g14 = 0
      · have hg2 : (g14 != 0) = false := by rw [hg]; rfl
        have HT := Lib.hid (show ((n14 : Int) == 0) = holdsT a x from by
          have h1 := HNOT.out hg
          rw [← HN14.out] at h1
          have h2 : holdsT a x = a.holds x := by simp [holdsT, HA0.out]
          rw [h2, Bool.eq_iff_iff, ← h1]
          simp)
        obtain ⟨a0, a1, a2, a3⟩ := cells4 (HRA.out _ (hz14.trans hx1416))
        have HRX16 := Lib.hid (HRX.out _ (hz14.trans hx1416))
        generalize hh : holdsT a x = hb at *
        have HT2 : ((n14 : Int) == 0) = hb := HT.out
        subst hg
        clear HT
        have x0 : w16.cell? ⟨w.heap.size + 1 + 1, 0, none⟩ = some (.int .u64 (x.f 0)) := by have := cellAt HRX16.out 0 (by omega); rwa [Nat.zero_add] at this
        have x1 : w16.cell? ⟨w.heap.size + 1 + 1, 1, none⟩ = some (.int .u64 (x.f 1)) := by have := cellAt HRX16.out 1 (by omega); rwa [Nat.zero_add] at this
        have x2 : w16.cell? ⟨w.heap.size + 1 + 1, 2, none⟩ = some (.int .u64 (x.f 2)) := by have := cellAt HRX16.out 2 (by omega); rwa [Nat.zero_add] at this
        have x3 : w16.cell? ⟨w.heap.size + 1 + 1, 3, none⟩ = some (.int .u64 (x.f 3)) := by have := cellAt HRX16.out 3 (by omega); rwa [Nat.zero_add] at this
        have x4 : w16.cell? ⟨w.heap.size + 1 + 1, 4, none⟩ = some (.int .u64 (x.f 4)) := by have := cellAt HRX16.out 4 (by omega); rwa [Nat.zero_add] at this
        have x5 : w16.cell? ⟨w.heap.size + 1 + 1, 5, none⟩ = some (.int .u64 (x.f 5)) := by have := cellAt HRX16.out 5 (by omega); rwa [Nat.zero_add] at this
        have x6 : w16.cell? ⟨w.heap.size + 1 + 1, 6, none⟩ = some (.int .u64 (x.f 6)) := by have := cellAt HRX16.out 6 (by omega); rwa [Nat.zero_add] at this
        have x7 : w16.cell? ⟨w.heap.size + 1 + 1, 7, none⟩ = some (.int .u64 (x.f 7)) := by have := cellAt HRX16.out 7 (by omega); rwa [Nat.zero_add] at this
        have x8 : w16.cell? ⟨w.heap.size + 1 + 1, 8, none⟩ = some (.int .u64 (x.f 8)) := by have := cellAt HRX16.out 8 (by omega); rwa [Nat.zero_add] at this
        have x9 : w16.cell? ⟨w.heap.size + 1 + 1, 9, none⟩ = some (.int .u64 (x.f 9)) := by have := cellAt HRX16.out 9 (by omega); rwa [Nat.zero_add] at this
        have x10 : w16.cell? ⟨w.heap.size + 1 + 1, 10, none⟩ = some (.int .u64 (x.f 10)) := by have := cellAt HRX16.out 10 (by omega); rwa [Nat.zero_add] at this
        have hh16 := HH.out _ hx1416
        simp only [Hdr.cs_eq] at hh16
        have HH16 := Lib.hid hh16
        clear hh16
        go_wp2_with fail
        refine HH16.out.mono ?_
        rintro e w17 ⟨rfl, hx17⟩
        try rw [HT2]
        clear HT2 hh HH HN14
        cases hb
        all_goals
          go_wp2_with fail
          refine (wakes_any w17).mono ?_
          rintro e w18 ⟨rfl, hx18⟩
          go_wp2_with fail
          go_ret
          exact ⟨rfl, ((HW.out.trans hx1416).trans hx17).trans hx18⟩
      · have hg2 : (g14 != 0) = true := by simpa using hg
        clear hg
        go_wp2_with fail
        refine (wakes_any w16).mono ?_
        rintro e w17 ⟨rfl, hx17⟩
        go_wp2_with fail
        go_ret
        exact ⟨rfl, (HW.out.trans hx1416).trans hx17⟩
    · have hd : (predT b != 0) = true := by simpa using hb0
      generalize predT b = y at *
      clear hb0 b0 b1 b2 b3
      go_wp2_with fail
      refine (wakes_any w2).mono ?_
      rintro e w3 ⟨rfl, hx3⟩
      go_wp2_with fail
      go_ret
      exact ⟨rfl, (HZ.out.trans hz2).trans hx3⟩
  · have hd : (predT a != 0) = true := by simpa using ha0
    generalize predT a = y at *
    clear ha0
    go_wp2_with fail
    refine (wakes_any w1).mono ?_
    rintro e w2 ⟨rfl, hx2⟩
    go_wp2_with fail
    go_ret
    exact ⟨rfl, (HZ.out.trans hx1).trans hx2⟩
end Go.Proofs.Ytpjmdjddgnaddaa
