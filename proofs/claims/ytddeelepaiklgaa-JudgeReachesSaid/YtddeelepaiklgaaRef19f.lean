/- The document's of: filters and settings. -/
import Derived.Test.YtddeelepaiklgaaRef19e
import Derived.Deep.RegionWith
namespace Go.Proofs.Ytddeelepaiklgaa
open Go.RowKit Go.Maps

set_option maxHeartbeats 4000000 in
set_option maxRecDepth 100000 in
theorem rOf_filter (f n : Int) (ks : List Tm) : ROfOf (.mk 6 f n ks) := by
  intro x v wb c w0 w hpre
  obtain ⟨pt, lt, ct, rfl⟩ := hpre.val.cs'
  have hwb : wb < w.heap.size := World.block_lt_of_cell? w _ hpre.cell
  have hbd := hpre.bd
  have hab := hpre.above
  rcases Tm.right_pol hpre.right with ⟨-, hlen, hra⟩ | ⟨h, -⟩ | ⟨h, -⟩ | ⟨h, -⟩ <;> try omega
  match ks, hlen with
  | [t], _ =>
    have hrt : t.right true = true := by simp only [Tm.rightAll, Bool.and_eq_true] at hra; exact hra.1
    have HE := Lib.hid (Tm.ofT_filter f n [t] x c)
    have hsz : (Tm.mk 6 f n [t]).sz ≤ 4096 := hpre.size
    obtain ⟨_, he, s, rfl, -, -, -, p, len, cap, rfl, hlen, hlc, hcm, hks⟩ := hpre.val
    simp only [Tm.op, Tm.fld, Tm.n, Tm.kids] at *
    obtain ⟨rfl, rfl, rfl⟩ : pt = p ∧ lt = len ∧ ct = cap := by
      have := he
      simp at this
      exact this
    rcases hks with hks | ⟨b', o', rfl, hall⟩
    · cases hks
    have hl1 : 0 < lt := by rw [hlen]; simp
    have HT := Lib.hid (fun W (hW : Ext w W) => refTerms_any (Tm.mk 6 f n [t]) _ W hsz (hpre.val.later (hpre.ext.trans hW).later))
    obtain ⟨wA, hA⟩ : ∃ W : World, w.alloc (.cells #[.int .i8 6, .int .i8 f, .int .u64 n, .slice (some ⟨b', o', none⟩) lt ct] 31) = W := ⟨_, rfl⟩
    have xA : Ext w wA := hA ▸ Ext.alloc _ _
    have sA : wA.heap.size = w.heap.size + 1 := by rw [← hA, World.size_alloc]
    have rA : wA.rangeAt w.heap.size 0 [.int .i8 6, .int .i8 f, .int .u64 n, .slice (some ⟨b', o', none⟩) lt ct] := by
      have := rangeAt_new w #[.int .i8 6, .int .i8 f, .int .u64 n, .slice (some ⟨b', o', none⟩) lt ct] 31
      rw [hA] at this
      exact this
    obtain ⟨wB, hB⟩ : ∃ W : World, wA.alloc (.cells x.cs 24) = W := ⟨_, rfl⟩
    have xB : Ext wA wB := hB ▸ Ext.alloc _ _
    have rB : wB.rangeAt (w.heap.size + 1) 0 x.cs.toList := by
      have := rangeAt_new wA x.cs 24
      rw [hB, sA] at this
      exact this
    have xAB := xA.trans xB
    have HRA := Lib.hid (fun W (hW : Keep (· = wb) wB W) => hW.range (World.rangeAt.later xB.later rA) (by show ¬ w.heap.size = wb; omega))
    have HRX := Lib.hid (fun W (hW : Keep (· = wb) wB W) => hW.range rB (by show ¬ w.heap.size + 1 = wb; omega))
    have HKid := Lib.hid (fun W (hW : Keep (· = wb) wB W) => hall.1.later ((hpre.ext.trans xAB).andKeep hW (fun i hi => by rw [hi]; exact hab)).later)
    have HPB := Lib.hid (hpre.more xAB)
    have HX := Lib.hid xAB
    have HEQ := Lib.hid (show w.alloc (.cells #[.int .i8 6, .int .i8 f, .int .u64 n, .slice (some ⟨b', o', none⟩) lt ct] 31) = wA ∧ wA.alloc (.cells x.cs 24) = wB from ⟨hA, hB⟩)
    have HSZ := Lib.hid (show (Tm.mk 6 f n [t]).sz = Tm.szAll [t] + 1 from by simp only [Tm.sz])
    have hfrB := HPB.out.fr
    have hcB := HPB.out.cell
    have hwbB : w.heap.size ≤ wB.heap.size := xAB.size
    have hszB : wB.heap.size = w.heap.size + 2 := by rw [← hB, World.size_alloc, sA]
    generalize (Tm.mk 6 f n [t]).sz = y at *
    obtain ⟨a0, a1, a2, a3⟩ := cells4' (HRA.out _ (Keep.refl _ _))
    clear hpre rA rB xA xB hA hB hall hra he hlen xAB
    go_enter Try.func44, Try.ntmps44
    go_upto_region 1 with fail
    rw [HEQ.out.1, HEQ.out.2]
    clear HEQ
    go_wp2_with fail
    have hxd := Ext.drew wB
    have hcD : wB.drew.cell? ⟨wb, 0, none⟩ = some (.int .i64 c) := hxd.later _ _ hcB
    have hfD : wB.drew.frozen? ⟨wb, 0, none⟩ = false := by rw [World.frozen?_drew]; exact hfrB
    go_upto_region 3 with fail
    have hwrap : IntKind.i64.wrap (c + (y : Int)) = c + y := by rw [IntKind.wrap_i64]; omega
    go_cut [] (fun wx => Hid (∃ w4, Ext wB.drew w4 ∧ wx = w4.setCell ⟨wb, 0, none⟩ (.int .i64 (c + y))))
    case first =>
      go_region_with (go_at_call 65; refine (HT.out wB.drew (HX.out.trans hxd)).mono ?_; rintro e w4 ⟨rfl, hx4⟩; have hc4 := hx4.later _ _ hcD; have hf4 : w4.frozen? ⟨wb, 0, none⟩ = false := by rw [Below.frozen hx4 (World.block_lt_of_cell? _ _ hcD)]; exact hfD)
      all_goals (go_wp2_with fail; go_meet; exact ⟨w4, hx4, rfl⟩)
    case rest =>
      obtain ⟨w4, hx4, rfl⟩ := hcut.out
      clear hcut
      have hc4 := hx4.later _ _ hcD
      have hf4 : w4.frozen? ⟨wb, 0, none⟩ = false := by rw [Below.frozen hx4 (World.block_lt_of_cell? _ _ hcD)]; exact hfD
      have hk5 : Keep (· = wb) wB (w4.setCell ⟨wb, 0, none⟩ (.int .i64 (c + y))) := ((hxd.trans hx4).keep _).trans (Keep.set _ _ _ rfl)
      have hc5 : (w4.setCell ⟨wb, 0, none⟩ (.int .i64 (c + y))).cell? ⟨wb, 0, none⟩ = some (.int .i64 (c + y)) := World.cell?_setCell_same w4 ⟨wb, 0, none⟩ _ hc4
      have hf5 : (w4.setCell ⟨wb, 0, none⟩ (.int .i64 (c + y))).frozen? ⟨wb, 0, none⟩ = false := by rw [World.frozen?_setCell]; exact hf4
      generalize w4.setCell ⟨wb, 0, none⟩ (.int .i64 (c + y)) = w5 at *
      clear a0 a1 a2 a3 hcD hfD hc4 hf4 hx4 hcB hfrB
      have hd0 := (HKid.out _ hk5).val
      obtain ⟨csk, hvk, hrk, -⟩ := hd0
      obtain ⟨p2, l2, k2, he2⟩ := hvk.cs'
      cases he2
      have HKF := Lib.hid ((HX.out.keep _).trans hk5)
      by_cases hle : c + y ≤ 65536
      · have HE2 := Lib.hid (show (Tm.mk 6 f n [t]).ofT x c = some (if t.holds x then [x] else [], c + y) from by
          rw [HE.out, ← HSZ.out, askM, if_pos hle]; rfl)
        have HSS := Lib.hid (fun W (hW : Ext w5 W) => (show (fun W => W.cell? ⟨w.heap.size, 3, none⟩ = some (.slice (some ⟨b', o', none⟩) lt ct) ∧ W.cell? ⟨b', o', none⟩ = some (.int .i8 t.op) ∧ W.cell? ⟨b', o' + 1, none⟩ = some (.int .i8 t.fld) ∧ W.cell? ⟨b', o' + 2, none⟩ = some (.int .u64 t.n) ∧ W.cell? ⟨b', o' + 3, none⟩ = some (.slice p2 l2 k2) ∧ W.rangeAt (w.heap.size + 1) 0 x.cs.toList) W from by
          obtain ⟨_, _, _, e3⟩ := cells4' (HRA.out _ (hk5.trans (hW.keep _)))
          obtain ⟨d0, d1, d2, d3⟩ := cells4' (World.rangeAt.later hW.later hrk)
          exact ⟨by simpa using e3, by simpa using d0, by simpa using d1, by simpa using d2, by simpa using d3, HRX.out _ (hk5.trans (hW.keep _))⟩))
        have HI := Lib.hid (fun W (hW : Ext w5 W) => refHolds_any t x _ W (hvk.later hW.later) hrt)
        have HC5 := Lib.hid hc5
        have HF5 := Lib.hid hf5
        obtain ⟨a3, d0, d1, d2, d3, hrx⟩ := HSS.out _ (Ext.refl _)
        have hyd := Ext.drew w5
        have hu28 : Try.prog.underlying 24 = some (.array 11 22) := Try.underlying24
        have hi28 : (Try.prog.info? 24).map (·.size) = some x.cs.toList.length := by rw [x.len_cs]; kernel_rfl
        clear hrk
        go_upto_region 6 with fail
        clear hc5 hf5
        go_region_held3 (fun W => W.cell? ⟨w.heap.size, 3, none⟩ = some (.slice (some ⟨b', o', none⟩) lt ct) ∧ W.cell? ⟨b', o', none⟩ = some (.int .i8 t.op) ∧ W.cell? ⟨b', o' + 1, none⟩ = some (.int .i8 t.fld) ∧ W.cell? ⟨b', o' + 2, none⟩ = some (.int .u64 t.n) ∧ W.cell? ⟨b', o' + 3, none⟩ = some (.slice p2 l2 k2) ∧ W.rangeAt (w.heap.size + 1) 0 x.cs.toList) (first | exact HSS.out _ hyd | exact HSS.out _ (hyd.trans hx6)) (first
          | (go_at_call 66; refine (HI.out _ hyd).mono ?_; rintro e w6 ⟨rfl, hx6⟩))
        have hx56 : Ext w5 w6 := hyd.trans hx6
        clear a3 d0 d1 d2 d3 hrx
        have HRX6 := Lib.hid (HRX.out _ (hk5.trans (hx56.keep _)))
        have HC6 := Lib.hid (hx56.later _ _ HC5.out)
        have HF6 := Lib.hid (show w6.frozen? ⟨wb, 0, none⟩ = false from by rw [Below.frozen hx56 (World.block_lt_of_cell? _ _ HC5.out)]; exact HF5.out)
        have HK6 := Lib.hid (HKF.out.trans (hx56.keep _))
        have hsz6 : w.heap.size ≤ w6.heap.size := HK6.out.size
        by_cases hh : t.holds x = true
        · have HF := Lib.hid (HE2.out.trans (by rw [if_pos hh]))
          rw [hh]
          clear hh
          go_wp2_with (first | (refine wpList_load_H rfl _ rfl _ _ rfl x HRX6.out ?_) | (refine wpList_one_H rfl _ rfl x rfl ?_))
          go_ret2
          refine ⟨HK6.out.trans ((Ext.alloc _ _).keep _), .slice (some ⟨w6.heap.size, 0, none⟩) 1 1, by rw [HF.out]; rfl, ?_⟩
          rw [HF.out]
          exact ⟨(HSl.one (rangeAt_new w6 x.cs 24)).mono hsz6, by simp, ⟨by omega, hle⟩, (Ext.alloc _ _).later _ _ HC6.out, by rw [Below.frozen (Ext.alloc _ _) (World.block_lt_of_cell? _ _ HC6.out)]; exact HF6.out⟩
        · have HF := Lib.hid (HE2.out.trans (by rw [if_neg hh]))
          rw [show t.holds x = false from by simpa using hh]
          clear hh
          go_wp2_with fail
          go_ret2
          refine ⟨HK6.out, .slice none 0 0, by rw [HF.out]; rfl, ?_⟩
          rw [HF.out]
          exact ⟨⟨none, 0, 0, rfl, rfl, .inl rfl⟩, by simp, ⟨by omega, hle⟩, HC6.out, HF6.out⟩
      · have HF := Lib.hid (show none = (Tm.mk 6 f n [t]).ofT x c from by
          rw [HE.out, ← HSZ.out, askM, if_neg hle]; rfl)
        go_wp2_with fail
        go_ret2
        exact ⟨HKF.out, .slice none 0 0, by rw [← HF.out]; rfl, by rw [← HF.out]; rfl⟩

set_option maxHeartbeats 4000000 in
set_option maxRecDepth 100000 in
theorem rOf_set (f n : Int) (ks : List Tm) : ROfOf (.mk 7 f n ks) := by
  intro x v wb c w0 w hpre
  obtain ⟨pt, lt, ct, rfl⟩ := hpre.val.cs'
  have hwb : wb < w.heap.size := World.block_lt_of_cell? w _ hpre.cell
  have hbd := hpre.bd
  rcases Tm.right_pol hpre.right with ⟨h, -⟩ | ⟨-, hf0, hf10⟩ | ⟨h, -⟩ | ⟨h, -⟩ <;> try omega
  obtain ⟨fk, rfl⟩ := Int.eq_ofNat_of_zero_le hf0
  have hfk : fk < 11 := by omega
  have HE := Lib.hid (Tm.ofT_set fk n ks x c)
  obtain ⟨_, -, s, -, -, -, hn, -⟩ := hpre.val
  simp only [Tm.op, Tm.fld, Tm.n, Tm.kids] at *
  obtain ⟨nk, rfl⟩ := Int.eq_ofNat_of_zero_le hn.1
  obtain ⟨wA, hA⟩ : ∃ W : World, w.alloc (.cells #[.int .i8 7, .int .i8 fk, .int .u64 nk, .slice pt lt ct] 31) = W := ⟨_, rfl⟩
  have xA : Ext w wA := hA ▸ Ext.alloc _ _
  have sA : wA.heap.size = w.heap.size + 1 := by rw [← hA, World.size_alloc]
  have rA : wA.rangeAt w.heap.size 0 [.int .i8 7, .int .i8 fk, .int .u64 nk, .slice pt lt ct] := by
    have := rangeAt_new w #[.int .i8 7, .int .i8 fk, .int .u64 nk, .slice pt lt ct] 31
    rw [hA] at this
    exact this
  obtain ⟨wB, hB⟩ : ∃ W : World, wA.alloc (.cells x.cs 24) = W := ⟨_, rfl⟩
  have xB : Ext wA wB := hB ▸ Ext.alloc _ _
  have rB : wB.rangeAt (w.heap.size + 1) 0 x.cs.toList := by
    have := rangeAt_new wA x.cs 24
    rw [hB, sA] at this
    exact this
  have hff : wB.frozen? ⟨w.heap.size + 1, fk, none⟩ = false := by rw [← hB, ← sA]; simp [go_sem]
  have xAB := xA.trans xB
  have HPB := Lib.hid (hpre.more xAB)
  have HX := Lib.hid xAB
  have HEQ := Lib.hid (show w.alloc (.cells #[.int .i8 7, .int .i8 fk, .int .u64 nk, .slice pt lt ct] 31) = wA ∧ wA.alloc (.cells x.cs 24) = wB from ⟨hA, hB⟩)
  have hfrB := HPB.out.fr
  have hcB := HPB.out.cell
  have hszB : wB.heap.size = w.heap.size + 2 := by rw [← hB, World.size_alloc, sA]
  obtain ⟨a0, a1, a2, a3⟩ := cells4' (World.rangeAt.later xB.later rA)
  have HRB := Lib.hid rB
  have ec := rB fk _ (show x.cs.toList[fk]? = some _ from by rw [Array.getElem?_toList]; exact x.cell fk hfk)
  rw [Nat.zero_add] at ec
  have HPutX := Lib.hid (x.cs_put fk nk hn)
  clear hpre rA rB xA xB hA hB xAB
  go_enter Try.func44, Try.ntmps44
  go_upto_region 1 with fail
  rw [HEQ.out.1, HEQ.out.2]
  clear HEQ
  go_upto_region 11 with fail
  have hk2 : Keep (· = wb) wB (wB.setCell ⟨wb, 0, none⟩ (.int .i64 (c + 1))) := Keep.set _ _ _ rfl
  have hc2 : (wB.setCell ⟨wb, 0, none⟩ (.int .i64 (c + 1))).cell? ⟨wb, 0, none⟩ = some (.int .i64 (c + 1)) := World.cell?_setCell_same wB ⟨wb, 0, none⟩ _ hcB
  have hf2 : (wB.setCell ⟨wb, 0, none⟩ (.int .i64 (c + 1))).frozen? ⟨wb, 0, none⟩ = false := by rw [World.frozen?_setCell]; exact hfrB
  have e1 := hk2.cell a1 (by show ¬ w.heap.size = wb; omega)
  have e2 := hk2.cell a2 (by show ¬ w.heap.size = wb; omega)
  have ec2 := hk2.cell ec (by show ¬ w.heap.size + 1 = wb; omega)
  have ef2 : (wB.setCell ⟨wb, 0, none⟩ (.int .i64 (c + 1))).frozen? ⟨w.heap.size + 1, fk, none⟩ = false := by rw [World.frozen?_setCell]; exact hff
  have hr2 := hk2.range HRB.out (by show ¬ w.heap.size + 1 = wb; omega)
  generalize wB.setCell ⟨wb, 0, none⟩ (.int .i64 (c + 1)) = w2 at *
  clear a0 a1 a2 a3 ec hff hcB hfrB
  have HKF := Lib.hid ((HX.out.keep _).trans hk2)
  by_cases hle : c + 1 ≤ 65536
  · have HE2 := Lib.hid (show (Tm.mk 7 fk nk ks).ofT x c = some ([x.put fk nk], c + 1) from by
      rw [HE.out, askM, if_pos hle, Int.toNat_natCast]; rfl)
    have hsz2 : w.heap.size ≤ w2.heap.size := HKF.out.size
    have hR3 : (w2.setCell ⟨w.heap.size + 1, fk, none⟩ (.int .u64 nk)).rangeAt (w.heap.size + 1) 0 (x.put fk nk).cs.toList := by
      rw [HPutX.out]
      exact rangeAt_set hr2 (by rw [x.size_cs]; exact hfk) _
    have HK3 := Lib.hid (HKF.out.trans' (Keep.set (S := (· = w.heap.size + 1)) w2 ⟨w.heap.size + 1, fk, none⟩ (.int .u64 nk) rfl) (fun i hi => by rw [hi]; omega))
    have HC3 := Lib.hid (show (w2.setCell ⟨w.heap.size + 1, fk, none⟩ (.int .u64 nk)).cell? ⟨wb, 0, none⟩ = some (.int .i64 (c + 1)) from by
      rw [World.cell?_setCell_other _ _ _ _ (fun e => by injection e with e1; omega)]; exact hc2)
    have HF3 := Lib.hid (show (w2.setCell ⟨w.heap.size + 1, fk, none⟩ (.int .u64 nk)).frozen? ⟨wb, 0, none⟩ = false from by rw [World.frozen?_setCell]; exact hf2)
    have HS3 := Lib.hid (show w.heap.size ≤ (w2.setCell ⟨w.heap.size + 1, fk, none⟩ (.int .u64 nk)).heap.size from by simpa using hsz2)
    have HR3 := Lib.hid hR3
    clear hR3 hr2
    go_upto_region 14 with fail
    generalize w2.setCell ⟨w.heap.size + 1, fk, none⟩ (.int .u64 nk) = w3 at *
    go_wp2_with (first | (refine wpList_load_H rfl _ rfl _ _ rfl _ HR3.out ?_) | (refine wpList_one_H rfl _ rfl _ rfl ?_))
    go_ret2
    refine ⟨HK3.out.trans ((Ext.alloc _ _).keep _), .slice (some ⟨w3.heap.size, 0, none⟩) 1 1, by rw [HE2.out]; rfl, ?_⟩
    rw [HE2.out]
    exact ⟨(HSl.one (rangeAt_new w3 (x.put fk nk).cs 24)).mono HS3.out, by simp, ⟨by omega, hle⟩, (Ext.alloc _ _).later _ _ HC3.out, by rw [Below.frozen (Ext.alloc _ _) (World.block_lt_of_cell? _ _ HC3.out)]; exact HF3.out⟩
  · have HF := Lib.hid (show none = (Tm.mk 7 fk nk ks).ofT x c from by
      rw [HE.out, askM, if_neg (by omega)]; rfl)
    go_wp2_with fail
    go_ret2
    exact ⟨HKF.out, .slice none 0 0, by rw [← HF.out]; rfl, by rw [← HF.out]; rfl⟩
end Go.Proofs.Ytddeelepaiklgaa
