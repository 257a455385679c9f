/- law 30's wakes. -/
import Derived.Test.YtddeelepaiklgaaJWak
namespace Go.Proofs.Ytddeelepaiklgaa
open Go.RowKit Go.Maps Go.Sort Go.Lib
set_option linter.unusedSimpArgs false

theorem at_lit (a b : Int) (w : World) (ha : 0 ≤ a ∧ a ≤ 100) (hb : 0 ≤ b ∧ b ≤ 100) : Calls Try.prog 23 #[.int .u64 a, .int .u64 b] w fun e w' => e = .returned (.agg #[.int .u64 0, .int .u64 0, .int .u64 2048, .int .u64 0, .int .u64 0, .int .u64 0, .int .u64 0, .int .u64 0, .int .u64 0, .int .u64 b, .int .u64 a]) ∧ Ext w w' := by
  have := at_any a b w ha hb
  rwa [atH_cs a b ha hb] at this
theorem hopCs_lit (s : Value) : hopCs 0 1 (atH 1 1) s = [.int .i64 0, .int .i64 1, .int .u64 0, .int .u64 0, .int .u64 2048, .int .u64 0, .int .u64 0, .int .u64 0, .int .u64 0, .int .u64 0, .int .u64 0, .int .u64 1, .int .u64 1, s] := by
  unfold hopCs
  rw [atH_cs 1 1 (by omega) (by omega)]
  rfl

set_option maxHeartbeats 8000000 in
set_option maxRecDepth 100000 in
theorem wakes30_any (w : World) : Calls Try.prog 9 #[] w fun e w' => e = .returned (.bool true) ∧ Ext w w' := by
  go_enter Try.func9, Try.ntmps9
  go_wp2_with fail
  refine (at_lit 1 1 w (by omega) (by omega)).mono ?_
  rintro e w1 ⟨rfl, hx1⟩
  go_wp2_with fail
  refine (at_lit 1 2 w1 (by omega) (by omega)).mono ?_
  rintro e w2 ⟨rfl, hx2⟩
  have HX2 := Lib.hid (hx1.trans hx2)
  clear hx1 hx2
  obtain ⟨w3, h3⟩ : ∃ W : World, w2.alloc (.cells #[.int .u64 0, .int .u64 0, .int .u64 2048, .int .u64 0, .int .u64 0, .int .u64 0, .int .u64 0, .int .u64 0, .int .u64 0, .int .u64 2, .int .u64 1] 24) = W := ⟨_, rfl⟩
  obtain ⟨w4, h4⟩ : ∃ W : World, w3.alloc (.cells #[.int .i64 0, .int .i64 1, .int .u64 0, .int .u64 0, .int .u64 2048, .int .u64 0, .int .u64 0, .int .u64 0, .int .u64 0, .int .u64 0, .int .u64 0, .int .u64 1, .int .u64 1, .slice (some ⟨w2.heap.size, 0, none⟩) 1 1] 27) = W := ⟨_, rfl⟩
  have s3 : w3.heap.size = w2.heap.size + 1 := by rw [← h3, World.size_alloc]
  have x3 : Ext w2 w3 := h3 ▸ Ext.alloc _ _
  have x4 : Ext w3 w4 := h4 ▸ Ext.alloc _ _
  have r3 : w3.rangeAt w2.heap.size 0 [.int .u64 0, .int .u64 0, .int .u64 2048, .int .u64 0, .int .u64 0, .int .u64 0, .int .u64 0, .int .u64 0, .int .u64 0, .int .u64 2, .int .u64 1] := by rw [← h3]; exact rangeAt_new w2 _ _
  have r4 : w4.rangeAt w3.heap.size 0 [.int .i64 0, .int .i64 1, .int .u64 0, .int .u64 0, .int .u64 2048, .int .u64 0, .int .u64 0, .int .u64 0, .int .u64 0, .int .u64 0, .int .u64 0, .int .u64 1, .int .u64 1, .slice (some ⟨w2.heap.size, 0, none⟩) 1 1] := by rw [← h4]; exact rangeAt_new w3 _ _
  have HR3 := Lib.hid (fun W (hW : Ext w4 W) => World.rangeAt.later (x4.trans hW).later r3)
  have HR4 := Lib.hid (fun W (hW : Ext w4 W) => World.rangeAt.later hW.later r4)
  have HX4 := Lib.hid (HX2.out.trans (x3.trans x4))
  have HE34 := Lib.hid (And.intro h3 h4)
  have HS3 := Lib.hid s3
  clear x3 x4 r3 r4 h3 h4 s3
  go_upto_region 2 with fail
  rw [HE34.out.1, HE34.out.2]
  clear HE34
  go_wp2_with fail
  refine (at_lit 1 1 w4 (by omega) (by omega)).mono ?_
  rintro e w5 ⟨rfl, hx5⟩
  go_wp2_with fail
  refine (at_lit 1 2 w5 (by omega) (by omega)).mono ?_
  rintro e w6 ⟨rfl, hx6⟩
  go_wp2_with fail
  refine (at_lit 1 2 w6 (by omega) (by omega)).mono ?_
  rintro e w7 ⟨rfl, hx7⟩
  have HX7 := Lib.hid (hx5.trans (hx6.trans hx7))
  clear hx5 hx6 hx7
  obtain ⟨w8, h8⟩ : ∃ W : World, w7.alloc (.cells #[.int .u64 0, .int .u64 0, .int .u64 2048, .int .u64 0, .int .u64 0, .int .u64 0, .int .u64 0, .int .u64 0, .int .u64 0, .int .u64 2, .int .u64 1, .int .u64 0, .int .u64 0, .int .u64 2048, .int .u64 0, .int .u64 0, .int .u64 0, .int .u64 0, .int .u64 0, .int .u64 0, .int .u64 2, .int .u64 1] 24) = W := ⟨_, rfl⟩
  obtain ⟨w9, h9⟩ : ∃ W : World, w8.alloc (.cells #[.int .i64 0, .int .i64 1, .int .u64 0, .int .u64 0, .int .u64 2048, .int .u64 0, .int .u64 0, .int .u64 0, .int .u64 0, .int .u64 0, .int .u64 0, .int .u64 1, .int .u64 1, .slice (some ⟨w7.heap.size, 0, none⟩) 2 2] 27) = W := ⟨_, rfl⟩
  have s8 : w8.heap.size = w7.heap.size + 1 := by rw [← h8, World.size_alloc]
  have x8 : Ext w7 w8 := h8 ▸ Ext.alloc _ _
  have x9 : Ext w8 w9 := h9 ▸ Ext.alloc _ _
  have r8 : w8.rangeAt w7.heap.size 0 [.int .u64 0, .int .u64 0, .int .u64 2048, .int .u64 0, .int .u64 0, .int .u64 0, .int .u64 0, .int .u64 0, .int .u64 0, .int .u64 2, .int .u64 1, .int .u64 0, .int .u64 0, .int .u64 2048, .int .u64 0, .int .u64 0, .int .u64 0, .int .u64 0, .int .u64 0, .int .u64 0, .int .u64 2, .int .u64 1] := by rw [← h8]; exact rangeAt_new w7 _ _
  have r9 : w9.rangeAt w8.heap.size 0 [.int .i64 0, .int .i64 1, .int .u64 0, .int .u64 0, .int .u64 2048, .int .u64 0, .int .u64 0, .int .u64 0, .int .u64 0, .int .u64 0, .int .u64 0, .int .u64 1, .int .u64 1, .slice (some ⟨w7.heap.size, 0, none⟩) 2 2] := by rw [← h9]; exact rangeAt_new w8 _ _
  have HR8 := Lib.hid (fun W (hW : Ext w9 W) => World.rangeAt.later (x9.trans hW).later r8)
  have HR9 := Lib.hid (fun W (hW : Ext w9 W) => World.rangeAt.later hW.later r9)
  have HX9 := Lib.hid (HX7.out.trans (x8.trans x9))
  have HE89 := Lib.hid (And.intro h8 h9)
  have HS8 := Lib.hid s8
  clear x8 x9 r8 r9 h8 h9 s8 HX7
  go_upto_region 3 with fail
  rw [HE89.out.1, HE89.out.2]
  clear HE89
  go_wp2_with fail
  refine (set_any 2 w9).mono ?_
  rintro e w10 ⟨rfl, hx10⟩
  obtain ⟨w11, h11⟩ : ∃ W : World, w10.alloc (.cells #[.int .u16 1, .int .u16 2, .int .u16 2, .int .u16 1] 60) = W := ⟨_, rfl⟩
  have x11 : Ext w10 w11 := h11 ▸ Ext.alloc _ _
  have r11 : w11.rangeAt w10.heap.size 0 [.int .u16 1, .int .u16 2, .int .u16 2, .int .u16 1] := by rw [← h11]; exact rangeAt_new w10 _ _
  have HR11 := Lib.hid r11
  have HX11 := Lib.hid (hx10.trans x11)
  have HE11 := Lib.hid h11
  clear hx10 x11 r11
  go_wp2_with fail
  try rw [HE11.out]
  refine (at_lit 1 1 w11 (by omega) (by omega)).mono ?_
  rintro e w12 ⟨rfl, hx12⟩
  have HX12 := Lib.hid (HX4.out.trans (HX9.out.trans (HX11.out.trans hx12)))
  have HRC := Lib.hid (show Calls Try.prog 15 #[.agg #[.int .i8 7, .int .i8 9, .int .u64 2, .slice none 0 0, .slice none 0 0], .slice (some ⟨w10.heap.size, 0, none⟩) 1 1, .agg #[.int .u64 0, .int .u64 0, .int .u64 2048, .int .u64 0, .int .u64 0, .int .u64 0, .int .u64 0, .int .u64 0, .int .u64 0, .int .u64 1, .int .u64 1]] w12 fun e w' => (∃ v, e = .returned (.tuple #[v, .int .i64 0]) ∧ HSl w' w12.heap.size [atH 2 2] v) ∧ Ext w12 w' from by
    have := reach_any (setT 2) [] [⟨1, 2, 2, 1⟩] (atH 1 1) _ (.slice (some ⟨w10.heap.size, 0, none⟩) 1 1) w12 (setT_val 2 (by omega) w12) ⟨some ⟨w10.heap.size, 0, none⟩, 1, 1, rfl, rfl, by omega, by omega, .inr ⟨w10.heap.size, 0, rfl, fun i hi => by
      obtain rfl : i = 0 := by simpa using hi
      exact ⟨World.rangeAt.later hx12.later HR11.out, by show (0:Int) ≤ 1 ∧ (1:Int) ≤ 65535; omega, by show (0:Int) ≤ 2 ∧ (2:Int) ≤ 65535; omega, by show (0:Int) ≤ 2 ∧ (2:Int) ≤ 65535; omega, by show (0:Int) ≤ 1 ∧ (1:Int) ≤ 65535; omega⟩⟩⟩
    rw [atH_cs 1 1 (by omega) (by omega), wk_reach] at this
    exact this)
  have hx12T := Lib.hid hx12
  clear h11 hx12
  go_wp2_with fail
  refine HRC.out.mono ?_
  rintro e w13 ⟨⟨v13, rfl, hv13⟩, hx13⟩
  have HX13 := Lib.hid (HX12.out.trans hx13)
  obtain ⟨pR, nR, cR, rfl, hnR, hR⟩ := hv13
  obtain rfl : nR = 1 := hnR
  rcases hR with hR | ⟨bR, oR, rfl, -, hR⟩
  · cases hR
  have HRR := Lib.hid (fun W (hW : Ext w13 W) => show W.rangeAt bR oR (atH 2 2).cs.toList from by
    have := World.rangeAt.later hW.later hR
    simpa [flatH] using this)
  have HX4T := Lib.hid (HX9.out.trans (HX11.out.trans (hx12T.out.trans hx13)))
  have HX9T := Lib.hid (HX11.out.trans (hx12T.out.trans hx13))
  clear hR hx13 HRC
  go_upto_region 4 with fail
  have hz0 : Ext w13 w13.drew := Ext.drew _
  have HB1 := Lib.hid (fun W (hW : Ext w13 W) => HR4.out W (HX4T.out.trans hW))
  have HB2 := Lib.hid (fun W (hW : Ext w13 W) => HR9.out W (HX9T.out.trans hW))
  have HSS := Lib.hid (fun W (hW : Ext w13 W) => (show (fun W => W.rangeAt (w2.heap.size + 1) 0 [.int .i64 0, .int .i64 1, .int .u64 0, .int .u64 0, .int .u64 2048, .int .u64 0, .int .u64 0, .int .u64 0, .int .u64 0, .int .u64 0, .int .u64 0, .int .u64 1, .int .u64 1, .slice (some ⟨w2.heap.size, 0, none⟩) 1 1] ∧ W.rangeAt (w7.heap.size + 1) 0 [.int .i64 0, .int .i64 1, .int .u64 0, .int .u64 0, .int .u64 2048, .int .u64 0, .int .u64 0, .int .u64 0, .int .u64 0, .int .u64 0, .int .u64 0, .int .u64 1, .int .u64 1, .slice (some ⟨w7.heap.size, 0, none⟩) 2 2] ∧ W.rangeAt bR oR (atH 2 2).cs.toList) W from ⟨by have := HB1.out W hW; rwa [HS3.out] at this, by have := HB2.out W hW; rwa [HS8.out] at this, HRR.out W hW⟩))
  have hu27 := Try.underlying27
  have hi27 : ∀ s : Value, (Try.prog.info? 27).map (·.size) = some [.int .i64 0, .int .i64 1, .int .u64 0, .int .u64 0, .int .u64 2048, .int .u64 0, .int .u64 0, .int .u64 0, .int .u64 0, .int .u64 0, .int .u64 0, .int .u64 1, .int .u64 1, s].length := fun s => by kernel_rfl
  have hu24 := Try.underlying24
  have hi24 : (Try.prog.info? 24).map (·.size) = some (atH 2 2).cs.toList.length := by rw [Hdr.len_cs]; kernel_rfl
  have HV1 := Lib.hid (fun W (hW : Ext w13 W) => show HopVal W 0 1 (atH 1 1) [atH 1 2] (.agg #[.int .i64 0, .int .i64 1, .int .u64 0, .int .u64 0, .int .u64 2048, .int .u64 0, .int .u64 0, .int .u64 0, .int .u64 0, .int .u64 0, .int .u64 0, .int .u64 1, .int .u64 1, .slice (some ⟨w2.heap.size, 0, none⟩) 1 1]) from
    ⟨.slice (some ⟨w2.heap.size, 0, none⟩) 1 1, by rw [hopCs_lit], ⟨_, _, _, rfl, rfl, .inr ⟨w2.heap.size, 0, rfl, Nat.zero_le _, by
      have := HR3.out W (HX4T.out.trans hW)
      simpa [flatH, atH_cs] using this⟩⟩, by simp⟩)
  have HV2 := Lib.hid (fun W (hW : Ext w13 W) => show HopVal W 0 1 (atH 1 1) [atH 1 2, atH 1 2] (.agg #[.int .i64 0, .int .i64 1, .int .u64 0, .int .u64 0, .int .u64 2048, .int .u64 0, .int .u64 0, .int .u64 0, .int .u64 0, .int .u64 0, .int .u64 0, .int .u64 1, .int .u64 1, .slice (some ⟨w7.heap.size, 0, none⟩) 2 2]) from
    ⟨.slice (some ⟨w7.heap.size, 0, none⟩) 2 2, by rw [hopCs_lit], ⟨_, _, _, rfl, rfl, .inr ⟨w7.heap.size, 0, rfl, Nat.zero_le _, by
      have := HR8.out W (HX9T.out.trans hW)
      simpa [flatH, atH_cs] using this⟩⟩, by simp⟩)
  have HH1 := Lib.hid (fun W (hW : Ext w13 W) => show Calls Try.prog 10 #[.agg #[.int .i64 0, .int .i64 1, .int .u64 0, .int .u64 0, .int .u64 2048, .int .u64 0, .int .u64 0, .int .u64 0, .int .u64 0, .int .u64 0, .int .u64 0, .int .u64 1, .int .u64 1, .slice (some ⟨w2.heap.size, 0, none⟩) 1 1], .agg #[.int .i8 7, .int .i8 9, .int .u64 2, .slice none 0 0, .slice none 0 0]] W fun e w' => e = .returned (.bool true) ∧ Ext W w' from by
    have := hop_any (setT 2) [] 0 1 (atH 1 1) [atH 1 2] _ _ W (HV1.out W hW) (setT_val 2 (by omega) W)
    rwa [wk_hop1] at this)
  have HH2 := Lib.hid (fun W (hW : Ext w13 W) => show Calls Try.prog 10 #[.agg #[.int .i64 0, .int .i64 1, .int .u64 0, .int .u64 0, .int .u64 2048, .int .u64 0, .int .u64 0, .int .u64 0, .int .u64 0, .int .u64 0, .int .u64 0, .int .u64 1, .int .u64 1, .slice (some ⟨w2.heap.size, 0, none⟩) 1 1], .agg #[.int .i8 7, .int .i8 9, .int .u64 3, .slice none 0 0, .slice none 0 0]] W fun e w' => e = .returned (.bool false) ∧ Ext W w' from by
    have := hop_any (setT 3) [] 0 1 (atH 1 1) [atH 1 2] _ _ W (HV1.out W hW) (setT_val 3 (by omega) W)
    rwa [wk_hop2] at this)
  have HH3 := Lib.hid (fun W (hW : Ext w13 W) => show Calls Try.prog 10 #[.agg #[.int .i64 0, .int .i64 1, .int .u64 0, .int .u64 0, .int .u64 2048, .int .u64 0, .int .u64 0, .int .u64 0, .int .u64 0, .int .u64 0, .int .u64 0, .int .u64 1, .int .u64 1, .slice (some ⟨w7.heap.size, 0, none⟩) 2 2], .agg #[.int .i8 7, .int .i8 9, .int .u64 2, .slice none 0 0, .slice none 0 0]] W fun e w' => e = .returned (.bool false) ∧ Ext W w' from by
    have := hop_any (setT 2) [] 0 1 (atH 1 1) [atH 1 2, atH 1 2] _ _ W (HV2.out W hW) (setT_val 2 (by omega) W)
    rwa [wk_hop3] at this)
  have HTR := Lib.hid (fun (bh bp : Nat) W (hW : Ext w13 W) (rh : W.rangeAt bh 0 [.int .i64 0, .int .i64 1, .int .u64 0, .int .u64 0, .int .u64 2048, .int .u64 0, .int .u64 0, .int .u64 0, .int .u64 0, .int .u64 0, .int .u64 0, .int .u64 1, .int .u64 1, .slice (some ⟨w2.heap.size, 0, none⟩) 1 1]) (rp : W.rangeAt bp 0 [.int .i8 7, .int .i8 9, .int .u64 2, .slice none 0 0, .slice none 0 0]) => show Calls Try.prog 13 #[.slice (some ⟨bh, 0, none⟩) 1 1, .slice (some ⟨bp, 0, none⟩) 1 1] W fun e w' => e = .returned (.bool true) ∧ Ext W w' from by
    have := trace_any [⟨0, 1, atH 1 1, [atH 1 2]⟩] [(setT 2, [])] (.slice (some ⟨bh, 0, none⟩) 1 1) (.slice (some ⟨bp, 0, none⟩) 1 1) W
      ⟨_, 1, 1, rfl, rfl, by omega, by omega, .inr ⟨bh, 0, rfl, fun i hi => by
        obtain rfl : i = 0 := by simpa using hi
        exact ⟨.slice (some ⟨w2.heap.size, 0, none⟩) 1 1, by show W.rangeAt bh (0 + 0 * 14) (hopCs 0 1 (atH 1 1) _); rw [hopCs_lit]; exact rh, (by
          obtain ⟨ov, he, hs, -⟩ := HV1.out W hW
          exact ⟨_, _, _, rfl, rfl, .inr ⟨w2.heap.size, 0, rfl, Nat.zero_le _, by
            have := HR3.out W (HX4T.out.trans hW)
            simpa [flatH, atH_cs] using this⟩⟩), by simp, by show (-9223372036854775808 : Int) ≤ 1; omega, by show (1 : Int) ≤ 9223372036854775807; omega⟩⟩⟩
      ⟨_, 1, 1, rfl, rfl, by omega, by omega, .inr ⟨bp, 0, rfl, fun i hi => by
        obtain rfl : i = 0 := by simpa using hi
        exact ⟨none, 0, 0, .slice none 0 0, rp, val_leaf (by omega) (by omega) (by omega), ⟨none, 0, 0, rfl, rfl, by omega, by omega, .inl rfl⟩⟩⟩⟩
    rwa [wk_trace] at this)
  have he : ∀ W, (Op.equalIn 10000 24 (.agg (atH 2 2).cs) (.agg (atH 2 2).cs)).run Try.prog W = .ok true W := fun W => by
    have := eqH (atH 2 2) (atH 2 2) W
    rwa [show decide (atH 2 2 = atH 2 2) = true from by simp] at this
  have hg := guardH
  have HAT := Lib.hid (fun W => at_any 2 2 W (by omega) (by omega))
  refine wp_region_noPanic ?_
  refine wp_region_held_drew (S := (fun W => W.rangeAt (w2.heap.size + 1) 0 [.int .i64 0, .int .i64 1, .int .u64 0, .int .u64 0, .int .u64 2048, .int .u64 0, .int .u64 0, .int .u64 0, .int .u64 0, .int .u64 0, .int .u64 0, .int .u64 1, .int .u64 1, .slice (some ⟨w2.heap.size, 0, none⟩) 1 1] ∧ W.rangeAt (w7.heap.size + 1) 0 [.int .i64 0, .int .i64 1, .int .u64 0, .int .u64 0, .int .u64 2048, .int .u64 0, .int .u64 0, .int .u64 0, .int .u64 0, .int .u64 0, .int .u64 0, .int .u64 1, .int .u64 1, .slice (some ⟨w7.heap.size, 0, none⟩) 2 2] ∧ W.rangeAt bR oR (atH 2 2).cs.toList)) (by kernel_rfl) (HSS.out _ hz0) (fun hHeld0 => ?_)
  refine wpAnyH_take (i := 0) (v := .agg #[.int .i64 0, .int .i64 1, .int .u64 0, .int .u64 0, .int .u64 2048, .int .u64 0, .int .u64 0, .int .u64 0, .int .u64 0, .int .u64 0, .int .u64 0, .int .u64 1, .int .u64 1, .slice (some ⟨w2.heap.size, 0, none⟩) 1 1]) rfl (by kernel_rfl) (by kernel_rfl) (by kernel_rfl) (fun _ _ _ h => h) ?_ (by assumption) ?_
  · try simp only [List.getElem_toArray, List.getElem_cons_zero, List.getElem_cons_succ]
    exact yieldsIf_load_mid (by rfl) _ _ rfl (w2.heap.size + 1) (0) rfl [.int .i64 0, .int .i64 1, .int .u64 0, .int .u64 0, .int .u64 2048, .int .u64 0, .int .u64 0, .int .u64 0, .int .u64 0, .int .u64 0, .int .u64 0, .int .u64 1, .int .u64 1, .slice (some ⟨w2.heap.size, 0, none⟩) 1 1] _ (fun w hSw => hSw.1) hu27 rfl (hi27 _)
  try simp only [List.getElem_toArray, List.getElem_cons_zero, List.getElem_cons_succ, Act.put, List.setIfInBounds_toArray, List.set_cons_zero, List.set_cons_succ, Array.toArray_toList]
  refine wpAnyH_ready (rs := [1]) (by kernel_rfl) (by simp) ?_
  refine AllReadyH.cons (i := 1) rfl (fun K hK => ?_) AllReadyH.nil
  go_simp
  go_at_call 24
  refine (set_any 2 _).mono ?_
  rintro e y1 ⟨rfl, hy1⟩
  have hz1 := hz0.trans hy1
  refine hK.out _ _ (HSS.out _ hz1) (fun hHeld1 => ?_)
  clear hK K hHeld0
  try simp only [List.getElem_toArray, List.getElem_cons_zero, List.getElem_cons_succ, Act.put, List.setIfInBounds_toArray, List.set_cons_zero, List.set_cons_succ, Array.toArray_toList]
  refine wpAnyH_ready (rs := [2]) (by kernel_rfl) (by simp) ?_
  refine AllReadyH.cons (i := 2) rfl (fun K hK => ?_) AllReadyH.nil
  go_simp
  go_at_call 10
  refine (HH1.out _ hz1).mono ?_
  rintro e y2 ⟨rfl, hy2⟩
  have hz2 := hz1.trans hy2
  refine hK.out _ _ (HSS.out _ hz2) (fun hHeld2 => ?_)
  clear hK K hHeld1
  try simp only [List.getElem_toArray, List.getElem_cons_zero, List.getElem_cons_succ, Act.put, List.setIfInBounds_toArray, List.set_cons_zero, List.set_cons_succ, Array.toArray_toList]
  refine wpAnyH_take (i := 3) (v := .bool true) rfl (by kernel_rfl) (by kernel_rfl) (by kernel_rfl) (fun _ _ _ h => h) (Or.inl ⟨by rfl, by (intro w hSw; (try dsimp only at hSw); go_simp)⟩) (by assumption) ?_
  try simp only [List.getElem_toArray, List.getElem_cons_zero, List.getElem_cons_succ, Act.put, List.setIfInBounds_toArray, List.set_cons_zero, List.set_cons_succ, Array.toArray_toList]
  refine wpAnyH_take (i := 4) (v := .agg #[.int .i64 0, .int .i64 1, .int .u64 0, .int .u64 0, .int .u64 2048, .int .u64 0, .int .u64 0, .int .u64 0, .int .u64 0, .int .u64 0, .int .u64 0, .int .u64 1, .int .u64 1, .slice (some ⟨w2.heap.size, 0, none⟩) 1 1]) rfl (by kernel_rfl) (by kernel_rfl) (by kernel_rfl) (fun _ _ _ h => h) ?_ (by assumption) ?_
  · try simp only [List.getElem_toArray, List.getElem_cons_zero, List.getElem_cons_succ]
    exact yieldsIf_load_mid (by rfl) _ _ rfl (w2.heap.size + 1) (0) rfl [.int .i64 0, .int .i64 1, .int .u64 0, .int .u64 0, .int .u64 2048, .int .u64 0, .int .u64 0, .int .u64 0, .int .u64 0, .int .u64 0, .int .u64 0, .int .u64 1, .int .u64 1, .slice (some ⟨w2.heap.size, 0, none⟩) 1 1] _ (fun w hSw => hSw.1) hu27 rfl (hi27 _)
  try simp only [List.getElem_toArray, List.getElem_cons_zero, List.getElem_cons_succ, Act.put, List.setIfInBounds_toArray, List.set_cons_zero, List.set_cons_succ, Array.toArray_toList]
  refine wpAnyH_ready (rs := [5]) (by kernel_rfl) (by simp) ?_
  refine AllReadyH.cons (i := 5) rfl (fun K hK => ?_) AllReadyH.nil
  go_simp
  go_at_call 24
  refine (set_any 3 _).mono ?_
  rintro e y3 ⟨rfl, hy3⟩
  have hz3 := hz2.trans hy3
  refine hK.out _ _ (HSS.out _ hz3) (fun hHeld3 => ?_)
  clear hK K hHeld2
  try simp only [List.getElem_toArray, List.getElem_cons_zero, List.getElem_cons_succ, Act.put, List.setIfInBounds_toArray, List.set_cons_zero, List.set_cons_succ, Array.toArray_toList]
  refine wpAnyH_ready (rs := [6]) (by kernel_rfl) (by simp) ?_
  refine AllReadyH.cons (i := 6) rfl (fun K hK => ?_) AllReadyH.nil
  go_simp
  go_at_call 10
  refine (HH2.out _ hz3).mono ?_
  rintro e y4 ⟨rfl, hy4⟩
  have hz4 := hz3.trans hy4
  refine hK.out _ _ (HSS.out _ hz4) (fun hHeld4 => ?_)
  clear hK K hHeld3
  try simp only [List.getElem_toArray, List.getElem_cons_zero, List.getElem_cons_succ, Act.put, List.setIfInBounds_toArray, List.set_cons_zero, List.set_cons_succ, Array.toArray_toList]
  refine wpAnyH_take (i := 7) (v := .bool true) rfl (by kernel_rfl) (by kernel_rfl) (by kernel_rfl) (fun _ _ _ h => h) (Or.inl ⟨by rfl, by (intro w hSw; (try dsimp only at hSw); go_simp)⟩) (by assumption) ?_
  try simp only [List.getElem_toArray, List.getElem_cons_zero, List.getElem_cons_succ, Act.put, List.setIfInBounds_toArray, List.set_cons_zero, List.set_cons_succ, Array.toArray_toList]
  refine wpAnyH_take (i := 8) (v := .bool true) rfl (by kernel_rfl) (by kernel_rfl) (by kernel_rfl) (fun _ _ _ h => h) (Or.inl ⟨by rfl, by (intro w hSw; (try dsimp only at hSw); go_simp)⟩) (by assumption) ?_
  try simp only [List.getElem_toArray, List.getElem_cons_zero, List.getElem_cons_succ, Act.put, List.setIfInBounds_toArray, List.set_cons_zero, List.set_cons_succ, Array.toArray_toList]
  refine wpAnyH_take (i := 9) (v := .bool true) rfl (by kernel_rfl) (by kernel_rfl) (by kernel_rfl) (fun _ _ _ h => h) (Or.inl ⟨by rfl, by (intro w hSw; (try dsimp only at hSw); go_simp)⟩) (by assumption) ?_
  try simp only [List.getElem_toArray, List.getElem_cons_zero, List.getElem_cons_succ, Act.put, List.setIfInBounds_toArray, List.set_cons_zero, List.set_cons_succ, Array.toArray_toList]
  refine wpAnyH_take (i := 10) (v := .agg #[.int .i64 0, .int .i64 1, .int .u64 0, .int .u64 0, .int .u64 2048, .int .u64 0, .int .u64 0, .int .u64 0, .int .u64 0, .int .u64 0, .int .u64 0, .int .u64 1, .int .u64 1, .slice (some ⟨w7.heap.size, 0, none⟩) 2 2]) rfl (by kernel_rfl) (by kernel_rfl) (by kernel_rfl) (fun _ _ _ h => h) ?_ (by assumption) ?_
  · try simp only [List.getElem_toArray, List.getElem_cons_zero, List.getElem_cons_succ]
    exact yieldsIf_load_mid (by rfl) _ _ rfl (w7.heap.size + 1) (0) rfl [.int .i64 0, .int .i64 1, .int .u64 0, .int .u64 0, .int .u64 2048, .int .u64 0, .int .u64 0, .int .u64 0, .int .u64 0, .int .u64 0, .int .u64 0, .int .u64 1, .int .u64 1, .slice (some ⟨w7.heap.size, 0, none⟩) 2 2] _ (fun w hSw => hSw.2.1) hu27 rfl (hi27 _)
  try simp only [List.getElem_toArray, List.getElem_cons_zero, List.getElem_cons_succ, Act.put, List.setIfInBounds_toArray, List.set_cons_zero, List.set_cons_succ, Array.toArray_toList]
  refine wpAnyH_ready (rs := [11]) (by kernel_rfl) (by simp) ?_
  refine AllReadyH.cons (i := 11) rfl (fun K hK => ?_) AllReadyH.nil
  go_simp
  go_at_call 24
  refine (set_any 2 _).mono ?_
  rintro e y5 ⟨rfl, hy5⟩
  have hz5 := hz4.trans hy5
  refine hK.out _ _ (HSS.out _ hz5) (fun hHeld5 => ?_)
  clear hK K hHeld4
  try simp only [List.getElem_toArray, List.getElem_cons_zero, List.getElem_cons_succ, Act.put, List.setIfInBounds_toArray, List.set_cons_zero, List.set_cons_succ, Array.toArray_toList]
  refine wpAnyH_ready (rs := [12]) (by kernel_rfl) (by simp) ?_
  refine AllReadyH.cons (i := 12) rfl (fun K hK => ?_) AllReadyH.nil
  go_simp
  go_at_call 10
  refine (HH3.out _ hz5).mono ?_
  rintro e y6 ⟨rfl, hy6⟩
  have hz6 := hz5.trans hy6
  refine hK.out _ _ (HSS.out _ hz6) (fun hHeld6 => ?_)
  clear hK K hHeld5
  try simp only [List.getElem_toArray, List.getElem_cons_zero, List.getElem_cons_succ, Act.put, List.setIfInBounds_toArray, List.set_cons_zero, List.set_cons_succ, Array.toArray_toList]
  refine wpAnyH_take (i := 13) (v := .bool true) rfl (by kernel_rfl) (by kernel_rfl) (by kernel_rfl) (fun _ _ _ h => h) (Or.inl ⟨by rfl, by (intro w hSw; (try dsimp only at hSw); go_simp)⟩) (by assumption) ?_
  try simp only [List.getElem_toArray, List.getElem_cons_zero, List.getElem_cons_succ, Act.put, List.setIfInBounds_toArray, List.set_cons_zero, List.set_cons_succ, Array.toArray_toList]
  refine wpAnyH_take (i := 14) (v := .bool true) rfl (by kernel_rfl) (by kernel_rfl) (by kernel_rfl) (fun _ _ _ h => h) (Or.inl ⟨by rfl, by (intro w hSw; (try dsimp only at hSw); go_simp)⟩) (by assumption) ?_
  try simp only [List.getElem_toArray, List.getElem_cons_zero, List.getElem_cons_succ, Act.put, List.setIfInBounds_toArray, List.set_cons_zero, List.set_cons_succ, Array.toArray_toList]
  refine wpAnyH_take (i := 15) (v := .bool true) rfl (by kernel_rfl) (by kernel_rfl) (by kernel_rfl) (fun _ _ _ h => h) (Or.inl ⟨by rfl, by (intro w hSw; (try dsimp only at hSw); go_simp)⟩) (by assumption) ?_
  try simp only [List.getElem_toArray, List.getElem_cons_zero, List.getElem_cons_succ, Act.put, List.setIfInBounds_toArray, List.set_cons_zero, List.set_cons_succ, Array.toArray_toList]
  refine wpAnyH_take (i := 16) (v := .agg #[.int .i64 0, .int .i64 1, .int .u64 0, .int .u64 0, .int .u64 2048, .int .u64 0, .int .u64 0, .int .u64 0, .int .u64 0, .int .u64 0, .int .u64 0, .int .u64 1, .int .u64 1, .slice (some ⟨w2.heap.size, 0, none⟩) 1 1]) rfl (by kernel_rfl) (by kernel_rfl) (by kernel_rfl) (fun _ _ _ h => h) ?_ (by assumption) ?_
  · try simp only [List.getElem_toArray, List.getElem_cons_zero, List.getElem_cons_succ]
    exact yieldsIf_load_mid (by rfl) _ _ rfl (w2.heap.size + 1) (0) rfl [.int .i64 0, .int .i64 1, .int .u64 0, .int .u64 0, .int .u64 2048, .int .u64 0, .int .u64 0, .int .u64 0, .int .u64 0, .int .u64 0, .int .u64 0, .int .u64 1, .int .u64 1, .slice (some ⟨w2.heap.size, 0, none⟩) 1 1] _ (fun w hSw => hSw.1) hu27 rfl (hi27 _)
  try simp only [List.getElem_toArray, List.getElem_cons_zero, List.getElem_cons_succ, Act.put, List.setIfInBounds_toArray, List.set_cons_zero, List.set_cons_succ, Array.toArray_toList]
  refine wpAnyH_ready (rs := [17, 18]) (by kernel_rfl) (by simp) ?_
  refine AllReadyH.cons (i := 17) rfl (fun K hK => ?_) (AllReadyH.cons (i := 18) rfl (fun K hK => ?_) AllReadyH.nil)
  · skip
    go_simp
    have hz7 := hz6.andAlloc (.cells #[.int .i64 0, .int .i64 1, .int .u64 0, .int .u64 0, .int .u64 2048, .int .u64 0, .int .u64 0, .int .u64 0, .int .u64 0, .int .u64 0, .int .u64 0, .int .u64 1, .int .u64 1, .slice (some ⟨w2.heap.size, 0, none⟩) 1 1] 27)
    refine hK.out _ _ (HSS.out _ hz7) (fun hHeld7 => ?_)
    clear hK K hHeld6
    try simp only [List.getElem_toArray, List.getElem_cons_zero, List.getElem_cons_succ, Act.put, List.setIfInBounds_toArray, List.set_cons_zero, List.set_cons_succ, Array.toArray_toList]
    refine wpAnyH_ready (rs := [18]) (by kernel_rfl) (by simp) ?_
    refine AllReadyH.cons (i := 18) rfl (fun K hK => ?_) AllReadyH.nil
    go_simp
    go_at_call 24
    refine (set_any 2 _).mono ?_
    rintro e y8 ⟨rfl, hy8⟩
    have hz8 := hz7.trans hy8
    refine hK.out _ _ (HSS.out _ hz8) (fun hHeld8 => ?_)
    clear hK K hHeld7
    try simp only [List.getElem_toArray, List.getElem_cons_zero, List.getElem_cons_succ, Act.put, List.setIfInBounds_toArray, List.set_cons_zero, List.set_cons_succ, Array.toArray_toList]
    refine wpAnyH_ready (rs := [19]) (by kernel_rfl) (by simp) ?_
    refine AllReadyH.cons (i := 19) rfl (fun K hK => ?_) AllReadyH.nil
    go_simp
    have hz9 := hz8.andAlloc (.cells #[.int .i8 7, .int .i8 9, .int .u64 2, .slice none 0 0, .slice none 0 0] 34)
    refine hK.out _ _ (HSS.out _ hz9) (fun hHeld9 => ?_)
    clear hK K hHeld8
    try simp only [List.getElem_toArray, List.getElem_cons_zero, List.getElem_cons_succ, Act.put, List.setIfInBounds_toArray, List.set_cons_zero, List.set_cons_succ, Array.toArray_toList]
    refine wpAnyH_ready (rs := [20]) (by kernel_rfl) (by simp) ?_
    refine AllReadyH.cons (i := 20) rfl (fun K hK => ?_) AllReadyH.nil
    go_simp
    go_at_call 13
    refine (HTR.out (y6.heap.size) (y8.heap.size) _ hz9 (World.rangeAt.later (hy8.andAlloc _).later (rangeAt_new _ _ _)) (rangeAt_new _ _ _)).mono ?_
    rintro e y10 ⟨rfl, hy10⟩
    have hz10 := hz9.trans hy10
    refine hK.out _ _ (HSS.out _ hz10) (fun hHeld10 => ?_)
    clear hK K hHeld9
    try simp only [List.getElem_toArray, List.getElem_cons_zero, List.getElem_cons_succ, Act.put, List.setIfInBounds_toArray, List.set_cons_zero, List.set_cons_succ, Array.toArray_toList]
    refine wpAnyH_take (i := 21) (v := .bool true) rfl (by kernel_rfl) (by kernel_rfl) (by kernel_rfl) (fun _ _ _ h => h) (Or.inl ⟨by rfl, by (intro w hSw; (try dsimp only at hSw); go_simp)⟩) (by assumption) ?_
    try simp only [List.getElem_toArray, List.getElem_cons_zero, List.getElem_cons_succ, Act.put, List.setIfInBounds_toArray, List.set_cons_zero, List.set_cons_succ, Array.toArray_toList]
    refine wpAnyH_take (i := 22) (v := .bool true) rfl (by kernel_rfl) (by kernel_rfl) (by kernel_rfl) (fun _ _ _ h => h) (Or.inl ⟨by rfl, by (intro w hSw; (try dsimp only at hSw); go_simp)⟩) (by assumption) ?_
    try simp only [List.getElem_toArray, List.getElem_cons_zero, List.getElem_cons_succ, Act.put, List.setIfInBounds_toArray, List.set_cons_zero, List.set_cons_succ, Array.toArray_toList]
    refine wpAnyH_take (i := 23) (v := .int .i64 0) rfl (by kernel_rfl) (by kernel_rfl) (by kernel_rfl) (fun _ _ _ h => h) (Or.inl ⟨by rfl, by (intro w hSw; (try dsimp only at hSw); go_simp)⟩) (by assumption) ?_
    try simp only [List.getElem_toArray, List.getElem_cons_zero, List.getElem_cons_succ, Act.put, List.setIfInBounds_toArray, List.set_cons_zero, List.set_cons_succ, Array.toArray_toList]
    refine wpAnyH_take (i := 24) (v := .bool true) rfl (by kernel_rfl) (by kernel_rfl) (by kernel_rfl) (fun _ _ _ h => h) (Or.inl ⟨by rfl, by (intro w hSw; (try dsimp only at hSw); go_simp)⟩) (by assumption) ?_
    try simp only [List.getElem_toArray, List.getElem_cons_zero, List.getElem_cons_succ, Act.put, List.setIfInBounds_toArray, List.set_cons_zero, List.set_cons_succ, Array.toArray_toList]
    refine wpAnyH_take (i := 25) (v := .bool true) rfl (by kernel_rfl) (by kernel_rfl) (by kernel_rfl) (fun _ _ _ h => h) (Or.inl ⟨by rfl, by (intro w hSw; (try dsimp only at hSw); go_simp)⟩) (by assumption) ?_
    try simp only [List.getElem_toArray, List.getElem_cons_zero, List.getElem_cons_succ, Act.put, List.setIfInBounds_toArray, List.set_cons_zero, List.set_cons_succ, Array.toArray_toList]
    refine wpAnyH_take (i := 26) (v := .bool true) rfl (by kernel_rfl) (by kernel_rfl) (by kernel_rfl) (fun _ _ _ h => h) (Or.inl ⟨by rfl, by (intro w hSw; (try dsimp only at hSw); go_simp)⟩) (by assumption) ?_
    try simp only [List.getElem_toArray, List.getElem_cons_zero, List.getElem_cons_succ, Act.put, List.setIfInBounds_toArray, List.set_cons_zero, List.set_cons_succ, Array.toArray_toList]
    refine wpAnyH_take (i := 27) (v := .slice (some ⟨bR, oR, none⟩) 1 cR) rfl (by kernel_rfl) (by kernel_rfl) (by kernel_rfl) (fun _ _ _ h => h) (Or.inl ⟨by rfl, by (intro w hSw; (try dsimp only at hSw); go_simp)⟩) (by assumption) ?_
    try simp only [List.getElem_toArray, List.getElem_cons_zero, List.getElem_cons_succ, Act.put, List.setIfInBounds_toArray, List.set_cons_zero, List.set_cons_succ, Array.toArray_toList]
    refine wpAnyH_take (i := 28) (v := .int .i64 1) rfl (by kernel_rfl) (by kernel_rfl) (by kernel_rfl) (fun _ _ _ h => h) (Or.inl ⟨by rfl, by (intro w hSw; (try dsimp only at hSw); go_simp)⟩) (by assumption) ?_
    try simp only [List.getElem_toArray, List.getElem_cons_zero, List.getElem_cons_succ, Act.put, List.setIfInBounds_toArray, List.set_cons_zero, List.set_cons_succ, Array.toArray_toList]
    refine wpAnyH_take (i := 29) (v := .bool true) rfl (by kernel_rfl) (by kernel_rfl) (by kernel_rfl) (fun _ _ _ h => h) (Or.inl ⟨by rfl, by (intro w hSw; (try dsimp only at hSw); go_simp)⟩) (by assumption) ?_
    try simp only [List.getElem_toArray, List.getElem_cons_zero, List.getElem_cons_succ, Act.put, List.setIfInBounds_toArray, List.set_cons_zero, List.set_cons_succ, Array.toArray_toList]
    refine wpAnyH_take (i := 30) (v := .bool true) rfl (by kernel_rfl) (by kernel_rfl) (by kernel_rfl) (fun _ _ _ h => h) (Or.inl ⟨by rfl, by (intro w hSw; (try dsimp only at hSw); go_simp)⟩) (by assumption) ?_
    try simp only [List.getElem_toArray, List.getElem_cons_zero, List.getElem_cons_succ, Act.put, List.setIfInBounds_toArray, List.set_cons_zero, List.set_cons_succ, Array.toArray_toList]
    refine wpAnyH_take (i := 31) (v := .bool true) rfl (by kernel_rfl) (by kernel_rfl) (by kernel_rfl) (fun _ _ _ h => h) (Or.inl ⟨by rfl, by (intro w hSw; (try dsimp only at hSw); go_simp)⟩) (by assumption) ?_
    try simp only [List.getElem_toArray, List.getElem_cons_zero, List.getElem_cons_succ, Act.put, List.setIfInBounds_toArray, List.set_cons_zero, List.set_cons_succ, Array.toArray_toList]
    refine wpAnyH_take (i := 32) (v := .slice (some ⟨bR, oR, none⟩) 1 cR) rfl (by kernel_rfl) (by kernel_rfl) (by kernel_rfl) (fun _ _ _ h => h) (Or.inl ⟨by rfl, by (intro w hSw; (try dsimp only at hSw); go_simp)⟩) (by assumption) ?_
    try simp only [List.getElem_toArray, List.getElem_cons_zero, List.getElem_cons_succ, Act.put, List.setIfInBounds_toArray, List.set_cons_zero, List.set_cons_succ, Array.toArray_toList]
    refine wpAnyH_take (i := 33) (v := .pointer (some ⟨bR, oR, none⟩)) rfl (by kernel_rfl) (by kernel_rfl) (by kernel_rfl) (fun _ _ _ h => h) (Or.inl ⟨by rfl, by (intro w hSw; (try dsimp only at hSw); go_simp)⟩) (by assumption) ?_
    try simp only [List.getElem_toArray, List.getElem_cons_zero, List.getElem_cons_succ, Act.put, List.setIfInBounds_toArray, List.set_cons_zero, List.set_cons_succ, Array.toArray_toList]
    refine wpAnyH_take (i := 34) (v := .agg (atH 2 2).cs.toList.toArray) rfl (by kernel_rfl) (by kernel_rfl) (by kernel_rfl) (fun _ _ _ h => h) ?_ (by assumption) ?_
    · try simp only [List.getElem_toArray, List.getElem_cons_zero, List.getElem_cons_succ]
      exact yieldsIf_load_mid (by rfl) _ _ rfl (bR) (oR) rfl (atH 2 2).cs.toList _ (fun w hSw => hSw.2.2) hu24 rfl hi24
    try simp only [List.getElem_toArray, List.getElem_cons_zero, List.getElem_cons_succ, Act.put, List.setIfInBounds_toArray, List.set_cons_zero, List.set_cons_succ, Array.toArray_toList]
    refine wpAnyH_ready (rs := [35]) (by kernel_rfl) (by simp) ?_
    refine AllReadyH.cons (i := 35) rfl (fun K hK => ?_) AllReadyH.nil
    go_simp
    go_at_call 23
    refine (HAT.out _).mono ?_
    rintro e y11 ⟨rfl, hy11⟩
    have hz11 := hz10.trans hy11
    refine hK.out _ _ (HSS.out _ hz11) (fun hHeld11 => ?_)
    clear hK K hHeld10
    try simp only [List.getElem_toArray, List.getElem_cons_zero, List.getElem_cons_succ, Act.put, List.setIfInBounds_toArray, List.set_cons_zero, List.set_cons_succ, Array.toArray_toList]
    refine wpAnyH_take (i := 36) (v := .bool true) rfl (by kernel_rfl) (by kernel_rfl) (by kernel_rfl) (fun _ _ _ h => h) (Or.inl ⟨by rfl, by (intro w hSw; (try dsimp only at hSw); go_simp)⟩) (by assumption) ?_
    try simp only [List.getElem_toArray, List.getElem_cons_zero, List.getElem_cons_succ, Act.put, List.setIfInBounds_toArray, List.set_cons_zero, List.set_cons_succ, Array.toArray_toList]
    refine wpAnyH_take (i := 37) (v := .bool true) rfl (by kernel_rfl) (by kernel_rfl) (by kernel_rfl) (fun _ _ _ h => h) (Or.inl ⟨by rfl, by (intro w hSw; (try dsimp only at hSw); go_simp)⟩) (by assumption) ?_
    try simp only [List.getElem_toArray, List.getElem_cons_zero, List.getElem_cons_succ, Act.put, List.setIfInBounds_toArray, List.set_cons_zero, List.set_cons_succ, Array.toArray_toList]
    refine wpAnyH_take (i := 38) (v := .bool true) rfl (by kernel_rfl) (by kernel_rfl) (by kernel_rfl) (fun _ _ _ h => h) (Or.inl ⟨by rfl, by (intro w hSw; (try dsimp only at hSw); go_simp)⟩) (by assumption) ?_
    try simp only [List.getElem_toArray, List.getElem_cons_zero, List.getElem_cons_succ, Act.put, List.setIfInBounds_toArray, List.set_cons_zero, List.set_cons_succ, Array.toArray_toList]
    refine wpAnyH_done (by kernel_rfl) ?_ _
    refine NoPanic.normal ?_
    go_wp2_with fail
    go_ret
    exact ⟨rfl, HX13.out.trans hz11⟩
  · skip
    go_simp
    go_at_call 24
    refine (set_any 2 _).mono ?_
    rintro e y7 ⟨rfl, hy7⟩
    have hz7 := hz6.trans hy7
    refine hK.out _ _ (HSS.out _ hz7) (fun hHeld7 => ?_)
    clear hK K hHeld6
    try simp only [List.getElem_toArray, List.getElem_cons_zero, List.getElem_cons_succ, Act.put, List.setIfInBounds_toArray, List.set_cons_zero, List.set_cons_succ, Array.toArray_toList]
    refine wpAnyH_ready (rs := [17, 19]) (by kernel_rfl) (by simp) ?_
    refine AllReadyH.cons (i := 17) rfl (fun K hK => ?_) (AllReadyH.cons (i := 19) rfl (fun K hK => ?_) AllReadyH.nil)
    · skip
      go_simp
      have hz8 := hz7.andAlloc (.cells #[.int .i64 0, .int .i64 1, .int .u64 0, .int .u64 0, .int .u64 2048, .int .u64 0, .int .u64 0, .int .u64 0, .int .u64 0, .int .u64 0, .int .u64 0, .int .u64 1, .int .u64 1, .slice (some ⟨w2.heap.size, 0, none⟩) 1 1] 27)
      refine hK.out _ _ (HSS.out _ hz8) (fun hHeld8 => ?_)
      clear hK K hHeld7
      try simp only [List.getElem_toArray, List.getElem_cons_zero, List.getElem_cons_succ, Act.put, List.setIfInBounds_toArray, List.set_cons_zero, List.set_cons_succ, Array.toArray_toList]
      refine wpAnyH_ready (rs := [19]) (by kernel_rfl) (by simp) ?_
      refine AllReadyH.cons (i := 19) rfl (fun K hK => ?_) AllReadyH.nil
      go_simp
      have hz9 := hz8.andAlloc (.cells #[.int .i8 7, .int .i8 9, .int .u64 2, .slice none 0 0, .slice none 0 0] 34)
      refine hK.out _ _ (HSS.out _ hz9) (fun hHeld9 => ?_)
      clear hK K hHeld8
      try simp only [List.getElem_toArray, List.getElem_cons_zero, List.getElem_cons_succ, Act.put, List.setIfInBounds_toArray, List.set_cons_zero, List.set_cons_succ, Array.toArray_toList]
      refine wpAnyH_ready (rs := [20]) (by kernel_rfl) (by simp) ?_
      refine AllReadyH.cons (i := 20) rfl (fun K hK => ?_) AllReadyH.nil
      go_simp
      go_at_call 13
      refine (HTR.out (y7.heap.size) (y7.heap.size + 1) _ hz9 (World.rangeAt.later (Ext.alloc _ _).later (rangeAt_new _ _ _)) (by have := rangeAt_new (y7.alloc (.cells #[.int .i64 0, .int .i64 1, .int .u64 0, .int .u64 0, .int .u64 2048, .int .u64 0, .int .u64 0, .int .u64 0, .int .u64 0, .int .u64 0, .int .u64 0, .int .u64 1, .int .u64 1, .slice (some ⟨w2.heap.size, 0, none⟩) 1 1] 27)) #[.int .i8 7, .int .i8 9, .int .u64 2, .slice none 0 0, .slice none 0 0] 34; rwa [World.size_alloc] at this)).mono ?_
      rintro e y10 ⟨rfl, hy10⟩
      have hz10 := hz9.trans hy10
      refine hK.out _ _ (HSS.out _ hz10) (fun hHeld10 => ?_)
      clear hK K hHeld9
      try simp only [List.getElem_toArray, List.getElem_cons_zero, List.getElem_cons_succ, Act.put, List.setIfInBounds_toArray, List.set_cons_zero, List.set_cons_succ, Array.toArray_toList]
      refine wpAnyH_take (i := 21) (v := .bool true) rfl (by kernel_rfl) (by kernel_rfl) (by kernel_rfl) (fun _ _ _ h => h) (Or.inl ⟨by rfl, by (intro w hSw; (try dsimp only at hSw); go_simp)⟩) (by assumption) ?_
      try simp only [List.getElem_toArray, List.getElem_cons_zero, List.getElem_cons_succ, Act.put, List.setIfInBounds_toArray, List.set_cons_zero, List.set_cons_succ, Array.toArray_toList]
      refine wpAnyH_take (i := 22) (v := .bool true) rfl (by kernel_rfl) (by kernel_rfl) (by kernel_rfl) (fun _ _ _ h => h) (Or.inl ⟨by rfl, by (intro w hSw; (try dsimp only at hSw); go_simp)⟩) (by assumption) ?_
      try simp only [List.getElem_toArray, List.getElem_cons_zero, List.getElem_cons_succ, Act.put, List.setIfInBounds_toArray, List.set_cons_zero, List.set_cons_succ, Array.toArray_toList]
      refine wpAnyH_take (i := 23) (v := .int .i64 0) rfl (by kernel_rfl) (by kernel_rfl) (by kernel_rfl) (fun _ _ _ h => h) (Or.inl ⟨by rfl, by (intro w hSw; (try dsimp only at hSw); go_simp)⟩) (by assumption) ?_
      try simp only [List.getElem_toArray, List.getElem_cons_zero, List.getElem_cons_succ, Act.put, List.setIfInBounds_toArray, List.set_cons_zero, List.set_cons_succ, Array.toArray_toList]
      refine wpAnyH_take (i := 24) (v := .bool true) rfl (by kernel_rfl) (by kernel_rfl) (by kernel_rfl) (fun _ _ _ h => h) (Or.inl ⟨by rfl, by (intro w hSw; (try dsimp only at hSw); go_simp)⟩) (by assumption) ?_
      try simp only [List.getElem_toArray, List.getElem_cons_zero, List.getElem_cons_succ, Act.put, List.setIfInBounds_toArray, List.set_cons_zero, List.set_cons_succ, Array.toArray_toList]
      refine wpAnyH_take (i := 25) (v := .bool true) rfl (by kernel_rfl) (by kernel_rfl) (by kernel_rfl) (fun _ _ _ h => h) (Or.inl ⟨by rfl, by (intro w hSw; (try dsimp only at hSw); go_simp)⟩) (by assumption) ?_
      try simp only [List.getElem_toArray, List.getElem_cons_zero, List.getElem_cons_succ, Act.put, List.setIfInBounds_toArray, List.set_cons_zero, List.set_cons_succ, Array.toArray_toList]
      refine wpAnyH_take (i := 26) (v := .bool true) rfl (by kernel_rfl) (by kernel_rfl) (by kernel_rfl) (fun _ _ _ h => h) (Or.inl ⟨by rfl, by (intro w hSw; (try dsimp only at hSw); go_simp)⟩) (by assumption) ?_
      try simp only [List.getElem_toArray, List.getElem_cons_zero, List.getElem_cons_succ, Act.put, List.setIfInBounds_toArray, List.set_cons_zero, List.set_cons_succ, Array.toArray_toList]
      refine wpAnyH_take (i := 27) (v := .slice (some ⟨bR, oR, none⟩) 1 cR) rfl (by kernel_rfl) (by kernel_rfl) (by kernel_rfl) (fun _ _ _ h => h) (Or.inl ⟨by rfl, by (intro w hSw; (try dsimp only at hSw); go_simp)⟩) (by assumption) ?_
      try simp only [List.getElem_toArray, List.getElem_cons_zero, List.getElem_cons_succ, Act.put, List.setIfInBounds_toArray, List.set_cons_zero, List.set_cons_succ, Array.toArray_toList]
      refine wpAnyH_take (i := 28) (v := .int .i64 1) rfl (by kernel_rfl) (by kernel_rfl) (by kernel_rfl) (fun _ _ _ h => h) (Or.inl ⟨by rfl, by (intro w hSw; (try dsimp only at hSw); go_simp)⟩) (by assumption) ?_
      try simp only [List.getElem_toArray, List.getElem_cons_zero, List.getElem_cons_succ, Act.put, List.setIfInBounds_toArray, List.set_cons_zero, List.set_cons_succ, Array.toArray_toList]
      refine wpAnyH_take (i := 29) (v := .bool true) rfl (by kernel_rfl) (by kernel_rfl) (by kernel_rfl) (fun _ _ _ h => h) (Or.inl ⟨by rfl, by (intro w hSw; (try dsimp only at hSw); go_simp)⟩) (by assumption) ?_
      try simp only [List.getElem_toArray, List.getElem_cons_zero, List.getElem_cons_succ, Act.put, List.setIfInBounds_toArray, List.set_cons_zero, List.set_cons_succ, Array.toArray_toList]
      refine wpAnyH_take (i := 30) (v := .bool true) rfl (by kernel_rfl) (by kernel_rfl) (by kernel_rfl) (fun _ _ _ h => h) (Or.inl ⟨by rfl, by (intro w hSw; (try dsimp only at hSw); go_simp)⟩) (by assumption) ?_
      try simp only [List.getElem_toArray, List.getElem_cons_zero, List.getElem_cons_succ, Act.put, List.setIfInBounds_toArray, List.set_cons_zero, List.set_cons_succ, Array.toArray_toList]
      refine wpAnyH_take (i := 31) (v := .bool true) rfl (by kernel_rfl) (by kernel_rfl) (by kernel_rfl) (fun _ _ _ h => h) (Or.inl ⟨by rfl, by (intro w hSw; (try dsimp only at hSw); go_simp)⟩) (by assumption) ?_
      try simp only [List.getElem_toArray, List.getElem_cons_zero, List.getElem_cons_succ, Act.put, List.setIfInBounds_toArray, List.set_cons_zero, List.set_cons_succ, Array.toArray_toList]
      refine wpAnyH_take (i := 32) (v := .slice (some ⟨bR, oR, none⟩) 1 cR) rfl (by kernel_rfl) (by kernel_rfl) (by kernel_rfl) (fun _ _ _ h => h) (Or.inl ⟨by rfl, by (intro w hSw; (try dsimp only at hSw); go_simp)⟩) (by assumption) ?_
      try simp only [List.getElem_toArray, List.getElem_cons_zero, List.getElem_cons_succ, Act.put, List.setIfInBounds_toArray, List.set_cons_zero, List.set_cons_succ, Array.toArray_toList]
      refine wpAnyH_take (i := 33) (v := .pointer (some ⟨bR, oR, none⟩)) rfl (by kernel_rfl) (by kernel_rfl) (by kernel_rfl) (fun _ _ _ h => h) (Or.inl ⟨by rfl, by (intro w hSw; (try dsimp only at hSw); go_simp)⟩) (by assumption) ?_
      try simp only [List.getElem_toArray, List.getElem_cons_zero, List.getElem_cons_succ, Act.put, List.setIfInBounds_toArray, List.set_cons_zero, List.set_cons_succ, Array.toArray_toList]
      refine wpAnyH_take (i := 34) (v := .agg (atH 2 2).cs.toList.toArray) rfl (by kernel_rfl) (by kernel_rfl) (by kernel_rfl) (fun _ _ _ h => h) ?_ (by assumption) ?_
      · try simp only [List.getElem_toArray, List.getElem_cons_zero, List.getElem_cons_succ]
        exact yieldsIf_load_mid (by rfl) _ _ rfl (bR) (oR) rfl (atH 2 2).cs.toList _ (fun w hSw => hSw.2.2) hu24 rfl hi24
      try simp only [List.getElem_toArray, List.getElem_cons_zero, List.getElem_cons_succ, Act.put, List.setIfInBounds_toArray, List.set_cons_zero, List.set_cons_succ, Array.toArray_toList]
      refine wpAnyH_ready (rs := [35]) (by kernel_rfl) (by simp) ?_
      refine AllReadyH.cons (i := 35) rfl (fun K hK => ?_) AllReadyH.nil
      go_simp
      go_at_call 23
      refine (HAT.out _).mono ?_
      rintro e y11 ⟨rfl, hy11⟩
      have hz11 := hz10.trans hy11
      refine hK.out _ _ (HSS.out _ hz11) (fun hHeld11 => ?_)
      clear hK K hHeld10
      try simp only [List.getElem_toArray, List.getElem_cons_zero, List.getElem_cons_succ, Act.put, List.setIfInBounds_toArray, List.set_cons_zero, List.set_cons_succ, Array.toArray_toList]
      refine wpAnyH_take (i := 36) (v := .bool true) rfl (by kernel_rfl) (by kernel_rfl) (by kernel_rfl) (fun _ _ _ h => h) (Or.inl ⟨by rfl, by (intro w hSw; (try dsimp only at hSw); go_simp)⟩) (by assumption) ?_
      try simp only [List.getElem_toArray, List.getElem_cons_zero, List.getElem_cons_succ, Act.put, List.setIfInBounds_toArray, List.set_cons_zero, List.set_cons_succ, Array.toArray_toList]
      refine wpAnyH_take (i := 37) (v := .bool true) rfl (by kernel_rfl) (by kernel_rfl) (by kernel_rfl) (fun _ _ _ h => h) (Or.inl ⟨by rfl, by (intro w hSw; (try dsimp only at hSw); go_simp)⟩) (by assumption) ?_
      try simp only [List.getElem_toArray, List.getElem_cons_zero, List.getElem_cons_succ, Act.put, List.setIfInBounds_toArray, List.set_cons_zero, List.set_cons_succ, Array.toArray_toList]
      refine wpAnyH_take (i := 38) (v := .bool true) rfl (by kernel_rfl) (by kernel_rfl) (by kernel_rfl) (fun _ _ _ h => h) (Or.inl ⟨by rfl, by (intro w hSw; (try dsimp only at hSw); go_simp)⟩) (by assumption) ?_
      try simp only [List.getElem_toArray, List.getElem_cons_zero, List.getElem_cons_succ, Act.put, List.setIfInBounds_toArray, List.set_cons_zero, List.set_cons_succ, Array.toArray_toList]
      refine wpAnyH_done (by kernel_rfl) ?_ _
      refine NoPanic.normal ?_
      go_wp2_with fail
      go_ret
      exact ⟨rfl, HX13.out.trans hz11⟩
    · skip
      go_simp
      have hz8 := hz7.andAlloc (.cells #[.int .i8 7, .int .i8 9, .int .u64 2, .slice none 0 0, .slice none 0 0] 34)
      refine hK.out _ _ (HSS.out _ hz8) (fun hHeld8 => ?_)
      clear hK K hHeld7
      try simp only [List.getElem_toArray, List.getElem_cons_zero, List.getElem_cons_succ, Act.put, List.setIfInBounds_toArray, List.set_cons_zero, List.set_cons_succ, Array.toArray_toList]
      refine wpAnyH_ready (rs := [17]) (by kernel_rfl) (by simp) ?_
      refine AllReadyH.cons (i := 17) rfl (fun K hK => ?_) AllReadyH.nil
      go_simp
      have hz9 := hz8.andAlloc (.cells #[.int .i64 0, .int .i64 1, .int .u64 0, .int .u64 0, .int .u64 2048, .int .u64 0, .int .u64 0, .int .u64 0, .int .u64 0, .int .u64 0, .int .u64 0, .int .u64 1, .int .u64 1, .slice (some ⟨w2.heap.size, 0, none⟩) 1 1] 27)
      refine hK.out _ _ (HSS.out _ hz9) (fun hHeld9 => ?_)
      clear hK K hHeld8
      try simp only [List.getElem_toArray, List.getElem_cons_zero, List.getElem_cons_succ, Act.put, List.setIfInBounds_toArray, List.set_cons_zero, List.set_cons_succ, Array.toArray_toList]
      refine wpAnyH_ready (rs := [20]) (by kernel_rfl) (by simp) ?_
      refine AllReadyH.cons (i := 20) rfl (fun K hK => ?_) AllReadyH.nil
      go_simp
      go_at_call 13
      refine (HTR.out (y7.heap.size + 1) (y7.heap.size) _ hz9 (by have := rangeAt_new (y7.alloc (.cells #[.int .i8 7, .int .i8 9, .int .u64 2, .slice none 0 0, .slice none 0 0] 34)) #[.int .i64 0, .int .i64 1, .int .u64 0, .int .u64 0, .int .u64 2048, .int .u64 0, .int .u64 0, .int .u64 0, .int .u64 0, .int .u64 0, .int .u64 0, .int .u64 1, .int .u64 1, .slice (some ⟨w2.heap.size, 0, none⟩) 1 1] 27; rwa [World.size_alloc] at this) (World.rangeAt.later (Ext.alloc _ _).later (rangeAt_new _ _ _))).mono ?_
      rintro e y10 ⟨rfl, hy10⟩
      have hz10 := hz9.trans hy10
      refine hK.out _ _ (HSS.out _ hz10) (fun hHeld10 => ?_)
      clear hK K hHeld9
      try simp only [List.getElem_toArray, List.getElem_cons_zero, List.getElem_cons_succ, Act.put, List.setIfInBounds_toArray, List.set_cons_zero, List.set_cons_succ, Array.toArray_toList]
      refine wpAnyH_take (i := 21) (v := .bool true) rfl (by kernel_rfl) (by kernel_rfl) (by kernel_rfl) (fun _ _ _ h => h) (Or.inl ⟨by rfl, by (intro w hSw; (try dsimp only at hSw); go_simp)⟩) (by assumption) ?_
      try simp only [List.getElem_toArray, List.getElem_cons_zero, List.getElem_cons_succ, Act.put, List.setIfInBounds_toArray, List.set_cons_zero, List.set_cons_succ, Array.toArray_toList]
      refine wpAnyH_take (i := 22) (v := .bool true) rfl (by kernel_rfl) (by kernel_rfl) (by kernel_rfl) (fun _ _ _ h => h) (Or.inl ⟨by rfl, by (intro w hSw; (try dsimp only at hSw); go_simp)⟩) (by assumption) ?_
      try simp only [List.getElem_toArray, List.getElem_cons_zero, List.getElem_cons_succ, Act.put, List.setIfInBounds_toArray, List.set_cons_zero, List.set_cons_succ, Array.toArray_toList]
      refine wpAnyH_take (i := 23) (v := .int .i64 0) rfl (by kernel_rfl) (by kernel_rfl) (by kernel_rfl) (fun _ _ _ h => h) (Or.inl ⟨by rfl, by (intro w hSw; (try dsimp only at hSw); go_simp)⟩) (by assumption) ?_
      try simp only [List.getElem_toArray, List.getElem_cons_zero, List.getElem_cons_succ, Act.put, List.setIfInBounds_toArray, List.set_cons_zero, List.set_cons_succ, Array.toArray_toList]
      refine wpAnyH_take (i := 24) (v := .bool true) rfl (by kernel_rfl) (by kernel_rfl) (by kernel_rfl) (fun _ _ _ h => h) (Or.inl ⟨by rfl, by (intro w hSw; (try dsimp only at hSw); go_simp)⟩) (by assumption) ?_
      try simp only [List.getElem_toArray, List.getElem_cons_zero, List.getElem_cons_succ, Act.put, List.setIfInBounds_toArray, List.set_cons_zero, List.set_cons_succ, Array.toArray_toList]
      refine wpAnyH_take (i := 25) (v := .bool true) rfl (by kernel_rfl) (by kernel_rfl) (by kernel_rfl) (fun _ _ _ h => h) (Or.inl ⟨by rfl, by (intro w hSw; (try dsimp only at hSw); go_simp)⟩) (by assumption) ?_
      try simp only [List.getElem_toArray, List.getElem_cons_zero, List.getElem_cons_succ, Act.put, List.setIfInBounds_toArray, List.set_cons_zero, List.set_cons_succ, Array.toArray_toList]
      refine wpAnyH_take (i := 26) (v := .bool true) rfl (by kernel_rfl) (by kernel_rfl) (by kernel_rfl) (fun _ _ _ h => h) (Or.inl ⟨by rfl, by (intro w hSw; (try dsimp only at hSw); go_simp)⟩) (by assumption) ?_
      try simp only [List.getElem_toArray, List.getElem_cons_zero, List.getElem_cons_succ, Act.put, List.setIfInBounds_toArray, List.set_cons_zero, List.set_cons_succ, Array.toArray_toList]
      refine wpAnyH_take (i := 27) (v := .slice (some ⟨bR, oR, none⟩) 1 cR) rfl (by kernel_rfl) (by kernel_rfl) (by kernel_rfl) (fun _ _ _ h => h) (Or.inl ⟨by rfl, by (intro w hSw; (try dsimp only at hSw); go_simp)⟩) (by assumption) ?_
      try simp only [List.getElem_toArray, List.getElem_cons_zero, List.getElem_cons_succ, Act.put, List.setIfInBounds_toArray, List.set_cons_zero, List.set_cons_succ, Array.toArray_toList]
      refine wpAnyH_take (i := 28) (v := .int .i64 1) rfl (by kernel_rfl) (by kernel_rfl) (by kernel_rfl) (fun _ _ _ h => h) (Or.inl ⟨by rfl, by (intro w hSw; (try dsimp only at hSw); go_simp)⟩) (by assumption) ?_
      try simp only [List.getElem_toArray, List.getElem_cons_zero, List.getElem_cons_succ, Act.put, List.setIfInBounds_toArray, List.set_cons_zero, List.set_cons_succ, Array.toArray_toList]
      refine wpAnyH_take (i := 29) (v := .bool true) rfl (by kernel_rfl) (by kernel_rfl) (by kernel_rfl) (fun _ _ _ h => h) (Or.inl ⟨by rfl, by (intro w hSw; (try dsimp only at hSw); go_simp)⟩) (by assumption) ?_
      try simp only [List.getElem_toArray, List.getElem_cons_zero, List.getElem_cons_succ, Act.put, List.setIfInBounds_toArray, List.set_cons_zero, List.set_cons_succ, Array.toArray_toList]
      refine wpAnyH_take (i := 30) (v := .bool true) rfl (by kernel_rfl) (by kernel_rfl) (by kernel_rfl) (fun _ _ _ h => h) (Or.inl ⟨by rfl, by (intro w hSw; (try dsimp only at hSw); go_simp)⟩) (by assumption) ?_
      try simp only [List.getElem_toArray, List.getElem_cons_zero, List.getElem_cons_succ, Act.put, List.setIfInBounds_toArray, List.set_cons_zero, List.set_cons_succ, Array.toArray_toList]
      refine wpAnyH_take (i := 31) (v := .bool true) rfl (by kernel_rfl) (by kernel_rfl) (by kernel_rfl) (fun _ _ _ h => h) (Or.inl ⟨by rfl, by (intro w hSw; (try dsimp only at hSw); go_simp)⟩) (by assumption) ?_
      try simp only [List.getElem_toArray, List.getElem_cons_zero, List.getElem_cons_succ, Act.put, List.setIfInBounds_toArray, List.set_cons_zero, List.set_cons_succ, Array.toArray_toList]
      refine wpAnyH_take (i := 32) (v := .slice (some ⟨bR, oR, none⟩) 1 cR) rfl (by kernel_rfl) (by kernel_rfl) (by kernel_rfl) (fun _ _ _ h => h) (Or.inl ⟨by rfl, by (intro w hSw; (try dsimp only at hSw); go_simp)⟩) (by assumption) ?_
      try simp only [List.getElem_toArray, List.getElem_cons_zero, List.getElem_cons_succ, Act.put, List.setIfInBounds_toArray, List.set_cons_zero, List.set_cons_succ, Array.toArray_toList]
      refine wpAnyH_take (i := 33) (v := .pointer (some ⟨bR, oR, none⟩)) rfl (by kernel_rfl) (by kernel_rfl) (by kernel_rfl) (fun _ _ _ h => h) (Or.inl ⟨by rfl, by (intro w hSw; (try dsimp only at hSw); go_simp)⟩) (by assumption) ?_
      try simp only [List.getElem_toArray, List.getElem_cons_zero, List.getElem_cons_succ, Act.put, List.setIfInBounds_toArray, List.set_cons_zero, List.set_cons_succ, Array.toArray_toList]
      refine wpAnyH_take (i := 34) (v := .agg (atH 2 2).cs.toList.toArray) rfl (by kernel_rfl) (by kernel_rfl) (by kernel_rfl) (fun _ _ _ h => h) ?_ (by assumption) ?_
      · try simp only [List.getElem_toArray, List.getElem_cons_zero, List.getElem_cons_succ]
        exact yieldsIf_load_mid (by rfl) _ _ rfl (bR) (oR) rfl (atH 2 2).cs.toList _ (fun w hSw => hSw.2.2) hu24 rfl hi24
      try simp only [List.getElem_toArray, List.getElem_cons_zero, List.getElem_cons_succ, Act.put, List.setIfInBounds_toArray, List.set_cons_zero, List.set_cons_succ, Array.toArray_toList]
      refine wpAnyH_ready (rs := [35]) (by kernel_rfl) (by simp) ?_
      refine AllReadyH.cons (i := 35) rfl (fun K hK => ?_) AllReadyH.nil
      go_simp
      go_at_call 23
      refine (HAT.out _).mono ?_
      rintro e y11 ⟨rfl, hy11⟩
      have hz11 := hz10.trans hy11
      refine hK.out _ _ (HSS.out _ hz11) (fun hHeld11 => ?_)
      clear hK K hHeld10
      try simp only [List.getElem_toArray, List.getElem_cons_zero, List.getElem_cons_succ, Act.put, List.setIfInBounds_toArray, List.set_cons_zero, List.set_cons_succ, Array.toArray_toList]
      refine wpAnyH_take (i := 36) (v := .bool true) rfl (by kernel_rfl) (by kernel_rfl) (by kernel_rfl) (fun _ _ _ h => h) (Or.inl ⟨by rfl, by (intro w hSw; (try dsimp only at hSw); go_simp)⟩) (by assumption) ?_
      try simp only [List.getElem_toArray, List.getElem_cons_zero, List.getElem_cons_succ, Act.put, List.setIfInBounds_toArray, List.set_cons_zero, List.set_cons_succ, Array.toArray_toList]
      refine wpAnyH_take (i := 37) (v := .bool true) rfl (by kernel_rfl) (by kernel_rfl) (by kernel_rfl) (fun _ _ _ h => h) (Or.inl ⟨by rfl, by (intro w hSw; (try dsimp only at hSw); go_simp)⟩) (by assumption) ?_
      try simp only [List.getElem_toArray, List.getElem_cons_zero, List.getElem_cons_succ, Act.put, List.setIfInBounds_toArray, List.set_cons_zero, List.set_cons_succ, Array.toArray_toList]
      refine wpAnyH_take (i := 38) (v := .bool true) rfl (by kernel_rfl) (by kernel_rfl) (by kernel_rfl) (fun _ _ _ h => h) (Or.inl ⟨by rfl, by (intro w hSw; (try dsimp only at hSw); go_simp)⟩) (by assumption) ?_
      try simp only [List.getElem_toArray, List.getElem_cons_zero, List.getElem_cons_succ, Act.put, List.setIfInBounds_toArray, List.set_cons_zero, List.set_cons_succ, Array.toArray_toList]
      refine wpAnyH_done (by kernel_rfl) ?_ _
      refine NoPanic.normal ?_
      go_wp2_with fail
      go_ret
      exact ⟨rfl, HX13.out.trans hz11⟩
end Go.Proofs.Ytddeelepaiklgaa
