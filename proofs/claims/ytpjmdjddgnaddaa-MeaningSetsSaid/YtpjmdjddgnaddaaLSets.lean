/- MeaningSets, walked. -/
import Derived.Test.YtpjmdjddgnaddaaLawOf
import Derived.Test.YtpjmdjddgnaddaaWakes
import Derived.Test.YtpjmdjddgnaddaaSets
import Derived.Test.YtpjmdjddgnaddaaLStar
namespace Go.Proofs.Ytpjmdjddgnaddaa
open Go.RowKit Go.Maps

set_option maxRecDepth 100000 in
set_option maxHeartbeats 8000000 in
theorem lawSets_any (t : Tm) (v : Value) (x : Hdr) (w : World) (hv : t.Val w v) :
    Calls Try.prog 7 #[v, .agg x.cs] w fun e w' => e = .returned (.bool true) ∧ Ext w w' := by
  have HT := Lib.hid hv
  obtain ⟨pa, la, ka, rfl⟩ := hv.cs
  have HBD := Lib.hid hv.bd
  clear hv
  obtain ⟨wA, hA⟩ : ∃ W : World, w.alloc (.cells #[.int .i8 t.op, .int .i8 t.fld, .int .u64 t.n, .slice pa la ka] 26) = W := ⟨_, rfl⟩
  have xA : Ext w wA := hA ▸ Ext.alloc _ _
  have sA : wA.heap.size = w.heap.size + 1 := by rw [← hA, World.size_alloc]
  have rA : wA.rangeAt (w.heap.size) 0 [.int .i8 t.op, .int .i8 t.fld, .int .u64 t.n, .slice pa la ka] := by
    have := rangeAt_new w #[.int .i8 t.op, .int .i8 t.fld, .int .u64 t.n, .slice pa la ka] 26
    rw [hA] at this
    exact this
  obtain ⟨wC, hC⟩ : ∃ W : World, wA.alloc (.cells x.cs 28) = W := ⟨_, rfl⟩
  have xC : Ext wA wC := hC ▸ Ext.alloc _ _
  have rC : wC.rangeAt (w.heap.size + 1) 0 x.cs.toList := by
    have := rangeAt_new wA x.cs 28
    rw [hC, sA] at this
    exact this
  have HRA := Lib.hid (fun W (hW : Ext wC W) => World.rangeAt.later (xC.trans hW).later rA)
  have HRX := Lib.hid (fun W (hW : Ext wC W) => World.rangeAt.later hW.later rC)
  have HVA := Lib.hid (fun W (hW : Ext wC W) => HT.out.later ((xA.trans xC).trans hW).later)
  have HZ := Lib.hid (xA.trans xC)
  have HEQ := Lib.hid (And.intro hA hC)
  have HC := Lib.hid (meaningOf_any t _ x wC (HT.out.later (xA.trans xC).later))
  clear xA xC sA rA rC hA hC
  go_enter Try.func7, Try.ntmps7
  go_upto_region 1 with fail
  rw [HEQ.out.1, HEQ.out.2]
  clear HEQ
  obtain ⟨a0, a1, a2, a3⟩ := cells4 (HRA.out _ (Ext.refl _))
  go_wp2_with (first | (refine wpList_load_H rfl _ rfl (w.heap.size + 1) 0 rfl x (HRX.out _ (Ext.refl _)) ?_))
  refine HC.out.mono ?_
  rintro e w1 ⟨hx1, h64, s, rfl, hown⟩
  have HS := Lib.hid (HSl.of_owns hown)
  have HX1 := Lib.hid hx1
  obtain ⟨p, len, cap, rfl, hlen, hl⟩ := HS.out
  have HL := Lib.hid hlen
  have hlen64 : len ≤ 64 := by omega
  clear hown hlen HC a0 a1 a2 a3 HS h64
  by_cases h0 : (ofC t x).1 = 0
  · have H0 := Lib.hid h0
    rw [h0]
    clear h0
    go_wp2_with fail
    go_loopw [26] (fun i wr => ∃ j : Nat, j ≤ len ∧ i = .int .i64 j ∧ Hid (Ext w1 wr)) (fun i _ => len - (intOf i).toNat)
    case atStart => exact ⟨0, Nat.zero_le _, rfl, Ext.refl _⟩
    case round =>
      obtain ⟨wo, rfl⟩ : ∃ wo : World, wo = wr := ⟨_, rfl⟩
      obtain ⟨j, hj, rfl, hx⟩ := hrel
      by_cases hlt : j < len
      · have hjl : j < (ofC t x).2.length := by rw [← HL.out]; exact hlt
        rcases hl with hl | ⟨b, o, rfl, hb, hr⟩
        · exfalso; rw [hl] at hjl; simp at hjl
        have hre := Lib.hid (World.rangeAt.later hx.out.later (rangeAt_get Hdr.len_cs hr j hjl))
        have HSet := Lib.hid (fun k (hk : k < 11) => told_sets HBD.out H0.out _ (List.getElem_mem hjl) k hk)
        obtain ⟨wY, hY⟩ : ∃ W : World, wo.alloc (.cells ((ofC t x).2[j]).cs 28) = W := ⟨_, rfl⟩
        have xY : Ext wo wY := hY ▸ Ext.alloc _ _
        have rY : wY.rangeAt wo.heap.size 0 ((ofC t x).2[j]).cs.toList := by
          have := rangeAt_new wo ((ofC t x).2[j]).cs 28
          rw [hY] at this
          exact this
        have HXY := Lib.hid (hx.out.trans xY)
        have HRY := Lib.hid rY
        have HEY := Lib.hid hY
        have HAP := Lib.hid (fun (i : Nat) (hi : i + 1 = j) => show (ofC t x).2[i]'(by omega) ≠ (ofC t x).2[j] from by subst hi; exact told_apart H0.out i hjl)
        have hrp := Lib.hid (fun (i : Nat) (hi : i + 1 = j) W (hW : Ext w1 W) => World.rangeAt.later hW.later (rangeAt_get Hdr.len_cs hr i (by omega)))
        generalize hyj : (ofC t x).2[j] = y at *
        clear xY rY hY hr
        go_upto_region 7 with (first
          | (refine wpList_store_new rfl 28 _ _ rfl _ y.cs rfl rfl (by rw [y.size_cs]; kernel_rfl) (by rw [y.size_cs]; rfl) (all_oneCell_toArray y.one) ?_)
          | (refine wpList_load_H rfl _ rfl b (o + j * 11) rfl y hre.out ?_))
        have hEY' : Ext wo wY := HEY.out ▸ Ext.alloc _ _
        rw [HEY.out]
        clear HEY
        go_wp2_with fail
        go_loopw [31] (fun s wr => ∃ k : Nat, k ≤ 11 ∧ s = .int .i64 k ∧ Hid (Ext wY wr)) (fun s _ => 11 - (intOf s).toNat)
        case atStart => exact ⟨0, by omega, rfl, Ext.refl _⟩
        case round =>
          obtain ⟨k, hk, rfl, hxk⟩ := hrel
          by_cases hlk : k < 11
          · have hxk' := (HX1.out.trans HXY.out).trans hxk.out
            have HSS := Lib.hid (fun W (hW : Ext wC W) (hW2 : Ext wY W) => (show (fun W => W.cell? ⟨w.heap.size, 0, none⟩ = some (.int .i8 t.op) ∧ W.cell? ⟨w.heap.size, 1, none⟩ = some (.int .i8 t.fld) ∧ W.cell? ⟨w.heap.size, 2, none⟩ = some (.int .u64 t.n) ∧ W.cell? ⟨w.heap.size, 3, none⟩ = some (.slice pa la ka) ∧ W.cell? ⟨w.heap.size + 1, k, none⟩ = some (.int .u64 (x.f k)) ∧ W.cell? ⟨wo.heap.size, k, none⟩ = some (.int .u64 (y.f k))) W from by
              obtain ⟨a0, a1, a2, a3⟩ := cells4 (HRA.out _ hW)
              refine ⟨a0, a1, a2, a3, ?_, ?_⟩
              · have := cellAt (HRX.out _ hW) k hlk
                rwa [Nat.zero_add] at this
              · have := cellAt (World.rangeAt.later hW2.later HRY.out) k hlk
                rwa [Nat.zero_add] at this))
            obtain ⟨a0, a1, a2, a3, b0, b1⟩ := HSS.out _ hxk' hxk.out
            have HCk := Lib.hid (fun W (hW : Ext wC W) => show Calls Try.prog 21 #[.agg #[.int .i8 t.op, .int .i8 t.fld, .int .u64 t.n, .slice pa la ka], .int .i8 (IntKind.i8.wrap k), .int .u64 (y.f k)] W fun e w' => e = .returned (.bool (t.setsT k (y.f k))) ∧ Ext W w' from by
              have hw8 : IntKind.i8.wrap (k : Int) = k := by
                have : k = 0 ∨ k = 1 ∨ k = 2 ∨ k = 3 ∨ k = 4 ∨ k = 5 ∨ k = 6 ∨ k = 7 ∨ k = 8 ∨ k = 9 ∨ k = 10 := by omega
                rcases this with rfl | rfl | rfl | rfl | rfl | rfl | rfl | rfl | rfl | rfl | rfl <;> rfl
              rw [hw8]
              exact sets_any t k (y.f k) _ W (HVA.out _ hW))
            have HSk := Lib.hid (HSet.out k hlk)
            by_cases hne : y.f k = x.f k
            · have hd : (y.f k != x.f k) = false := by simpa using hne
              clear HSk HCk
              go_upto_region 10 with fail
              go_quiet (fail)
              go_wp2_with fail
              go_roundw
              case rel => exact ⟨k + 1, by omega, by go_num, hxk.out.andDrewN _⟩
              case measure => simp [intOf]; omega
            · have hd : (y.f k != x.f k) = true := by simpa using hne
              rw [HSk.out hne] at HCk
              go_upto_region 10 with fail
              have hxd := hxk'.andDrew
              have hyd := hxk.out.andDrew
              go_region_held3 (fun W => W.cell? ⟨w.heap.size, 0, none⟩ = some (.int .i8 t.op) ∧ W.cell? ⟨w.heap.size, 1, none⟩ = some (.int .i8 t.fld) ∧ W.cell? ⟨w.heap.size, 2, none⟩ = some (.int .u64 t.n) ∧ W.cell? ⟨w.heap.size, 3, none⟩ = some (.slice pa la ka) ∧ W.cell? ⟨w.heap.size + 1, k, none⟩ = some (.int .u64 (x.f k)) ∧ W.cell? ⟨wo.heap.size, k, none⟩ = some (.int .u64 (y.f k))) (first | exact HSS.out _ hxd hyd | exact HSS.out _ (hxd.trans hx5) (hyd.trans hx5)) (first
                | (go_at_call 21; refine (HCk.out _ hxd).mono ?_; rintro e w5 ⟨rfl, hx5⟩))
              go_wp2_with fail
              go_roundw
              case rel => exact ⟨k + 1, by omega, by go_num, hyd.trans hx5⟩
              case measure => simp [intOf]; omega
          · have hxk' := (HX1.out.trans HXY.out).trans hxk.out
            have hwr : Ext w1 wr := HXY.out.trans hxk.out
            have hry := World.rangeAt.later hxk.out.later HRY.out
            have q0 : wr.cell? ⟨wo.heap.size, 0, none⟩ = some (.int .u64 (y.f 0)) := cellAt hry 0 (by omega)
            have q1 : wr.cell? ⟨wo.heap.size, 1, none⟩ = some (.int .u64 (y.f 1)) := by have := cellAt hry 1 (by omega); rwa [Nat.zero_add] at this
            have q2 : wr.cell? ⟨wo.heap.size, 2, none⟩ = some (.int .u64 (y.f 2)) := by have := cellAt hry 2 (by omega); rwa [Nat.zero_add] at this
            have q3 : wr.cell? ⟨wo.heap.size, 3, none⟩ = some (.int .u64 (y.f 3)) := by have := cellAt hry 3 (by omega); rwa [Nat.zero_add] at this
            have q4 : wr.cell? ⟨wo.heap.size, 4, none⟩ = some (.int .u64 (y.f 4)) := by have := cellAt hry 4 (by omega); rwa [Nat.zero_add] at this
            have q5 : wr.cell? ⟨wo.heap.size, 5, none⟩ = some (.int .u64 (y.f 5)) := by have := cellAt hry 5 (by omega); rwa [Nat.zero_add] at this
            have q6 : wr.cell? ⟨wo.heap.size, 6, none⟩ = some (.int .u64 (y.f 6)) := by have := cellAt hry 6 (by omega); rwa [Nat.zero_add] at this
            have q7 : wr.cell? ⟨wo.heap.size, 7, none⟩ = some (.int .u64 (y.f 7)) := by have := cellAt hry 7 (by omega); rwa [Nat.zero_add] at this
            have q8 : wr.cell? ⟨wo.heap.size, 8, none⟩ = some (.int .u64 (y.f 8)) := by have := cellAt hry 8 (by omega); rwa [Nat.zero_add] at this
            have q9 : wr.cell? ⟨wo.heap.size, 9, none⟩ = some (.int .u64 (y.f 9)) := by have := cellAt hry 9 (by omega); rwa [Nat.zero_add] at this
            have q10 : wr.cell? ⟨wo.heap.size, 10, none⟩ = some (.int .u64 (y.f 10)) := by have := cellAt hry 10 (by omega); rwa [Nat.zero_add] at this
            have hg := guardH
            clear hry
            by_cases hj0 : j = 0
            · subst hj0
              go_upto_region 13 with fail
              go_quiet (fail)
              go_wp2_with fail
              go_roundw
              case rel => exact ⟨0 + 1, by omega, by go_num, hx.out.trans ((hEY'.trans hxk.out).andDrewN _)⟩
              case measure => simp [intOf]; omega
            · obtain ⟨i, rfl⟩ : ∃ i, j = i + 1 := ⟨j - 1, by omega⟩
              have hri := hrp.out i rfl wr hwr
              have p0 : wr.cell? ⟨b, o + i * 11, none⟩ = some (.int .u64 (((ofC t x).2[i]'(by omega)).f 0)) := cellAt hri 0 (by omega)
              have p1 : wr.cell? ⟨b, o + i * 11 + 1, none⟩ = some (.int .u64 (((ofC t x).2[i]'(by omega)).f 1)) := cellAt hri 1 (by omega)
              have p2 : wr.cell? ⟨b, o + i * 11 + 2, none⟩ = some (.int .u64 (((ofC t x).2[i]'(by omega)).f 2)) := cellAt hri 2 (by omega)
              have p3 : wr.cell? ⟨b, o + i * 11 + 3, none⟩ = some (.int .u64 (((ofC t x).2[i]'(by omega)).f 3)) := cellAt hri 3 (by omega)
              have p4 : wr.cell? ⟨b, o + i * 11 + 4, none⟩ = some (.int .u64 (((ofC t x).2[i]'(by omega)).f 4)) := cellAt hri 4 (by omega)
              have p5 : wr.cell? ⟨b, o + i * 11 + 5, none⟩ = some (.int .u64 (((ofC t x).2[i]'(by omega)).f 5)) := cellAt hri 5 (by omega)
              have p6 : wr.cell? ⟨b, o + i * 11 + 6, none⟩ = some (.int .u64 (((ofC t x).2[i]'(by omega)).f 6)) := cellAt hri 6 (by omega)
              have p7 : wr.cell? ⟨b, o + i * 11 + 7, none⟩ = some (.int .u64 (((ofC t x).2[i]'(by omega)).f 7)) := cellAt hri 7 (by omega)
              have p8 : wr.cell? ⟨b, o + i * 11 + 8, none⟩ = some (.int .u64 (((ofC t x).2[i]'(by omega)).f 8)) := cellAt hri 8 (by omega)
              have p9 : wr.cell? ⟨b, o + i * 11 + 9, none⟩ = some (.int .u64 (((ofC t x).2[i]'(by omega)).f 9)) := cellAt hri 9 (by omega)
              have p10 : wr.cell? ⟨b, o + i * 11 + 10, none⟩ = some (.int .u64 (((ofC t x).2[i]'(by omega)).f 10)) := cellAt hri 10 (by omega)
              have hap := HAP.out i rfl
              have he := eqH ((ofC t x).2[i]'(by omega)) y
              simp only [Hdr.cs_eq] at he
              rw [show decide ((ofC t x).2[i]'(by omega) = y) = false from by simpa using hap] at he
              generalize ((ofC t x).2[i]'(by omega)) = z at *
              clear hri hap
              go_upto_region 13 with fail
              go_quiet (fail)
              go_wp2_with fail
              go_roundw
              case rel => exact ⟨i + 1 + 1, by omega, by go_num, hx.out.trans ((hEY'.trans hxk.out).andDrewN _)⟩
              case measure => simp [intOf]; omega
      · go_wp2_with fail
        refine (wakes_any _).mono ?_
        rintro e w2 ⟨rfl, hx2⟩
        go_wp2_with fail
        go_ret
        exact ⟨rfl, ((HZ.out.trans HX1.out).trans hx.out).trans hx2⟩
  · have hd : ((ofC t x).1 != 0) = true := by simpa using h0
    have hz : len = 0 := by rw [HL.out, told_not h0]; rfl
    subst hz
    generalize (ofC t x).1 = y at *
    clear h0
    go_wp2_with fail
    refine (wakes_any w1).mono ?_
    rintro e w2 ⟨rfl, hx2⟩
    go_wp2_with fail
    go_ret
    exact ⟨rfl, (HZ.out.trans HX1.out).trans hx2⟩
end Go.Proofs.Ytpjmdjddgnaddaa
