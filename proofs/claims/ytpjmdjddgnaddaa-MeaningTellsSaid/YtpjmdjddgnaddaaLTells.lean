/- MeaningTells: the program's meaning is the document's. -/
import Derived.Test.YtpjmdjddgnaddaaRef19h
import Derived.Test.YtpjmdjddgnaddaaLStar
namespace Go.Proofs.Ytpjmdjddgnaddaa
open Go.RowKit Go.Maps

set_option maxHeartbeats 4000000 in
set_option maxRecDepth 100000 in
theorem lawTells_any (t : Tm) (v : Value) (x : Hdr) (w : World) (hv : t.Val w v) :
    Calls Try.prog 3 #[v, .agg x.cs] w fun e w' => e = .returned (.bool true) ∧ Ext w w' := by
  have HV := Lib.hid hv
  obtain ⟨p, len, cap, rfl⟩ := hv.cs'
  clear hv
  obtain ⟨wA, hA⟩ : ∃ W : World, w.alloc (.cells #[.int .i8 t.op, .int .i8 t.fld, .int .u64 t.n, .slice p len cap] 26) = W := ⟨_, rfl⟩
  have xA : Ext w wA := hA ▸ Ext.alloc _ _
  have sA : wA.heap.size = w.heap.size + 1 := by rw [← hA, World.size_alloc]
  have rA : wA.rangeAt w.heap.size 0 [.int .i8 t.op, .int .i8 t.fld, .int .u64 t.n, .slice p len cap] := by
    have := rangeAt_new w #[.int .i8 t.op, .int .i8 t.fld, .int .u64 t.n, .slice p len cap] 26
    rw [hA] at this
    exact this
  obtain ⟨wB, hB⟩ : ∃ W : World, wA.alloc (.cells x.cs 28) = W := ⟨_, rfl⟩
  have xB : Ext wA wB := hB ▸ Ext.alloc _ _
  have rB : wB.rangeAt (w.heap.size + 1) 0 x.cs.toList := by
    have := rangeAt_new wA x.cs 28
    rw [hB, sA] at this
    exact this
  have xAB := xA.trans xB
  have HRA := Lib.hid (fun W (hW : Ext wB W) => World.rangeAt.later hW.later (World.rangeAt.later xB.later rA))
  have HRX := Lib.hid (fun W (hW : Ext wB W) => World.rangeAt.later hW.later rB)
  have HVB := Lib.hid (fun W (hW : Ext wB W) => HV.out.later (xAB.trans hW).later)
  have HX := Lib.hid xAB
  have HEQ := Lib.hid (show w.alloc (.cells #[.int .i8 t.op, .int .i8 t.fld, .int .u64 t.n, .slice p len cap] 26) = wA ∧ wA.alloc (.cells x.cs 28) = wB from ⟨hA, hB⟩)
  have HC1 := Lib.hid (meaningOf_any t _ x wB (HVB.out _ (Ext.refl _)))
  have HC2 := Lib.hid (fun W (hW : Ext wB W) => refOf_any t _ x W (HVB.out _ hW))
  generalize ofC t x = R at *
  obtain ⟨c, l⟩ := R
  have hu28 : Try.prog.underlying 28 = some (.array 11 23) := Try.underlying28
  have hi28 : (Try.prog.info? 28).map (·.size) = some x.cs.toList.length := by rw [x.len_cs]; kernel_rfl
  obtain ⟨a0, a1, a2, a3⟩ := cells4' (HRA.out _ (Ext.refl _))
  have HRX0 := Lib.hid (HRX.out _ (Ext.refl _))
  clear rA rB xA xB hA hB xAB sA
  go_enter Try.func3, Try.ntmps3
  go_upto_region 1 with fail
  rw [HEQ.out.1, HEQ.out.2]
  clear HEQ
  go_wp2_with (first | (refine wpList_load_H rfl _ rfl _ _ rfl x HRX0.out ?_))
  refine HC1.out.mono ?_
  rintro e w5 ⟨hx5, h64, v5, rfl, hown5⟩
  have HS5 := Lib.hid (HSl.of_owns hown5)
  clear a0 a1 a2 a3 hown5
  obtain ⟨a0, a1, a2, a3⟩ := cells4' (HRA.out _ hx5)
  have HRX1 := Lib.hid (HRX.out _ hx5)
  have HX5 := Lib.hid hx5
  go_upto_region 2 with fail
  go_wp2_with (first | (refine wpList_load_H rfl _ rfl _ _ rfl x HRX1.out ?_))
  refine (HC2.out _ HX5.out).mono ?_
  rintro e w6 ⟨hx6, -, v6, rfl, hs6⟩
  have HSM := Lib.hid (fun W (hW : Ext w6 W) => show Calls Try.prog 10 #[v5, v6] W fun e w' => e = .returned (.bool true) ∧ Ext W w' from by
    have := same_any l l v5 v6 _ _ W ((HS5.out.ext hx6).ext hW) (hs6.ext hW) h64
    rwa [show decide (l = l) = true from by simp] at this)
  have HX6 := Lib.hid (HX5.out.trans hx6)
  clear a0 a1 a2 a3 hs6
  have HSS := Lib.hid (fun W (hW : Ext w6 W) => (show (fun W => W.cell? ⟨w.heap.size, 0, none⟩ = some (.int .i8 t.op) ∧ W.cell? ⟨w.heap.size, 1, none⟩ = some (.int .i8 t.fld) ∧ W.cell? ⟨w.heap.size, 2, none⟩ = some (.int .u64 t.n) ∧ W.cell? ⟨w.heap.size, 3, none⟩ = some (.slice p len cap) ∧ W.rangeAt (w.heap.size + 1) 0 x.cs.toList) W from by
    obtain ⟨d0, d1, d2, d3⟩ := cells4' (HRA.out _ (HX6.out.trans hW))
    exact ⟨by simpa using d0, by simpa using d1, by simpa using d2, by simpa using d3, HRX.out _ (HX6.out.trans hW)⟩))
  obtain ⟨a0, a1, a2, a3, hrx⟩ := HSS.out _ (Ext.refl _)
  have HH1 := Lib.hid (fun W (hW : Ext w6 W) => Holds_any t _ x W (HVB.out _ (HX6.out.trans hW)))
  have HH2 := Lib.hid (fun W (hW : Ext w6 W) => refHoldsTop_any t _ x W (HVB.out _ (HX6.out.trans hW)))
  generalize holdsT t x = h at *
  have hz0 : Ext w6 w6.drew := Ext.drew _
  clear hrx hx6 h64
  go_upto_region 3 with fail
  clear a0 a1 a2 a3
  refine wp_region_noPanic ?_
  refine wp_region_held_drew (S := (fun W => W.cell? ⟨w.heap.size, 0, none⟩ = some (.int .i8 t.op) ∧ W.cell? ⟨w.heap.size, 1, none⟩ = some (.int .i8 t.fld) ∧ W.cell? ⟨w.heap.size, 2, none⟩ = some (.int .u64 t.n) ∧ W.cell? ⟨w.heap.size, 3, none⟩ = some (.slice p len cap) ∧ W.rangeAt (w.heap.size + 1) 0 x.cs.toList)) (by kernel_rfl) (HSS.out _ hz0) (fun hHeld0 => ?_)
  refine wpAnyH_take (i := 0) (v := .int .i64 c) rfl (by kernel_rfl) (by kernel_rfl) (by kernel_rfl) (fun _ _ _ h => h) (Or.inl ⟨by rfl, by (intro w hSw; (try dsimp only at hSw); go_simp)⟩) (by assumption) ?_
  try simp only [List.getElem_toArray, List.getElem_cons_zero, List.getElem_cons_succ, Act.put, List.setIfInBounds_toArray, List.set_cons_zero, List.set_cons_succ, Array.toArray_toList]
  refine wpAnyH_take (i := 1) (v := .int .i64 c) rfl (by kernel_rfl) (by kernel_rfl) (by kernel_rfl) (fun _ _ _ h => h) (Or.inl ⟨by rfl, by (intro w hSw; (try dsimp only at hSw); go_simp)⟩) (by assumption) ?_
  try simp only [List.getElem_toArray, List.getElem_cons_zero, List.getElem_cons_succ, Act.put, List.setIfInBounds_toArray, List.set_cons_zero, List.set_cons_succ, Array.toArray_toList]
  refine wpAnyH_take (i := 2) (v := .bool true) rfl (by kernel_rfl) (by kernel_rfl) (by kernel_rfl) (fun _ _ _ h => h) (Or.inl ⟨by rfl, by (intro w hSw; (try dsimp only at hSw); go_simp)⟩) (by assumption) ?_
  try simp only [List.getElem_toArray, List.getElem_cons_zero, List.getElem_cons_succ, Act.put, List.setIfInBounds_toArray, List.set_cons_zero, List.set_cons_succ, Array.toArray_toList]
  refine wpAnyH_take (i := 3) (v := .bool true) rfl (by kernel_rfl) (by kernel_rfl) (by kernel_rfl) (fun _ _ _ h => h) (Or.inl ⟨by rfl, by (intro w hSw; (try dsimp only at hSw); go_simp)⟩) (by assumption) ?_
  try simp only [List.getElem_toArray, List.getElem_cons_zero, List.getElem_cons_succ, Act.put, List.setIfInBounds_toArray, List.set_cons_zero, List.set_cons_succ, Array.toArray_toList]
  refine wpAnyH_take (i := 4) (v := v5) rfl (by kernel_rfl) (by kernel_rfl) (by kernel_rfl) (fun _ _ _ h => h) (Or.inl ⟨by rfl, by (intro w hSw; (try dsimp only at hSw); go_simp)⟩) (by assumption) ?_
  try simp only [List.getElem_toArray, List.getElem_cons_zero, List.getElem_cons_succ, Act.put, List.setIfInBounds_toArray, List.set_cons_zero, List.set_cons_succ, Array.toArray_toList]
  refine wpAnyH_take (i := 5) (v := v6) rfl (by kernel_rfl) (by kernel_rfl) (by kernel_rfl) (fun _ _ _ h => h) (Or.inl ⟨by rfl, by (intro w hSw; (try dsimp only at hSw); go_simp)⟩) (by assumption) ?_
  try simp only [List.getElem_toArray, List.getElem_cons_zero, List.getElem_cons_succ, Act.put, List.setIfInBounds_toArray, List.set_cons_zero, List.set_cons_succ, Array.toArray_toList]
  refine wpAnyH_ready (rs := [6]) (by kernel_rfl) (by simp) ?_
  refine AllReadyH.cons (i := 6) rfl (fun K hK => ?_) AllReadyH.nil
  go_simp
  go_at_call 10
  refine (HSM.out _ hz0).mono ?_
  rintro e w1 ⟨rfl, hx1⟩
  have hz1 := hz0.trans hx1
  refine hK.out _ _ (HSS.out _ hz1) (fun hHeld1 => ?_)
  clear hK K hHeld0
  try simp only [List.getElem_toArray, List.getElem_cons_zero, List.getElem_cons_succ, Act.put, List.setIfInBounds_toArray, List.set_cons_zero, List.set_cons_succ, Array.toArray_toList]
  refine wpAnyH_take (i := 7) (v := .bool true) rfl (by kernel_rfl) (by kernel_rfl) (by kernel_rfl) (fun _ _ _ h => h) (Or.inl ⟨by rfl, by (intro w hSw; (try dsimp only at hSw); go_simp)⟩) (by assumption) ?_
  try simp only [List.getElem_toArray, List.getElem_cons_zero, List.getElem_cons_succ, Act.put, List.setIfInBounds_toArray, List.set_cons_zero, List.set_cons_succ, Array.toArray_toList]
  refine wpAnyH_take (i := 8) (v := .bool true) rfl (by kernel_rfl) (by kernel_rfl) (by kernel_rfl) (fun _ _ _ h => h) (Or.inl ⟨by rfl, by (intro w hSw; (try dsimp only at hSw); go_simp)⟩) (by assumption) ?_
  try simp only [List.getElem_toArray, List.getElem_cons_zero, List.getElem_cons_succ, Act.put, List.setIfInBounds_toArray, List.set_cons_zero, List.set_cons_succ, Array.toArray_toList]
  refine wpAnyH_take (i := 9) (v := .agg #[.int .i8 t.op, .int .i8 t.fld, .int .u64 t.n, .slice p len cap]) rfl (by kernel_rfl) (by kernel_rfl) (by kernel_rfl) (fun _ _ _ h => h) (Or.inl ⟨by rfl, by (intro w hSw; (try dsimp only at hSw); go_simp)⟩) (by assumption) ?_
  try simp only [List.getElem_toArray, List.getElem_cons_zero, List.getElem_cons_succ, Act.put, List.setIfInBounds_toArray, List.set_cons_zero, List.set_cons_succ, Array.toArray_toList]
  refine wpAnyH_take (i := 10) (v := .agg x.cs.toList.toArray) rfl (by kernel_rfl) (by kernel_rfl) (by kernel_rfl) (fun _ _ _ h => h) ?_ (by assumption) ?_
  · try simp only [List.getElem_toArray, List.getElem_cons_zero, List.getElem_cons_succ]
    exact yieldsIf_load_mid (by rfl) _ _ rfl (w.heap.size + 1) (0) rfl x.cs.toList _ (fun w hSw => hSw.2.2.2.2) hu28 rfl hi28
  try simp only [List.getElem_toArray, List.getElem_cons_zero, List.getElem_cons_succ, Act.put, List.setIfInBounds_toArray, List.set_cons_zero, List.set_cons_succ, Array.toArray_toList]
  refine wpAnyH_take (i := 12) (v := .agg #[.int .i8 t.op, .int .i8 t.fld, .int .u64 t.n, .slice p len cap]) rfl (by kernel_rfl) (by kernel_rfl) (by kernel_rfl) (fun _ _ _ h => h) (Or.inl ⟨by rfl, by (intro w hSw; (try dsimp only at hSw); go_simp)⟩) (by assumption) ?_
  try simp only [List.getElem_toArray, List.getElem_cons_zero, List.getElem_cons_succ, Act.put, List.setIfInBounds_toArray, List.set_cons_zero, List.set_cons_succ, Array.toArray_toList]
  refine wpAnyH_take (i := 13) (v := .agg x.cs.toList.toArray) rfl (by kernel_rfl) (by kernel_rfl) (by kernel_rfl) (fun _ _ _ h => h) ?_ (by assumption) ?_
  · try simp only [List.getElem_toArray, List.getElem_cons_zero, List.getElem_cons_succ]
    exact yieldsIf_load_mid (by rfl) _ _ rfl (w.heap.size + 1) (0) rfl x.cs.toList _ (fun w hSw => hSw.2.2.2.2) hu28 rfl hi28
  try simp only [List.getElem_toArray, List.getElem_cons_zero, List.getElem_cons_succ, Act.put, List.setIfInBounds_toArray, List.set_cons_zero, List.set_cons_succ, Array.toArray_toList]
  refine wpAnyH_ready (rs := [11]) (by kernel_rfl) (by simp) ?_
  refine AllReadyH.cons (i := 11) rfl (fun K hK => ?_) AllReadyH.nil
  go_simp
  go_at_call 11
  refine (HH1.out _ hz1).mono ?_
  rintro e w2 ⟨rfl, hx2⟩
  have hz2 := hz1.trans hx2
  refine hK.out _ _ (HSS.out _ hz2) (fun hHeld2 => ?_)
  clear hK K hHeld1
  try simp only [List.getElem_toArray, List.getElem_cons_zero, List.getElem_cons_succ, Act.put, List.setIfInBounds_toArray, List.set_cons_zero, List.set_cons_succ, Array.toArray_toList]
  refine wpAnyH_ready (rs := [14]) (by kernel_rfl) (by simp) ?_
  refine AllReadyH.cons (i := 14) rfl (fun K hK => ?_) AllReadyH.nil
  go_simp
  go_at_call 12
  refine (HH2.out _ hz2).mono ?_
  rintro e w3 ⟨rfl, hx3⟩
  have hz3 := hz2.trans hx3
  refine hK.out _ _ (HSS.out _ hz3) (fun hHeld3 => ?_)
  clear hK K hHeld2
  try simp only [List.getElem_toArray, List.getElem_cons_zero, List.getElem_cons_succ, Act.put, List.setIfInBounds_toArray, List.set_cons_zero, List.set_cons_succ, Array.toArray_toList]
  refine wpAnyH_take (i := 15) (v := .bool true) rfl (by kernel_rfl) (by kernel_rfl) (by kernel_rfl) (fun _ _ _ h => h) (Or.inl ⟨by rfl, by (intro w hSw; (try dsimp only at hSw); go_simp)⟩) (by assumption) ?_
  try simp only [List.getElem_toArray, List.getElem_cons_zero, List.getElem_cons_succ, Act.put, List.setIfInBounds_toArray, List.set_cons_zero, List.set_cons_succ, Array.toArray_toList]
  refine wpAnyH_take (i := 16) (v := .bool true) rfl (by kernel_rfl) (by kernel_rfl) (by kernel_rfl) (fun _ _ _ h => h) (Or.inl ⟨by rfl, by (intro w hSw; (try dsimp only at hSw); go_simp)⟩) (by assumption) ?_
  try simp only [List.getElem_toArray, List.getElem_cons_zero, List.getElem_cons_succ, Act.put, List.setIfInBounds_toArray, List.set_cons_zero, List.set_cons_succ, Array.toArray_toList]
  refine wpAnyH_take (i := 17) (v := .bool true) rfl (by kernel_rfl) (by kernel_rfl) (by kernel_rfl) (fun _ _ _ h => h) (Or.inl ⟨by rfl, by (intro w hSw; (try dsimp only at hSw); go_simp)⟩) (by assumption) ?_
  try simp only [List.getElem_toArray, List.getElem_cons_zero, List.getElem_cons_succ, Act.put, List.setIfInBounds_toArray, List.set_cons_zero, List.set_cons_succ, Array.toArray_toList]
  refine wpAnyH_ready (rs := [18]) (by kernel_rfl) (by simp) ?_
  refine AllReadyH.cons (i := 18) rfl (fun K hK => ?_) AllReadyH.nil
  go_simp
  go_at_call 13
  refine (wakes_any _).mono ?_
  rintro e w4 ⟨rfl, hx4⟩
  have hz4 := hz3.trans hx4
  refine hK.out _ _ (HSS.out _ hz4) (fun hHeld4 => ?_)
  clear hK K hHeld3
  try simp only [List.getElem_toArray, List.getElem_cons_zero, List.getElem_cons_succ, Act.put, List.setIfInBounds_toArray, List.set_cons_zero, List.set_cons_succ, Array.toArray_toList]
  refine wpAnyH_take (i := 19) (v := .bool true) rfl (by kernel_rfl) (by kernel_rfl) (by kernel_rfl) (fun _ _ _ h => h) (Or.inl ⟨by rfl, by (intro w hSw; (try dsimp only at hSw); go_simp)⟩) (by assumption) ?_
  try simp only [List.getElem_toArray, List.getElem_cons_zero, List.getElem_cons_succ, Act.put, List.setIfInBounds_toArray, List.set_cons_zero, List.set_cons_succ, Array.toArray_toList]
  refine wpAnyH_take (i := 20) (v := .bool true) rfl (by kernel_rfl) (by kernel_rfl) (by kernel_rfl) (fun _ _ _ h => h) (Or.inl ⟨by rfl, by (intro w hSw; (try dsimp only at hSw); go_simp)⟩) (by assumption) ?_
  try simp only [List.getElem_toArray, List.getElem_cons_zero, List.getElem_cons_succ, Act.put, List.setIfInBounds_toArray, List.set_cons_zero, List.set_cons_succ, Array.toArray_toList]
  refine wpAnyH_done (by kernel_rfl) ?_ _
  refine NoPanic.normal ?_
  go_wp2_with fail
  go_ret
  exact ⟨rfl, HX.out.trans (HX6.out.trans hz4)⟩
end Go.Proofs.Ytpjmdjddgnaddaa
