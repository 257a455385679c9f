/- JudgeEnds, walked. -/
import Derived.Test.YtddeelepaiklgaaJWakes
import Derived.Test.YtddeelepaiklgaaJEndsP
namespace Go.Proofs.Ytddeelepaiklgaa
open Go.RowKit Go.Maps Go.Sort Go.Lib
set_option linter.unusedSimpArgs false

set_option maxHeartbeats 8000000 in
set_option maxRecDepth 100000 in
theorem lawEnds_any (t : Tm) (q1 : List Qr) (wires : List WireD) (x : Hdr) (v1 wv : Value) (w : World) (h1 : PVal w t q1 v1) (hw : SlOf WAt 4 w wires wv) :
    Calls Try.prog 7 #[v1, wv, .agg x.cs] w fun e w' => e = .returned (.bool true) ∧ Ext w w' := by
  have HPV := Lib.hid h1
  obtain ⟨p, len, cap, qv, rfl, hvt, -⟩ := h1
  have HWS := Lib.hid (fun W (hW : Ext w W) => show SlOf WAt 4 W wires wv from by
    obtain ⟨a, b, c, e1, e2, e3, e4, e5⟩ := hw
    exact ⟨a, b, c, e1, e2, e3, e4, e5.imp id fun ⟨b, o, hp, h⟩ => ⟨b, o, hp, fun i hi => ⟨World.rangeAt.later hW.later (h i hi).1, (h i hi).2⟩⟩⟩)
  obtain ⟨wp, wl, wq, rfl⟩ : ∃ a b c, wv = .slice a b c := by obtain ⟨a, b, c, h, -⟩ := hw; exact ⟨a, b, c, h⟩
  obtain ⟨wA, hA⟩ : ∃ W : World, w.alloc (.cells #[.int .i8 t.op, .int .i8 t.fld, .int .u64 t.n, .slice p len cap, qv] 34) = W := ⟨_, rfl⟩
  have xA : Ext w wA := hA ▸ Ext.alloc _ _
  have sA : wA.heap.size = w.heap.size + 1 := by rw [← hA, World.size_alloc]
  have rA : wA.rangeAt w.heap.size 0 [.int .i8 t.op, .int .i8 t.fld, .int .u64 t.n, .slice p len cap, qv] := by rw [← hA]; exact rangeAt_new w _ _
  obtain ⟨wB, hB⟩ : ∃ W : World, wA.alloc (.cells x.cs 24) = W := ⟨_, rfl⟩
  have xB : Ext wA wB := hB ▸ Ext.alloc _ _
  have rB : wB.rangeAt (w.heap.size + 1) 0 x.cs.toList := by rw [← hB, ← sA]; exact rangeAt_new wA _ _
  have HX := Lib.hid (xA.trans xB)
  have HPC := Lib.hid (fun W (hW : Ext wB W) => show W.cell? ⟨w.heap.size, 0, none⟩ = some (.int .i8 t.op) ∧ W.cell? ⟨w.heap.size, 1, none⟩ = some (.int .i8 t.fld) ∧ W.cell? ⟨w.heap.size, 2, none⟩ = some (.int .u64 t.n) ∧ W.cell? ⟨w.heap.size, 3, none⟩ = some (.slice p len cap) ∧ W.cell? ⟨w.heap.size, 4, none⟩ = some qv from by
    have hr := World.rangeAt.later (xB.trans hW).later rA
    exact ⟨by simpa using hr 0 _ rfl, by simpa using hr 1 _ rfl, by simpa using hr 2 _ rfl, by simpa using hr 3 _ rfl, by simpa using hr 4 _ rfl⟩)
  have HRB := Lib.hid (fun W (hW : Ext wB W) => World.rangeAt.later hW.later rB)
  have HEQ := Lib.hid (And.intro hA hB)
  have HVT := Lib.hid (fun W (hW : Ext w W) => hvt.later hW.later)
  have HPL := Lib.hid (reachP_len t q1 wires x)
  have HNOT := Lib.hid (fun h => reachP_not (t := t) (qs := q1) (wires := wires) (x := x) h)
  have HEND := Lib.hid (fun h => ends_all (t := t) (qs := q1) (wires := wires) (x := x) h)
  have HCODE := Lib.hid (fun h => ends_code (t := t) (qs := q1) (wires := wires) (x := x) h)
  have HALO := Lib.hid (fun h => ends_alone (t := t) (qs := q1) (wires := wires) (x := x) h)
  have HRE := Lib.hid (fun W (hW : Ext w W) => reach_any t q1 wires x _ _ W (HPV.out.later hW.later) (HWS.out W hW))
  have HRE0 := Lib.hid (fun W (hW : Ext w W) => reach_any t q1 [] x _ (.slice none 0 0) W (HPV.out.later hW.later) ⟨none, 0, 0, rfl, rfl, by omega, by omega, .inl rfl⟩)
  obtain ⟨b0, b1, b2, b3, b4⟩ := HPC.out _ (Ext.refl _)
  have HR1 := Lib.hid (HRB.out _ (Ext.refl _))
  clear xA rA hA xB rB hB hvt hw sA
  go_enter Try.func7, Try.ntmps7
  go_upto_region 1 with fail
  rw [HEQ.out.1, HEQ.out.2]
  clear HEQ
  by_cases h30 : 30 < wl
  · go_wp2_with fail
    refine (wakes30_any wB).mono ?_
    rintro e w1 ⟨rfl, hx1⟩
    go_wp2_with fail
    go_ret
    exact ⟨rfl, HX.out.trans hx1⟩
  go_wp2_with (first | (refine wpList_load_H rfl _ rfl _ _ rfl x HR1.out ?_))
  refine (HRE.out _ HX.out).mono ?_
  rintro e w1 ⟨⟨r1, rfl, hs1⟩, hx1⟩
  have HX1 := Lib.hid hx1
  clear b0 b1 b2 b3 b4
  generalize reachP t q1 wires x = A at *
  obtain ⟨ca, l⟩ := A
  obtain ⟨p1, n1, c1, rfl, hn1, hr1⟩ := hs1
  have HN1 := Lib.hid hn1
  by_cases e1 : ca = 0
  case neg =>
    have h0 : n1 = 0 := by
      have : l = [] := HNOT.out e1
      rw [hn1, this]; rfl
    subst h0
    clear hn1 hr1
    go_wp2_with fail
    refine (wakes30_any w1).mono ?_
    rintro e w4 ⟨rfl, hx4⟩
    go_wp2_with fail
    go_ret
    exact ⟨rfl, HX.out.trans (HX1.out.trans hx4)⟩
  have HE := Lib.hid (HEND.out e1)
  have HC := Lib.hid (HCODE.out e1)
  have HA := Lib.hid (HALO.out e1)
  have hl2 : l.length ≤ 65600 := HPL.out
  have hn12 : n1 ≤ 65600 := by
    have h : n1 = l.length := hn1
    omega
  have HL := Lib.hid (show l = [] ∨ ∃ b o, p1 = some ⟨b, o, none⟩ ∧ ∀ W, Ext w1 W → W.rangeAt b o (flatH l) from
    hr1.imp id fun ⟨b, o, hp, _, hr⟩ => ⟨b, o, hp, fun W hW => World.rangeAt.later hW.later hr⟩)
  subst e1
  clear hn1 hr1 HNOT HEND HCODE HALO HPL
  have huH := Try.underlying24
  have hiH : ∀ x : Hdr, (Try.prog.info? 24).map (·.size) = some x.cs.toList.length := fun x => by rw [x.len_cs]; kernel_rfl
  have HUS := Lib.hid (And.intro huH hiH)
  clear huH hiH
  go_wp2_with fail
  go_loopw [9] (fun i wr => ∃ i' : Nat, i' ≤ n1 ∧ i = .int .i64 i' ∧ Hid (Ext w1 wr)) (fun i _ => n1 - (intOf i).toNat)
  case atStart => exact ⟨0, Nat.zero_le _, rfl, Ext.refl _⟩
  case round =>
    obtain ⟨wo, rfl⟩ : ∃ wo : World, wo = wr := ⟨_, rfl⟩
    obtain ⟨i, hi, rfl, hx⟩ := hrel
    by_cases hlt : i < n1
    · have hil : i < l.length := by rw [← HN1.out]; exact hlt
      rcases HL.out with h | ⟨b, o, rfl, hl⟩
      · exfalso; subst h; simp at hil
      have hz0 : Ext wo wo.drew := Ext.drew _
      have huH := HUS.out.1
      have hiH := HUS.out.2
      obtain ⟨z, hz⟩ : ∃ z, z = l[i] := ⟨_, rfl⟩
      have hzp := HE.out.2 z (by rw [hz]; exact List.getElem_mem hil)
      have HHD := Lib.hid (fun W => show Calls Try.prog 20 #[.agg z.cs] W fun e w' => e = .returned (.int .i64 0) ∧ Ext W w' from by
        have := head_any z W
        rwa [hzp.1] at this)
      have HLO := Lib.hid (fun W (hW : Ext wo W) => show Calls Try.prog 21 #[.slice wp wl wq, .agg z.cs] W fun e w' => e = .returned (.bool false) ∧ Ext W w' from by
        have := lover_any wires _ z W (HWS.out W (HX.out.trans (HX1.out.trans (hx.out.trans hW))))
        rwa [hzp.2] at this)
      cases i with
      | zero =>
        have HSS := Lib.hid (fun W (hW : Ext wo W) => show (fun W => W.rangeAt b o z.cs.toList) W from by
          have := rangeAt_get Hdr.len_cs (hl W (hx.out.trans hW)) 0 hil
          rw [← hz] at this
          simpa using this)
        clear hz hzp hl
        go_upto_region 9 with fail
        refine wp_region_noPanic ?_
        refine wp_region_held_drew (S := (fun W => W.rangeAt b o z.cs.toList)) (by kernel_rfl) (HSS.out _ hz0) (fun hHeld0 => ?_)
        refine wpAnyH_take (i := 0) (v := .slice (some ⟨b, o, none⟩) n1 c1) rfl (by kernel_rfl) (by kernel_rfl) (by kernel_rfl) (fun _ _ _ h => h) (Or.inl ⟨by rfl, by (intro w hSw; (try dsimp only at hSw); go_simp; try (first | omega | (rw [IntKind.wrap_i64]; omega)))⟩) (by assumption) ?_
        try simp only [List.getElem_toArray, List.getElem_cons_zero, List.getElem_cons_succ, Act.put, List.setIfInBounds_toArray, List.set_cons_zero, List.set_cons_succ, Array.toArray_toList]
        refine wpAnyH_take (i := 1) (v := .int .i64 0) rfl (by kernel_rfl) (by kernel_rfl) (by kernel_rfl) (fun _ _ _ h => h) (Or.inl ⟨by rfl, by (intro w hSw; (try dsimp only at hSw); go_simp; try (first | omega | (rw [IntKind.wrap_i64]; omega)))⟩) (by assumption) ?_
        try simp only [List.getElem_toArray, List.getElem_cons_zero, List.getElem_cons_succ, Act.put, List.setIfInBounds_toArray, List.set_cons_zero, List.set_cons_succ, Array.toArray_toList]
        refine wpAnyH_take (i := 2) (v := .pointer (some ⟨b, o, none⟩)) rfl (by kernel_rfl) (by kernel_rfl) (by kernel_rfl) (fun _ _ _ h => h) (Or.inl ⟨by rfl, by (intro w hSw; (try dsimp only at hSw); go_simp; try (first | omega | (rw [IntKind.wrap_i64]; omega)))⟩) (by assumption) ?_
        try simp only [List.getElem_toArray, List.getElem_cons_zero, List.getElem_cons_succ, Act.put, List.setIfInBounds_toArray, List.set_cons_zero, List.set_cons_succ, Array.toArray_toList]
        refine wpAnyH_take (i := 3) (v := .agg z.cs.toList.toArray) rfl (by kernel_rfl) (by kernel_rfl) (by kernel_rfl) (fun _ _ _ h => h) ?_ (by assumption) ?_
        · try simp only [List.getElem_toArray, List.getElem_cons_zero, List.getElem_cons_succ]
          exact yieldsIf_load_mid (by rfl) _ _ rfl (b) (o) rfl z.cs.toList _ (fun w hSw => hSw) huH rfl (hiH z)
        try simp only [List.getElem_toArray, List.getElem_cons_zero, List.getElem_cons_succ, Act.put, List.setIfInBounds_toArray, List.set_cons_zero, List.set_cons_succ, Array.toArray_toList]
        refine wpAnyH_ready (rs := [4]) (by kernel_rfl) (by simp) ?_
        refine AllReadyH.cons (i := 4) rfl (fun K hK => ?_) AllReadyH.nil
        go_simp
        go_at_call 20
        refine (HHD.out _).mono ?_
        rintro e y1 ⟨rfl, hy1⟩
        have hz1 := hz0.trans hy1
        refine hK.out _ _ (HSS.out _ hz1) (fun hHeld1 => ?_)
        clear hK K hHeld0
        try simp only [List.getElem_toArray, List.getElem_cons_zero, List.getElem_cons_succ, Act.put, List.setIfInBounds_toArray, List.set_cons_zero, List.set_cons_succ, Array.toArray_toList]
        refine wpAnyH_take (i := 5) (v := .bool false) rfl (by kernel_rfl) (by kernel_rfl) (by kernel_rfl) (fun _ _ _ h => h) (Or.inl ⟨by rfl, by (intro w hSw; (try dsimp only at hSw); go_simp; try (first | omega | (rw [IntKind.wrap_i64]; omega)))⟩) (by assumption) ?_
        try simp only [List.getElem_toArray, List.getElem_cons_zero, List.getElem_cons_succ, Act.put, List.setIfInBounds_toArray, List.set_cons_zero, List.set_cons_succ, Array.toArray_toList]
        refine wpAnyH_take (i := 6) (v := .bool false) rfl (by kernel_rfl) (by kernel_rfl) (by kernel_rfl) (fun _ _ _ h => h) (Or.inl ⟨by rfl, by (intro w hSw; (try dsimp only at hSw); go_simp; try (first | omega | (rw [IntKind.wrap_i64]; omega)))⟩) (by assumption) ?_
        try simp only [List.getElem_toArray, List.getElem_cons_zero, List.getElem_cons_succ, Act.put, List.setIfInBounds_toArray, List.set_cons_zero, List.set_cons_succ, Array.toArray_toList]
        refine wpAnyH_take (i := 7) (v := .slice wp wl wq) rfl (by kernel_rfl) (by kernel_rfl) (by kernel_rfl) (fun _ _ _ h => h) (Or.inl ⟨by rfl, by (intro w hSw; (try dsimp only at hSw); go_simp; try (first | omega | (rw [IntKind.wrap_i64]; omega)))⟩) (by assumption) ?_
        try simp only [List.getElem_toArray, List.getElem_cons_zero, List.getElem_cons_succ, Act.put, List.setIfInBounds_toArray, List.set_cons_zero, List.set_cons_succ, Array.toArray_toList]
        refine wpAnyH_take (i := 8) (v := .slice (some ⟨b, o, none⟩) n1 c1) rfl (by kernel_rfl) (by kernel_rfl) (by kernel_rfl) (fun _ _ _ h => h) (Or.inl ⟨by rfl, by (intro w hSw; (try dsimp only at hSw); go_simp; try (first | omega | (rw [IntKind.wrap_i64]; omega)))⟩) (by assumption) ?_
        try simp only [List.getElem_toArray, List.getElem_cons_zero, List.getElem_cons_succ, Act.put, List.setIfInBounds_toArray, List.set_cons_zero, List.set_cons_succ, Array.toArray_toList]
        refine wpAnyH_take (i := 9) (v := .int .i64 0) rfl (by kernel_rfl) (by kernel_rfl) (by kernel_rfl) (fun _ _ _ h => h) (Or.inl ⟨by rfl, by (intro w hSw; (try dsimp only at hSw); go_simp; try (first | omega | (rw [IntKind.wrap_i64]; omega)))⟩) (by assumption) ?_
        try simp only [List.getElem_toArray, List.getElem_cons_zero, List.getElem_cons_succ, Act.put, List.setIfInBounds_toArray, List.set_cons_zero, List.set_cons_succ, Array.toArray_toList]
        refine wpAnyH_take (i := 10) (v := .pointer (some ⟨b, o, none⟩)) rfl (by kernel_rfl) (by kernel_rfl) (by kernel_rfl) (fun _ _ _ h => h) (Or.inl ⟨by rfl, by (intro w hSw; (try dsimp only at hSw); go_simp; try (first | omega | (rw [IntKind.wrap_i64]; omega)))⟩) (by assumption) ?_
        try simp only [List.getElem_toArray, List.getElem_cons_zero, List.getElem_cons_succ, Act.put, List.setIfInBounds_toArray, List.set_cons_zero, List.set_cons_succ, Array.toArray_toList]
        refine wpAnyH_take (i := 11) (v := .agg z.cs.toList.toArray) rfl (by kernel_rfl) (by kernel_rfl) (by kernel_rfl) (fun _ _ _ h => h) ?_ (by assumption) ?_
        · try simp only [List.getElem_toArray, List.getElem_cons_zero, List.getElem_cons_succ]
          exact yieldsIf_load_mid (by rfl) _ _ rfl (b) (o) rfl z.cs.toList _ (fun w hSw => hSw) huH rfl (hiH z)
        try simp only [List.getElem_toArray, List.getElem_cons_zero, List.getElem_cons_succ, Act.put, List.setIfInBounds_toArray, List.set_cons_zero, List.set_cons_succ, Array.toArray_toList]
        refine wpAnyH_ready (rs := [12]) (by kernel_rfl) (by simp) ?_
        refine AllReadyH.cons (i := 12) rfl (fun K hK => ?_) AllReadyH.nil
        go_simp
        go_at_call 21
        refine (HLO.out _ hz1).mono ?_
        rintro e y2 ⟨rfl, hy2⟩
        have hz2 := hz1.trans hy2
        refine hK.out _ _ (HSS.out _ hz2) (fun hHeld2 => ?_)
        clear hK K hHeld1
        try simp only [List.getElem_toArray, List.getElem_cons_zero, List.getElem_cons_succ, Act.put, List.setIfInBounds_toArray, List.set_cons_zero, List.set_cons_succ, Array.toArray_toList]
        refine wpAnyH_take (i := 13) (v := .bool false) rfl (by kernel_rfl) (by kernel_rfl) (by kernel_rfl) (fun _ _ _ h => h) (Or.inl ⟨by rfl, by (intro w hSw; (try dsimp only at hSw); go_simp; try (first | omega | (rw [IntKind.wrap_i64]; omega)))⟩) (by assumption) ?_
        try simp only [List.getElem_toArray, List.getElem_cons_zero, List.getElem_cons_succ, Act.put, List.setIfInBounds_toArray, List.set_cons_zero, List.set_cons_succ, Array.toArray_toList]
        refine wpAnyH_take (i := 14) (v := .bool false) rfl (by kernel_rfl) (by kernel_rfl) (by kernel_rfl) (fun _ _ _ h => h) (Or.inl ⟨by rfl, by (intro w hSw; (try dsimp only at hSw); go_simp; try (first | omega | (rw [IntKind.wrap_i64]; omega)))⟩) (by assumption) ?_
        try simp only [List.getElem_toArray, List.getElem_cons_zero, List.getElem_cons_succ, Act.put, List.setIfInBounds_toArray, List.set_cons_zero, List.set_cons_succ, Array.toArray_toList]
        refine wpAnyH_take (i := 15) (v := .int .i64 0) rfl (by kernel_rfl) (by kernel_rfl) (by kernel_rfl) (fun _ _ _ h => h) (Or.inl ⟨by rfl, by (intro w hSw; (try dsimp only at hSw); go_simp; try (first | omega | (rw [IntKind.wrap_i64]; omega)))⟩) (by assumption) ?_
        try simp only [List.getElem_toArray, List.getElem_cons_zero, List.getElem_cons_succ, Act.put, List.setIfInBounds_toArray, List.set_cons_zero, List.set_cons_succ, Array.toArray_toList]
        refine wpAnyH_take (i := 16) (v := .bool false) rfl (by kernel_rfl) (by kernel_rfl) (by kernel_rfl) (fun _ _ _ h => h) (Or.inl ⟨by rfl, by (intro w hSw; (try dsimp only at hSw); go_simp; try (first | omega | (rw [IntKind.wrap_i64]; omega)))⟩) (by assumption) ?_
        try simp only [List.getElem_toArray, List.getElem_cons_zero, List.getElem_cons_succ, Act.put, List.setIfInBounds_toArray, List.set_cons_zero, List.set_cons_succ, Array.toArray_toList]
        refine wpAnyH_take (i := 17) (v := .bool false) rfl (by kernel_rfl) (by kernel_rfl) (by kernel_rfl) (fun _ _ _ h => h) (Or.inl ⟨by rfl, by (intro w hSw; (try dsimp only at hSw); go_simp; try (first | omega | (rw [IntKind.wrap_i64]; omega)))⟩) (by assumption) ?_
        try simp only [List.getElem_toArray, List.getElem_cons_zero, List.getElem_cons_succ, Act.put, List.setIfInBounds_toArray, List.set_cons_zero, List.set_cons_succ, Array.toArray_toList]
        refine wpAnyH_take (i := 18) (v := undef) rfl (by kernel_rfl) (by kernel_rfl) (by kernel_rfl) (fun _ _ _ h => h) (Or.inr ⟨by rfl, rfl⟩) (by assumption) ?_
        try simp only [List.getElem_toArray, List.getElem_cons_zero, List.getElem_cons_succ, Act.put, List.setIfInBounds_toArray, List.set_cons_zero, List.set_cons_succ, Array.toArray_toList]
        refine wpAnyH_take (i := 19) (v := undef) rfl (by kernel_rfl) (by kernel_rfl) (by kernel_rfl) (fun _ _ _ h => h) (Or.inr ⟨by rfl, rfl⟩) (by assumption) ?_
        try simp only [List.getElem_toArray, List.getElem_cons_zero, List.getElem_cons_succ, Act.put, List.setIfInBounds_toArray, List.set_cons_zero, List.set_cons_succ, Array.toArray_toList]
        refine wpAnyH_take (i := 20) (v := undef) rfl (by kernel_rfl) (by kernel_rfl) (by kernel_rfl) (fun _ _ _ h => h) (Or.inr ⟨by rfl, rfl⟩) (by assumption) ?_
        try simp only [List.getElem_toArray, List.getElem_cons_zero, List.getElem_cons_succ, Act.put, List.setIfInBounds_toArray, List.set_cons_zero, List.set_cons_succ, Array.toArray_toList]
        refine wpAnyH_take (i := 21) (v := undef) rfl (by kernel_rfl) (by kernel_rfl) (by kernel_rfl) (fun _ _ _ h => h) (Or.inr ⟨by rfl, rfl⟩) (by assumption) ?_
        try simp only [List.getElem_toArray, List.getElem_cons_zero, List.getElem_cons_succ, Act.put, List.setIfInBounds_toArray, List.set_cons_zero, List.set_cons_succ, Array.toArray_toList]
        refine wpAnyH_take (i := 22) (v := undef) rfl (by kernel_rfl) (by kernel_rfl) (by kernel_rfl) (fun _ _ _ h => h) (Or.inr ⟨by rfl, rfl⟩) (by assumption) ?_
        try simp only [List.getElem_toArray, List.getElem_cons_zero, List.getElem_cons_succ, Act.put, List.setIfInBounds_toArray, List.set_cons_zero, List.set_cons_succ, Array.toArray_toList]
        refine wpAnyH_take (i := 23) (v := undef) rfl (by kernel_rfl) (by kernel_rfl) (by kernel_rfl) (fun _ _ _ h => h) (Or.inr ⟨by rfl, rfl⟩) (by assumption) ?_
        try simp only [List.getElem_toArray, List.getElem_cons_zero, List.getElem_cons_succ, Act.put, List.setIfInBounds_toArray, List.set_cons_zero, List.set_cons_succ, Array.toArray_toList]
        refine wpAnyH_take (i := 24) (v := undef) rfl (by kernel_rfl) (by kernel_rfl) (by kernel_rfl) (fun _ _ _ h => h) (Or.inr ⟨by rfl, rfl⟩) (by assumption) ?_
        try simp only [List.getElem_toArray, List.getElem_cons_zero, List.getElem_cons_succ, Act.put, List.setIfInBounds_toArray, List.set_cons_zero, List.set_cons_succ, Array.toArray_toList]
        refine wpAnyH_take (i := 25) (v := undef) rfl (by kernel_rfl) (by kernel_rfl) (by kernel_rfl) (fun _ _ _ h => h) (Or.inr ⟨by rfl, rfl⟩) (by assumption) ?_
        try simp only [List.getElem_toArray, List.getElem_cons_zero, List.getElem_cons_succ, Act.put, List.setIfInBounds_toArray, List.set_cons_zero, List.set_cons_succ, Array.toArray_toList]
        refine wpAnyH_take (i := 26) (v := undef) rfl (by kernel_rfl) (by kernel_rfl) (by kernel_rfl) (fun _ _ _ h => h) (Or.inr ⟨by rfl, rfl⟩) (by assumption) ?_
        try simp only [List.getElem_toArray, List.getElem_cons_zero, List.getElem_cons_succ, Act.put, List.setIfInBounds_toArray, List.set_cons_zero, List.set_cons_succ, Array.toArray_toList]
        refine wpAnyH_ready (rs := [27]) (by kernel_rfl) (by simp) ?_
        refine AllReadyH.cons (i := 27) rfl (fun K hK => ?_) AllReadyH.nil
        go_simp
        refine hK.out _ _ (HSS.out _ hz2) (fun hHeld3 => ?_)
        clear hK K hHeld2
        try simp only [List.getElem_toArray, List.getElem_cons_zero, List.getElem_cons_succ, Act.put, List.setIfInBounds_toArray, List.set_cons_zero, List.set_cons_succ, Array.toArray_toList]
        refine wpAnyH_take (i := 28) (v := undef) rfl (by kernel_rfl) (by kernel_rfl) (by kernel_rfl) (fun _ _ _ h => h) (Or.inr ⟨by rfl, rfl⟩) (by assumption) ?_
        try simp only [List.getElem_toArray, List.getElem_cons_zero, List.getElem_cons_succ, Act.put, List.setIfInBounds_toArray, List.set_cons_zero, List.set_cons_succ, Array.toArray_toList]
        refine wpAnyH_take (i := 29) (v := .bool false) rfl (by kernel_rfl) (by kernel_rfl) (by kernel_rfl) (fun _ _ _ h => h) (Or.inl ⟨by rfl, by (intro w hSw; (try dsimp only at hSw); go_simp; try (first | omega | (rw [IntKind.wrap_i64]; omega)))⟩) (by assumption) ?_
        try simp only [List.getElem_toArray, List.getElem_cons_zero, List.getElem_cons_succ, Act.put, List.setIfInBounds_toArray, List.set_cons_zero, List.set_cons_succ, Array.toArray_toList]
        refine wpAnyH_take (i := 30) (v := .bool false) rfl (by kernel_rfl) (by kernel_rfl) (by kernel_rfl) (fun _ _ _ h => h) (Or.inl ⟨by rfl, by (intro w hSw; (try dsimp only at hSw); go_simp; try (first | omega | (rw [IntKind.wrap_i64]; omega)))⟩) (by assumption) ?_
        try simp only [List.getElem_toArray, List.getElem_cons_zero, List.getElem_cons_succ, Act.put, List.setIfInBounds_toArray, List.set_cons_zero, List.set_cons_succ, Array.toArray_toList]
        refine wpAnyH_done (by kernel_rfl) ?_ _
        refine NoPanic.normal ?_
        go_wp2_with fail
        go_roundw
        case rel => exact ⟨0 + 1, by omega, by go_num, hx.out.trans hz2⟩
        case measure => simp [intOf]; omega
      | succ k =>
        obtain ⟨y, hy⟩ : ∃ y, y = l[k]'(by omega) := ⟨_, rfl⟩
        have hlt2 : decide (cmpH y z < 0) = true := by
          have := List.pairwise_iff_getElem.1 HE.out.1 k (k + 1) (by omega) hil (by omega)
          rw [← hy, ← hz] at this
          exact this
        have HLE := Lib.hid (fun W => show Calls Try.prog 22 #[.agg y.cs, .agg z.cs] W fun e w' => e = .returned (.bool true) ∧ Ext W w' from by
          have := refLess_any y z W
          rw [hlt2] at this
          exact this.mono fun e w' ⟨a, n, b⟩ => ⟨a, b ▸ ((Ext.alloc _ _).andAlloc _).andDrewN _⟩)
        have HSS := Lib.hid (fun W (hW : Ext wo W) => show (fun W => W.rangeAt b (o + (k + 1) * 11) z.cs.toList ∧ W.rangeAt b (o + k * 11) y.cs.toList) W from by
          have a1 := rangeAt_get Hdr.len_cs (hl W (hx.out.trans hW)) (k + 1) hil
          have a2 := rangeAt_get Hdr.len_cs (hl W (hx.out.trans hW)) k (by omega)
          rw [← hz] at a1
          rw [← hy] at a2
          exact ⟨a1, a2⟩)
        have hadd : ((k : Int) + 1 - 1) = k := by omega
        clear hz hzp hl hy hlt2
        go_upto_region 9 with fail
        refine wp_region_noPanic ?_
        refine wp_region_held_drew (S := (fun W => W.rangeAt b (o + (k + 1) * 11) z.cs.toList ∧ W.rangeAt b (o + k * 11) y.cs.toList)) (by kernel_rfl) (HSS.out _ hz0) (fun hHeld0 => ?_)
        refine wpAnyH_take (i := 0) (v := .slice (some ⟨b, o, none⟩) n1 c1) rfl (by kernel_rfl) (by kernel_rfl) (by kernel_rfl) (fun _ _ _ h => h) (Or.inl ⟨by rfl, by (intro w hSw; (try dsimp only at hSw); go_simp; try (first | omega | (rw [IntKind.wrap_i64]; omega)))⟩) (by assumption) ?_
        try simp only [List.getElem_toArray, List.getElem_cons_zero, List.getElem_cons_succ, Act.put, List.setIfInBounds_toArray, List.set_cons_zero, List.set_cons_succ, Array.toArray_toList]
        refine wpAnyH_take (i := 1) (v := .int .i64 (k + 1 : Nat)) rfl (by kernel_rfl) (by kernel_rfl) (by kernel_rfl) (fun _ _ _ h => h) (Or.inl ⟨by rfl, by (intro w hSw; (try dsimp only at hSw); go_simp; try (first | omega | (rw [IntKind.wrap_i64]; omega)))⟩) (by assumption) ?_
        try simp only [List.getElem_toArray, List.getElem_cons_zero, List.getElem_cons_succ, Act.put, List.setIfInBounds_toArray, List.set_cons_zero, List.set_cons_succ, Array.toArray_toList]
        refine wpAnyH_take (i := 2) (v := .pointer (some ⟨b, o + (k + 1) * 11, none⟩)) rfl (by kernel_rfl) (by kernel_rfl) (by kernel_rfl) (fun _ _ _ h => h) (Or.inl ⟨by rfl, by (intro w hSw; (try dsimp only at hSw); go_simp; try (first | omega | (rw [IntKind.wrap_i64]; omega)))⟩) (by assumption) ?_
        try simp only [List.getElem_toArray, List.getElem_cons_zero, List.getElem_cons_succ, Act.put, List.setIfInBounds_toArray, List.set_cons_zero, List.set_cons_succ, Array.toArray_toList]
        refine wpAnyH_take (i := 3) (v := .agg z.cs.toList.toArray) rfl (by kernel_rfl) (by kernel_rfl) (by kernel_rfl) (fun _ _ _ h => h) ?_ (by assumption) ?_
        · try simp only [List.getElem_toArray, List.getElem_cons_zero, List.getElem_cons_succ]
          exact yieldsIf_load_mid (by rfl) _ _ rfl (b) (o + (k + 1) * 11) rfl z.cs.toList _ (fun w hSw => hSw.1) huH rfl (hiH z)
        try simp only [List.getElem_toArray, List.getElem_cons_zero, List.getElem_cons_succ, Act.put, List.setIfInBounds_toArray, List.set_cons_zero, List.set_cons_succ, Array.toArray_toList]
        refine wpAnyH_ready (rs := [4]) (by kernel_rfl) (by simp) ?_
        refine AllReadyH.cons (i := 4) rfl (fun K hK => ?_) AllReadyH.nil
        go_simp
        go_at_call 20
        refine (HHD.out _).mono ?_
        rintro e y1 ⟨rfl, hy1⟩
        have hz1 := hz0.trans hy1
        refine hK.out _ _ (HSS.out _ hz1) (fun hHeld1 => ?_)
        clear hK K hHeld0
        try simp only [List.getElem_toArray, List.getElem_cons_zero, List.getElem_cons_succ, Act.put, List.setIfInBounds_toArray, List.set_cons_zero, List.set_cons_succ, Array.toArray_toList]
        refine wpAnyH_take (i := 5) (v := .bool false) rfl (by kernel_rfl) (by kernel_rfl) (by kernel_rfl) (fun _ _ _ h => h) (Or.inl ⟨by rfl, by (intro w hSw; (try dsimp only at hSw); go_simp; try (first | omega | (rw [IntKind.wrap_i64]; omega)))⟩) (by assumption) ?_
        try simp only [List.getElem_toArray, List.getElem_cons_zero, List.getElem_cons_succ, Act.put, List.setIfInBounds_toArray, List.set_cons_zero, List.set_cons_succ, Array.toArray_toList]
        refine wpAnyH_take (i := 6) (v := .bool false) rfl (by kernel_rfl) (by kernel_rfl) (by kernel_rfl) (fun _ _ _ h => h) (Or.inl ⟨by rfl, by (intro w hSw; (try dsimp only at hSw); go_simp; try (first | omega | (rw [IntKind.wrap_i64]; omega)))⟩) (by assumption) ?_
        try simp only [List.getElem_toArray, List.getElem_cons_zero, List.getElem_cons_succ, Act.put, List.setIfInBounds_toArray, List.set_cons_zero, List.set_cons_succ, Array.toArray_toList]
        refine wpAnyH_take (i := 7) (v := .slice wp wl wq) rfl (by kernel_rfl) (by kernel_rfl) (by kernel_rfl) (fun _ _ _ h => h) (Or.inl ⟨by rfl, by (intro w hSw; (try dsimp only at hSw); go_simp; try (first | omega | (rw [IntKind.wrap_i64]; omega)))⟩) (by assumption) ?_
        try simp only [List.getElem_toArray, List.getElem_cons_zero, List.getElem_cons_succ, Act.put, List.setIfInBounds_toArray, List.set_cons_zero, List.set_cons_succ, Array.toArray_toList]
        refine wpAnyH_take (i := 8) (v := .slice (some ⟨b, o, none⟩) n1 c1) rfl (by kernel_rfl) (by kernel_rfl) (by kernel_rfl) (fun _ _ _ h => h) (Or.inl ⟨by rfl, by (intro w hSw; (try dsimp only at hSw); go_simp; try (first | omega | (rw [IntKind.wrap_i64]; omega)))⟩) (by assumption) ?_
        try simp only [List.getElem_toArray, List.getElem_cons_zero, List.getElem_cons_succ, Act.put, List.setIfInBounds_toArray, List.set_cons_zero, List.set_cons_succ, Array.toArray_toList]
        refine wpAnyH_take (i := 9) (v := .int .i64 (k + 1 : Nat)) rfl (by kernel_rfl) (by kernel_rfl) (by kernel_rfl) (fun _ _ _ h => h) (Or.inl ⟨by rfl, by (intro w hSw; (try dsimp only at hSw); go_simp; try (first | omega | (rw [IntKind.wrap_i64]; omega)))⟩) (by assumption) ?_
        try simp only [List.getElem_toArray, List.getElem_cons_zero, List.getElem_cons_succ, Act.put, List.setIfInBounds_toArray, List.set_cons_zero, List.set_cons_succ, Array.toArray_toList]
        refine wpAnyH_take (i := 10) (v := .pointer (some ⟨b, o + (k + 1) * 11, none⟩)) rfl (by kernel_rfl) (by kernel_rfl) (by kernel_rfl) (fun _ _ _ h => h) (Or.inl ⟨by rfl, by (intro w hSw; (try dsimp only at hSw); go_simp; try (first | omega | (rw [IntKind.wrap_i64]; omega)))⟩) (by assumption) ?_
        try simp only [List.getElem_toArray, List.getElem_cons_zero, List.getElem_cons_succ, Act.put, List.setIfInBounds_toArray, List.set_cons_zero, List.set_cons_succ, Array.toArray_toList]
        refine wpAnyH_take (i := 11) (v := .agg z.cs.toList.toArray) rfl (by kernel_rfl) (by kernel_rfl) (by kernel_rfl) (fun _ _ _ h => h) ?_ (by assumption) ?_
        · try simp only [List.getElem_toArray, List.getElem_cons_zero, List.getElem_cons_succ]
          exact yieldsIf_load_mid (by rfl) _ _ rfl (b) (o + (k + 1) * 11) rfl z.cs.toList _ (fun w hSw => hSw.1) huH rfl (hiH z)
        try simp only [List.getElem_toArray, List.getElem_cons_zero, List.getElem_cons_succ, Act.put, List.setIfInBounds_toArray, List.set_cons_zero, List.set_cons_succ, Array.toArray_toList]
        refine wpAnyH_ready (rs := [12]) (by kernel_rfl) (by simp) ?_
        refine AllReadyH.cons (i := 12) rfl (fun K hK => ?_) AllReadyH.nil
        go_simp
        go_at_call 21
        refine (HLO.out _ hz1).mono ?_
        rintro e y2 ⟨rfl, hy2⟩
        have hz2 := hz1.trans hy2
        refine hK.out _ _ (HSS.out _ hz2) (fun hHeld2 => ?_)
        clear hK K hHeld1
        try simp only [List.getElem_toArray, List.getElem_cons_zero, List.getElem_cons_succ, Act.put, List.setIfInBounds_toArray, List.set_cons_zero, List.set_cons_succ, Array.toArray_toList]
        refine wpAnyH_take (i := 13) (v := .bool false) rfl (by kernel_rfl) (by kernel_rfl) (by kernel_rfl) (fun _ _ _ h => h) (Or.inl ⟨by rfl, by (intro w hSw; (try dsimp only at hSw); go_simp; try (first | omega | (rw [IntKind.wrap_i64]; omega)))⟩) (by assumption) ?_
        try simp only [List.getElem_toArray, List.getElem_cons_zero, List.getElem_cons_succ, Act.put, List.setIfInBounds_toArray, List.set_cons_zero, List.set_cons_succ, Array.toArray_toList]
        refine wpAnyH_take (i := 14) (v := .bool false) rfl (by kernel_rfl) (by kernel_rfl) (by kernel_rfl) (fun _ _ _ h => h) (Or.inl ⟨by rfl, by (intro w hSw; (try dsimp only at hSw); go_simp; try (first | omega | (rw [IntKind.wrap_i64]; omega)))⟩) (by assumption) ?_
        try simp only [List.getElem_toArray, List.getElem_cons_zero, List.getElem_cons_succ, Act.put, List.setIfInBounds_toArray, List.set_cons_zero, List.set_cons_succ, Array.toArray_toList]
        refine wpAnyH_take (i := 15) (v := .int .i64 (k + 1 : Nat)) rfl (by kernel_rfl) (by kernel_rfl) (by kernel_rfl) (fun _ _ _ h => h) (Or.inl ⟨by rfl, by (intro w hSw; (try dsimp only at hSw); go_simp; try (first | omega | (rw [IntKind.wrap_i64]; omega)))⟩) (by assumption) ?_
        try simp only [List.getElem_toArray, List.getElem_cons_zero, List.getElem_cons_succ, Act.put, List.setIfInBounds_toArray, List.set_cons_zero, List.set_cons_succ, Array.toArray_toList]
        refine wpAnyH_take (i := 16) (v := .bool true) rfl (by kernel_rfl) (by kernel_rfl) (by kernel_rfl) (fun _ _ _ h => h) (Or.inl ⟨by rfl, by (intro w hSw; (try dsimp only at hSw); go_simp; try (first | omega | (rw [IntKind.wrap_i64]; omega)))⟩) (by assumption) ?_
        try simp only [List.getElem_toArray, List.getElem_cons_zero, List.getElem_cons_succ, Act.put, List.setIfInBounds_toArray, List.set_cons_zero, List.set_cons_succ, Array.toArray_toList]
        refine wpAnyH_take (i := 17) (v := .bool true) rfl (by kernel_rfl) (by kernel_rfl) (by kernel_rfl) (fun _ _ _ h => h) (Or.inl ⟨by rfl, by (intro w hSw; (try dsimp only at hSw); go_simp; try (first | omega | (rw [IntKind.wrap_i64]; omega)))⟩) (by assumption) ?_
        try simp only [List.getElem_toArray, List.getElem_cons_zero, List.getElem_cons_succ, Act.put, List.setIfInBounds_toArray, List.set_cons_zero, List.set_cons_succ, Array.toArray_toList]
        refine wpAnyH_take (i := 18) (v := .slice (some ⟨b, o, none⟩) n1 c1) rfl (by kernel_rfl) (by kernel_rfl) (by kernel_rfl) (fun _ _ _ h => h) (Or.inl ⟨by rfl, by (intro w hSw; (try dsimp only at hSw); go_simp; try (first | omega | (rw [IntKind.wrap_i64]; omega)))⟩) (by assumption) ?_
        try simp only [List.getElem_toArray, List.getElem_cons_zero, List.getElem_cons_succ, Act.put, List.setIfInBounds_toArray, List.set_cons_zero, List.set_cons_succ, Array.toArray_toList]
        refine wpAnyH_take (i := 19) (v := .int .i64 (k + 1 : Nat)) rfl (by kernel_rfl) (by kernel_rfl) (by kernel_rfl) (fun _ _ _ h => h) (Or.inl ⟨by rfl, by (intro w hSw; (try dsimp only at hSw); go_simp; try (first | omega | (rw [IntKind.wrap_i64]; omega)))⟩) (by assumption) ?_
        try simp only [List.getElem_toArray, List.getElem_cons_zero, List.getElem_cons_succ, Act.put, List.setIfInBounds_toArray, List.set_cons_zero, List.set_cons_succ, Array.toArray_toList]
        refine wpAnyH_take (i := 20) (v := .int .i64 k) rfl (by kernel_rfl) (by kernel_rfl) (by kernel_rfl) (fun _ _ _ h => h) (Or.inl ⟨by rfl, by (intro w hSw; (try dsimp only at hSw); go_simp; try (first | omega | (rw [IntKind.wrap_i64]; omega)))⟩) (by assumption) ?_
        try simp only [List.getElem_toArray, List.getElem_cons_zero, List.getElem_cons_succ, Act.put, List.setIfInBounds_toArray, List.set_cons_zero, List.set_cons_succ, Array.toArray_toList]
        refine wpAnyH_take (i := 21) (v := .pointer (some ⟨b, o + k * 11, none⟩)) rfl (by kernel_rfl) (by kernel_rfl) (by kernel_rfl) (fun _ _ _ h => h) (Or.inl ⟨by rfl, by (intro w hSw; (try dsimp only at hSw); go_simp; try (first | omega | (rw [IntKind.wrap_i64]; omega)))⟩) (by assumption) ?_
        try simp only [List.getElem_toArray, List.getElem_cons_zero, List.getElem_cons_succ, Act.put, List.setIfInBounds_toArray, List.set_cons_zero, List.set_cons_succ, Array.toArray_toList]
        refine wpAnyH_take (i := 22) (v := .agg y.cs.toList.toArray) rfl (by kernel_rfl) (by kernel_rfl) (by kernel_rfl) (fun _ _ _ h => h) ?_ (by assumption) ?_
        · try simp only [List.getElem_toArray, List.getElem_cons_zero, List.getElem_cons_succ]
          exact yieldsIf_load_mid (by rfl) _ _ rfl (b) (o + k * 11) rfl y.cs.toList _ (fun w hSw => hSw.2) huH rfl (hiH y)
        try simp only [List.getElem_toArray, List.getElem_cons_zero, List.getElem_cons_succ, Act.put, List.setIfInBounds_toArray, List.set_cons_zero, List.set_cons_succ, Array.toArray_toList]
        refine wpAnyH_take (i := 23) (v := .slice (some ⟨b, o, none⟩) n1 c1) rfl (by kernel_rfl) (by kernel_rfl) (by kernel_rfl) (fun _ _ _ h => h) (Or.inl ⟨by rfl, by (intro w hSw; (try dsimp only at hSw); go_simp; try (first | omega | (rw [IntKind.wrap_i64]; omega)))⟩) (by assumption) ?_
        try simp only [List.getElem_toArray, List.getElem_cons_zero, List.getElem_cons_succ, Act.put, List.setIfInBounds_toArray, List.set_cons_zero, List.set_cons_succ, Array.toArray_toList]
        refine wpAnyH_take (i := 24) (v := .int .i64 (k + 1 : Nat)) rfl (by kernel_rfl) (by kernel_rfl) (by kernel_rfl) (fun _ _ _ h => h) (Or.inl ⟨by rfl, by (intro w hSw; (try dsimp only at hSw); go_simp; try (first | omega | (rw [IntKind.wrap_i64]; omega)))⟩) (by assumption) ?_
        try simp only [List.getElem_toArray, List.getElem_cons_zero, List.getElem_cons_succ, Act.put, List.setIfInBounds_toArray, List.set_cons_zero, List.set_cons_succ, Array.toArray_toList]
        refine wpAnyH_take (i := 25) (v := .pointer (some ⟨b, o + (k + 1) * 11, none⟩)) rfl (by kernel_rfl) (by kernel_rfl) (by kernel_rfl) (fun _ _ _ h => h) (Or.inl ⟨by rfl, by (intro w hSw; (try dsimp only at hSw); go_simp; try (first | omega | (rw [IntKind.wrap_i64]; omega)))⟩) (by assumption) ?_
        try simp only [List.getElem_toArray, List.getElem_cons_zero, List.getElem_cons_succ, Act.put, List.setIfInBounds_toArray, List.set_cons_zero, List.set_cons_succ, Array.toArray_toList]
        refine wpAnyH_take (i := 26) (v := .agg z.cs.toList.toArray) rfl (by kernel_rfl) (by kernel_rfl) (by kernel_rfl) (fun _ _ _ h => h) ?_ (by assumption) ?_
        · try simp only [List.getElem_toArray, List.getElem_cons_zero, List.getElem_cons_succ]
          exact yieldsIf_load_mid (by rfl) _ _ rfl (b) (o + (k + 1) * 11) rfl z.cs.toList _ (fun w hSw => hSw.1) huH rfl (hiH z)
        try simp only [List.getElem_toArray, List.getElem_cons_zero, List.getElem_cons_succ, Act.put, List.setIfInBounds_toArray, List.set_cons_zero, List.set_cons_succ, Array.toArray_toList]
        refine wpAnyH_ready (rs := [27]) (by kernel_rfl) (by simp) ?_
        refine AllReadyH.cons (i := 27) rfl (fun K hK => ?_) AllReadyH.nil
        go_simp
        go_at_call 22
        refine (HLE.out _).mono ?_
        rintro e y3 ⟨rfl, hy3⟩
        have hz3 := hz2.trans hy3
        refine hK.out _ _ (HSS.out _ hz3) (fun hHeld3 => ?_)
        clear hK K hHeld2
        try simp only [List.getElem_toArray, List.getElem_cons_zero, List.getElem_cons_succ, Act.put, List.setIfInBounds_toArray, List.set_cons_zero, List.set_cons_succ, Array.toArray_toList]
        refine wpAnyH_take (i := 28) (v := .bool false) rfl (by kernel_rfl) (by kernel_rfl) (by kernel_rfl) (fun _ _ _ h => h) (Or.inl ⟨by rfl, by (intro w hSw; (try dsimp only at hSw); go_simp; try (first | omega | (rw [IntKind.wrap_i64]; omega)))⟩) (by assumption) ?_
        try simp only [List.getElem_toArray, List.getElem_cons_zero, List.getElem_cons_succ, Act.put, List.setIfInBounds_toArray, List.set_cons_zero, List.set_cons_succ, Array.toArray_toList]
        refine wpAnyH_take (i := 29) (v := .bool false) rfl (by kernel_rfl) (by kernel_rfl) (by kernel_rfl) (fun _ _ _ h => h) (Or.inl ⟨by rfl, by (intro w hSw; (try dsimp only at hSw); go_simp; try (first | omega | (rw [IntKind.wrap_i64]; omega)))⟩) (by assumption) ?_
        try simp only [List.getElem_toArray, List.getElem_cons_zero, List.getElem_cons_succ, Act.put, List.setIfInBounds_toArray, List.set_cons_zero, List.set_cons_succ, Array.toArray_toList]
        refine wpAnyH_take (i := 30) (v := .bool false) rfl (by kernel_rfl) (by kernel_rfl) (by kernel_rfl) (fun _ _ _ h => h) (Or.inl ⟨by rfl, by (intro w hSw; (try dsimp only at hSw); go_simp; try (first | omega | (rw [IntKind.wrap_i64]; omega)))⟩) (by assumption) ?_
        try simp only [List.getElem_toArray, List.getElem_cons_zero, List.getElem_cons_succ, Act.put, List.setIfInBounds_toArray, List.set_cons_zero, List.set_cons_succ, Array.toArray_toList]
        refine wpAnyH_done (by kernel_rfl) ?_ _
        refine NoPanic.normal ?_
        go_wp2_with fail
        go_roundw
        case rel => exact ⟨k + 1 + 1, by omega, by go_num, hx.out.trans hz3⟩
        case measure => simp [intOf]; omega
    · have HX2 := Lib.hid (HX1.out.trans hx.out)
      obtain ⟨b0, b1, b2, b3, b4⟩ := HPC.out _ HX2.out
      have HR2 := Lib.hid (HRB.out _ HX2.out)
      have hre0 := HRE0.out wo (HX.out.trans HX2.out)
      rw [HA.out] at hre0
      have HR0 := Lib.hid hre0
      clear hre0
      go_wp2_with (first | (refine wpList_load_H rfl _ rfl _ _ rfl x HR2.out ?_))
      refine HR0.out.mono ?_
      rintro e w2 ⟨⟨r2, rfl, hs2⟩, hx2⟩
      have HX3 := Lib.hid (HX2.out.trans hx2)
      have HS2 := Lib.hid hs2
      clear b0 b1 b2 b3 b4 hs2
      obtain ⟨b0, b1, b2, b3, b4⟩ := HPC.out _ HX3.out
      have HR3 := Lib.hid (HRB.out _ HX3.out)
      have hof := meaningOf_any t _ x w2 (HVT.out w2 (HX.out.trans HX3.out))
      have hO64 := ofC_len t x
      have hC0 := HC.out
      generalize ofC t x = R at *
      obtain ⟨c, m⟩ := R
      obtain rfl : c = 0 := hC0
      have HOF := Lib.hid hof
      have hm64 : m.length ≤ 64 := hO64
      clear hof hO64
      go_upto_region 12 with fail
      go_wp2_with (first | (refine wpList_load_H rfl _ rfl _ _ rfl x HR3.out ?_))
      refine HOF.out.mono ?_
      rintro e w3 ⟨hx3, -, r3, rfl, hown3⟩
      obtain ⟨p3, n3, c3, rfl, hn3, hr3⟩ := HSl.of_owns hown3
      have HN3 := Lib.hid hn3
      have HX4 := Lib.hid (HX3.out.trans hx3)
      have HS2' := Lib.hid (HS2.out.ext hx3)
      have HM := Lib.hid (show m = [] ∨ ∃ b o, p3 = some ⟨b, o, none⟩ ∧ ∀ W, Ext w3 W → W.rangeAt b o (flatH m) from
        hr3.imp id fun ⟨b, o, hp, _, hr⟩ => ⟨b, o, hp, fun W hW => World.rangeAt.later hW.later hr⟩)
      have hn32 : n3 ≤ 64 := by omega
      clear b0 b1 b2 b3 b4 hown3 hn3 hr3 hx3
      go_wp2_with fail
      go_loopw [14, 15] (fun u i wr => ∃ k : Nat, k ≤ n3 ∧ i = .int .i64 k ∧ Hid (wr.ownsRow w3.heap.size 24 11 u ((m.take k).filter fun z => decide (headE z = 0)).length (flatH ((m.take k).filter fun z => decide (headE z = 0)))) ∧ Hid (Ext w3 wr)) (fun _ i _ => n3 - (intOf i).toNat)
      case atStart => exact ⟨0, Nat.zero_le _, rfl, by rw [List.take_zero]; exact World.ownsRow_nil _ _ _ _, Ext.refl _⟩
      case round =>
        obtain ⟨wn, rfl⟩ : ∃ wn : World, wn = wr := ⟨_, rfl⟩
        obtain ⟨k, hk, rfl, hown, hxn⟩ := hrel
        by_cases hlt3 : k < n3
        · have hkl : k < m.length := by rw [← HN3.out]; exact hlt3
          rcases HM.out with h | ⟨b, o, rfl, hm⟩
          · exfalso; subst h; simp at hkl
          have hrz := fun W (hW : Ext w3 W) => rangeAt_get Hdr.len_cs (hm W hW) k hkl
          have HTK := Lib.hid (show (m.take (k + 1)).filter (fun z => decide (headE z = 0)) = (m.take k).filter (fun z => decide (headE z = 0)) ++ [m[k]].filter fun z => decide (headE z = 0) from by
            rw [List.take_succ_eq_append_getElem hkl, List.filter_append])
          have hlf : ((m.take k).filter fun z => decide (headE z = 0)).length ≤ 64 := by
            have h1 := List.length_filter_le (fun z => decide (headE z = 0)) (m.take k)
            rw [List.length_take] at h1
            omega
          generalize m[k] = z at *
          have HRZ := Lib.hid (hrz wn hxn.out)
          have HHZ := Lib.hid (head_any z wn)
          generalize (m.take k).filter (fun z => decide (headE z = 0)) = f at *
          clear hrz hm
          go_wp2_with (first | (refine wpList_load_H rfl _ rfl b (o + k * 11) rfl z HRZ.out ?_))
          refine HHZ.out.mono ?_
          rintro e w4 ⟨rfl, hx4⟩
          have HXn := Lib.hid (hxn.out.trans hx4)
          have HRZ4 := Lib.hid (World.rangeAt.later hx4.later HRZ.out)
          have HO4 := Lib.hid ((ownsRow_ext hown.out hx4).alloc (.cells z.cs 24))
          have HO4' := Lib.hid (ownsRow_ext hown.out hx4)
          have hs34 : w3.heap.size ≤ (w4.alloc (.cells z.cs 24)).heap.size := by have := HXn.out.size; rw [World.size_alloc]; omega
          have HBL := Lib.hid (fun i (hi : u14.ownBlock = some i) => (hown.out.lt i hi).1)
          by_cases hz : headE z = 0
          · have HT1 := Lib.hid (show (m.take (k + 1)).filter (fun z => decide (headE z = 0)) = f ++ [z] from by rw [HTK.out]; simp [hz])
            rw [hz]
            clear hz hx4
            go_wp2_with (first
              | (refine wpList_load_H rfl _ rfl b (o + k * 11) rfl z HRZ4.out ?_)
              | (refine wpList_one_H rfl _ rfl z rfl ?_)
              | (at_builtin; refine wpList_append_H rfl _ _ rfl w3.heap.size u14 f rfl HO4.out _ z rfl (rangeAt_new _ _ _) (by omega) hs34 ?_; intro v5 w5 hown5 hg5))
            go_roundw
            case rel => exact ⟨k + 1, by omega, by go_num, by rw [HT1.out]; exact hown5, (HXn.out.andAlloc _).grow' hg5 HBL.out⟩
            case measure => simp [intOf]; omega
          · have HT1 := Lib.hid (show (m.take (k + 1)).filter (fun z => decide (headE z = 0)) = f from by rw [HTK.out]; simp [hz])
            generalize headE z = hE at *
            clear hx4
            go_wp2_with fail
            go_roundw
            case rel => exact ⟨k + 1, by omega, by go_num, by rw [HT1.out]; exact HO4'.out, HXn.out⟩
            case measure => simp [intOf]; omega
        · have hof : (m.take k).filter (fun z => decide (headE z = 0)) = m.filter fun z => decide (headE z = 0) := by
            rw [List.take_of_length_le (by have := HN3.out; omega)]
          have ho := hown.out
          rw [hof] at ho
          have hfl : (m.filter fun z => decide (headE z = 0)).length ≤ 65600 := by
            have := List.length_filter_le (fun z => decide (headE z = 0)) m
            omega
          have hhe := heads_any _ _ r2 u14 _ _ wn (HS2'.out.ext hxn.out) (HSl.of_owns ho) hfl
          rw [decide_eq_true (show (m.filter fun z => decide (headE z = 0)) = m.filter fun z => decide (headE z = 0) from rfl)] at hhe
          have HHE := Lib.hid hhe
          obtain ⟨q5, n5, k5, rfl, -⟩ := HSl.of_owns ho
          clear hhe ho hof hown
          go_wp2_with fail
          refine HHE.out.mono ?_
          rintro e w5 ⟨rfl, hx5⟩
          go_wp2_with fail
          refine (wakes30_any w5).mono ?_
          rintro e w6 ⟨rfl, hx6⟩
          go_wp2_with fail
          go_ret
          exact ⟨rfl, HX.out.trans (HX4.out.trans (hxn.out.trans (hx5.trans hx6)))⟩
end Go.Proofs.Ytddeelepaiklgaa
