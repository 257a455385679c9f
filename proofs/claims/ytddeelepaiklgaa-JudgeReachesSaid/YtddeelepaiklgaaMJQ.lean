/- The document's Fits and Check of a header. -/
import Derived.Test.YtddeelepaiklgaaMJ2
import Derived.Test.YtddeelepaiklgaaMJ1
import Derived.Test.YtddeelepaiklgaaSame
import Derived.Test.YtddeelepaiklgaaMJ4
import Derived.Test.YtddeelepaiklgaaRefP
namespace Go.Proofs.Ytddeelepaiklgaa
open Go.RowKit Go.Maps
set_option linter.unusedSimpArgs false

set_option maxHeartbeats 1000000 in
theorem ref01Fits_any (f n : Int) (w : World) (hf : -128 ≤ f ∧ f ≤ 127) (_hn : 0 ≤ n ∧ n ≤ 18446744073709551615) :
   Calls Try.prog 49 #[.int .i8 f, .int .u64 n] w fun e w' => e = .returned (.bool (fitsB f n)) ∧ w = w' := by
  have HW := Lib.hid (fun w => refWidth_any f hf w)
  obtain ⟨k, hk, hk2⟩ := widthI_le f
  unfold fitsB
  rw [hk] at HW
  rw [hk, Int.toNat_natCast]
  clear hk
  go_enter Try.func49, Try.ntmps49
  go_wp2_with fail
  refine (HW.out _).mono ?_
  rintro e w1 ⟨rfl, rfl⟩
  by_cases hz : (k : Int) = 0
  · have h1 : ((k : Int) == 0) = true := by simpa using hz
    have HF : Hid (fitsK k n = false) := by simp only [Hid, fitsK, h1, if_true]
    have hz2 : ¬ (0 : Int) < k := by omega
    go_wp2_with fail
    go_ret
    exact ⟨by rw [HF.out]; rfl, rfl⟩
  · have h1 : ((k : Int) == 0) = false := by simpa using hz
    have hz2 : (0 : Int) < k := by omega
    go_wp2_with fail
    all_goals (go_ret; refine ⟨?_, rfl⟩; simp_all [fitsK])

set_option maxHeartbeats 4000000 in
set_option maxRecDepth 100000 in
theorem ref01Check_any (x : Hdr) (w : World) :
    Calls Try.prog 31 #[.agg x.cs] w fun e w' => e = .returned (.int .i64 (headE x)) ∧ Ext w w' := by
  have HFI := Lib.hid (fun (i : Nat) W (hi : i < 11) => ref01Fits_any i (x.f i) W (by omega) (x.f_bd i))
  obtain ⟨wA, hA⟩ : ∃ W : World, w.alloc (.cells x.cs 24) = W := ⟨_, rfl⟩
  have xA : Ext w wA := hA ▸ Ext.alloc _ _
  have rA : wA.rangeAt w.heap.size 0 x.cs.toList := by rw [← hA]; exact rangeAt_new w x.cs 24
  have HR := Lib.hid (fun W (hW : Ext wA W) => World.rangeAt.later hW.later rA)
  have HX := Lib.hid xA
  have HEQ := Lib.hid hA
  clear hA xA rA
  go_enter Try.func31, Try.ntmps31
  go_upto_region 1 with fail
  rw [HEQ.out]
  clear HEQ
  go_wp2_with fail
  go_loopw [3] (fun i wr => ∃ j : Nat, j ≤ 11 ∧ i = .int .i8 j ∧ Hid (fitsL x (idx11.drop j) = fitsL x idx11) ∧ Hid (Ext wA wr)) (fun i _ => 11 - (intOf i).toNat)
  case atStart => exact ⟨0, by omega, rfl, rfl, Ext.refl _⟩
  case round =>
    obtain ⟨wn, rfl⟩ : ∃ wn : World, wn = wr := ⟨_, rfl⟩
    obtain ⟨j, hj, rfl, hT, hx⟩ := hrel
    by_cases hlt : j < 11
    · have hT2 : (fitsB j (x.f j) && fitsL x (idx11.drop (j + 1))) = fitsL x idx11 := by
        rw [← hT.out]
        have : j = 0 ∨ j = 1 ∨ j = 2 ∨ j = 3 ∨ j = 4 ∨ j = 5 ∨ j = 6 ∨ j = 7 ∨ j = 8 ∨ j = 9 ∨ j = 10 := by omega
        rcases this with rfl | rfl | rfl | rfl | rfl | rfl | rfl | rfl | rfl | rfl | rfl <;> rfl
      have hw8 : IntKind.i8.wrap ((j : Int) + 1) = (j : Int) + 1 := by
        have : j = 0 ∨ j = 1 ∨ j = 2 ∨ j = 3 ∨ j = 4 ∨ j = 5 ∨ j = 6 ∨ j = 7 ∨ j = 8 ∨ j = 9 ∨ j = 10 := by omega
        rcases this with rfl | rfl | rfl | rfl | rfl | rfl | rfl | rfl | rfl | rfl | rfl <;> rfl
      have HFj := Lib.hid (HFI.out j wn hlt)
      have HT2 := Lib.hid hT2
      have cj := cellAt (HR.out _ hx.out) j hlt
      simp only [Nat.zero_add] at cj
      clear hT hT2
      go_wp2_with fail
      refine HFj.out.mono ?_
      rintro e w1 ⟨rfl, rfl⟩
      cases hb : fitsB j (x.f j) with
      | true =>
        have HT3 := Lib.hid (show fitsL x (idx11.drop (j + 1)) = fitsL x idx11 from by rw [← HT2.out, hb]; rfl)
        clear hb cj
        go_wp2_with fail
        go_roundw
        case rel => exact ⟨j + 1, by omega, by go_num, HT3.out, hx.out⟩
        case measure => simp [intOf]; omega
      | false =>
        have HF := Lib.hid (show headE x = 10 from by unfold headE; rw [← HT2.out, hb]; rfl)
        clear hb cj
        go_wp2_with fail
        go_ret
        exact ⟨by rw [HF.out]; rfl, HX.out.trans hx.out⟩
    · have HT := Lib.hid (show fitsL x idx11 = true from by
        rw [← hT.out, List.drop_of_length_le (by simp [idx11]; omega), fitsL])
      have HF := Lib.hid (show headE x = if kindB (x.f 2) (x.f 6) (x.f 4) (x.f 5) (x.f 7) (x.f 8) then 0 else 10 from by unfold headE; rw [HT.out, Bool.true_and])
      have hr := HR.out _ hx.out
      have c2 := cellAt hr 2 (by omega)
      have c4 := cellAt hr 4 (by omega)
      have c5 := cellAt hr 5 (by omega)
      have c6 := cellAt hr 6 (by omega)
      have c7 := cellAt hr 7 (by omega)
      have c8 := cellAt hr 8 (by omega)
      simp only [Nat.zero_add] at c2 c4 c5 c6 c7 c8
      have hkb := x.f_bd 2
      have hpb := x.f_bd 6
      generalize x.f 2 = k at *
      generalize x.f 4 = f4 at *
      generalize x.f 5 = f5 at *
      generalize x.f 6 = p at *
      generalize x.f 7 = f7 at *
      generalize x.f 8 = f8 at *
      clear hT hr
      go_wp2_with fail
      all_goals (try simp only [beq_eq_false_iff_ne, ne_eq, beq_iff_eq, bne_iff_ne, bne_eq_false_iff_eq, Bool.not_eq_true', Bool.not_eq_false'] at *)
      all_goals first
        | (exfalso; omega)
        | (have hv : (if kindB k p f4 f5 f7 f8 then 0 else 10 : Int) = 0 := by
            have : kindB k p f4 f5 f7 f8 = true := by unfold kindB; (repeat' split) <;> first | rfl | (exfalso; omega)
            rw [this]; rfl
           go_ret; exact ⟨by rw [HF.out, hv]; rfl, HX.out.trans hx.out⟩)
        | (have hv : (if kindB k p f4 f5 f7 f8 then 0 else 10 : Int) = 10 := by
            have : kindB k p f4 f5 f7 f8 = false := by unfold kindB; (repeat' split) <;> first | rfl | (exfalso; omega)
            rw [this]; rfl
           go_ret; exact ⟨by rw [HF.out, hv]; rfl, HX.out.trans hx.out⟩)
end Go.Proofs.Ytddeelepaiklgaa
/- The document's Over and has. -/
namespace Go.Proofs.Ytddeelepaiklgaa
open Go.RowKit Go.Maps Go.Sort Go.Lib
set_option linter.unusedSimpArgs false

theorem eqSpot (a ap s p : Int) (W : World) : (Op.equalIn 10000 58 (.agg #[.int .u16 a, .int .u16 ap]) (.agg #[.int .u16 s, .int .u16 p])).run Try.prog W = .ok (decide (a = s ∧ ap = p)) W := by
  have hu := Try.underlying58
  go_simp
  by_cases h1 : a = s <;> by_cases h2 : ap = p <;> simp [h1, h2]

set_option maxHeartbeats 8000000 in
set_option maxRecDepth 100000 in
theorem refOver_any (l : List WireD) (lv : Value) (s p : Int) (w : World) (hl : SlOf WAt 4 w l lv) :
    Calls Try.prog 32 #[lv, .agg #[.int .u16 s, .int .u16 p]] w fun e w' => e = .returned (.tuple #[spotOf (overP s p l), .bool (overP s p l).isSome]) ∧ Ext w w' := by
  obtain ⟨pl, len, cap, rfl, hlen, hlc, hcm, hls⟩ := hl
  have HL := Lib.hid hlen
  have HLS := Lib.hid (show l = [] ∨ ∃ b o, pl = some ⟨b, o, none⟩ ∧ ∀ W, Ext w W → ∀ i (h : i < l.length), W.rangeAt b (o + i * 4) (l[i]).cs from
    hls.imp id fun ⟨b, o, hp, hr⟩ => ⟨b, o, hp, fun W hW i h => World.rangeAt.later hW.later (hr i h).1⟩)
  obtain ⟨wA, hA⟩ : ∃ W : World, w.alloc (.cells #[.int .u16 s, .int .u16 p] 58) = W := ⟨_, rfl⟩
  have xA : Ext w wA := hA ▸ Ext.alloc _ _
  have sA : wA.heap.size = w.heap.size + 1 := by rw [← hA, World.size_alloc]
  obtain ⟨wB, hB⟩ : ∃ W : World, wA.alloc (.cells #[.int .u16 0, .int .u16 0] 58) = W := ⟨_, rfl⟩
  have xB : Ext wA wB := hB ▸ Ext.alloc _ _
  have sB : wB.heap.size = w.heap.size + 2 := by rw [← hB, World.size_alloc, sA]
  have a0 : wA.cell? ⟨w.heap.size, 0, none⟩ = some (.int .u16 s) := by rw [← hA]; simp [go_sem]
  have a1 : wA.cell? ⟨w.heap.size, 1, none⟩ = some (.int .u16 p) := by rw [← hA]; simp [go_sem]
  have b0 : wB.cell? ⟨w.heap.size + 1, 0, none⟩ = some (.int .u16 0) := by rw [← hB, ← sA]; simp [go_sem]
  have b1 : wB.cell? ⟨w.heap.size + 1, 1, none⟩ = some (.int .u16 0) := by rw [← hB, ← sA]; simp [go_sem]
  have f0 : wB.frozen? ⟨w.heap.size + 1, 0, none⟩ = false := by rw [← hB, ← sA]; simp [go_sem]
  have f1 : wB.frozen? ⟨w.heap.size + 1, 1, none⟩ = false := by rw [← hB, ← sA]; simp [go_sem]
  have rA : wA.rangeAt w.heap.size 0 [.int .u16 s, .int .u16 p] := by
    have := rangeAt_new w #[.int .u16 s, .int .u16 p] 58
    rw [hA] at this
    exact this
  have HC := Lib.hid (fun W (hW : Ext wB W) => show W.rangeAt w.heap.size 0 [.int .u16 s, .int .u16 p] ∧ W.cell? ⟨w.heap.size + 1, 0, none⟩ = some (.int .u16 0) ∧ W.cell? ⟨w.heap.size + 1, 1, none⟩ = some (.int .u16 0) ∧ W.frozen? ⟨w.heap.size + 1, 0, none⟩ = false ∧ W.frozen? ⟨w.heap.size + 1, 1, none⟩ = false from
    ⟨World.rangeAt.later (xB.trans hW).later rA, hW.later _ _ b0, hW.later _ _ b1, by rw [Below.frozen hW (World.block_lt_of_cell? wB _ b0)]; exact f0, by rw [Below.frozen hW (World.block_lt_of_cell? wB _ b1)]; exact f1⟩)
  have HX := Lib.hid (xA.trans xB)
  have HEQ := Lib.hid (show w.alloc (.cells #[.int .u16 s, .int .u16 p] 58) = wA ∧ wA.alloc (.cells #[.int .u16 0, .int .u16 0] 58) = wB from ⟨hA, hB⟩)
  have HUS := Lib.hid (And.intro Try.underlying58 (show ∀ a b : Int, (Try.prog.info? 58).map (·.size) = some [Value.int .u16 a, Value.int .u16 b].length from fun a b => by kernel_rfl))
  clear a0 a1 b0 b1 f0 f1 hA hB xA xB hls hlen rA
  go_enter Try.func32, Try.ntmps32
  go_upto_region 1 with fail
  rw [HEQ.out.1, HEQ.out.2]
  try rw [sA]
  clear HEQ
  go_wp2_with fail
  go_loopw [6] (fun i wr => ∃ j : Nat, j ≤ len ∧ i = .int .i64 j ∧ Hid (overP s p (l.drop j) = overP s p l) ∧ Hid (Ext wB wr)) (fun i _ => len - (intOf i).toNat)
  case atStart => exact ⟨0, Nat.zero_le _, rfl, rfl, Ext.refl _⟩
  case round =>
    obtain ⟨wn, rfl⟩ : ∃ wn : World, wn = wr := ⟨_, rfl⟩
    obtain ⟨j, hj, rfl, hT, hx⟩ := hrel
    by_cases hlt : j < len
    case neg =>
      have HF := Lib.hid (show overP s p l = none from by
        rw [← hT.out, List.drop_of_length_le (by have := HL.out; omega), overP])
      obtain ⟨-, b0, b1, f0, f1⟩ := HC.out _ hx.out
      clear hT
      go_wp2_with fail
      have k0 : ((wn.setCell ⟨w.heap.size + 1, 0, none⟩ (.int .u16 0)).setCell ⟨w.heap.size + 1, 1, none⟩ (.int .u16 0)).cell? ⟨w.heap.size + 1, 0, none⟩ = some (.int .u16 0) := by
        rw [World.cell?_setCell_other _ _ _ _ (fun e => by injection e with _ e2; omega)]; exact World.cell?_setCell_same wn ⟨w.heap.size + 1, 0, none⟩ _ b0
      have k1 : ((wn.setCell ⟨w.heap.size + 1, 0, none⟩ (.int .u16 0)).setCell ⟨w.heap.size + 1, 1, none⟩ (.int .u16 0)).cell? ⟨w.heap.size + 1, 1, none⟩ = some (.int .u16 0) :=
        World.cell?_setCell_same _ ⟨w.heap.size + 1, 1, none⟩ _ (by rw [World.cell?_setCell_other _ _ _ _ (fun e => by injection e with _ e2; omega)]; exact b1)
      have hxe : Ext w ((wn.setCell ⟨w.heap.size + 1, 0, none⟩ (.int .u16 0)).setCell ⟨w.heap.size + 1, 1, none⟩ (.int .u16 0)) := ((HX.out.trans hx.out).andSet (by show w.heap.size ≤ w.heap.size + 1; omega) _).andSet (by show w.heap.size ≤ w.heap.size + 1; omega) _
      refine bodyPost_ret_by (v := .tuple #[spotOf (overP s p l), .bool (overP s p l).isSome]) ?_ rfl ⟨rfl, hxe⟩
      rw [results_cell_tmp rfl, HF.out]
      generalize ((wn.setCell ⟨w.heap.size + 1, 0, none⟩ (.int .u16 0)).setCell ⟨w.heap.size + 1, 1, none⟩ (.int .u16 0)) = wE at *
      go_simp
      try rfl
    have hjl : j < l.length := by rw [← HL.out]; exact hlt
    rcases HLS.out with hls | ⟨b, o, rfl, hls⟩
    · exfalso; subst hls; simp at hjl
    have hr := hls wn (HX.out.trans hx.out) j hjl
    have hT2 := hT.out
    rw [drop_get hjl, overP] at hT2
    generalize l[j] = x at *
    have d0 : wn.cell? ⟨b, o + j * 4, none⟩ = some (.int .u16 x.a) := by simpa using hr 0 _ rfl
    have d1 : wn.cell? ⟨b, o + j * 4 + 1, none⟩ = some (.int .u16 x.ap) := by simpa using hr 1 _ rfl
    have d2 : wn.cell? ⟨b, o + j * 4 + 2, none⟩ = some (.int .u16 x.b) := by simpa using hr 2 _ rfl
    have d3 : wn.cell? ⟨b, o + j * 4 + 3, none⟩ = some (.int .u16 x.bp) := by simpa using hr 3 _ rfl
    have HD := Lib.hid (fun W (hW : Ext wn W) => show W.cell? ⟨b, o + j * 4, none⟩ = some (.int .u16 x.a) ∧ W.cell? ⟨b, o + j * 4 + 1, none⟩ = some (.int .u16 x.ap) ∧ W.cell? ⟨b, o + j * 4 + 2, none⟩ = some (.int .u16 x.b) ∧ W.cell? ⟨b, o + j * 4 + 3, none⟩ = some (.int .u16 x.bp) from ⟨hW.later _ _ d0, hW.later _ _ d1, hW.later _ _ d2, hW.later _ _ d3⟩)
    have HSS := Lib.hid (fun W (hW : Ext wn W) => (show (fun W => W.rangeAt b (o + j * 4) [.int .u16 x.a, .int .u16 x.ap] ∧ W.rangeAt b (o + j * 4 + 2) [.int .u16 x.b, .int .u16 x.bp] ∧ W.rangeAt w.heap.size 0 [.int .u16 s, .int .u16 p]) W from
      ⟨fun i v hv => hW.later _ _ (by match i, hv with
        | 0, hv => simp at hv; subst hv; exact d0
        | 1, hv => simp at hv; subst hv; exact d1
        | i + 2, hv => simp at hv), fun i v hv => hW.later _ _ (by match i, hv with
        | 0, hv => simp at hv; subst hv; exact d2
        | 1, hv => simp at hv; subst hv; exact d3
        | i + 2, hv => simp at hv), (HC.out W (hx.out.trans hW)).1⟩))
    have huS := HUS.out.1
    have hiS := HUS.out.2
    have he1 : ∀ W, (Op.equalIn 10000 58 (.agg #[.int .u16 x.a, .int .u16 x.ap]) (.agg #[.int .u16 s, .int .u16 p])).run Try.prog W = .ok (decide (x.a = s ∧ x.ap = p)) W := fun W => eqSpot _ _ _ _ W
    have he2 : ∀ W, (Op.equalIn 10000 58 (.agg #[.int .u16 x.b, .int .u16 x.bp]) (.agg #[.int .u16 s, .int .u16 p])).run Try.prog W = .ok (decide (x.b = s ∧ x.bp = p)) W := fun W => eqSpot _ _ _ _ W
    have HE2 := Lib.hid he2
    have hz0 : Ext wn wn.drew := Ext.drew _
    have HT2 := Lib.hid hT2
    clear hr hT hT2 d0 d1 d2 d3 he2
    generalize hq1 : decide (x.a = s ∧ x.ap = p) = q1 at *
    have HQ1 := Lib.hid hq1
    clear hq1
    go_upto_region 4 with fail
    refine wp_region_noPanic ?_
    refine wp_region_held_drew (S := (fun W => W.rangeAt b (o + j * 4) [.int .u16 x.a, .int .u16 x.ap] ∧ W.rangeAt b (o + j * 4 + 2) [.int .u16 x.b, .int .u16 x.bp] ∧ W.rangeAt w.heap.size 0 [.int .u16 s, .int .u16 p])) (by kernel_rfl) (HSS.out _ hz0) (fun hHeld => ?_)
    refine wpAnyH_take (i := 0) (v := .slice (some ⟨b, o, none⟩) len cap) rfl (by kernel_rfl) (by kernel_rfl) (by kernel_rfl) (fun _ _ _ h => h) (Or.inl ⟨by rfl, by (intro w hSw; (try dsimp only at hSw); go_simp; try (first | omega | (rw [IntKind.wrap_i64]; omega)))⟩) (by assumption) ?_
    try simp only [List.getElem_toArray, List.getElem_cons_zero, List.getElem_cons_succ, Act.put, List.setIfInBounds_toArray, List.set_cons_zero, List.set_cons_succ, Array.toArray_toList]
    refine wpAnyH_take (i := 1) (v := .int .i64 j) rfl (by kernel_rfl) (by kernel_rfl) (by kernel_rfl) (fun _ _ _ h => h) (Or.inl ⟨by rfl, by (intro w hSw; (try dsimp only at hSw); go_simp; try (first | omega | (rw [IntKind.wrap_i64]; omega)))⟩) (by assumption) ?_
    try simp only [List.getElem_toArray, List.getElem_cons_zero, List.getElem_cons_succ, Act.put, List.setIfInBounds_toArray, List.set_cons_zero, List.set_cons_succ, Array.toArray_toList]
    refine wpAnyH_take (i := 2) (v := .pointer (some ⟨b, o + j * 4, none⟩)) rfl (by kernel_rfl) (by kernel_rfl) (by kernel_rfl) (fun _ _ _ h => h) (Or.inl ⟨by rfl, by (intro w hSw; (try dsimp only at hSw); go_simp; try (first | omega | (rw [IntKind.wrap_i64]; omega)))⟩) (by assumption) ?_
    try simp only [List.getElem_toArray, List.getElem_cons_zero, List.getElem_cons_succ, Act.put, List.setIfInBounds_toArray, List.set_cons_zero, List.set_cons_succ, Array.toArray_toList]
    refine wpAnyH_take (i := 3) (v := .pointer (some ⟨b, o + j * 4, none⟩)) rfl (by kernel_rfl) (by kernel_rfl) (by kernel_rfl) (fun _ _ _ h => h) (Or.inl ⟨by rfl, by (intro w hSw; (try dsimp only at hSw); go_simp; try (first | omega | (rw [IntKind.wrap_i64]; omega)))⟩) (by assumption) ?_
    try simp only [List.getElem_toArray, List.getElem_cons_zero, List.getElem_cons_succ, Act.put, List.setIfInBounds_toArray, List.set_cons_zero, List.set_cons_succ, Array.toArray_toList]
    refine wpAnyH_take (i := 4) (v := .agg #[.int .u16 x.a, .int .u16 x.ap]) rfl (by kernel_rfl) (by kernel_rfl) (by kernel_rfl) (fun _ _ _ h => h) ?_ (by assumption) ?_
    · try simp only [List.getElem_toArray, List.getElem_cons_zero, List.getElem_cons_succ]
      exact yieldsIf_load_mid (by rfl) _ _ rfl (b) (o + j * 4) rfl [.int .u16 x.a, .int .u16 x.ap] _ (fun w hSw => hSw.1) huS rfl (hiS _ _)
    try simp only [List.getElem_toArray, List.getElem_cons_zero, List.getElem_cons_succ, Act.put, List.setIfInBounds_toArray, List.set_cons_zero, List.set_cons_succ, Array.toArray_toList]
    refine wpAnyH_take (i := 5) (v := .agg #[.int .u16 s, .int .u16 p]) rfl (by kernel_rfl) (by kernel_rfl) (by kernel_rfl) (fun _ _ _ h => h) ?_ (by assumption) ?_
    · try simp only [List.getElem_toArray, List.getElem_cons_zero, List.getElem_cons_succ]
      exact yieldsIf_load_mid (by rfl) _ _ rfl (w.heap.size) (0) rfl [.int .u16 s, .int .u16 p] _ (fun w hSw => hSw.2.2) huS rfl (hiS _ _)
    try simp only [List.getElem_toArray, List.getElem_cons_zero, List.getElem_cons_succ, Act.put, List.setIfInBounds_toArray, List.set_cons_zero, List.set_cons_succ, Array.toArray_toList]
    refine wpAnyH_take (i := 6) (v := .bool q1) rfl (by kernel_rfl) (by kernel_rfl) (by kernel_rfl) (fun _ _ _ h => h) (Or.inl ⟨by rfl, by (intro w hSw; (try dsimp only at hSw); go_simp; try (first | omega | (rw [IntKind.wrap_i64]; omega)))⟩) (by assumption) ?_
    try simp only [List.getElem_toArray, List.getElem_cons_zero, List.getElem_cons_succ, Act.put, List.setIfInBounds_toArray, List.set_cons_zero, List.set_cons_succ, Array.toArray_toList]
    refine wpAnyH_done (by kernel_rfl) ?_ _
    refine NoPanic.normal ?_
    clear hHeld
    cases q1 with
    | true =>
      have HF := Lib.hid (show overP s p l = some (x.b, x.bp) from by rw [← HT2.out, if_pos (of_decide_eq_true HQ1.out)])
      clear huS hiS he1
      
      obtain ⟨d0, d1, d2, d3⟩ := HD.out _ hz0
      obtain ⟨-, b0, b1, f0, f1⟩ := HC.out _ (hx.out.trans hz0)
      generalize wn.drew = wz at *
      go_wp2_with fail
      have k0 : ((wz.setCell ⟨w.heap.size + 1, 0, none⟩ (.int .u16 x.b)).setCell ⟨w.heap.size + 1, 1, none⟩ (.int .u16 x.bp)).cell? ⟨w.heap.size + 1, 0, none⟩ = some (.int .u16 x.b) := by
        rw [World.cell?_setCell_other _ _ _ _ (fun e => by injection e with _ e2; omega)]; exact World.cell?_setCell_same wz ⟨w.heap.size + 1, 0, none⟩ _ b0
      have k1 : ((wz.setCell ⟨w.heap.size + 1, 0, none⟩ (.int .u16 x.b)).setCell ⟨w.heap.size + 1, 1, none⟩ (.int .u16 x.bp)).cell? ⟨w.heap.size + 1, 1, none⟩ = some (.int .u16 x.bp) :=
        World.cell?_setCell_same _ ⟨w.heap.size + 1, 1, none⟩ _ (by rw [World.cell?_setCell_other _ _ _ _ (fun e => by injection e with _ e2; omega)]; exact b1)
      have hxe : Ext w ((wz.setCell ⟨w.heap.size + 1, 0, none⟩ (.int .u16 x.b)).setCell ⟨w.heap.size + 1, 1, none⟩ (.int .u16 x.bp)) := ((HX.out.trans (hx.out.trans hz0)).andSet (by show w.heap.size ≤ w.heap.size + 1; omega) _).andSet (by show w.heap.size ≤ w.heap.size + 1; omega) _
      refine bodyPost_ret_by (v := .tuple #[spotOf (overP s p l), .bool (overP s p l).isSome]) ?_ rfl ⟨rfl, hxe⟩
      rw [results_cell_tmp rfl, HF.out]
      generalize ((wz.setCell ⟨w.heap.size + 1, 0, none⟩ (.int .u16 x.b)).setCell ⟨w.heap.size + 1, 1, none⟩ (.int .u16 x.bp)) = wE at *
      go_simp
      try rfl
    | false =>
      have HT3 := Lib.hid (show (if x.b = s ∧ x.bp = p then some (x.a, x.ap) else overP s p (l.drop (j + 1))) = overP s p l from by rw [← HT2.out, if_neg (of_decide_eq_false HQ1.out)])
      have he2 := HE2.out
      have hz1 : Ext wn wn.drew.drew := hz0.andDrew
      clear he1
      generalize hq2 : decide (x.b = s ∧ x.bp = p) = q2 at *
      have HQ2 := Lib.hid hq2
      clear hq2
      go_upto_region 6 with fail
      refine wp_region_noPanic ?_
      refine wp_region_held_drew (S := (fun W => W.rangeAt b (o + j * 4) [.int .u16 x.a, .int .u16 x.ap] ∧ W.rangeAt b (o + j * 4 + 2) [.int .u16 x.b, .int .u16 x.bp] ∧ W.rangeAt w.heap.size 0 [.int .u16 s, .int .u16 p])) (by kernel_rfl) (HSS.out _ hz1) (fun hHeld => ?_)
      refine wpAnyH_take (i := 0) (v := .slice (some ⟨b, o, none⟩) len cap) rfl (by kernel_rfl) (by kernel_rfl) (by kernel_rfl) (fun _ _ _ h => h) (Or.inl ⟨by rfl, by (intro w hSw; (try dsimp only at hSw); go_simp; try (first | omega | (rw [IntKind.wrap_i64]; omega)))⟩) (by assumption) ?_
      try simp only [List.getElem_toArray, List.getElem_cons_zero, List.getElem_cons_succ, Act.put, List.setIfInBounds_toArray, List.set_cons_zero, List.set_cons_succ, Array.toArray_toList]
      refine wpAnyH_take (i := 1) (v := .int .i64 j) rfl (by kernel_rfl) (by kernel_rfl) (by kernel_rfl) (fun _ _ _ h => h) (Or.inl ⟨by rfl, by (intro w hSw; (try dsimp only at hSw); go_simp; try (first | omega | (rw [IntKind.wrap_i64]; omega)))⟩) (by assumption) ?_
      try simp only [List.getElem_toArray, List.getElem_cons_zero, List.getElem_cons_succ, Act.put, List.setIfInBounds_toArray, List.set_cons_zero, List.set_cons_succ, Array.toArray_toList]
      refine wpAnyH_take (i := 2) (v := .pointer (some ⟨b, o + j * 4, none⟩)) rfl (by kernel_rfl) (by kernel_rfl) (by kernel_rfl) (fun _ _ _ h => h) (Or.inl ⟨by rfl, by (intro w hSw; (try dsimp only at hSw); go_simp; try (first | omega | (rw [IntKind.wrap_i64]; omega)))⟩) (by assumption) ?_
      try simp only [List.getElem_toArray, List.getElem_cons_zero, List.getElem_cons_succ, Act.put, List.setIfInBounds_toArray, List.set_cons_zero, List.set_cons_succ, Array.toArray_toList]
      refine wpAnyH_take (i := 3) (v := .pointer (some ⟨b, o + j * 4 + 2, none⟩)) rfl (by kernel_rfl) (by kernel_rfl) (by kernel_rfl) (fun _ _ _ h => h) (Or.inl ⟨by rfl, by (intro w hSw; (try dsimp only at hSw); go_simp; try (first | omega | (rw [IntKind.wrap_i64]; omega)))⟩) (by assumption) ?_
      try simp only [List.getElem_toArray, List.getElem_cons_zero, List.getElem_cons_succ, Act.put, List.setIfInBounds_toArray, List.set_cons_zero, List.set_cons_succ, Array.toArray_toList]
      refine wpAnyH_take (i := 4) (v := .agg #[.int .u16 x.b, .int .u16 x.bp]) rfl (by kernel_rfl) (by kernel_rfl) (by kernel_rfl) (fun _ _ _ h => h) ?_ (by assumption) ?_
      · try simp only [List.getElem_toArray, List.getElem_cons_zero, List.getElem_cons_succ]
        exact yieldsIf_load_mid (by rfl) _ _ rfl (b) (o + j * 4 + 2) rfl [.int .u16 x.b, .int .u16 x.bp] _ (fun w hSw => hSw.2.1) huS rfl (hiS _ _)
      try simp only [List.getElem_toArray, List.getElem_cons_zero, List.getElem_cons_succ, Act.put, List.setIfInBounds_toArray, List.set_cons_zero, List.set_cons_succ, Array.toArray_toList]
      refine wpAnyH_take (i := 5) (v := .agg #[.int .u16 s, .int .u16 p]) rfl (by kernel_rfl) (by kernel_rfl) (by kernel_rfl) (fun _ _ _ h => h) ?_ (by assumption) ?_
      · try simp only [List.getElem_toArray, List.getElem_cons_zero, List.getElem_cons_succ]
        exact yieldsIf_load_mid (by rfl) _ _ rfl (w.heap.size) (0) rfl [.int .u16 s, .int .u16 p] _ (fun w hSw => hSw.2.2) huS rfl (hiS _ _)
      try simp only [List.getElem_toArray, List.getElem_cons_zero, List.getElem_cons_succ, Act.put, List.setIfInBounds_toArray, List.set_cons_zero, List.set_cons_succ, Array.toArray_toList]
      refine wpAnyH_take (i := 6) (v := .bool q2) rfl (by kernel_rfl) (by kernel_rfl) (by kernel_rfl) (fun _ _ _ h => h) (Or.inl ⟨by rfl, by (intro w hSw; (try dsimp only at hSw); go_simp; try (first | omega | (rw [IntKind.wrap_i64]; omega)))⟩) (by assumption) ?_
      try simp only [List.getElem_toArray, List.getElem_cons_zero, List.getElem_cons_succ, Act.put, List.setIfInBounds_toArray, List.set_cons_zero, List.set_cons_succ, Array.toArray_toList]
      refine wpAnyH_done (by kernel_rfl) ?_ _
      refine NoPanic.normal ?_
      clear hHeld he2 huS hiS
      cases q2 with
      | true =>
        have HF := Lib.hid (show overP s p l = some (x.a, x.ap) from by rw [← HT3.out, if_pos (of_decide_eq_true HQ2.out)])
        
        obtain ⟨d0, d1, d2, d3⟩ := HD.out _ hz1
        obtain ⟨-, b0, b1, f0, f1⟩ := HC.out _ (hx.out.trans hz1)
        generalize wn.drew.drew = wz at *
        go_wp2_with fail
        have k0 : ((wz.setCell ⟨w.heap.size + 1, 0, none⟩ (.int .u16 x.a)).setCell ⟨w.heap.size + 1, 1, none⟩ (.int .u16 x.ap)).cell? ⟨w.heap.size + 1, 0, none⟩ = some (.int .u16 x.a) := by
          rw [World.cell?_setCell_other _ _ _ _ (fun e => by injection e with _ e2; omega)]; exact World.cell?_setCell_same wz ⟨w.heap.size + 1, 0, none⟩ _ b0
        have k1 : ((wz.setCell ⟨w.heap.size + 1, 0, none⟩ (.int .u16 x.a)).setCell ⟨w.heap.size + 1, 1, none⟩ (.int .u16 x.ap)).cell? ⟨w.heap.size + 1, 1, none⟩ = some (.int .u16 x.ap) :=
          World.cell?_setCell_same _ ⟨w.heap.size + 1, 1, none⟩ _ (by rw [World.cell?_setCell_other _ _ _ _ (fun e => by injection e with _ e2; omega)]; exact b1)
        have hxe : Ext w ((wz.setCell ⟨w.heap.size + 1, 0, none⟩ (.int .u16 x.a)).setCell ⟨w.heap.size + 1, 1, none⟩ (.int .u16 x.ap)) := ((HX.out.trans (hx.out.trans hz1)).andSet (by show w.heap.size ≤ w.heap.size + 1; omega) _).andSet (by show w.heap.size ≤ w.heap.size + 1; omega) _
        refine bodyPost_ret_by (v := .tuple #[spotOf (overP s p l), .bool (overP s p l).isSome]) ?_ rfl ⟨rfl, hxe⟩
        rw [results_cell_tmp rfl, HF.out]
        generalize ((wz.setCell ⟨w.heap.size + 1, 0, none⟩ (.int .u16 x.a)).setCell ⟨w.heap.size + 1, 1, none⟩ (.int .u16 x.ap)) = wE at *
        go_simp
        try rfl
      | false =>
        have HT4 := Lib.hid (show overP s p (l.drop (j + 1)) = overP s p l from by rw [← HT3.out, if_neg (of_decide_eq_false HQ2.out)])
        go_wp2_with fail
        go_roundw
        case rel => exact ⟨j + 1, by omega, by go_num, HT4.out, hx.out.trans hz1⟩
        case measure => simp [intOf]; omega

set_option maxHeartbeats 8000000 in
set_option maxRecDepth 100000 in
theorem refHas_any (l : List Hdr) (v : Value) (x : Hdr) (w : World) (hv : HSl w 0 l v) (hm : l.length ≤ 9223372036854775807) :
    Calls Try.prog 34 #[v, .agg x.cs] w fun e w' => e = .returned (.bool (decide (x ∈ l))) ∧ Ext w w' := by
  obtain ⟨p, len, cap, rfl, hlen, hl⟩ := hv
  have HL := Lib.hid hlen
  obtain ⟨wA, hA⟩ : ∃ W : World, w.alloc (.cells x.cs 24) = W := ⟨_, rfl⟩
  have xA : Ext w wA := hA ▸ Ext.alloc _ _
  have rA : wA.rangeAt w.heap.size 0 x.cs.toList := by rw [← hA]; exact rangeAt_new w x.cs 24
  have HR := Lib.hid (fun W (hW : Ext wA W) => World.rangeAt.later hW.later rA)
  have HX := Lib.hid xA
  have HEQ := Lib.hid hA
  have HLR := Lib.hid (show l = [] ∨ ∃ b o, p = some ⟨b, o, none⟩ ∧ ∀ W, Ext w W → W.rangeAt b o (flatH l) from
    hl.imp id fun ⟨b, o, hp, _, hr⟩ => ⟨b, o, hp, fun W hW => World.rangeAt.later hW.later hr⟩)
  have hlm : len ≤ 9223372036854775807 := by omega
  have hiH : ∀ x : Hdr, (Try.prog.info? 24).map (·.size) = some x.cs.toList.length := fun x => by rw [x.len_cs]; kernel_rfl
  have HUS := Lib.hid (And.intro Try.underlying24 hiH)
  clear hA xA rA hlen hl hiH
  go_enter Try.func34, Try.ntmps34
  go_upto_region 1 with fail
  rw [HEQ.out]
  clear HEQ
  go_wp2_with fail
  go_loopw [5] (fun i wr => ∃ j : Nat, j ≤ len ∧ i = .int .i64 j ∧ Hid (x ∉ l.take j) ∧ Hid (Ext wA wr)) (fun i _ => len - (intOf i).toNat)
  case atStart => exact ⟨0, Nat.zero_le _, rfl, by show x ∉ l.take 0; simp, Ext.refl _⟩
  case round =>
    obtain ⟨wn, rfl⟩ : ∃ wn : World, wn = wr := ⟨_, rfl⟩
    obtain ⟨j, hj, rfl, hT, hx⟩ := hrel
    by_cases hlt : j < len
    case neg =>
      have HF := Lib.hid (show decide (x ∈ l) = false from by
        have := hT.out
        rw [List.take_of_length_le (by have := HL.out; omega)] at this
        exact decide_eq_false this)
      clear hT
      go_wp2_with fail
      go_ret
      exact ⟨by rw [HF.out]; rfl, HX.out.trans hx.out⟩
    have hjl : j < l.length := by rw [← HL.out]; exact hlt
    rcases HLR.out with hl | ⟨b, o, rfl, hr3⟩
    · exfalso; subst hl; simp at hjl
    have HTK := Lib.hid (show (x ∈ l.take (j + 1)) ↔ (x ∈ l.take j ∨ l[j] = x) from by
      rw [List.take_succ_eq_append_getElem hjl, List.mem_append, List.mem_singleton]
      exact ⟨fun h => h.imp id Eq.symm, fun h => h.imp id Eq.symm⟩)
    have HIN := Lib.hid (show l[j] ∈ l from List.getElem_mem hjl)
    have hrz := fun W (hW : Ext w W) => rangeAt_get Hdr.len_cs (hr3 W hW) j hjl
    generalize l[j] = z at *
    have HSS := Lib.hid (fun W (hW : Ext wn W) => (show (fun W => W.rangeAt b (o + j * 11) z.cs.toList ∧ W.rangeAt w.heap.size 0 x.cs.toList) W from
      ⟨hrz W (HX.out.trans (hx.out.trans hW)), HR.out W (hx.out.trans hW)⟩))
    have huH := HUS.out.1
    have hiH := HUS.out.2
    have hz0 : Ext wn wn.drew := Ext.drew _
    have he : ∀ W, (Op.equalIn 10000 24 (.agg z.cs) (.agg x.cs)).run Try.prog W = .ok (decide (z = x)) W := fun W => eqH z x W
    generalize hq : decide (z = x) = q at *
    have HQ := Lib.hid hq
    clear hrz hr3 hq
    go_upto_region 4 with fail
    refine wp_region_noPanic ?_
    refine wp_region_held_drew (S := (fun W => W.rangeAt b (o + j * 11) z.cs.toList ∧ W.rangeAt w.heap.size 0 x.cs.toList)) (by kernel_rfl) (HSS.out _ hz0) (fun hHeld => ?_)
    refine wpAnyH_take (i := 0) (v := .slice (some ⟨b, o, none⟩) len cap) rfl (by kernel_rfl) (by kernel_rfl) (by kernel_rfl) (fun _ _ _ h => h) (Or.inl ⟨by rfl, by (intro w hSw; (try dsimp only at hSw); go_simp; try (first | omega | (rw [IntKind.wrap_i64]; omega)))⟩) (by assumption) ?_
    try simp only [List.getElem_toArray, List.getElem_cons_zero, List.getElem_cons_succ, Act.put, List.setIfInBounds_toArray, List.set_cons_zero, List.set_cons_succ, Array.toArray_toList]
    refine wpAnyH_take (i := 1) (v := .int .i64 j) rfl (by kernel_rfl) (by kernel_rfl) (by kernel_rfl) (fun _ _ _ h => h) (Or.inl ⟨by rfl, by (intro w hSw; (try dsimp only at hSw); go_simp; try (first | omega | (rw [IntKind.wrap_i64]; omega)))⟩) (by assumption) ?_
    try simp only [List.getElem_toArray, List.getElem_cons_zero, List.getElem_cons_succ, Act.put, List.setIfInBounds_toArray, List.set_cons_zero, List.set_cons_succ, Array.toArray_toList]
    refine wpAnyH_take (i := 2) (v := .pointer (some ⟨b, o + j * 11, none⟩)) rfl (by kernel_rfl) (by kernel_rfl) (by kernel_rfl) (fun _ _ _ h => h) (Or.inl ⟨by rfl, by (intro w hSw; (try dsimp only at hSw); go_simp; try (first | omega | (rw [IntKind.wrap_i64]; omega)))⟩) (by assumption) ?_
    try simp only [List.getElem_toArray, List.getElem_cons_zero, List.getElem_cons_succ, Act.put, List.setIfInBounds_toArray, List.set_cons_zero, List.set_cons_succ, Array.toArray_toList]
    refine wpAnyH_take (i := 3) (v := .agg z.cs.toList.toArray) rfl (by kernel_rfl) (by kernel_rfl) (by kernel_rfl) (fun _ _ _ h => h) ?_ (by assumption) ?_
    · try simp only [List.getElem_toArray, List.getElem_cons_zero, List.getElem_cons_succ]
      exact yieldsIf_load_mid (by rfl) _ _ rfl (b) (o + j * 11) rfl z.cs.toList _ (fun w hSw => hSw.1) huH rfl (hiH z)
    try simp only [List.getElem_toArray, List.getElem_cons_zero, List.getElem_cons_succ, Act.put, List.setIfInBounds_toArray, List.set_cons_zero, List.set_cons_succ, Array.toArray_toList]
    refine wpAnyH_take (i := 4) (v := .agg x.cs.toList.toArray) rfl (by kernel_rfl) (by kernel_rfl) (by kernel_rfl) (fun _ _ _ h => h) ?_ (by assumption) ?_
    · try simp only [List.getElem_toArray, List.getElem_cons_zero, List.getElem_cons_succ]
      exact yieldsIf_load_mid (by rfl) _ _ rfl (w.heap.size) (0) rfl x.cs.toList _ (fun w hSw => hSw.2) huH rfl (hiH x)
    try simp only [List.getElem_toArray, List.getElem_cons_zero, List.getElem_cons_succ, Act.put, List.setIfInBounds_toArray, List.set_cons_zero, List.set_cons_succ, Array.toArray_toList]
    refine wpAnyH_take (i := 5) (v := .bool q) rfl (by kernel_rfl) (by kernel_rfl) (by kernel_rfl) (fun _ _ _ h => h) (Or.inl ⟨by rfl, by (intro w hSw; (try dsimp only at hSw); go_simp; try (first | omega | (rw [IntKind.wrap_i64]; omega)))⟩) (by assumption) ?_
    try simp only [List.getElem_toArray, List.getElem_cons_zero, List.getElem_cons_succ, Act.put, List.setIfInBounds_toArray, List.set_cons_zero, List.set_cons_succ, Array.toArray_toList]
    refine wpAnyH_done (by kernel_rfl) ?_ _
    refine NoPanic.normal ?_
    clear hHeld huH hiH he
    cases q with
    | true =>
      have HF := Lib.hid (show decide (x ∈ l) = true from decide_eq_true (of_decide_eq_true HQ.out ▸ HIN.out))
      go_wp2_with fail
      go_ret
      exact ⟨by rw [HF.out]; rfl, HX.out.trans (hx.out.trans hz0)⟩
    | false =>
      have HN := Lib.hid (show x ∉ l.take (j + 1) from by
        rw [HTK.out]
        exact fun h => h.elim hT.out (of_decide_eq_false HQ.out))
      clear hT
      go_wp2_with fail
      go_roundw
      case rel => exact ⟨j + 1, by omega, by go_num, HN.out, hx.out.trans hz0⟩
      case measure => simp [intOf]; omega
end Go.Proofs.Ytddeelepaiklgaa
/- Appends of headers inside a region that draws its order; parts of a slice of headers. -/
namespace Go.Proofs.Ytddeelepaiklgaa
open Go.RowKit Go.Maps Go.Sort Go.Lib
set_option linter.unusedSimpArgs false

theorem rangeAt_app {w : World} {b o : Nat} {xs ys : List Value} (h : w.rangeAt b o (xs ++ ys)) : w.rangeAt b o xs ∧ w.rangeAt b (o + xs.length) ys := by
  refine ⟨fun j v hv => h j v ?_, fun j v hv => ?_⟩
  · rw [List.getElem?_append_left (List.getElem?_eq_some_iff.1 hv).1]; exact hv
  · have := h (xs.length + j) v (by rw [List.getElem?_append_right (by omega), Nat.add_sub_cancel_left]; exact hv)
    rwa [show o + xs.length + j = o + (xs.length + j) from by omega]
theorem flatH_app (l m : List Hdr) : flatH (l ++ m) = flatH l ++ flatH m := by simp [flatH]
theorem hsl_head {W : World} {b o : Nat} {l : List Hdr} (hr : W.rangeAt b o (flatH l)) (k co : Nat) (hk : k ≤ l.length) : HSl W 0 (l.take k) (sliced (some ⟨b, o, none⟩) 0 k co 11) := by
  refine ⟨some ⟨b, o, none⟩, k, co, ?_, by rw [List.length_take]; omega, .inr ⟨b, o, rfl, Nat.zero_le _, ?_⟩⟩
  · unfold sliced
    rw [Nat.sub_zero, Nat.sub_zero]
    split <;> simp [Addr.add]
  · have e : flatH l = flatH (l.take k) ++ flatH (l.drop k) := by rw [← flatH_app, List.take_append_drop]
    rw [e] at hr
    exact (rangeAt_app hr).1
theorem hsl_tail {W : World} {b o : Nat} {l : List Hdr} (hr : W.rangeAt b o (flatH l)) (k lo co : Nat) (hl : lo = l.length) (hk : k + 1 ≤ lo) (hc : lo ≤ co) : HSl W 0 (l.drop (k + 1)) (sliced (some ⟨b, o, none⟩) (k + 1) lo co 11) := by
  refine ⟨_, lo - (k + 1), co - (k + 1), rfl, by rw [List.length_drop]; omega, ?_⟩
  by_cases h : lo = k + 1
  · exact .inl (List.length_eq_zero_iff.1 (by rw [List.length_drop]; omega))
  · refine .inr ⟨b, o + (k + 1) * 11, ?_, Nat.zero_le _, ?_⟩
    · rw [if_neg (by omega)]
      simp [Addr.add]
    · have e : flatH l = flatH (l.take (k + 1)) ++ flatH (l.drop (k + 1)) := by rw [← flatH_app, List.take_append_drop]
      rw [e] at hr
      have := (rangeAt_app hr).2
      rwa [flatH_len, List.length_take, show min (k + 1) l.length = k + 1 from by omega] at this
theorem hsl_one {w : World} {x : Hdr} (lo : Nat) (h : lo ≤ w.heap.size) : HSl (w.alloc (.cells x.cs 24)) lo [x] (.slice (some ⟨w.heap.size, 0, none⟩) 1 1) :=
  ⟨_, 1, 1, rfl, rfl, .inr ⟨w.heap.size, 0, rfl, h, by
    have := rangeAt_new w x.cs 24
    have e : flatH [x] = x.cs.toList := by simp [flatH]
    rwa [e]⟩⟩
theorem run_append_sl (w : World) (ty : TypeId) (base : Nat) (v : Value) (l : List Hdr) (hown : w.ownsRow base 24 11 v l.length (flatH l))
    (lo : Nat) (m : List Hdr) (u : Value) (hu : HSl w lo m u) (hlen : l.length + m.length < 1000000000) (hbase : base ≤ w.heap.size) :
    ∃ v' w', (Builtin.append_ #[25, 25] ty #[v, u]).run Try.prog w = .ok v' w' ∧ w'.ownsRow base 24 11 v' (l ++ m).length (flatH (l ++ m)) ∧ w.grownBy w' v.ownBlock ∧ (v'.ownBlock = v.ownBlock ∨ v'.ownBlock = some w.heap.size) := by
  obtain ⟨q, n, k, rfl, hn, hq⟩ := hu
  rcases Nat.eq_zero_or_pos n with h0 | hpos
  · subst h0
    have hm : m = [] := List.length_eq_zero_iff.1 hn.symm
    subst hm
    obtain ⟨p, c, rfl, hc⟩ := owns_at hown
    exact ⟨_, _, run_append_zero w ty p q l.length c k hc, by simpa using hown, ⟨rfl, rfl, rfl, Nat.le_refl _, fun _ _ _ => rfl⟩, .inl rfl⟩
  · rcases hq with hq | ⟨b, o', rfl, -, hr⟩
    · exfalso; subst hq; simp at hn; omega
    obtain ⟨i0, hi0, hz0, hz1, hz2⟩ := info_parts infoH
    obtain ⟨v', w', hr, h2, h3, -, h5⟩ := run_append_own_at (P := Try.prog) w base 25 ty 24 i0 _ 11 88 Try.underlying25 hi0 hz0 hz1 hz2 rfl (by omega) v l.length (flatH l) hown ⟨b, o', none⟩ n k (flatH m) (by rw [flatH_len, hn])
      (fun j u hu => by rw [Addr.add_mid]; exact hr j u hu) (fun u hu => by
        obtain ⟨h, -, hh⟩ := List.mem_flatMap.1 hu
        exact h.one u hh) (by unfold maxLen; omega) (by omega) hbase
    refine ⟨v', w', hr, ?_, h3, h5⟩
    have e : flatH (l ++ m) = flatH l ++ flatH m := by simp [flatH]
    rw [e, List.length_append, ← hn]
    exact h2
/-- at a step of a region that draws -/
theorem step_append_sl {ops : Array Oper} {o : Oper} {a : Act} {w : World} {K : Act → World → Prop} {Q : Exit → Act → World → Prop} {E : Prop} (hgd : o.guard = none) (s x : Operand)
    (ho : o.op = .call { callee := .builtin .append, args := #[s, x], argTypes := #[25, 25] }) (base : Nat) (v : Value) (l : List Hdr) (hs : a.eval s = v) (hown : w.ownsRow base 24 11 v l.length (flatH l))
    (lo : Nat) (m : List Hdr) (u : Value) (hx : a.eval x = u) (hu : HSl w lo m u) (hlen : l.length + m.length < 1000000000) (hbase : base ≤ w.heap.size)
    (h : ∀ v' w', w'.ownsRow base 24 11 v' (l ++ m).length (flatH (l ++ m)) → w.grownBy w' v.ownBlock → (v'.ownBlock = v.ownBlock ∨ v'.ownBlock = some w.heap.size) → K (a.put o.dst v') w') :
    if Region.wanted o (yielded ops a.tmps) = true then Oper.wp Try.prog o a w K Q else E := by
  have hw : Region.wanted o (yielded ops a.tmps) = true := by simp [Region.wanted, hgd]
  rw [if_pos hw]
  obtain ⟨v', w', hr, h2, h3, h5⟩ := run_append_sl w o.type base v l hown lo m u hu hlen hbase
  unfold Oper.wp execOp
  simp only [ho, resolve, invoke, builtin, Sem.run_bind, Sem.run_pure, Result.andThen_ok, List.map_toArray, List.map_cons, List.map_nil, hs, hx, hr]
  exact h v' w' h2 h3 h5
/-- []Header{y} at a step of a region that draws -/
theorem step_one_H {o : Oper} {ops : Array Oper} {a : Act} {w : World} {K : Act → World → Prop} {Q : Exit → Act → World → Prop} {E : Prop} (hgd : o.guard = none) (x : Operand) (ho : o.op = .buildSlice 25 1 #[(0, x)]) (y : Hdr) (hx : a.eval x = .agg y.cs)
    (h : K (a.put o.dst (.slice (some ⟨w.heap.size, 0, none⟩) 1 1)) (w.alloc (.cells y.cs 24))) :
    if Region.wanted o (yielded ops a.tmps) = true then Oper.wp Try.prog o a w K Q else E := by
  have hw : Region.wanted o (yielded ops a.tmps) = true := by simp [Region.wanted, hgd]
  rw [if_pos hw]
  have hr := run_buildSlice_one (P := Try.prog) Try.underlying25 sizeH zeroH (by omega) (by omega) y.size_cs w
  unfold Oper.wp execOp
  simp only [ho, Sem.run_bind, Sem.run_pure, Result.andThen_ok, List.map_toArray, List.map_cons, List.map_nil, hx, hr]
  exact h
end Go.Proofs.Ytddeelepaiklgaa
/- The document's put. -/
namespace Go.Proofs.Ytddeelepaiklgaa
open Go.RowKit Go.Maps Go.Sort Go.Lib
set_option linter.unusedSimpArgs false

theorem addH_of_mem {l : List Hdr} {x : Hdr} (ha : Asc l) (hx : x ∈ l) : addH l x = l := by
  obtain ⟨k, hk, he⟩ := List.getElem_of_mem hx
  refine addH_there (k := k) (fun m hm hmk => ?_) hk he
  rw [← he]
  exact List.pairwise_iff_getElem.1 ha m k hm hk hmk

theorem hsl_take {W : World} {lo : Nat} {l : List Hdr} {p : Option Addr} {len cap : Nat} (h : HSl W lo l (.slice p len cap)) (k : Nat) (hk : k ≤ len) : HSl W 0 (l.take k) (.slice p k cap) := by
  obtain ⟨p', len', cap', he, hlen, hl⟩ := h
  cases he
  rcases hl with rfl | ⟨b, o, rfl, -, hr⟩
  · have : k = 0 := by simp at hlen; omega
    subst this
    exact ⟨_, _, _, rfl, by simp, .inl (by simp)⟩
  · refine ⟨some ⟨b, o, none⟩, k, cap, rfl, by rw [List.length_take]; omega, .inr ⟨b, o, rfl, Nat.zero_le _, ?_⟩⟩
    have e : flatH l = flatH (l.take k) ++ flatH (l.drop k) := by rw [← flatH_app, List.take_append_drop]
    rw [e] at hr
    exact (rangeAt_app hr).1
theorem hsl_drop {W : World} {lo : Nat} {l : List Hdr} {p : Option Addr} {len cap : Nat} (h : HSl W lo l (.slice p len cap)) (k : Nat) (hk : k ≤ len) (hc : len ≤ cap) : HSl W 0 (l.drop k) (sliced p k len cap 11) := by
  obtain ⟨p', len', cap', he, hlen, hl⟩ := h
  cases he
  rcases hl with rfl | ⟨b, o, rfl, -, hr⟩
  · refine ⟨_, _, _, rfl, ?_, .inl (by simp)⟩
    simp at hlen ⊢; omega
  · cases k with
    | succ k => exact hsl_tail hr k len cap hlen hk hc
    | zero =>
      refine ⟨_, _, _, rfl, by simp [hlen], .inr ⟨b, o, ?_, Nat.zero_le _, by simpa using hr⟩⟩
      split <;> simp [Addr.add]
theorem HSl.zero {W : World} {lo : Nat} {l : List Hdr} {v : Value} (h : HSl W lo l v) : HSl W 0 (l.drop 0) v := h.mono (Nat.zero_le _)
def CapOk (v : Value) : Prop := ∃ p n c, v = .slice p n c ∧ n ≤ c ∧ c ≤ 9223372036854775807
theorem capOk_owns {w : World} {base : Nat} {l : List Hdr} {v : Value} (h : w.ownsRow base 24 11 v l.length (flatH l)) : CapOk v := by
  rcases h.2 with ⟨rfl, h0⟩ | ⟨g, cap, cur, rfl, hb, hg, hn, hm, hs, ht⟩
  · exact ⟨none, 0, 0, rfl, Nat.le_refl _, by omega⟩
  · exact ⟨_, _, cap, rfl, hn, by simpa [maxLen] using hm⟩

set_option maxHeartbeats 8000000 in
set_option maxRecDepth 100000 in
theorem refPut_any (l : List Hdr) (v : Value) (x : Hdr) (lo : Nat) (w : World) (hv : HSl w lo l v) (hasc : Asc l) (hm : l.length ≤ 100000) (hcap : CapOk v) :
    Calls Try.prog 33 #[v, .agg x.cs] w fun e w' => ∃ u, e = .returned u ∧ ((u = v ∧ addH l x = l) ∨ (HSl w' w.heap.size (addH l x) u ∧ CapOk u)) ∧ Ext w w' := by
  have hasc0 := hasc
  have HV0 := Lib.hid hv
  obtain ⟨p, len, cap, rfl, hlen, hl⟩ := hv
  obtain ⟨_, _, _, he0, hlc, hcm⟩ := hcap
  cases he0
  have HL := Lib.hid hlen
  have hlm : len ≤ 100000 := by omega
  obtain ⟨wA, hA⟩ : ∃ W : World, w.alloc (.cells x.cs 24) = W := ⟨_, rfl⟩
  have xA : Ext w wA := hA ▸ Ext.alloc _ _
  have rA : wA.rangeAt w.heap.size 0 x.cs.toList := by rw [← hA]; exact rangeAt_new w x.cs 24
  have HR := Lib.hid (fun W (hW : Ext wA W) => World.rangeAt.later hW.later rA)
  have HX := Lib.hid xA
  have HEQ := Lib.hid hA
  have HR0 := Lib.hid rA
  have HLR := Lib.hid (show l = [] ∨ ∃ b o, p = some ⟨b, o, none⟩ ∧ ∀ W, Ext w W → W.rangeAt b o (flatH l) from
    hl.imp id fun ⟨b, o, hp, _, hr⟩ => ⟨b, o, hp, fun W hW => World.rangeAt.later hW.later hr⟩)
  have hiH : ∀ x : Hdr, (Try.prog.info? 24).map (·.size) = some x.cs.toList.length := fun x => by rw [x.len_cs]; kernel_rfl
  have HUS := Lib.hid (And.intro Try.underlying24 hiH)
  have HHAS := Lib.hid (fun W (hW : Ext w W) => refHas_any l (.slice p len cap) x W ((HV0.out.ext hW).mono (Nat.zero_le _)) (by omega))
  have HAS := Lib.hid hasc
  clear hA xA rA hlen hl hiH hasc
  go_enter Try.func33, Try.ntmps33
  go_upto_region 1 with fail
  rw [HEQ.out]
  clear HEQ
  go_wp2_with (first | (refine wpList_load_H rfl _ rfl _ _ rfl x HR0.out ?_))
  refine (HHAS.out _ HX.out).mono ?_
  rintro e w1 ⟨rfl, hx1⟩
  have HX1 := Lib.hid hx1
  by_cases hin : x ∈ l
  · have HE := Lib.hid (show addH l x = l from addH_of_mem hasc0 hin)
    rw [decide_eq_true hin]
    clear hin
    go_wp2_with fail
    go_ret
    exact ⟨_, rfl, .inl ⟨rfl, HE.out⟩, HX.out.trans HX1.out⟩
  rw [decide_eq_false hin]
  have HIN := Lib.hid hin
  clear hin
  go_wp2_with fail
  go_loopw [6] (fun i wr => ∃ k : Nat, k ≤ len ∧ i = .int .i64 k ∧ Hid (∀ m (h : m < l.length), k ≤ m → ltH x (l[m]) = true) ∧ Hid (Ext w1 wr)) (fun i _ => (intOf i).toNat)
  case atStart => exact ⟨len, Nat.le_refl _, rfl, fun m h hm => by have := HL.out; omega, Ext.refl _⟩
  case round =>
    obtain ⟨wo, rfl⟩ : ∃ wo : World, wo = wr := ⟨_, rfl⟩
    obtain ⟨k, hk, rfl, hT, hx⟩ := hrel
    have hz0 : Ext wo wo.drew := Ext.drew _
    by_cases hk0 : k = 0
    · subst hk0
      have HF := Lib.hid (show l.take 0 ++ x :: l.drop 0 = addH l x from (addH_new (l := l) (k := 0) (fun m h hm => by omega) (Nat.zero_le _) (fun h => by
        have h1 := hT.out 0 h (Nat.le_refl _)
        exact ⟨ltH_asymm h1, fun e => by rw [e, ltH_irrefl] at h1; cases h1⟩)).symm)
      clear hT
      go_upto_region 5 with fail
      refine wp_region_noPanic ?_
      refine wp_region_held_drew (S := (fun W => W.rangeAt w.heap.size 0 x.cs.toList)) (by kernel_rfl) (HR.out _ (HX1.out.trans (hx.out.trans hz0))) (fun hHeld => ?_)
      refine wpAnyH_take (i := 0) (v := .int .i64 0) rfl (by kernel_rfl) (by kernel_rfl) (by kernel_rfl) (fun _ _ _ h => h) (Or.inl ⟨by rfl, by (intro w hSw; (try dsimp only at hSw); go_simp; try (first | omega | (rw [IntKind.wrap_i64]; omega)))⟩) (by assumption) ?_
      try simp only [List.getElem_toArray, List.getElem_cons_zero, List.getElem_cons_succ, Act.put, List.setIfInBounds_toArray, List.set_cons_zero, List.set_cons_succ, Array.toArray_toList]
      refine wpAnyH_take (i := 1) (v := .bool false) rfl (by kernel_rfl) (by kernel_rfl) (by kernel_rfl) (fun _ _ _ h => h) (Or.inl ⟨by rfl, by (intro w hSw; (try dsimp only at hSw); go_simp; try (first | omega | (rw [IntKind.wrap_i64]; omega)))⟩) (by assumption) ?_
      try simp only [List.getElem_toArray, List.getElem_cons_zero, List.getElem_cons_succ, Act.put, List.setIfInBounds_toArray, List.set_cons_zero, List.set_cons_succ, Array.toArray_toList]
      refine wpAnyH_take (i := 2) (v := .bool false) rfl (by kernel_rfl) (by kernel_rfl) (by kernel_rfl) (fun _ _ _ h => h) (Or.inl ⟨by rfl, by (intro w hSw; (try dsimp only at hSw); go_simp; try (first | omega | (rw [IntKind.wrap_i64]; omega)))⟩) (by assumption) ?_
      try simp only [List.getElem_toArray, List.getElem_cons_zero, List.getElem_cons_succ, Act.put, List.setIfInBounds_toArray, List.set_cons_zero, List.set_cons_succ, Array.toArray_toList]
      refine wpAnyH_take (i := 3) (v := undef) rfl (by kernel_rfl) (by kernel_rfl) (by kernel_rfl) (fun _ _ _ h => h) (Or.inr ⟨by rfl, rfl⟩) (by assumption) ?_
      try simp only [List.getElem_toArray, List.getElem_cons_zero, List.getElem_cons_succ, Act.put, List.setIfInBounds_toArray, List.set_cons_zero, List.set_cons_succ, Array.toArray_toList]
      refine wpAnyH_take (i := 4) (v := undef) rfl (by kernel_rfl) (by kernel_rfl) (by kernel_rfl) (fun _ _ _ h => h) (Or.inr ⟨by rfl, rfl⟩) (by assumption) ?_
      try simp only [List.getElem_toArray, List.getElem_cons_zero, List.getElem_cons_succ, Act.put, List.setIfInBounds_toArray, List.set_cons_zero, List.set_cons_succ, Array.toArray_toList]
      refine wpAnyH_take (i := 5) (v := undef) rfl (by kernel_rfl) (by kernel_rfl) (by kernel_rfl) (fun _ _ _ h => h) (Or.inr ⟨by rfl, rfl⟩) (by assumption) ?_
      try simp only [List.getElem_toArray, List.getElem_cons_zero, List.getElem_cons_succ, Act.put, List.setIfInBounds_toArray, List.set_cons_zero, List.set_cons_succ, Array.toArray_toList]
      refine wpAnyH_take (i := 6) (v := undef) rfl (by kernel_rfl) (by kernel_rfl) (by kernel_rfl) (fun _ _ _ h => h) (Or.inr ⟨by rfl, rfl⟩) (by assumption) ?_
      try simp only [List.getElem_toArray, List.getElem_cons_zero, List.getElem_cons_succ, Act.put, List.setIfInBounds_toArray, List.set_cons_zero, List.set_cons_succ, Array.toArray_toList]
      refine wpAnyH_take (i := 7) (v := undef) rfl (by kernel_rfl) (by kernel_rfl) (by kernel_rfl) (fun _ _ _ h => h) (Or.inr ⟨by rfl, rfl⟩) (by assumption) ?_
      try simp only [List.getElem_toArray, List.getElem_cons_zero, List.getElem_cons_succ, Act.put, List.setIfInBounds_toArray, List.set_cons_zero, List.set_cons_succ, Array.toArray_toList]
      refine wpAnyH_take (i := 8) (v := undef) rfl (by kernel_rfl) (by kernel_rfl) (by kernel_rfl) (fun _ _ _ h => h) (Or.inr ⟨by rfl, rfl⟩) (by assumption) ?_
      try simp only [List.getElem_toArray, List.getElem_cons_zero, List.getElem_cons_succ, Act.put, List.setIfInBounds_toArray, List.set_cons_zero, List.set_cons_succ, Array.toArray_toList]
      refine wpAnyH_take (i := 9) (v := undef) rfl (by kernel_rfl) (by kernel_rfl) (by kernel_rfl) (fun _ _ _ h => h) (Or.inr ⟨by rfl, rfl⟩) (by assumption) ?_
      try simp only [List.getElem_toArray, List.getElem_cons_zero, List.getElem_cons_succ, Act.put, List.setIfInBounds_toArray, List.set_cons_zero, List.set_cons_succ, Array.toArray_toList]
      refine wpAnyH_take (i := 10) (v := .bool false) rfl (by kernel_rfl) (by kernel_rfl) (by kernel_rfl) (fun _ _ _ h => h) (Or.inl ⟨by rfl, by (intro w hSw; (try dsimp only at hSw); go_simp; try (first | omega | (rw [IntKind.wrap_i64]; omega)))⟩) (by assumption) ?_
      try simp only [List.getElem_toArray, List.getElem_cons_zero, List.getElem_cons_succ, Act.put, List.setIfInBounds_toArray, List.set_cons_zero, List.set_cons_succ, Array.toArray_toList]
      refine wpAnyH_done (by kernel_rfl) ?_ _
      refine NoPanic.normal ?_
      clear hHeld
      have HXZ := Lib.hid (HX1.out.trans (hx.out.trans hz0))
      generalize wo.drew = wz at *
      clear hx hz0
      have HRX := Lib.hid (HR.out wz HXZ.out)
      have HSV := Lib.hid (fun W (hW : Ext wz W) => (HV0.out.ext HX.out).ext (HXZ.out.trans hW))
      have HEAD := Lib.hid (fun W (hW : Ext wz W) => show HSl W 0 (l.take 0) (.slice p 0 cap) from hsl_take (HSV.out W hW) 0 hk)
      have HOZ := Lib.hid (show wz.ownsRow wz.heap.size 24 11 (.slice none 0 0) ([] : List Hdr).length (flatH []) from World.ownsRow_nil _ _ _ _)
      have hlk : ([] ++ l.take 0).length < 1000000000 := by rw [List.nil_append, List.length_take]; omega
      have hld : (l.drop 0).length ≤ 100000 := by rw [List.length_drop]; omega
      go_wp2_with (at_builtin; refine wpList_append_sl rfl (.tmp 28) (.tmp 31) rfl wz.heap.size (.slice none 0 0) [] rfl HOZ.out 0 (l.take 0) (.slice p 0 cap) rfl (HEAD.out _ (Ext.refl _)) (by simp only [List.length_nil, List.length_take]; omega) (Nat.le_refl _) ?_; intro v1 y1 o1 g1 t1; refine Hid.out ?_)
      refine Lib.hid ?_
      have zy1 := Lib.hid ((Ext.refl wz).grown0 g1)
      have HB1 := Lib.hid (fun i (hi : v1.ownBlock = some i) => (o1.lt i hi).1)
      have HO1 := Lib.hid (o1.alloc (.cells x.cs 24))
      have hrx1 := Lib.hid (World.rangeAt.later zy1.out.later HRX.out)
      have hsz1 : wz.heap.size ≤ (y1.alloc (.cells x.cs 24)).heap.size := (zy1.out.andAlloc _).size
      clear o1 g1 t1
      go_wp2_with (first
        | (refine wpList_load_H rfl _ rfl w.heap.size 0 rfl x hrx1.out ?_)
        | (refine wpList_one_H rfl _ rfl x rfl ?_)
        | (at_builtin; refine wpList_append_H rfl (.tmp 33) (.tmp 35) rfl wz.heap.size v1 ([] ++ l.take 0) rfl HO1.out _ x rfl (rangeAt_new _ _ _) hlk hsz1 ?_; intro v2 y2 o2 g2; refine Hid.out ?_))
      refine Lib.hid ?_
      have zy2 := Lib.hid ((zy1.out.andAlloc _).grown g2 HB1.out)
      have HO2 := Lib.hid o2
      have HB2 := Lib.hid (fun i (hi : v2.ownBlock = some i) => (o2.lt i hi).1)
      have hsz2 : wz.heap.size ≤ y2.heap.size := zy2.out.size
      clear o2 g2
      go_wp2_with (at_builtin; refine wpList_append_sl rfl (.tmp 37) (.tmp 40) rfl wz.heap.size v2 ([] ++ l.take 0 ++ [x]) rfl HO2.out 0 (l.drop 0) _ rfl (HSV.out _ zy2.out).zero (by simp only [List.length_append, List.length_nil, List.length_take, List.length_cons]; omega) hsz2 ?_; intro v3 y3 o3 g3 t3; refine Hid.out ?_)
      all_goals (
        refine Lib.hid ?_
        have zy3 := Lib.hid (zy2.out.grown g3 HB2.out)
        have HO3 := Lib.hid o3
        clear o3 g3 t3
        go_wp2_with fail
        go_ret
        refine ⟨_, rfl, .inr ⟨?_, ?_⟩, HX.out.trans (HXZ.out.trans zy3.out)⟩
        · have e : [] ++ l.take 0 ++ [x] ++ l.drop 0 = addH l x := by rw [← HF.out]; simp
          have h3 := HO3.out
          rw [e] at h3
          exact (HSl.of_owns h3).mono (HX.out.trans HXZ.out).size
        · exact capOk_owns HO3.out)
    · have hkk : ((k : Int) - 1).toNat = k - 1 := by omega
      have hkw : IntKind.i64.wrap ((k : Int) - 1) = (k : Int) - 1 := by rw [IntKind.wrap_i64]; omega
      have hk1 : (0 : Int) ≤ (k : Int) - 1 := by omega
      have hk2 : (k : Int) - 1 < len := by omega
      have hk3 : (0 : Int) < k := by omega
      have hkl : k - 1 < l.length := by have := HL.out; omega
      rcases HLR.out with hl | ⟨b, o, rfl, hr3⟩
      · exfalso; subst hl; simp at hkl
      have hrz := fun W (hW : Ext w W) => rangeAt_get Hdr.len_cs (hr3 W hW) (k - 1) hkl
      obtain ⟨z, hz⟩ : ∃ z, z = l[k - 1] := ⟨_, rfl⟩
      rw [← hz] at hrz
      have HZ := Lib.hid hz
      have HSS := Lib.hid (fun W (hW : Ext wo W) => (show (fun W => W.rangeAt b (o + (k - 1) * 11) z.cs.toList ∧ W.rangeAt w.heap.size 0 x.cs.toList) W from
        ⟨hrz W (HX.out.trans (HX1.out.trans (hx.out.trans hW))), HR.out W (HX1.out.trans (hx.out.trans hW))⟩))
      have huH := HUS.out.1
      have hiH := HUS.out.2
      have HLs := Lib.hid (fun W => refLess_any x z W)
      clear hz hrz hr3
      go_upto_region 5 with fail
      refine wp_region_noPanic ?_
      refine wp_region_held_drew (S := (fun W => W.rangeAt b (o + (k - 1) * 11) z.cs.toList ∧ W.rangeAt w.heap.size 0 x.cs.toList)) (by kernel_rfl) (HSS.out _ hz0) (fun hHeld => ?_)
      refine wpAnyH_take (i := 0) (v := .int .i64 k) rfl (by kernel_rfl) (by kernel_rfl) (by kernel_rfl) (fun _ _ _ h => h) (Or.inl ⟨by rfl, by (intro w hSw; (try dsimp only at hSw); go_simp; try (first | omega | (rw [IntKind.wrap_i64]; omega)))⟩) (by assumption) ?_
      try simp only [List.getElem_toArray, List.getElem_cons_zero, List.getElem_cons_succ, Act.put, List.setIfInBounds_toArray, List.set_cons_zero, List.set_cons_succ, Array.toArray_toList]
      refine wpAnyH_take (i := 1) (v := .bool true) rfl (by kernel_rfl) (by kernel_rfl) (by kernel_rfl) (fun _ _ _ h => h) (Or.inl ⟨by rfl, by (intro w hSw; (try dsimp only at hSw); go_simp; try (first | omega | (rw [IntKind.wrap_i64]; omega)))⟩) (by assumption) ?_
      try simp only [List.getElem_toArray, List.getElem_cons_zero, List.getElem_cons_succ, Act.put, List.setIfInBounds_toArray, List.set_cons_zero, List.set_cons_succ, Array.toArray_toList]
      refine wpAnyH_take (i := 2) (v := .bool true) rfl (by kernel_rfl) (by kernel_rfl) (by kernel_rfl) (fun _ _ _ h => h) (Or.inl ⟨by rfl, by (intro w hSw; (try dsimp only at hSw); go_simp; try (first | omega | (rw [IntKind.wrap_i64]; omega)))⟩) (by assumption) ?_
      try simp only [List.getElem_toArray, List.getElem_cons_zero, List.getElem_cons_succ, Act.put, List.setIfInBounds_toArray, List.set_cons_zero, List.set_cons_succ, Array.toArray_toList]
      refine wpAnyH_take (i := 3) (v := .agg x.cs.toList.toArray) rfl (by kernel_rfl) (by kernel_rfl) (by kernel_rfl) (fun _ _ _ h => h) ?_ (by assumption) ?_
      · try simp only [List.getElem_toArray, List.getElem_cons_zero, List.getElem_cons_succ]
        exact yieldsIf_load_mid (by rfl) _ _ rfl (w.heap.size) (0) rfl x.cs.toList _ (fun w hSw => hSw.2) huH rfl (hiH x)
      try simp only [List.getElem_toArray, List.getElem_cons_zero, List.getElem_cons_succ, Act.put, List.setIfInBounds_toArray, List.set_cons_zero, List.set_cons_succ, Array.toArray_toList]
      refine wpAnyH_take (i := 4) (v := .slice (some ⟨b, o, none⟩) len cap) rfl (by kernel_rfl) (by kernel_rfl) (by kernel_rfl) (fun _ _ _ h => h) (Or.inl ⟨by rfl, by (intro w hSw; (try dsimp only at hSw); go_simp; try (first | omega | (rw [IntKind.wrap_i64]; omega)))⟩) (by assumption) ?_
      try simp only [List.getElem_toArray, List.getElem_cons_zero, List.getElem_cons_succ, Act.put, List.setIfInBounds_toArray, List.set_cons_zero, List.set_cons_succ, Array.toArray_toList]
      refine wpAnyH_take (i := 5) (v := .int .i64 k) rfl (by kernel_rfl) (by kernel_rfl) (by kernel_rfl) (fun _ _ _ h => h) (Or.inl ⟨by rfl, by (intro w hSw; (try dsimp only at hSw); go_simp; try (first | omega | (rw [IntKind.wrap_i64]; omega)))⟩) (by assumption) ?_
      try simp only [List.getElem_toArray, List.getElem_cons_zero, List.getElem_cons_succ, Act.put, List.setIfInBounds_toArray, List.set_cons_zero, List.set_cons_succ, Array.toArray_toList]
      refine wpAnyH_take (i := 6) (v := .int .i64 ((k : Int) - 1)) rfl (by kernel_rfl) (by kernel_rfl) (by kernel_rfl) (fun _ _ _ h => h) (Or.inl ⟨by rfl, by (intro w hSw; (try dsimp only at hSw); go_simp; try (first | omega | (rw [IntKind.wrap_i64]; omega)))⟩) (by assumption) ?_
      try simp only [List.getElem_toArray, List.getElem_cons_zero, List.getElem_cons_succ, Act.put, List.setIfInBounds_toArray, List.set_cons_zero, List.set_cons_succ, Array.toArray_toList]
      refine wpAnyH_take (i := 7) (v := .pointer (some ⟨b, o + (k - 1) * 11, none⟩)) rfl (by kernel_rfl) (by kernel_rfl) (by kernel_rfl) (fun _ _ _ h => h) (Or.inl ⟨by rfl, by (intro w hSw; (try dsimp only at hSw); go_simp; try (first | omega | (rw [IntKind.wrap_i64]; omega)))⟩) (by assumption) ?_
      try simp only [List.getElem_toArray, List.getElem_cons_zero, List.getElem_cons_succ, Act.put, List.setIfInBounds_toArray, List.set_cons_zero, List.set_cons_succ, Array.toArray_toList]
      refine wpAnyH_take (i := 8) (v := .agg z.cs.toList.toArray) rfl (by kernel_rfl) (by kernel_rfl) (by kernel_rfl) (fun _ _ _ h => h) ?_ (by assumption) ?_
      · try simp only [List.getElem_toArray, List.getElem_cons_zero, List.getElem_cons_succ]
        exact yieldsIf_load_mid (by rfl) _ _ rfl (b) (o + (k - 1) * 11) rfl z.cs.toList _ (fun w hSw => hSw.1) huH rfl (hiH z)
      try simp only [List.getElem_toArray, List.getElem_cons_zero, List.getElem_cons_succ, Act.put, List.setIfInBounds_toArray, List.set_cons_zero, List.set_cons_succ, Array.toArray_toList]
      refine wpAnyH_ready (rs := [9]) (by kernel_rfl) (by simp) ?_
      refine AllReadyH.cons (i := 9) rfl (fun K hK => ?_) AllReadyH.nil
      go_simp
      go_at_call 22
      refine (HLs.out _).mono ?_
      rintro e y1 ⟨rfl, n5, hw5⟩
      have hz1 : Ext wo y1 := hz0.trans (hw5 ▸ ((Ext.alloc _ _).andAlloc _).andDrewN _)
      clear hw5
      refine hK.out _ _ (HSS.out _ hz1) (fun hHeld1 => ?_)
      clear hK K
      try simp only [List.getElem_toArray, List.getElem_cons_zero, List.getElem_cons_succ, Act.put, List.setIfInBounds_toArray, List.set_cons_zero, List.set_cons_succ, Array.toArray_toList]
      refine wpAnyH_take (i := 10) (v := .bool (decide (cmpH x z < 0))) rfl (by kernel_rfl) (by kernel_rfl) (by kernel_rfl) (fun _ _ _ h => h) (Or.inl ⟨by rfl, by (intro w hSw; (try dsimp only at hSw); go_simp; try (first | omega | (rw [IntKind.wrap_i64]; omega)))⟩) (by assumption) ?_
      try simp only [List.getElem_toArray, List.getElem_cons_zero, List.getElem_cons_succ, Act.put, List.setIfInBounds_toArray, List.set_cons_zero, List.set_cons_succ, Array.toArray_toList]
      refine wpAnyH_done (by kernel_rfl) ?_ _
      refine NoPanic.normal ?_
      clear hHeld hHeld1 huH hiH
      cases hq : decide (cmpH x z < 0) with
      | true =>
        have HT2 := Lib.hid (show ∀ m (h : m < l.length), k - 1 ≤ m → ltH x (l[m]) = true from fun m h hm => by
          by_cases he : m = k - 1
          · subst he; rw [← HZ.out]; exact hq
          · exact hT.out m h (by omega))
        clear hq hT hkk hkw
        go_wp2_with fail
        go_roundw
        case rel => exact ⟨k - 1, by omega, by congr 1; omega, HT2.out, hx.out.trans hz1⟩
        case measure => simp [intOf]; omega
      | false =>
        have HF := Lib.hid (show l.take k ++ x :: l.drop k = addH l x from (addH_new (l := l) (k := k) (fun m h hm => by
          have h0 : ltH z x = true := by
            cases hc : ltH z x with
            | true => rfl
            | false =>
              have : z = x := ltH_conn hc hq
              exact absurd (this ▸ HZ.out ▸ List.getElem_mem hkl) HIN.out
          by_cases he : m = k - 1
          · subst he; rw [← HZ.out]; exact h0
          · have h1 := List.pairwise_iff_getElem.1 HAS.out m (k - 1) h hkl (by omega)
            rw [← HZ.out] at h1
            exact ltH_trans h1 h0) (by have := HL.out; omega) (fun h => by
          have h1 := hT.out k h (Nat.le_refl _)
          exact ⟨ltH_asymm h1, fun e => by rw [e, ltH_irrefl] at h1; cases h1⟩)).symm)
        have HXZ := Lib.hid (HX1.out.trans (hx.out.trans hz1))
        obtain ⟨wz, hwz⟩ : ∃ wz, wz = y1 := ⟨_, rfl⟩
        obtain ⟨p, hp⟩ : ∃ p : Option Addr, p = some ⟨b, o, none⟩ := ⟨_, rfl⟩
        rw [← hwz] at HXZ ⊢
        rw [← hp] at HV0 ⊢
        have HP := Lib.hid hp
        clear hp hwz hq hT hkk hkw hx hz0 hz1
        have HRX := Lib.hid (HR.out wz HXZ.out)
        have HSV := Lib.hid (fun W (hW : Ext wz W) => (HV0.out.ext HX.out).ext (HXZ.out.trans hW))
        have HEAD := Lib.hid (fun W (hW : Ext wz W) => show HSl W 0 (l.take k) (.slice p k cap) from hsl_take (HSV.out W hW) k hk)
        have HOZ := Lib.hid (show wz.ownsRow wz.heap.size 24 11 (.slice none 0 0) ([] : List Hdr).length (flatH []) from World.ownsRow_nil _ _ _ _)
        have hlk : ([] ++ l.take k).length < 1000000000 := by rw [List.nil_append, List.length_take]; omega
        have hld : (l.drop k).length ≤ 100000 := by rw [List.length_drop]; omega
        go_wp2_with (at_builtin; refine wpList_append_sl rfl (.tmp 28) (.tmp 31) rfl wz.heap.size (.slice none 0 0) [] rfl HOZ.out 0 (l.take k) (.slice p k cap) rfl (HEAD.out _ (Ext.refl _)) (by simp only [List.length_nil, List.length_take]; omega) (Nat.le_refl _) ?_; intro v1 y1 o1 g1 t1; refine Hid.out ?_)
        refine Lib.hid ?_
        have zy1 := Lib.hid ((Ext.refl wz).grown0 g1)
        have HB1 := Lib.hid (fun i (hi : v1.ownBlock = some i) => (o1.lt i hi).1)
        have HO1 := Lib.hid (o1.alloc (.cells x.cs 24))
        have hrx1 := Lib.hid (World.rangeAt.later zy1.out.later HRX.out)
        have hsz1 : wz.heap.size ≤ (y1.alloc (.cells x.cs 24)).heap.size := (zy1.out.andAlloc _).size
        clear o1 g1 t1
        go_wp2_with (first
          | (refine wpList_load_H rfl _ rfl w.heap.size 0 rfl x hrx1.out ?_)
          | (refine wpList_one_H rfl _ rfl x rfl ?_)
          | (at_builtin; refine wpList_append_H rfl (.tmp 33) (.tmp 35) rfl wz.heap.size v1 ([] ++ l.take k) rfl HO1.out _ x rfl (rangeAt_new _ _ _) hlk hsz1 ?_; intro v2 y2 o2 g2; refine Hid.out ?_))
        refine Lib.hid ?_
        have zy2 := Lib.hid ((zy1.out.andAlloc _).grown g2 HB1.out)
        have HO2 := Lib.hid o2
        have HB2 := Lib.hid (fun i (hi : v2.ownBlock = some i) => (o2.lt i hi).1)
        have hsz2 : wz.heap.size ≤ y2.heap.size := zy2.out.size
        clear o2 g2
        go_wp2_with (at_builtin; refine wpList_append_sl rfl (.tmp 37) (.tmp 40) rfl wz.heap.size v2 ([] ++ l.take k ++ [x]) rfl HO2.out 0 (l.drop k) _ rfl (hsl_drop (HSV.out _ zy2.out) k hk hlc) (by simp only [List.length_append, List.length_nil, List.length_take, List.length_cons]; omega) hsz2 ?_; intro v3 y3 o3 g3 t3; refine Hid.out ?_)
        all_goals (
          refine Lib.hid ?_
          have zy3 := Lib.hid (zy2.out.grown g3 HB2.out)
          have HO3 := Lib.hid o3
          clear o3 g3 t3
          go_wp2_with fail
          go_ret
          refine ⟨_, rfl, .inr ⟨?_, ?_⟩, HX.out.trans (HXZ.out.trans zy3.out)⟩
          · have e : [] ++ l.take k ++ [x] ++ l.drop k = addH l x := by rw [← HF.out]; simp
            have h3 := HO3.out
            rw [e] at h3
            exact (HSl.of_owns h3).mono (HX.out.trans HXZ.out).size
          · exact capOk_owns HO3.out)
end Go.Proofs.Ytddeelepaiklgaa
/- law 12's Heads, law 30's over. -/
namespace Go.Proofs.Ytddeelepaiklgaa
open Go.RowKit Go.Maps
set_option linter.unusedSimpArgs false

set_option maxRecDepth 100000 in
set_option maxHeartbeats 2000000 in
theorem heads_any (l m : List Hdr) (u v : Value) (lo lo' : Nat) (w : World) (hu : HSl w lo l u) (hv : HSl w lo' m v) (h64 : l.length ≤ 65600) :
    Calls Try.prog 17 #[u, v] w fun e w' => e = .returned (.bool (decide (l = m))) ∧ Ext w w' := by
  obtain ⟨p, len, cap, rfl, hlen, hl⟩ := hu
  obtain ⟨p', len', cap', rfl, hlen', hm⟩ := hv
  have HL := Lib.hid hlen
  have HL' := Lib.hid hlen'
  clear hlen hlen'
  have hlen64 : len ≤ 65600 := by have := HL.out; omega
  by_cases hn : len = len'
  · subst hn
    have hd : ((len : Int) != len) = false := by simp
    go_enter Try.func17, Try.ntmps17
    go_wp2_with fail
    go_loopw [5] (fun i wr => ∃ (j n : Nat), j ≤ len ∧ i = .int .i64 j ∧ Hid (decide (l = m) = decide (l.drop j = m.drop j)) ∧ wr = w.drewN n) (fun i _ => len - (intOf i).toNat)
    case atStart => exact ⟨0, 0, Nat.zero_le _, rfl, rfl, rfl⟩
    case round =>
      obtain ⟨j, n, hj, rfl, hR, rfl⟩ := hrel
      by_cases hlt : j < len
      · have hjl : j < l.length := by rw [← HL.out]; exact hlt
        have hjm : j < m.length := by rw [← HL'.out]; exact hlt
        rcases hl with hl | ⟨b, o, rfl, -, hr⟩
        · exfalso; subst hl; simp at hjl
        rcases hm with hm | ⟨b', o', rfl, -, hr'⟩
        · exfalso; subst hm; simp at hjm
        have hrj := rangeAt_get Hdr.len_cs hr j hjl
        have hrj' := rangeAt_get Hdr.len_cs hr' j hjm
        have p0 : w.cell? ⟨b, o + j * 11, none⟩ = some (.int .u64 ((l[j]).f 0)) := cellAt hrj 0 (by omega)
        have p1 : w.cell? ⟨b, o + j * 11 + 1, none⟩ = some (.int .u64 ((l[j]).f 1)) := cellAt hrj 1 (by omega)
        have p2 : w.cell? ⟨b, o + j * 11 + 2, none⟩ = some (.int .u64 ((l[j]).f 2)) := cellAt hrj 2 (by omega)
        have p3 : w.cell? ⟨b, o + j * 11 + 3, none⟩ = some (.int .u64 ((l[j]).f 3)) := cellAt hrj 3 (by omega)
        have p4 : w.cell? ⟨b, o + j * 11 + 4, none⟩ = some (.int .u64 ((l[j]).f 4)) := cellAt hrj 4 (by omega)
        have p5 : w.cell? ⟨b, o + j * 11 + 5, none⟩ = some (.int .u64 ((l[j]).f 5)) := cellAt hrj 5 (by omega)
        have p6 : w.cell? ⟨b, o + j * 11 + 6, none⟩ = some (.int .u64 ((l[j]).f 6)) := cellAt hrj 6 (by omega)
        have p7 : w.cell? ⟨b, o + j * 11 + 7, none⟩ = some (.int .u64 ((l[j]).f 7)) := cellAt hrj 7 (by omega)
        have p8 : w.cell? ⟨b, o + j * 11 + 8, none⟩ = some (.int .u64 ((l[j]).f 8)) := cellAt hrj 8 (by omega)
        have p9 : w.cell? ⟨b, o + j * 11 + 9, none⟩ = some (.int .u64 ((l[j]).f 9)) := cellAt hrj 9 (by omega)
        have p10 : w.cell? ⟨b, o + j * 11 + 10, none⟩ = some (.int .u64 ((l[j]).f 10)) := cellAt hrj 10 (by omega)
        have q0 : w.cell? ⟨b', o' + j * 11, none⟩ = some (.int .u64 ((m[j]).f 0)) := cellAt hrj' 0 (by omega)
        have q1 : w.cell? ⟨b', o' + j * 11 + 1, none⟩ = some (.int .u64 ((m[j]).f 1)) := cellAt hrj' 1 (by omega)
        have q2 : w.cell? ⟨b', o' + j * 11 + 2, none⟩ = some (.int .u64 ((m[j]).f 2)) := cellAt hrj' 2 (by omega)
        have q3 : w.cell? ⟨b', o' + j * 11 + 3, none⟩ = some (.int .u64 ((m[j]).f 3)) := cellAt hrj' 3 (by omega)
        have q4 : w.cell? ⟨b', o' + j * 11 + 4, none⟩ = some (.int .u64 ((m[j]).f 4)) := cellAt hrj' 4 (by omega)
        have q5 : w.cell? ⟨b', o' + j * 11 + 5, none⟩ = some (.int .u64 ((m[j]).f 5)) := cellAt hrj' 5 (by omega)
        have q6 : w.cell? ⟨b', o' + j * 11 + 6, none⟩ = some (.int .u64 ((m[j]).f 6)) := cellAt hrj' 6 (by omega)
        have q7 : w.cell? ⟨b', o' + j * 11 + 7, none⟩ = some (.int .u64 ((m[j]).f 7)) := cellAt hrj' 7 (by omega)
        have q8 : w.cell? ⟨b', o' + j * 11 + 8, none⟩ = some (.int .u64 ((m[j]).f 8)) := cellAt hrj' 8 (by omega)
        have q9 : w.cell? ⟨b', o' + j * 11 + 9, none⟩ = some (.int .u64 ((m[j]).f 9)) := cellAt hrj' 9 (by omega)
        have q10 : w.cell? ⟨b', o' + j * 11 + 10, none⟩ = some (.int .u64 ((m[j]).f 10)) := cellAt hrj' 10 (by omega)
        have hg := guardH
        have HE := Lib.hid (show decide (l = m) = if l[j] = m[j] then decide (l.drop (j + 1) = m.drop (j + 1)) else false from by
          rw [hR.out, drop_get hjl, drop_get hjm]
          rw [Bool.eq_iff_iff]
          by_cases h : l[j] = m[j]
          · rw [if_pos h, decide_eq_true_iff, decide_eq_true_iff, List.cons.injEq]; exact ⟨fun a => a.2, fun a => ⟨h, a⟩⟩
          · rw [if_neg h, decide_eq_true_iff, List.cons.injEq]; exact ⟨fun a => absurd a.1 h, fun a => by cases a⟩)
        have he := eqH (l[j]) (m[j])
        simp only [Hdr.cs_eq] at he
        generalize l[j] = x at *
        generalize m[j] = y at *
        by_cases hxy : x = y
        · have HF := Lib.hid (HE.out.trans (if_pos hxy))
          rw [show decide (x = y) = true from by simpa using hxy] at he
          clear hxy HE
          go_wp2_with fail
          go_quiet (fail)
          go_wp2_with fail
          go_roundw
          case rel => exact ⟨j + 1, _, by omega, by go_num, HF.out, rfl⟩
          case measure => simp [intOf]; omega
        · have HF := Lib.hid (HE.out.trans (if_neg hxy))
          rw [show decide (x = y) = false from by simpa using hxy] at he
          clear hxy HE
          go_wp2_with fail
          go_quiet (fail)
          go_wp2_with fail
          go_ret
          exact ⟨by rw [HF.out]; rfl, (Ext.drewN _ _).andDrewN _⟩
      · have HF := Lib.hid (show decide (l = m) = true from by
          rw [hR.out, List.drop_of_length_le (by have := HL.out; omega), List.drop_of_length_le (by have := HL'.out; omega)]; rfl)
        go_wp2_with fail
        go_ret
        exact ⟨by rw [HF.out]; rfl, Ext.drewN _ _⟩
  · have HF := Lib.hid (show decide (l = m) = false from by
      simp only [decide_eq_false_iff_not]
      rintro rfl
      exact hn (HL.out.trans HL'.out.symm))
    have hd : ((len : Int) != len') = true := by simp; omega
    go_enter Try.func17, Try.ntmps17
    go_wp2_with fail
    go_ret
    exact ⟨by rw [HF.out]; rfl, Ext.refl _⟩

def loverL (s p : Int) : List WireD → Bool
  | [] => false
  | q :: qs => ((q.a == s && q.ap == p) || (q.b == s && q.bp == p)) || loverL s p qs
theorem lover_none (s p : Int) : ∀ (l : List WireD), overP s p l = none → loverL s p l = false
  | [], _ => rfl
  | q :: qs, h => by
    rw [overP] at h
    split at h
    · cases h
    · rename_i h1
      split at h
      · cases h
      · rename_i h2
        rw [loverL, lover_none s p qs h]
        have e1 : (q.a == s && q.ap == p) = false := by
          rw [Bool.eq_false_iff]; intro e; simp at e; exact h1 e
        have e2 : (q.b == s && q.bp == p) = false := by
          rw [Bool.eq_false_iff]; intro e; simp at e; exact h2 e
        rw [e1, e2]; rfl

set_option maxHeartbeats 4000000 in
set_option maxRecDepth 100000 in
theorem lover_any (l : List WireD) (lv : Value) (x : Hdr) (w : World) (hl : SlOf WAt 4 w l lv) :
    Calls Try.prog 21 #[lv, .agg x.cs] w fun e w' => e = .returned (.bool (loverL (x.f 10) (x.f 9) l)) ∧ Ext w w' := by
  obtain ⟨pl, len, cap, rfl, hlen, hlc, hcm, hls⟩ := hl
  have HL := Lib.hid hlen
  have HLS := Lib.hid (show l = [] ∨ ∃ b o, pl = some ⟨b, o, none⟩ ∧ ∀ W, Ext w W → ∀ i (h : i < l.length), W.rangeAt b (o + i * 4) (l[i]).cs ∧ (0 ≤ (l[i]).a ∧ (l[i]).a ≤ 65535) ∧ (0 ≤ (l[i]).ap ∧ (l[i]).ap ≤ 65535) ∧ (0 ≤ (l[i]).b ∧ (l[i]).b ≤ 65535) ∧ (0 ≤ (l[i]).bp ∧ (l[i]).bp ≤ 65535) from
    hls.imp id fun ⟨b, o, hp, hr⟩ => ⟨b, o, hp, fun W hW i h => ⟨World.rangeAt.later hW.later (hr i h).1, (hr i h).2⟩⟩)
  obtain ⟨wA, hA⟩ : ∃ W : World, w.alloc (.cells x.cs 24) = W := ⟨_, rfl⟩
  have xA : Ext w wA := hA ▸ Ext.alloc _ _
  have rA : wA.rangeAt w.heap.size 0 x.cs.toList := by rw [← hA]; exact rangeAt_new w x.cs 24
  have HC := Lib.hid (fun W (hW : Ext wA W) => show W.cell? ⟨w.heap.size, 9, none⟩ = some (.int .u64 (x.f 9)) ∧ W.cell? ⟨w.heap.size, 10, none⟩ = some (.int .u64 (x.f 10)) from by
    have hr := World.rangeAt.later hW.later rA
    have c9 := cellAt hr 9 (by omega)
    have c10 := cellAt hr 10 (by omega)
    simp only [Nat.zero_add] at c9 c10
    exact ⟨c9, c10⟩)
  have HX := Lib.hid xA
  have HEQ := Lib.hid hA
  clear hA xA rA hls hlen
  generalize x.f 9 = p at *
  generalize x.f 10 = s at *
  go_enter Try.func21, Try.ntmps21
  go_upto_region 1 with fail
  rw [HEQ.out]
  clear HEQ
  go_wp2_with fail
  go_loopw [5] (fun i wr => ∃ j : Nat, j ≤ len ∧ i = .int .i64 j ∧ Hid (loverL s p (l.drop j) = loverL s p l) ∧ Hid (Ext wA wr)) (fun i _ => len - (intOf i).toNat)
  case atStart => exact ⟨0, Nat.zero_le _, rfl, rfl, Ext.refl _⟩
  case round =>
    obtain ⟨wn, rfl⟩ : ∃ wn : World, wn = wr := ⟨_, rfl⟩
    obtain ⟨j, hj, rfl, hT, hx⟩ := hrel
    by_cases hlt : j < len
    · have hjl : j < l.length := by rw [← HL.out]; exact hlt
      rcases HLS.out with hls | ⟨b, o, rfl, hls⟩
      · exfalso; subst hls; simp at hjl
      obtain ⟨hr, ba, bap, bb, bbp⟩ := hls wn (HX.out.trans hx.out) j hjl
      have hT2 := hT.out
      rw [drop_get hjl, loverL] at hT2
      generalize l[j] = q at *
      have d0 : wn.cell? ⟨b, o + j * 4, none⟩ = some (.int .u16 q.a) := by simpa using hr 0 _ rfl
      have d1 : wn.cell? ⟨b, o + j * 4 + 1, none⟩ = some (.int .u16 q.ap) := by simpa using hr 1 _ rfl
      have d2 : wn.cell? ⟨b, o + j * 4 + 2, none⟩ = some (.int .u16 q.b) := by simpa using hr 2 _ rfl
      have d3 : wn.cell? ⟨b, o + j * 4 + 3, none⟩ = some (.int .u16 q.bp) := by simpa using hr 3 _ rfl
      obtain ⟨wS, hS⟩ : ∃ W : World, wn.alloc (.cells #[.int .u16 q.a, .int .u16 q.ap] 58) = W := ⟨_, rfl⟩
      have xS : Ext wn wS := hS ▸ Ext.alloc _ _
      have sS : wS.heap.size = wn.heap.size + 1 := by rw [← hS, World.size_alloc]
      obtain ⟨wU, hU⟩ : ∃ W : World, wS.alloc (.cells #[.int .u16 q.b, .int .u16 q.bp] 58) = W := ⟨_, rfl⟩
      have xU : Ext wS wU := hU ▸ Ext.alloc _ _
      have e0 : wU.cell? ⟨wn.heap.size, 0, none⟩ = some (.int .u16 q.a) := xU.later _ _ (by rw [← hS]; simp [go_sem])
      have e1 : wU.cell? ⟨wn.heap.size, 1, none⟩ = some (.int .u16 q.ap) := xU.later _ _ (by rw [← hS]; simp [go_sem])
      have e2 : wU.cell? ⟨wn.heap.size + 1, 0, none⟩ = some (.int .u16 q.b) := by rw [← hU, ← sS]; simp [go_sem]
      have e3 : wU.cell? ⟨wn.heap.size + 1, 1, none⟩ = some (.int .u16 q.bp) := by rw [← hU, ← sS]; simp [go_sem]
      have d2' := xS.later _ _ d2
      have d3' := xS.later _ _ d3
      have HXU := Lib.hid (hx.out.trans (xS.trans xU))
      have HEQ := Lib.hid (And.intro hS hU)
      obtain ⟨c9, c10⟩ := HC.out _ HXU.out
      have wa : IntKind.u64.wrap q.a = q.a := by rw [IntKind.wrap_u64]; omega
      have wap : IntKind.u64.wrap q.ap = q.ap := by rw [IntKind.wrap_u64]; omega
      have wb : IntKind.u64.wrap q.b = q.b := by rw [IntKind.wrap_u64]; omega
      have wbp : IntKind.u64.wrap q.bp = q.bp := by rw [IntKind.wrap_u64]; omega
      clear hr hS hU xS xU hT hls
      go_upto_region 5 with (first
        | (refine wpList_store_new rfl 58 _ _ rfl _ #[.int .u16 q.a, .int .u16 q.ap] rfl rfl (by kernel_rfl) rfl (by rfl) ?_))
      rw [HEQ.out.1]
      try simp only [Act.put]
      go_upto_region 6 with (first
        | (refine wpList_store_new rfl 58 _ _ rfl _ #[.int .u16 q.b, .int .u16 q.bp] rfl rfl (by kernel_rfl) rfl (by rfl) ?_))
      try rw [sS]
      rw [HEQ.out.2]
      try simp only [Act.put]
      clear HEQ d0 d1 d2 d3 d2' d3'
      have HT2 := Lib.hid hT2
      clear hT2
      cases hA : (q.a == s) <;> cases hB : (q.ap == p) <;> cases hC : (q.b == s) <;> cases hD : (q.bp == p)
      all_goals (have HT3 := HT2.out; rw [hA, hB, hC, hD] at HT3)
      all_goals first
        | (have HF := Lib.hid (show loverL s p l = true from by rw [← HT3]; rfl)
           clear HT3
           go_wp2_with fail
           go_ret
           exact ⟨by rw [HF.out]; rfl, HX.out.trans HXU.out⟩)
        | (have HF := Lib.hid (show loverL s p (l.drop (j + 1)) = loverL s p l from by rw [← HT3]; rfl)
           clear HT3
           go_wp2_with fail
           go_roundw
           case rel => exact ⟨j + 1, by omega, by go_num, HF.out, HXU.out⟩
           case measure => simp [intOf]; omega)
    · have HF := Lib.hid (show loverL s p l = false from by
        rw [← hT.out, List.drop_of_length_le (by have := HL.out; omega), loverL])
      clear hT
      go_wp2_with fail
      go_ret
      exact ⟨by rw [HF.out]; rfl, HX.out.trans hx.out⟩
end Go.Proofs.Ytddeelepaiklgaa
/- What comes out: headers at spots without a wire, in order; and without wires what the policy makes: in plain words. -/
namespace Go.Proofs.Ytddeelepaiklgaa
set_option linter.unusedSimpArgs false

theorem dd_asc : ∀ {l : List Hdr}, l.Pairwise (fun a b => (!ltH b a) = true) → Asc (dd l)
  | [], _ => List.Pairwise.nil
  | [x], _ => by simp [dd, Asc]
  | x :: y :: r, h => by
    have h1 := List.pairwise_cons.1 h
    have ih := dd_asc h1.2
    rw [dd_cons]
    by_cases hxy : x = y
    · rw [if_pos hxy]; exact ih
    · rw [if_neg hxy]
      refine List.pairwise_cons.2 ⟨fun z hz => ?_, ih⟩
      rw [mem_dd] at hz
      have hzx : ltH z x = false := by simpa using h1.1 z hz
      cases hxz : ltH x z with
      | true => rfl
      | false =>
        exfalso
        have e : x = z := ltH_conn hxz hzx
        subst e
        have hyx : ltH y x = false := by simpa using h1.1 y List.mem_cons_self
        have h2 := List.pairwise_cons.1 h1.2
        rcases List.mem_cons.1 hz with e | hz
        · exact hxy e
        · have hxy2 : ltH x y = false := by simpa using h2.1 x hz
          exact hxy (ltH_conn hxy2 hyx)
theorem dd_of_asc : ∀ {l : List Hdr}, Asc l → dd l = l
  | [], _ => rfl
  | [x], _ => rfl
  | x :: y :: r, h => by
    have h1 := List.pairwise_cons.1 h
    rw [dd_cons, if_neg (fun e => by
      have := h1.1 y List.mem_cons_self
      rw [e, ltH_irrefl] at this
      cases this), dd_of_asc h1.2]
theorem asc_nodup {l : List Hdr} (h : Asc l) : l.Nodup := h.imp fun {a b} hab e => by
  subst e
  rw [ltH_irrefl] at hab; cases hab
theorem sortH_of_asc {l : List Hdr} (h : Asc l) : sortH l = l := (asc_sortH (asc_nodup h)).ext h fun y => (sortH_perm l).mem_iff
theorem dd_sort_asc (l : List Hdr) : Asc (dd (sortH l)) := dd_asc (sortH_sorted l)

theorem head_small {x : Hdr} (h : headE x = 0) : IntKind.u16.wrap (x.f 9) = x.f 9 ∧ IntKind.u16.wrap (x.f 10) = x.f 10 := by
  have hb : (fitsL x idx11 && kindB (x.f 2) (x.f 6) (x.f 4) (x.f 5) (x.f 7) (x.f 8)) = true := by
    unfold headE at h
    split at h
    · assumption
    · cases h
  have hf : fitsL x idx11 = true := (Bool.and_eq_true _ _ ▸ hb : _ ∧ _).1
  have h9 : fitsB 9 (x.f 9) = true ∧ fitsB 10 (x.f 10) = true := by
    simp only [idx11, fitsL, Bool.and_eq_true] at hf
    obtain ⟨-, -, -, -, -, -, -, -, -, a, b, -⟩ := hf
    exact ⟨a, b⟩
  have e9 := x.f_bd 9
  have e10 := x.f_bd 10
  have k9 : x.f 9 / 2 ^ 16 = 0 := by
    have := h9.1
    simp only [fitsB, show (widthI 9).toNat = 16 from rfl, fitsK] at this
    simpa using this
  have k10 : x.f 10 / 2 ^ 16 = 0 := by
    have := h9.2
    simp only [fitsB, show (widthI 10).toNat = 16 from rfl, fitsK] at this
    simpa using this
  rw [IntKind.wrap_u16, IntKind.wrap_u16]
  constructor <;> omega

theorem ends_all {t : Tm} {qs : List Qr} {wires : List WireD} {x : Hdr} (h : (reachP t qs wires x).1 = 0) :
    Asc (reachP t qs wires x).2 ∧ ∀ z ∈ (reachP t qs wires x).2, headE z = 0 ∧ loverL (z.f 10) (z.f 9) wires = false := by
  obtain ⟨O, r1, e1, -⟩ := reachP_zero h
  rw [e1]
  refine ⟨dd_sort_asc O, fun z hz => ?_⟩
  obtain ⟨T, -, -, b1, -⟩ := reachN_spec t wires 1025 0 [x] [] O r1 rfl (by simp) (by simp)
  rw [mem_dd, (sortH_perm _).mem_iff] at hz
  rcases b1 z hz with h | ⟨y, hy, hz1, hz0, hn⟩
  · cases h
  · have hs := head_small hz0
    have hn' : overP (IntKind.u16.wrap (z.f 10)) (IntKind.u16.wrap (z.f 9)) wires = none := hn
    rw [hs.1, hs.2] at hn'
    exact ⟨hz0, lover_none _ _ _ hn'⟩
theorem ends_code {t : Tm} {qs : List Qr} {wires : List WireD} {x : Hdr} (h : (reachP t qs wires x).1 = 0) : (ofC t x).1 = 0 := by
  obtain ⟨O, r1, e1, -⟩ := reachP_zero h
  obtain ⟨T, ⟨ext, rfl⟩, a1, -⟩ := reachN_spec t wires 1025 0 [x] [] O r1 rfl (by simp) (by simp)
  exact (a1 0 (Nat.le_refl _) x (by simp)).1
theorem foldX_nil : ∀ (l thr out : List Hdr), foldX [] l thr out = some (thr, out ++ l.filter fun z => decide (headE z = 0))
  | [], thr, out => by simp [foldX]
  | x :: xs, thr, out => by
    rw [foldX, stepX]
    by_cases hx : headE x = 0
    · rw [if_pos hx, overP, Option.bind_some, foldX_nil xs]
      simp [hx]
    · rw [if_neg hx, Option.bind_some, foldX_nil xs]
      simp [hx]
theorem ends_alone {t : Tm} {qs : List Qr} {wires : List WireD} {x : Hdr} (h : (reachP t qs wires x).1 = 0) :
    reachP t qs [] x = (0, (ofC t x).2.filter fun z => decide (headE z = 0)) := by
  have hc := ends_code h
  obtain ⟨O, -, -, h0, h1, h3⟩ := reachP_zero h
  have hN : reachN t [] 1025 0 [x] [] = (0, (ofC t x).2.filter fun z => decide (headE z = 0)) := by
    rw [reachN]
    show (if (ofC t x).1 = 0 then (match foldX [] (ofC t x).2 [x] [] with | none => ((200 : Int), ([] : List Hdr)) | some r => reachN t [] 1024 1 r.1 r.2) else ((ofC t x).1, [])) = _
    rw [if_pos hc, foldX_nil, List.nil_append]
    show reachN t [] 1024 1 [x] _ = _
    rw [reachN]
    rfl
  have ha : Asc ((ofC t x).2.filter fun z => decide (headE z = 0)) := List.Pairwise.sublist List.filter_sublist (told hc).1
  unfold reachP
  rw [if_pos h0, if_pos ⟨h1, h3⟩, hN, if_pos rfl, sortH_of_asc ha, dd_of_asc ha]
theorem reachP_not {t : Tm} {qs : List Qr} {wires : List WireD} {x : Hdr} (h : (reachP t qs wires x).1 ≠ 0) : (reachP t qs wires x).2 = [] := by
  unfold reachP at *
  split
  · split
    · split
      · rename_i h0 h1 h2
        rw [if_pos h0, if_pos h1, if_pos h2] at h
        exact absurd rfl h
      · rfl
    · rfl
  · rfl
end Go.Proofs.Ytddeelepaiklgaa
