/- judge.over: the other end of a wire. -/
import Derived.Test.YtddeelepaiklgaaJTrace
import Derived.Laws.ResultCell
import Derived.Laws.NewBlocks
namespace Go.Proofs.Ytddeelepaiklgaa
open Go.RowKit Go.Maps
set_option linter.unusedSimpArgs false

structure WireD where
  a : Int
  ap : Int
  b : Int
  bp : Int
def WireD.cs (x : WireD) : List Value := [.int .u16 x.a, .int .u16 x.ap, .int .u16 x.b, .int .u16 x.bp]
def WAt (w : World) (x : WireD) (b o : Nat) : Prop := w.rangeAt b o x.cs ∧ (0 ≤ x.a ∧ x.a ≤ 65535) ∧ (0 ≤ x.ap ∧ x.ap ≤ 65535) ∧ (0 ≤ x.b ∧ x.b ≤ 65535) ∧ (0 ≤ x.bp ∧ x.bp ≤ 65535)
def overP (s p : Int) : List WireD → Option (Int × Int)
  | [] => none
  | x :: xs => if x.a = s ∧ x.ap = p then some (x.b, x.bp) else if x.b = s ∧ x.bp = p then some (x.a, x.ap) else overP s p xs
def spotOf (r : Option (Int × Int)) : Value := .agg #[.int .u16 ((r.map (·.1)).getD 0), .int .u16 ((r.map (·.2)).getD 0)]

set_option maxHeartbeats 4000000 in
set_option maxRecDepth 100000 in
theorem over_any (l : List WireD) (lv : Value) (s p : Int) (w : World) (hl : SlOf WAt 4 w l lv) :
    Calls Try.prog 27 #[lv, .agg #[.int .u16 s, .int .u16 p]] w fun e w' => e = .returned (.tuple #[spotOf (overP s p l), .bool (overP s p l).isSome]) ∧ Ext w w' := by
  obtain ⟨pl, len, cap, rfl, hlen, hlc, hcm, hls⟩ := hl
  have HL := Lib.hid hlen
  have HLS := Lib.hid (show l = [] ∨ ∃ b o, pl = some ⟨b, o, none⟩ ∧ ∀ W, Ext w W → ∀ i (h : i < l.length), W.rangeAt b (o + i * 4) (l[i]).cs from
    hls.imp id fun ⟨b, o, hp, hr⟩ => ⟨b, o, hp, fun W hW i h => World.rangeAt.later hW.later (hr i h).1⟩)
  obtain ⟨wA, hA⟩ : ∃ W : World, w.alloc (.cells #[.int .u16 s, .int .u16 p] 58) = W := ⟨_, rfl⟩
  have xA : Ext w wA := hA ▸ Ext.alloc _ _
  have sA : wA.heap.size = w.heap.size + 1 := by rw [← hA, World.size_alloc]
  obtain ⟨wB, hB⟩ : ∃ W : World, wA.alloc (.cells #[.int .u16 0, .int .u16 0] 58) = W := ⟨_, rfl⟩
  have xB : Ext wA wB := hB ▸ Ext.alloc _ _
  have sB : wB.heap.size = w.heap.size + 2 := by rw [← hB, World.size_alloc, sA]
  have a0 : wA.cell? ⟨w.heap.size, 0, none⟩ = some (.int .u16 s) := by rw [← hA]; simp [go_sem]
  have a1 : wA.cell? ⟨w.heap.size, 1, none⟩ = some (.int .u16 p) := by rw [← hA]; simp [go_sem]
  have b0 : wB.cell? ⟨w.heap.size + 1, 0, none⟩ = some (.int .u16 0) := by rw [← hB, ← sA]; simp [go_sem]
  have b1 : wB.cell? ⟨w.heap.size + 1, 1, none⟩ = some (.int .u16 0) := by rw [← hB, ← sA]; simp [go_sem]
  have f0 : wB.frozen? ⟨w.heap.size + 1, 0, none⟩ = false := by rw [← hB, ← sA]; simp [go_sem]
  have f1 : wB.frozen? ⟨w.heap.size + 1, 1, none⟩ = false := by rw [← hB, ← sA]; simp [go_sem]
  have HC := Lib.hid (fun W (hW : Ext wB W) => show W.cell? ⟨w.heap.size, 0, none⟩ = some (.int .u16 s) ∧ W.cell? ⟨w.heap.size, 1, none⟩ = some (.int .u16 p) ∧ W.cell? ⟨w.heap.size + 1, 0, none⟩ = some (.int .u16 0) ∧ W.cell? ⟨w.heap.size + 1, 1, none⟩ = some (.int .u16 0) ∧ W.frozen? ⟨w.heap.size + 1, 0, none⟩ = false ∧ W.frozen? ⟨w.heap.size + 1, 1, none⟩ = false from
    ⟨hW.later _ _ (xB.later _ _ a0), hW.later _ _ (xB.later _ _ a1), hW.later _ _ b0, hW.later _ _ b1, by rw [Below.frozen hW (World.block_lt_of_cell? wB _ b0)]; exact f0, by rw [Below.frozen hW (World.block_lt_of_cell? wB _ b1)]; exact f1⟩)
  have HX := Lib.hid (xA.trans xB)
  have HEQ := Lib.hid (show w.alloc (.cells #[.int .u16 s, .int .u16 p] 58) = wA ∧ wA.alloc (.cells #[.int .u16 0, .int .u16 0] 58) = wB from ⟨hA, hB⟩)
  clear a0 a1 b0 b1 f0 f1 hA hB xA xB hls hlen
  go_enter Try.func27, Try.ntmps27
  go_upto_region 1 with fail
  rw [HEQ.out.1, HEQ.out.2]
  try rw [sA]
  clear HEQ
  go_wp2_with fail
  go_loopw [10] (fun i wr => ∃ j : Nat, j ≤ len ∧ i = .int .i64 j ∧ Hid (overP s p (l.drop j) = overP s p l) ∧ Hid (Ext wB wr)) (fun i _ => len - (intOf i).toNat)
  case atStart => exact ⟨0, Nat.zero_le _, rfl, rfl, Ext.refl _⟩
  case round =>
    obtain ⟨wn, rfl⟩ : ∃ wn : World, wn = wr := ⟨_, rfl⟩
    obtain ⟨j, hj, rfl, hT, hx⟩ := hrel
    by_cases hlt : j < len
    · have hjl : j < l.length := by rw [← HL.out]; exact hlt
      rcases HLS.out with hls | ⟨b, o, rfl, hls⟩
      · exfalso; subst hls; simp at hjl
      have hr := hls wn (HX.out.trans hx.out) j hjl
      have hT2 := hT.out
      rw [drop_get hjl, overP] at hT2
      generalize l[j] = x at *
      have d0 : wn.cell? ⟨b, o + j * 4, none⟩ = some (.int .u16 x.a) := by simpa using hr 0 _ rfl
      have d1 : wn.cell? ⟨b, o + j * 4 + 1, none⟩ = some (.int .u16 x.ap) := by simpa using hr 1 _ rfl
      have d2 : wn.cell? ⟨b, o + j * 4 + 2, none⟩ = some (.int .u16 x.b) := by simpa using hr 2 _ rfl
      have d3 : wn.cell? ⟨b, o + j * 4 + 3, none⟩ = some (.int .u16 x.bp) := by simpa using hr 3 _ rfl
      obtain ⟨wS, hS⟩ : ∃ W : World, wn.alloc (.cells #[.int .u16 x.a, .int .u16 x.ap, .int .u16 x.b, .int .u16 x.bp] 60) = W := ⟨_, rfl⟩
      have xS : Ext wn wS := hS ▸ Ext.alloc _ _
      have e0 : wS.cell? ⟨wn.heap.size, 0, none⟩ = some (.int .u16 x.a) := by rw [← hS]; simp [go_sem]
      have e1 : wS.cell? ⟨wn.heap.size, 1, none⟩ = some (.int .u16 x.ap) := by rw [← hS]; simp [go_sem]
      have e2 : wS.cell? ⟨wn.heap.size, 2, none⟩ = some (.int .u16 x.b) := by rw [← hS]; simp [go_sem]
      have e3 : wS.cell? ⟨wn.heap.size, 3, none⟩ = some (.int .u16 x.bp) := by rw [← hS]; simp [go_sem]
      have hxS := hx.out.trans xS
      obtain ⟨c0, c1, b0, b1, f0, f1⟩ := HC.out _ hxS
      have HEQ := Lib.hid hS
      have HXS := Lib.hid hxS
      clear hr hS xS hT hxS
      go_upto_region 4 with (first
        | (refine wpList_store_new rfl 60 _ _ rfl _ #[.int .u16 x.a, .int .u16 x.ap, .int .u16 x.b, .int .u16 x.bp] rfl rfl (by kernel_rfl) rfl (by rfl) ?_))
      rw [HEQ.out]
      try simp only [Act.put]
      clear HEQ d0 d1 d2 d3
      by_cases h1 : x.a = s ∧ x.ap = p
      · have HF := Lib.hid (show overP s p l = some (x.b, x.bp) from by rw [← hT2, if_pos h1])
        obtain ⟨h1a, h1b⟩ := h1
        rw [h1a] at e0
        rw [h1b] at e1
        clear hT2
        go_wp2_with fail
        have k0 : ((wS.setCell ⟨w.heap.size + 1, 0, none⟩ (.int .u16 x.b)).setCell ⟨w.heap.size + 1, 1, none⟩ (.int .u16 x.bp)).cell? ⟨w.heap.size + 1, 0, none⟩ = some (.int .u16 x.b) := by
          rw [World.cell?_setCell_other _ _ _ _ (fun e => by injection e with _ e2; omega)]; exact World.cell?_setCell_same wS ⟨w.heap.size + 1, 0, none⟩ _ b0
        have k1 : ((wS.setCell ⟨w.heap.size + 1, 0, none⟩ (.int .u16 x.b)).setCell ⟨w.heap.size + 1, 1, none⟩ (.int .u16 x.bp)).cell? ⟨w.heap.size + 1, 1, none⟩ = some (.int .u16 x.bp) :=
          World.cell?_setCell_same _ ⟨w.heap.size + 1, 1, none⟩ _ (by rw [World.cell?_setCell_other _ _ _ _ (fun e => by injection e with _ e2; omega)]; exact b1)
        have hxe : Ext w ((wS.setCell ⟨w.heap.size + 1, 0, none⟩ (.int .u16 x.b)).setCell ⟨w.heap.size + 1, 1, none⟩ (.int .u16 x.bp)) := ((HX.out.trans HXS.out).andSet (by show w.heap.size ≤ w.heap.size + 1; omega) _).andSet (by show w.heap.size ≤ w.heap.size + 1; omega) _
        refine bodyPost_ret_by (v := .tuple #[spotOf (overP s p l), .bool (overP s p l).isSome]) ?_ rfl ⟨rfl, hxe⟩
        rw [results_cell_tmp rfl, HF.out]
        generalize ((wS.setCell ⟨w.heap.size + 1, 0, none⟩ (.int .u16 x.b)).setCell ⟨w.heap.size + 1, 1, none⟩ (.int .u16 x.bp)) = wE at *
        go_simp
        try rfl
      · have hT3 : (if x.b = s ∧ x.bp = p then some (x.a, x.ap) else overP s p (l.drop (j + 1))) = overP s p l := by rw [← hT2, if_neg h1]
        clear hT2
        have hA : (¬ s = x.a) ∨ (x.a = s ∧ ¬ p = x.ap) := by
          by_cases q : x.a = s
          · exact .inr ⟨q, fun e => h1 ⟨q, e.symm⟩⟩
          · exact .inl (fun e => q e.symm)
        by_cases h2 : x.b = s ∧ x.bp = p
        · have HF := Lib.hid (show overP s p l = some (x.a, x.ap) from by rw [← hT3, if_pos h2])
          obtain ⟨h2a, h2b⟩ := h2
          rw [h2a] at e2
          rw [h2b] at e3
          clear hT3 h1
          rcases hA with hA | ⟨hA, hA'⟩
          · clear h2a h2b
            go_wp2_with fail
            have k0 : ((wS.setCell ⟨w.heap.size + 1, 0, none⟩ (.int .u16 x.a)).setCell ⟨w.heap.size + 1, 1, none⟩ (.int .u16 x.ap)).cell? ⟨w.heap.size + 1, 0, none⟩ = some (.int .u16 x.a) := by
              rw [World.cell?_setCell_other _ _ _ _ (fun e => by injection e with _ e2; omega)]; exact World.cell?_setCell_same wS ⟨w.heap.size + 1, 0, none⟩ _ b0
            have k1 : ((wS.setCell ⟨w.heap.size + 1, 0, none⟩ (.int .u16 x.a)).setCell ⟨w.heap.size + 1, 1, none⟩ (.int .u16 x.ap)).cell? ⟨w.heap.size + 1, 1, none⟩ = some (.int .u16 x.ap) :=
              World.cell?_setCell_same _ ⟨w.heap.size + 1, 1, none⟩ _ (by rw [World.cell?_setCell_other _ _ _ _ (fun e => by injection e with _ e2; omega)]; exact b1)
            have hxe : Ext w ((wS.setCell ⟨w.heap.size + 1, 0, none⟩ (.int .u16 x.a)).setCell ⟨w.heap.size + 1, 1, none⟩ (.int .u16 x.ap)) := ((HX.out.trans HXS.out).andSet (by show w.heap.size ≤ w.heap.size + 1; omega) _).andSet (by show w.heap.size ≤ w.heap.size + 1; omega) _
            refine bodyPost_ret_by (v := .tuple #[spotOf (overP s p l), .bool (overP s p l).isSome]) ?_ rfl ⟨rfl, hxe⟩
            rw [results_cell_tmp rfl, HF.out]
            generalize ((wS.setCell ⟨w.heap.size + 1, 0, none⟩ (.int .u16 x.a)).setCell ⟨w.heap.size + 1, 1, none⟩ (.int .u16 x.ap)) = wE at *
            go_simp
            try rfl
          · rw [hA] at e0
            rw [show x.a = s from hA] at HF
            clear h2a h2b hA
            go_wp2_with fail
            have k0 : ((wS.setCell ⟨w.heap.size + 1, 0, none⟩ (.int .u16 s)).setCell ⟨w.heap.size + 1, 1, none⟩ (.int .u16 x.ap)).cell? ⟨w.heap.size + 1, 0, none⟩ = some (.int .u16 s) := by
              rw [World.cell?_setCell_other _ _ _ _ (fun e => by injection e with _ e2; omega)]; exact World.cell?_setCell_same wS ⟨w.heap.size + 1, 0, none⟩ _ b0
            have k1 : ((wS.setCell ⟨w.heap.size + 1, 0, none⟩ (.int .u16 s)).setCell ⟨w.heap.size + 1, 1, none⟩ (.int .u16 x.ap)).cell? ⟨w.heap.size + 1, 1, none⟩ = some (.int .u16 x.ap) :=
              World.cell?_setCell_same _ ⟨w.heap.size + 1, 1, none⟩ _ (by rw [World.cell?_setCell_other _ _ _ _ (fun e => by injection e with _ e2; omega)]; exact b1)
            have hxe : Ext w ((wS.setCell ⟨w.heap.size + 1, 0, none⟩ (.int .u16 s)).setCell ⟨w.heap.size + 1, 1, none⟩ (.int .u16 x.ap)) := ((HX.out.trans HXS.out).andSet (by show w.heap.size ≤ w.heap.size + 1; omega) _).andSet (by show w.heap.size ≤ w.heap.size + 1; omega) _
            refine bodyPost_ret_by (v := .tuple #[spotOf (overP s p l), .bool (overP s p l).isSome]) ?_ rfl ⟨rfl, hxe⟩
            rw [results_cell_tmp rfl, HF.out]
            generalize ((wS.setCell ⟨w.heap.size + 1, 0, none⟩ (.int .u16 s)).setCell ⟨w.heap.size + 1, 1, none⟩ (.int .u16 x.ap)) = wE at *
            go_simp
            try rfl
        · have HT := Lib.hid (show overP s p (l.drop (j + 1)) = overP s p l from by rw [← hT3, if_neg h2])
          have hB : (¬ s = x.b) ∨ (x.b = s ∧ ¬ p = x.bp) := by
            by_cases q : x.b = s
            · exact .inr ⟨q, fun e => h2 ⟨q, e.symm⟩⟩
            · exact .inl (fun e => q e.symm)
          clear hT3 h1 h2
          rcases hA with hA | ⟨hA, hA'⟩ <;> rcases hB with hB | ⟨hB, hB'⟩
          · go_wp2_with fail
            go_roundw
            case rel => exact ⟨j + 1, by omega, by go_num, HT.out, HXS.out⟩
            case measure => simp [intOf]; omega
          · rw [hB] at e2
            clear hB
            go_wp2_with fail
            go_roundw
            case rel => exact ⟨j + 1, by omega, by go_num, HT.out, HXS.out⟩
            case measure => simp [intOf]; omega
          · rw [hA] at e0
            clear hA
            go_wp2_with fail
            go_roundw
            case rel => exact ⟨j + 1, by omega, by go_num, HT.out, HXS.out⟩
            case measure => simp [intOf]; omega
          · rw [hA] at e0
            rw [hB] at e2
            clear hA hB
            go_wp2_with fail
            go_roundw
            case rel => exact ⟨j + 1, by omega, by go_num, HT.out, HXS.out⟩
            case measure => simp [intOf]; omega
    · have HF := Lib.hid (show overP s p l = none from by
        rw [← hT.out, List.drop_of_length_le (by have := HL.out; omega), overP])
      obtain ⟨c0, c1, b0, b1, f0, f1⟩ := HC.out _ hx.out
      clear hT
      go_wp2_with fail
      have k0 : ((wn.setCell ⟨w.heap.size + 1, 0, none⟩ (.int .u16 0)).setCell ⟨w.heap.size + 1, 1, none⟩ (.int .u16 0)).cell? ⟨w.heap.size + 1, 0, none⟩ = some (.int .u16 0) := by
        rw [World.cell?_setCell_other _ _ _ _ (fun e => by injection e with _ e2; omega)]; exact World.cell?_setCell_same wn ⟨w.heap.size + 1, 0, none⟩ _ b0
      have k1 : ((wn.setCell ⟨w.heap.size + 1, 0, none⟩ (.int .u16 0)).setCell ⟨w.heap.size + 1, 1, none⟩ (.int .u16 0)).cell? ⟨w.heap.size + 1, 1, none⟩ = some (.int .u16 0) :=
        World.cell?_setCell_same _ ⟨w.heap.size + 1, 1, none⟩ _ (by rw [World.cell?_setCell_other _ _ _ _ (fun e => by injection e with _ e2; omega)]; exact b1)
      have hxe : Ext w ((wn.setCell ⟨w.heap.size + 1, 0, none⟩ (.int .u16 0)).setCell ⟨w.heap.size + 1, 1, none⟩ (.int .u16 0)) := ((HX.out.trans hx.out).andSet (by show w.heap.size ≤ w.heap.size + 1; omega) _).andSet (by show w.heap.size ≤ w.heap.size + 1; omega) _
      refine bodyPost_ret_by (v := .tuple #[spotOf (overP s p l), .bool (overP s p l).isSome]) ?_ rfl ⟨rfl, hxe⟩
      rw [results_cell_tmp rfl, HF.out]
      generalize ((wn.setCell ⟨w.heap.size + 1, 0, none⟩ (.int .u16 0)).setCell ⟨w.heap.size + 1, 1, none⟩ (.int .u16 0)) = wE at *
      go_simp
      try rfl
end Go.Proofs.Ytddeelepaiklgaa
