/- The document's store: Test (law 20). -/
import Derived.Test.YtehdddilcakmlaaDoorNRef5
namespace Go.Proofs.YtehdddilcakmlaaDoor
open Go.RowKit Go.Sort Go.Maps Go.Lib
set_option linter.unusedSimpArgs false

theorem behind_iff {f n : Int} {h l : NdD} : behindB f n h l = true ↔ (0 ≤ h.f ∧ h.f ≤ f) ∨ (0 ≤ l.f ∧ (l.f < f ∨ (l.f = f ∧ l.n ≤ n))) := by
  have h1 : orI (cmp1 l.f f) (cmp1 l.n n) ≤ 0 ↔ (l.f < f ∨ (l.f = f ∧ l.n ≤ n)) := by
    unfold orI cmp1
    repeat' split
    all_goals omega
  unfold behindB
  simp only [Bool.or_eq_true, Bool.and_eq_true, decide_eq_true_eq, h1]

set_option maxHeartbeats 16000000 in
set_option maxRecDepth 100000 in
theorem refTest_any {B : Nat → Prop} {lw : Nat} (g : Nat) (L : List NdD) (rv : Value) (rvs : List Value) (f n hi lo : Int) (w : World) (h : RfS B lw w g L rv rvs) (hlo : lw ≤ w.heap.size) (hL : InvL L) (hf : -128 ≤ f ∧ f ≤ 127) (hn : 0 ≤ n ∧ n ≤ 18446744073709551615) :
    Calls Tryd.prog 14 #[.pointer (some ⟨g, 0, none⟩), .int .i8 f, .int .u64 n, .int .i64 hi, .int .i64 lo] w (PutR B (fun _ => False) lw w g rv (testP L f n hi lo)) := by
  have HS := Lib.hid h
  have HIL := Lib.hid hL
  have HFI := Lib.hid (ref01Fits_any f n w hf hn)
  obtain ⟨q, cq, rfl, -⟩ := owns_form h.o
  obtain ⟨m, hm⟩ : ∃ m, m = L.length := ⟨_, rfl⟩
  have HMN := Lib.hid hm
  have hmb : m ≤ 65536 := by rw [hm]; exact hL.2.1
  have c0 := h.c
  rw [← hm] at c0
  have HNC := Lib.hid (show ∀ i (hi : i < L.length), ∃ gb, q = some ⟨gb, 0, none⟩ ∧ ∃ u, w.rangeAt gb (i * 5) ((L[i]).cs u) ∧ RowsOn B w (L[i]).leaf u from fun i hi => by
    rcases owns_range h.o with ⟨h0, -⟩ | ⟨gb, c, he, -, -, hr⟩
    · omega
    · cases he
      exact ⟨gb, rfl, _, nodeCells h.v.1 hr i hi, h.v.2 i hi (by rw [h.v.1]; exact hi)⟩)
  have HTE := Lib.hid (show testP L f n hi lo = (if fitsB f n = true ∧ (0 ≤ hi ∧ hi < L.length) ∧ (0 ≤ lo ∧ lo < L.length) then
      (match L[hi.toNat]?, L[lo.toNat]? with
      | some h, some l => if behindB f n h l then ((0, 2), L) else if hi = lo then ((hi, 0), L) else putN L ⟨f, n, hi, lo, []⟩
      | _, _ => ((0, 2), L))
    else ((0, 2), L)) from rfl)
  generalize testP L f n hi lo = R at *
  have HNO := Lib.hid (show ¬ (fitsB f n = true ∧ (0 ≤ hi ∧ hi < L.length) ∧ (0 ≤ lo ∧ lo < L.length)) → R = ((0, 2), L) from fun hc => by rw [HTE.out, if_neg hc])
  clear h hL hm hf hn
  go_enter Tryd.func14, Tryd.ntmps14
  go_wp2_with fail
  refine HFI.out.mono ?_
  rintro e w1 ⟨rfl, rfl⟩
  cases hfb : fitsB f n with
  | false =>
    have HF := Lib.hid (HNO.out fun hc => by rw [hfb] at hc; cases hc.1)
    clear hfb
    go_wp2_with fail
    go_ret2
    exact PutR.same HS.out (Ext.refl _) HF.out
  | true =>
    have HFB := Lib.hid hfb
    clear hfb
    by_cases h1 : hi < 0
    · have HF := Lib.hid (HNO.out fun hc => by omega)
      go_wp2_with fail
      go_ret2
      exact PutR.same HS.out (Ext.refl _) HF.out
    by_cases h2 : lo < 0
    · have HF := Lib.hid (HNO.out fun hc => by omega)
      go_wp2_with fail
      go_ret2
      exact PutR.same HS.out (Ext.refl _) HF.out
    by_cases h3 : (m : Int) ≤ hi
    · have HF := Lib.hid (HNO.out fun hc => by have := HMN.out; omega)
      go_wp2_with fail
      go_ret2
      exact PutR.same HS.out (Ext.refl _) HF.out
    by_cases h4 : (m : Int) ≤ lo
    · have HF := Lib.hid (HNO.out fun hc => by have := HMN.out; omega)
      go_wp2_with fail
      go_ret2
      exact PutR.same HS.out (Ext.refl _) HF.out
    obtain ⟨a, rfl⟩ : ∃ a : Nat, hi = a := ⟨hi.toNat, by omega⟩
    obtain ⟨b, rfl⟩ : ∃ b : Nat, lo = b := ⟨lo.toNat, by omega⟩
    have ham : a < m := by omega
    have hbm : b < m := by omega
    have hal : a < L.length := by rw [← HMN.out]; exact ham
    have hbl : b < L.length := by rw [← HMN.out]; exact hbm
    obtain ⟨gb, rfl, u, hr, hrow⟩ := HNC.out a hal
    obtain ⟨gb', he, v, hs, hsow⟩ := HNC.out b hbl
    cases he
    obtain ⟨x, hx⟩ : ∃ x, x = L[a] := ⟨_, rfl⟩
    obtain ⟨y, hy⟩ : ∃ y, y = L[b] := ⟨_, rfl⟩
    have HRR := Lib.hid (show R = (if behindB f n x y then ((0, 2), L) else if (a : Int) = b then (((a : Int), 0), L) else putN L ⟨f, n, a, b, []⟩) from by
      rw [HTE.out, if_pos ⟨HFB.out, ⟨by omega, by omega⟩, by omega, by omega⟩, Int.toNat_natCast, Int.toNat_natCast, List.getElem?_eq_getElem hal, List.getElem?_eq_getElem hbl, hx, hy])
    have HBT := Lib.hid (show ((0 ≤ x.f ∧ x.f ≤ f) ∨ (0 ≤ y.f ∧ (y.f < f ∨ (y.f = f ∧ y.n ≤ n)))) → R = ((0, 2), L) from fun hb => by rw [HRR.out, if_pos (behind_iff.2 hb)])
    have HBF := Lib.hid (show ¬ ((0 ≤ x.f ∧ x.f ≤ f) ∨ (0 ≤ y.f ∧ (y.f < f ∨ (y.f = f ∧ y.n ≤ n)))) → R = (if (a : Int) = b then (((a : Int), 0), L) else putN L ⟨f, n, a, b, []⟩) from fun hb => by rw [HRR.out, if_neg fun h => hb (behind_iff.1 h)])
    rw [← hx] at hr hrow
    rw [← hy] at hs hsow
    obtain ⟨pX, nX, kX, rfl, -⟩ := hrow
    obtain ⟨pY, nY, kY, rfl, -⟩ := hsow
    have d0 : w.cell? ⟨gb, a * 5, none⟩ = some (.int .i8 x.f) := by simpa using hr 0 _ rfl
    have d1 : w.cell? ⟨gb, a * 5 + 1, none⟩ = some (.int .u64 x.n) := hr 1 _ rfl
    have d2 : w.cell? ⟨gb, a * 5 + 2, none⟩ = some (.int .i64 x.hi) := hr 2 _ rfl
    have d3 : w.cell? ⟨gb, a * 5 + 3, none⟩ = some (.int .i64 x.lo) := hr 3 _ rfl
    have d4 : w.cell? ⟨gb, a * 5 + 4, none⟩ = some (.slice pX nX kX) := hr 4 _ rfl
    obtain ⟨w4, h4'⟩ : ∃ W : World, w.alloc (.cells #[.int .i8 x.f, .int .u64 x.n, .int .i64 x.hi, .int .i64 x.lo, .slice pX nX kX] 41) = W := ⟨_, rfl⟩
    have x4 : Ext w w4 := h4' ▸ Ext.alloc _ _
    obtain ⟨w6, h6'⟩ : ∃ W : World, w4.alloc (.cells #[.int .i8 y.f, .int .u64 y.n, .int .i64 y.hi, .int .i64 y.lo, .slice pY nY kY] 41) = W := ⟨_, rfl⟩
    have x6 : Ext w4 w6 := h6' ▸ Ext.alloc _ _
    have HSD := Lib.hid (show w4.cell? ⟨gb, b * 5, none⟩ = some (.int .i8 y.f) ∧ w4.cell? ⟨gb, b * 5 + 1, none⟩ = some (.int .u64 y.n) ∧ w4.cell? ⟨gb, b * 5 + 2, none⟩ = some (.int .i64 y.hi) ∧ w4.cell? ⟨gb, b * 5 + 3, none⟩ = some (.int .i64 y.lo) ∧ w4.cell? ⟨gb, b * 5 + 4, none⟩ = some (.slice pY nY kY) ∧ w4.cell? ⟨g, 0, none⟩ = some (.slice (some ⟨gb, 0, none⟩) m cq) from
      ⟨x4.later _ _ (by simpa using hs 0 _ rfl), x4.later _ _ (hs 1 _ rfl), x4.later _ _ (hs 2 _ rfl), x4.later _ _ (hs 3 _ rfl), x4.later _ _ (hs 4 _ rfl), x4.later _ _ c0⟩)
    have HZX := Lib.hid (show w6.cell? ⟨w.heap.size, 0, none⟩ = some (.int .i8 x.f) ∧ w6.cell? ⟨w.heap.size, 1, none⟩ = some (.int .u64 x.n) from ⟨x6.later _ _ (by rw [← h4']; simp [go_sem]), x6.later _ _ (by rw [← h4']; simp [go_sem])⟩)
    have HZY := Lib.hid (show w6.cell? ⟨w4.heap.size, 0, none⟩ = some (.int .i8 y.f) ∧ w6.cell? ⟨w4.heap.size, 1, none⟩ = some (.int .u64 y.n) from by rw [← h6']; exact ⟨by simp [go_sem], by simp [go_sem]⟩)
    have HX6 := Lib.hid (x4.trans x6)
    have HE4 := Lib.hid h4'
    have HE6 := Lib.hid h6'
    have HPT := Lib.hid (refPut_any (C := fun _ => False) g L (.slice (some ⟨gb, 0, none⟩) L.length cq) rvs ⟨f, n, a, b, []⟩ (.slice none 0 0) w6 (HS.out.ext HX6.out) (Nat.le_trans hlo HX6.out.size) HIL.out (fun b hb => hb.elim) RowsOn.nil (fun r hr => by cases hr))
    clear hx hy hr hs h4' h6' x4 x6 HTE HNO
    go_upto_region 4 with fail
    rw [HE4.out]
    clear HE4 d0 d1 d2 d3 d4 c0
    obtain ⟨d0, d1, d2, d3, d4, c0⟩ := HSD.out
    go_upto_region 5 with fail
    rw [HE6.out]
    clear HE6 d0 d1 d2 d3 d4 c0 h1 h2 h3 h4
    obtain ⟨z0, z1⟩ := HZX.out
    obtain ⟨y0, y1⟩ := HZY.out
    by_cases p1 : 0 ≤ x.f
    case neg =>
      by_cases p3 : 0 ≤ y.f
      case neg =>
        have HF := Lib.hid (HBF.out (by omega))
        by_cases he : (a : Int) = b
        · have qe : ((a : Int) == (b : Int)) = true := by rw [beq_iff_eq]; exact he
          have HF2 := Lib.hid (HF.out.trans (if_pos he))
          clear he
          go_wp2_with fail
          go_ret2
          exact PutR.same HS.out HX6.out HF2.out
        · have qe : ((a : Int) == (b : Int)) = false := by rw [beq_eq_false_iff_ne]; exact he
          have HF2 := Lib.hid (HF.out.trans (if_neg he))
          rw [← HF2.out] at HPT
          clear he
          go_wp2_with fail
          refine HPT.out.mono ?_
          intro e w9 hp
          have HP := Lib.hid hp
          obtain ⟨rfl, -⟩ := hp
          go_wp2_with fail
          go_ret2
          exact HP.out.from HX6.out fun b hb => hb.elim
      by_cases p4 : y.f < f
      case pos =>
        have HF := Lib.hid (HBT.out (by omega))
        go_wp2_with fail
        go_ret2
        exact PutR.same HS.out HX6.out HF.out
      by_cases p5 : y.f = f
      case neg =>
        have q5 : (y.f == f) = false := by rw [beq_eq_false_iff_ne]; exact p5
        have HF := Lib.hid (HBF.out (by omega))
        by_cases he : (a : Int) = b
        · have qe : ((a : Int) == (b : Int)) = true := by rw [beq_iff_eq]; exact he
          have HF2 := Lib.hid (HF.out.trans (if_pos he))
          clear he
          go_wp2_with fail
          go_ret2
          exact PutR.same HS.out HX6.out HF2.out
        · have qe : ((a : Int) == (b : Int)) = false := by rw [beq_eq_false_iff_ne]; exact he
          have HF2 := Lib.hid (HF.out.trans (if_neg he))
          rw [← HF2.out] at HPT
          clear he
          go_wp2_with fail
          refine HPT.out.mono ?_
          intro e w9 hp
          have HP := Lib.hid hp
          obtain ⟨rfl, -⟩ := hp
          go_wp2_with fail
          go_ret2
          exact HP.out.from HX6.out fun b hb => hb.elim
      have q5 : (y.f == f) = true := by rw [beq_iff_eq]; exact p5
      by_cases p6 : y.n ≤ n
      case pos =>
        have HF := Lib.hid (HBT.out (by omega))
        go_wp2_with fail
        go_ret2
        exact PutR.same HS.out HX6.out HF.out
      have HF := Lib.hid (HBF.out (by omega))
      by_cases he : (a : Int) = b
      · have qe : ((a : Int) == (b : Int)) = true := by rw [beq_iff_eq]; exact he
        have HF2 := Lib.hid (HF.out.trans (if_pos he))
        clear he
        go_wp2_with fail
        go_ret2
        exact PutR.same HS.out HX6.out HF2.out
      · have qe : ((a : Int) == (b : Int)) = false := by rw [beq_eq_false_iff_ne]; exact he
        have HF2 := Lib.hid (HF.out.trans (if_neg he))
        rw [← HF2.out] at HPT
        clear he
        go_wp2_with fail
        refine HPT.out.mono ?_
        intro e w9 hp
        have HP := Lib.hid hp
        obtain ⟨rfl, -⟩ := hp
        go_wp2_with fail
        go_ret2
        exact HP.out.from HX6.out fun b hb => hb.elim
    by_cases p2 : x.f ≤ f
    case pos =>
      have HF := Lib.hid (HBT.out (by omega))
      go_wp2_with fail
      go_ret2
      exact PutR.same HS.out HX6.out HF.out
    by_cases p3 : 0 ≤ y.f
    case neg =>
      have HF := Lib.hid (HBF.out (by omega))
      by_cases he : (a : Int) = b
      · have qe : ((a : Int) == (b : Int)) = true := by rw [beq_iff_eq]; exact he
        have HF2 := Lib.hid (HF.out.trans (if_pos he))
        clear he
        go_wp2_with fail
        go_ret2
        exact PutR.same HS.out HX6.out HF2.out
      · have qe : ((a : Int) == (b : Int)) = false := by rw [beq_eq_false_iff_ne]; exact he
        have HF2 := Lib.hid (HF.out.trans (if_neg he))
        rw [← HF2.out] at HPT
        clear he
        go_wp2_with fail
        refine HPT.out.mono ?_
        intro e w9 hp
        have HP := Lib.hid hp
        obtain ⟨rfl, -⟩ := hp
        go_wp2_with fail
        go_ret2
        exact HP.out.from HX6.out fun b hb => hb.elim
    by_cases p4 : y.f < f
    case pos =>
      have HF := Lib.hid (HBT.out (by omega))
      go_wp2_with fail
      go_ret2
      exact PutR.same HS.out HX6.out HF.out
    by_cases p5 : y.f = f
    case neg =>
      have q5 : (y.f == f) = false := by rw [beq_eq_false_iff_ne]; exact p5
      have HF := Lib.hid (HBF.out (by omega))
      by_cases he : (a : Int) = b
      · have qe : ((a : Int) == (b : Int)) = true := by rw [beq_iff_eq]; exact he
        have HF2 := Lib.hid (HF.out.trans (if_pos he))
        clear he
        go_wp2_with fail
        go_ret2
        exact PutR.same HS.out HX6.out HF2.out
      · have qe : ((a : Int) == (b : Int)) = false := by rw [beq_eq_false_iff_ne]; exact he
        have HF2 := Lib.hid (HF.out.trans (if_neg he))
        rw [← HF2.out] at HPT
        clear he
        go_wp2_with fail
        refine HPT.out.mono ?_
        intro e w9 hp
        have HP := Lib.hid hp
        obtain ⟨rfl, -⟩ := hp
        go_wp2_with fail
        go_ret2
        exact HP.out.from HX6.out fun b hb => hb.elim
    have q5 : (y.f == f) = true := by rw [beq_iff_eq]; exact p5
    by_cases p6 : y.n ≤ n
    case pos =>
      have HF := Lib.hid (HBT.out (by omega))
      go_wp2_with fail
      go_ret2
      exact PutR.same HS.out HX6.out HF.out
    have HF := Lib.hid (HBF.out (by omega))
    by_cases he : (a : Int) = b
    · have qe : ((a : Int) == (b : Int)) = true := by rw [beq_iff_eq]; exact he
      have HF2 := Lib.hid (HF.out.trans (if_pos he))
      clear he
      go_wp2_with fail
      go_ret2
      exact PutR.same HS.out HX6.out HF2.out
    · have qe : ((a : Int) == (b : Int)) = false := by rw [beq_eq_false_iff_ne]; exact he
      have HF2 := Lib.hid (HF.out.trans (if_neg he))
      rw [← HF2.out] at HPT
      clear he
      go_wp2_with fail
      refine HPT.out.mono ?_
      intro e w9 hp
      have HP := Lib.hid hp
      obtain ⟨rfl, -⟩ := hp
      go_wp2_with fail
      go_ret2
      exact HP.out.from HX6.out fun b hb => hb.elim
end Go.Proofs.YtehdddilcakmlaaDoor
