/- MeaningAlgebra, walked. -/
import Derived.Test.YtpjmdjddgnaddaaLIs
namespace Go.Proofs.Ytpjmdjddgnaddaa
open Go.RowKit Go.Maps
set_option linter.unusedSimpArgs false

theorem allAt_three {w : World} {t u s : Tm} {a b c d a' b' c' d' a2 b2 c2 d2 : Value} (h : t.Val w (.agg #[a, b, c, d])) (k : u.Val w (.agg #[a', b', c', d'])) (m : s.Val w (.agg #[a2, b2, c2, d2])) (ty : TypeId) : Tm.AllAt (w.alloc (.cells #[a, b, c, d, a', b', c', d', a2, b2, c2, d2] ty)) [t, u, s] w.heap.size 0 := by
  refine ⟨h.at_part _ 0 fun j v hv => ?_, k.at_part _ 4 fun j v hv => ?_, m.at_part _ 8 fun j v hv => ?_, trivial⟩
  · match j, hv with
    | 0, hv | 1, hv | 2, hv | 3, hv => simpa using hv
    | j + 4, hv => simp at hv
  · match j, hv with
    | 0, hv | 1, hv | 2, hv | 3, hv => simpa using hv
    | j + 4, hv => simp at hv
  · match j, hv with
    | 0, hv | 1, hv | 2, hv | 3, hv => simpa using hv
    | j + 4, hv => simp at hv

theorem wpAny_listed {P : Program} {md : Region.Mode} {ops : Array Oper} {Q : Exit → Act → World → Prop} {S : World → Prop} {fuel : Nat} {l m : Array Bool} {a : Act} {w : World} (h : l = m) (k : wpAnyH P md ops Q S fuel m a w) : wpAnyH P md ops Q S fuel l a w := by
  subst h
  exact k
theorem listed_lit (n : Nat) (h : n = 137) : Array.replicate n false = #[false, false, false, false, false, false, false, false, false, false, false, false, false, false, false, false, false, false, false, false, false, false, false, false, false, false, false, false, false, false, false, false, false, false, false, false, false, false, false, false, false, false, false, false, false, false, false, false, false, false, false, false, false, false, false, false, false, false, false, false, false, false, false, false, false, false, false, false, false, false, false, false, false, false, false, false, false, false, false, false, false, false, false, false, false, false, false, false, false, false, false, false, false, false, false, false, false, false, false, false, false, false, false, false, false, false, false, false, false, false, false, false, false, false, false, false, false, false, false, false, false, false, false, false, false, false, false, false, false, false, false, false, false, false, false, false, false] := by
  subst h
  rfl

set_option maxRecDepth 100000 in
set_option maxHeartbeats 16000000 in
theorem lawAlg_any (p q r : Tm) (v1 v2 v3 : Value) (x : Hdr) (w : World) (h1 : p.Val w v1) (h2 : q.Val w v2) (h3 : r.Val w v3) :
    Calls Try.prog 4 #[v1, v2, v3, .agg x.cs] w fun e w' => e = .returned (.bool true) ∧ Ext w w' := by
  have HP := Lib.hid h1
  have HQ := Lib.hid h2
  have HR := Lib.hid h3
  obtain ⟨pp, lp, kp, rfl⟩ := h1.cs
  obtain ⟨pq, lq, kq, rfl⟩ := h2.cs
  obtain ⟨pr, lr, kr, rfl⟩ := h3.cs
  clear h1 h2 h3
  obtain ⟨wA, hA⟩ : ∃ W : World, w.alloc (.cells #[.int .i8 p.op, .int .i8 p.fld, .int .u64 p.n, .slice pp lp kp] 26) = W := ⟨_, rfl⟩
  have xA : Ext w wA := hA ▸ Ext.alloc _ _
  have sA : wA.heap.size = w.heap.size + 1 := by rw [← hA, World.size_alloc]
  have rA : wA.rangeAt (w.heap.size) 0 [.int .i8 p.op, .int .i8 p.fld, .int .u64 p.n, .slice pp lp kp] := by
    have := rangeAt_new w #[.int .i8 p.op, .int .i8 p.fld, .int .u64 p.n, .slice pp lp kp] 26
    rw [hA] at this
    exact this
  obtain ⟨wB, hB⟩ : ∃ W : World, wA.alloc (.cells #[.int .i8 q.op, .int .i8 q.fld, .int .u64 q.n, .slice pq lq kq] 26) = W := ⟨_, rfl⟩
  have xB : Ext wA wB := hB ▸ Ext.alloc _ _
  have sB : wB.heap.size = w.heap.size + 1 + 1 := by rw [← hB, World.size_alloc, sA]
  have rB : wB.rangeAt (w.heap.size + 1) 0 [.int .i8 q.op, .int .i8 q.fld, .int .u64 q.n, .slice pq lq kq] := by
    have := rangeAt_new wA #[.int .i8 q.op, .int .i8 q.fld, .int .u64 q.n, .slice pq lq kq] 26
    rw [hB, sA] at this
    exact this
  obtain ⟨wC, hC⟩ : ∃ W : World, wB.alloc (.cells #[.int .i8 r.op, .int .i8 r.fld, .int .u64 r.n, .slice pr lr kr] 26) = W := ⟨_, rfl⟩
  have xC : Ext wB wC := hC ▸ Ext.alloc _ _
  have sC : wC.heap.size = w.heap.size + 1 + 1 + 1 := by rw [← hC, World.size_alloc, sB]
  have rC : wC.rangeAt (w.heap.size + 1 + 1) 0 [.int .i8 r.op, .int .i8 r.fld, .int .u64 r.n, .slice pr lr kr] := by
    have := rangeAt_new wB #[.int .i8 r.op, .int .i8 r.fld, .int .u64 r.n, .slice pr lr kr] 26
    rw [hC, sB] at this
    exact this
  obtain ⟨wD, hD⟩ : ∃ W : World, wC.alloc (.cells x.cs 28) = W := ⟨_, rfl⟩
  have xD : Ext wC wD := hD ▸ Ext.alloc _ _
  have sD : wD.heap.size = w.heap.size + 1 + 1 + 1 + 1 := by rw [← hD, World.size_alloc, sC]
  have rD : wD.rangeAt (w.heap.size + 1 + 1 + 1) 0 x.cs.toList := by
    have := rangeAt_new wC x.cs 28
    rw [hD, sC] at this
    exact this
  obtain ⟨wE, hE⟩ : ∃ W : World, wD.alloc (.cells #[.int .i8 p.op, .int .i8 p.fld, .int .u64 p.n, .slice pp lp kp, .int .i8 q.op, .int .i8 q.fld, .int .u64 q.n, .slice pq lq kq, .int .i8 r.op, .int .i8 r.fld, .int .u64 r.n, .slice pr lr kr] 26) = W := ⟨_, rfl⟩
  have xE : Ext wD wE := hE ▸ Ext.alloc _ _
  have sE : wE.heap.size = w.heap.size + 1 + 1 + 1 + 1 + 1 := by rw [← hE, World.size_alloc, sD]
  have rE : wE.rangeAt (w.heap.size + 1 + 1 + 1 + 1) 0 [.int .i8 p.op, .int .i8 p.fld, .int .u64 p.n, .slice pp lp kp, .int .i8 q.op, .int .i8 q.fld, .int .u64 q.n, .slice pq lq kq, .int .i8 r.op, .int .i8 r.fld, .int .u64 r.n, .slice pr lr kr] := by
    have := rangeAt_new wD #[.int .i8 p.op, .int .i8 p.fld, .int .u64 p.n, .slice pp lp kp, .int .i8 q.op, .int .i8 q.fld, .int .u64 q.n, .slice pq lq kq, .int .i8 r.op, .int .i8 r.fld, .int .u64 r.n, .slice pr lr kr] 26
    rw [hE, sD] at this
    exact this
  have xD' : Ext w wD := ((xA.trans xB).trans xC).trans xD
  have hall : Tm.AllAt wE [p, q, r] (w.heap.size + 1 + 1 + 1 + 1) 0 := by
    have := allAt_three (HP.out.later xD'.later) (HQ.out.later xD'.later) (HR.out.later xD'.later) 26
    rw [hE, sD] at this
    exact this
  have HRP := Lib.hid (fun W (hW : Ext wE W) => World.rangeAt.later ((((xB.trans xC).trans xD).trans xE).trans hW).later rA)
  have HRQ := Lib.hid (fun W (hW : Ext wE W) => World.rangeAt.later (((xC.trans xD).trans xE).trans hW).later rB)
  have HRR := Lib.hid (fun W (hW : Ext wE W) => World.rangeAt.later ((xD.trans xE).trans hW).later rC)
  have HRX := Lib.hid (fun W (hW : Ext wE W) => World.rangeAt.later (xE.trans hW).later rD)
  have HVP := Lib.hid (fun W (hW : Ext wE W) => HP.out.later ((xD'.trans xE).trans hW).later)
  have HVQ := Lib.hid (fun W (hW : Ext wE W) => HQ.out.later ((xD'.trans xE).trans hW).later)
  have HVR := Lib.hid (fun W (hW : Ext wE W) => HR.out.later ((xD'.trans xE).trans hW).later)
  have HZ := Lib.hid (xD'.trans xE)
  have HALL := Lib.hid hall
  have HSE := Lib.hid sE
  have HEQ := Lib.hid (And.intro hA (And.intro hB (And.intro hC (And.intro hD hE))))
  clear hall xA xB xC xD xE xD' sA sB sC sD sE rA rB rC rD rE hA hB hC hD hE
  have hmf : ∀ (fn : Fn) (first cap : Array Value) (w : World), (Instr.makeFunc fn first cap).run Try.prog w = .ok (.func fn first cap) w := fun _ _ _ _ => rfl
  go_enter Try.func4, Try.ntmps4
  go_wp2_with fail
  rw [HEQ.out.1, HEQ.out.2.1, HEQ.out.2.2.1, HEQ.out.2.2.2.1, HEQ.out.2.2.2.2]
  clear HEQ
  go_loopw [20] (fun i wr => ∃ j : Nat, j ≤ 3 ∧ i = .int .i64 j ∧ Hid (Ext wE wr)) (fun i _ => 3 - (intOf i).toNat)
  case atStart => exact ⟨0, by omega, rfl, Ext.refl _⟩
  case round =>
    obtain ⟨wo, rfl⟩ : ∃ wo : World, wo = wr := ⟨_, rfl⟩
    obtain ⟨j, hj, rfl, hx⟩ := hrel
    by_cases hlt : j < 3
    · have hjl : j < [p, q, r].length := hlt
      have hat : ([p, q, r][j]).At wo (w.heap.size + 1 + 1 + 1 + 1) (j * 4) := by
        have := (Tm.AllAt_get HALL.out j hjl).later hx.out.later
        rwa [Nat.zero_add] at this
      have HT := Lib.hid hat
      have hszo : w.heap.size + 1 + 1 + 1 + 1 < wo.heap.size := hat.lt
      generalize [p, q, r][j] = y at *
      clear hat
      go_wp2_with (first | (refine wpList_load_T rfl _ rfl (w.heap.size + 1 + 1 + 1 + 1) (j * 4) rfl y HT.out ?_; intro cs hcs _ _; obtain ⟨py, ly, ky, hcs4⟩ := hcs.cs; injection hcs4 with hcs4; subst hcs4))
      refine (check_any y _ _ _ _ _ (hcs.later (Ext.alloc _ _).later)).mono ?_
      rintro e w1 ⟨rfl, hx1⟩
      by_cases h0 : checkT y = 0
      · rw [h0]
        clear h0
        go_wp2_with fail
        go_roundw
        case rel => exact ⟨j + 1, by omega, by go_num, hx.out.trans ((Ext.alloc _ _).trans hx1)⟩
        case measure => simp [intOf]; omega
      · have hd : (checkT y != 0) = true := by simpa using h0
        generalize checkT y = c at *
        clear h0
        go_wp2_with fail
        refine (wakes_any w1).mono ?_
        rintro e w2 ⟨rfl, hx2⟩
        go_wp2_with fail
        go_ret
        exact ⟨rfl, (HZ.out.trans (hx.out.trans ((Ext.alloc _ _).trans hx1))).trans hx2⟩
    · skip
      obtain ⟨wG, hG⟩ : ∃ W : World, wo.alloc (.cells #[.int .i8 1, .int .i8 0, .int .u64 0, .slice none 0 0] 26) = W := ⟨_, rfl⟩
      have xG : Ext wo wG := hG ▸ Ext.alloc _ _
      have sG : wG.heap.size = wo.heap.size + 1 := by rw [← hG, World.size_alloc]
      have rG : wG.rangeAt (wo.heap.size) 0 [.int .i8 1, .int .i8 0, .int .u64 0, .slice none 0 0] := by
        have := rangeAt_new wo #[.int .i8 1, .int .i8 0, .int .u64 0, .slice none 0 0] 26
        rw [hG] at this
        exact this
      have hvy : yesF.Val wG (.agg #[.int .i8 6, .int .i8 0, .int .u64 0, .slice (some ⟨wo.heap.size, 0, none⟩) 1 1]) := by
        have h1 := allAt_one (val_leaf (w := wo) (op := 1) (f := 0) (n := 0) (by omega) (by omega) (by omega)) 26
        rw [hG] at h1
        exact val_mk (op := 6) (f := 0) (n := 0) (by omega) (by omega) (by omega) _ 1 1 rfl (by omega) (by omega) h1
      obtain ⟨wH, hH⟩ : ∃ W : World, wG.alloc (.cells #[.int .i8 6, .int .i8 0, .int .u64 0, .slice (some ⟨wo.heap.size, 0, none⟩) 1 1] 26) = W := ⟨_, rfl⟩
      have xH : Ext wG wH := hH ▸ Ext.alloc _ _
      have sH : wH.heap.size = wo.heap.size + 1 + 1 := by rw [← hH, World.size_alloc, sG]
      have rH : wH.rangeAt (wo.heap.size + 1) 0 [.int .i8 6, .int .i8 0, .int .u64 0, .slice (some ⟨wo.heap.size, 0, none⟩) 1 1] := by
        have := rangeAt_new wG #[.int .i8 6, .int .i8 0, .int .u64 0, .slice (some ⟨wo.heap.size, 0, none⟩) 1 1] 26
        rw [hH, sG] at this
        exact this
      obtain ⟨wI, hI⟩ : ∃ W : World, wH.alloc (.cells #[.int .i8 0, .int .i8 0, .int .u64 0, .slice none 0 0] 26) = W := ⟨_, rfl⟩
      have xI : Ext wH wI := hI ▸ Ext.alloc _ _
      have sI : wI.heap.size = wo.heap.size + 1 + 1 + 1 := by rw [← hI, World.size_alloc, sH]
      have rI : wI.rangeAt (wo.heap.size + 1 + 1) 0 [.int .i8 0, .int .i8 0, .int .u64 0, .slice none 0 0] := by
        have := rangeAt_new wH #[.int .i8 0, .int .i8 0, .int .u64 0, .slice none 0 0] 26
        rw [hI, sH] at this
        exact this
      have hvn : noF.Val wI (.agg #[.int .i8 6, .int .i8 0, .int .u64 0, .slice (some ⟨wo.heap.size + 1 + 1, 0, none⟩) 1 1]) := by
        have h1 := allAt_one (val_leaf (w := wH) (op := 0) (f := 0) (n := 0) (by omega) (by omega) (by omega)) 26
        rw [hI, sH] at h1
        exact val_mk (op := 6) (f := 0) (n := 0) (by omega) (by omega) (by omega) _ 1 1 rfl (by omega) (by omega) h1
      obtain ⟨wJ, hJ⟩ : ∃ W : World, wI.alloc (.cells #[.int .i8 6, .int .i8 0, .int .u64 0, .slice (some ⟨wo.heap.size + 1 + 1, 0, none⟩) 1 1] 26) = W := ⟨_, rfl⟩
      have xJ : Ext wI wJ := hJ ▸ Ext.alloc _ _
      have sJ : wJ.heap.size = wo.heap.size + 1 + 1 + 1 + 1 := by rw [← hJ, World.size_alloc, sI]
      have rJ : wJ.rangeAt (wo.heap.size + 1 + 1 + 1) 0 [.int .i8 6, .int .i8 0, .int .u64 0, .slice (some ⟨wo.heap.size + 1 + 1, 0, none⟩) 1 1] := by
        have := rangeAt_new wI #[.int .i8 6, .int .i8 0, .int .u64 0, .slice (some ⟨wo.heap.size + 1 + 1, 0, none⟩) 1 1] 26
        rw [hJ, sI] at this
        exact this
      have hoJ : Ext wo wJ := ((xG.trans xH).trans xI).trans xJ
      have hEJ : Ext wE wJ := hx.out.trans hoJ
      have HRY := Lib.hid (fun W (hW : Ext wJ W) => World.rangeAt.later ((xI.trans xJ).trans hW).later rH)
      have HRN := Lib.hid (fun W (hW : Ext wJ W) => World.rangeAt.later hW.later rJ)
      have HVY := Lib.hid (fun W (hW : Ext wJ W) => hvy.later (((xH.trans xI).trans xJ).trans hW).later)
      have HVN := Lib.hid (fun W (hW : Ext wJ W) => hvn.later (xJ.trans hW).later)
      have HSS := Lib.hid (fun W (hW : Ext wJ W) => (show (fun W => W.cell? ⟨w.heap.size, 0, none⟩ = some (.int .i8 p.op) ∧ W.cell? ⟨w.heap.size, 1, none⟩ = some (.int .i8 p.fld) ∧ W.cell? ⟨w.heap.size, 2, none⟩ = some (.int .u64 p.n) ∧ W.cell? ⟨w.heap.size, 3, none⟩ = some (.slice pp lp kp) ∧ W.cell? ⟨w.heap.size + 1, 0, none⟩ = some (.int .i8 q.op) ∧ W.cell? ⟨w.heap.size + 1, 1, none⟩ = some (.int .i8 q.fld) ∧ W.cell? ⟨w.heap.size + 1, 2, none⟩ = some (.int .u64 q.n) ∧ W.cell? ⟨w.heap.size + 1, 3, none⟩ = some (.slice pq lq kq) ∧ W.cell? ⟨w.heap.size + 1 + 1, 0, none⟩ = some (.int .i8 r.op) ∧ W.cell? ⟨w.heap.size + 1 + 1, 1, none⟩ = some (.int .i8 r.fld) ∧ W.cell? ⟨w.heap.size + 1 + 1, 2, none⟩ = some (.int .u64 r.n) ∧ W.cell? ⟨w.heap.size + 1 + 1, 3, none⟩ = some (.slice pr lr kr) ∧ W.cell? ⟨wo.heap.size + 1, 0, none⟩ = some (.int .i8 6) ∧ W.cell? ⟨wo.heap.size + 1, 1, none⟩ = some (.int .i8 0) ∧ W.cell? ⟨wo.heap.size + 1, 2, none⟩ = some (.int .u64 0) ∧ W.cell? ⟨wo.heap.size + 1, 3, none⟩ = some (.slice (some ⟨wo.heap.size, 0, none⟩) 1 1) ∧ W.cell? ⟨wo.heap.size + 1 + 1 + 1, 0, none⟩ = some (.int .i8 6) ∧ W.cell? ⟨wo.heap.size + 1 + 1 + 1, 1, none⟩ = some (.int .i8 0) ∧ W.cell? ⟨wo.heap.size + 1 + 1 + 1, 2, none⟩ = some (.int .u64 0) ∧ W.cell? ⟨wo.heap.size + 1 + 1 + 1, 3, none⟩ = some (.slice (some ⟨wo.heap.size + 1 + 1, 0, none⟩) 1 1)) W from by
        obtain ⟨a0, a1, a2, a3⟩ := cells4 (HRP.out _ (hEJ.trans hW))
        obtain ⟨b0, b1, b2, b3⟩ := cells4 (HRQ.out _ (hEJ.trans hW))
        obtain ⟨c0, c1, c2, c3⟩ := cells4 (HRR.out _ (hEJ.trans hW))
        obtain ⟨d0, d1, d2, d3⟩ := cells4 (HRY.out _ hW)
        obtain ⟨e0, e1, e2, e3⟩ := cells4 (HRN.out _ hW)
        exact ⟨a0, a1, a2, a3, b0, b1, b2, b3, c0, c1, c2, c3, d0, d1, d2, d3, e0, e1, e2, e3⟩))
      have HVp := Lib.hid (fun W (hW : Ext wJ W) => HVP.out _ (hEJ.trans hW))
      have HVq := Lib.hid (fun W (hW : Ext wJ W) => HVQ.out _ (hEJ.trans hW))
      have HVr := Lib.hid (fun W (hW : Ext wJ W) => HVR.out _ (hEJ.trans hW))
      have HRx := Lib.hid (fun W (hW : Ext wJ W) => HRX.out _ (hEJ.trans hW))
      have HZJ := Lib.hid (HZ.out.trans hEJ)
      have HEQ2 := Lib.hid (And.intro hG (And.intro hH (And.intro hI hJ)))
      clear xG xH xI xJ sG sH sI sJ rG rH rI rJ hG hH hI hJ hvy hvn hoJ hEJ hx
      go_upto_region 11 with fail
      simp only [List.append_eq, List.cons_append, List.nil_append]
      rw [HEQ2.out.1, HEQ2.out.2.1, HEQ2.out.2.2.1, HEQ2.out.2.2.2]
      clear HEQ2 HRY HRN HRP HRQ HRR
      have hz0 : Ext wJ wJ.drew := Ext.drew _
      obtain ⟨a0, a1, a2, a3, b0, b1, b2, b3, c0, c1, c2, c3, d0, d1, d2, d3, e0, e1, e2, e3⟩ := HSS.out _ (Ext.refl _)
      refine wp_region_noPanic ?_
      refine wp_region_held_drew (S := (fun W => W.cell? ⟨w.heap.size, 0, none⟩ = some (.int .i8 p.op) ∧ W.cell? ⟨w.heap.size, 1, none⟩ = some (.int .i8 p.fld) ∧ W.cell? ⟨w.heap.size, 2, none⟩ = some (.int .u64 p.n) ∧ W.cell? ⟨w.heap.size, 3, none⟩ = some (.slice pp lp kp) ∧ W.cell? ⟨w.heap.size + 1, 0, none⟩ = some (.int .i8 q.op) ∧ W.cell? ⟨w.heap.size + 1, 1, none⟩ = some (.int .i8 q.fld) ∧ W.cell? ⟨w.heap.size + 1, 2, none⟩ = some (.int .u64 q.n) ∧ W.cell? ⟨w.heap.size + 1, 3, none⟩ = some (.slice pq lq kq) ∧ W.cell? ⟨w.heap.size + 1 + 1, 0, none⟩ = some (.int .i8 r.op) ∧ W.cell? ⟨w.heap.size + 1 + 1, 1, none⟩ = some (.int .i8 r.fld) ∧ W.cell? ⟨w.heap.size + 1 + 1, 2, none⟩ = some (.int .u64 r.n) ∧ W.cell? ⟨w.heap.size + 1 + 1, 3, none⟩ = some (.slice pr lr kr) ∧ W.cell? ⟨wo.heap.size + 1, 0, none⟩ = some (.int .i8 6) ∧ W.cell? ⟨wo.heap.size + 1, 1, none⟩ = some (.int .i8 0) ∧ W.cell? ⟨wo.heap.size + 1, 2, none⟩ = some (.int .u64 0) ∧ W.cell? ⟨wo.heap.size + 1, 3, none⟩ = some (.slice (some ⟨wo.heap.size, 0, none⟩) 1 1) ∧ W.cell? ⟨wo.heap.size + 1 + 1 + 1, 0, none⟩ = some (.int .i8 6) ∧ W.cell? ⟨wo.heap.size + 1 + 1 + 1, 1, none⟩ = some (.int .i8 0) ∧ W.cell? ⟨wo.heap.size + 1 + 1 + 1, 2, none⟩ = some (.int .u64 0) ∧ W.cell? ⟨wo.heap.size + 1 + 1 + 1, 3, none⟩ = some (.slice (some ⟨wo.heap.size + 1 + 1, 0, none⟩) 1 1))) (by kernel_rfl) (HSS.out _ hz0) (fun hHeld => ?_)
      refine wpAny_listed (listed_lit _ rfl) ?_
      refine wpAnyH_take (i := 0) (v := ?_) rfl (by kernel_rfl) (by kernel_rfl) (by kernel_rfl) (fun _ _ _ h => h) (Or.inl ⟨by rfl, ?_⟩) (by assumption) ?_
      rotate_left
      · (intro w hSw; (try dsimp only at hSw); go_simp; try with_reducible rfl)
      try simp only [List.getElem_toArray, List.getElem_cons_zero, List.getElem_cons_succ, Act.put, List.setIfInBounds_toArray, List.set_cons_zero, List.set_cons_succ]
      refine wpAnyH_take (i := 1) (v := ?_) rfl (by kernel_rfl) (by kernel_rfl) (by kernel_rfl) (fun _ _ _ h => h) (Or.inl ⟨by rfl, ?_⟩) (by assumption) ?_
      rotate_left
      · (intro w hSw; (try dsimp only at hSw); go_simp; try with_reducible rfl)
      try simp only [List.getElem_toArray, List.getElem_cons_zero, List.getElem_cons_succ, Act.put, List.setIfInBounds_toArray, List.set_cons_zero, List.set_cons_succ]
      refine wpAnyH_take (i := 2) (v := ?_) rfl (by kernel_rfl) (by kernel_rfl) (by kernel_rfl) (fun _ _ _ h => h) (Or.inl ⟨by rfl, ?_⟩) (by assumption) ?_
      rotate_left
      · (intro w hSw; (try dsimp only at hSw); go_simp; try with_reducible rfl)
      try simp only [List.getElem_toArray, List.getElem_cons_zero, List.getElem_cons_succ, Act.put, List.setIfInBounds_toArray, List.set_cons_zero, List.set_cons_succ]
      refine wpAnyH_take (i := 3) (v := ?_) rfl (by kernel_rfl) (by kernel_rfl) (by kernel_rfl) (fun _ _ _ h => h) (Or.inl ⟨by rfl, ?_⟩) (by assumption) ?_
      rotate_left
      · (intro w hSw; (try dsimp only at hSw); go_simp; try with_reducible rfl)
      try simp only [List.getElem_toArray, List.getElem_cons_zero, List.getElem_cons_succ, Act.put, List.setIfInBounds_toArray, List.set_cons_zero, List.set_cons_succ]
      refine wpAnyH_take (i := 4) (v := ?_) rfl (by kernel_rfl) (by kernel_rfl) (by kernel_rfl) (fun _ _ _ h => h) (Or.inl ⟨by rfl, ?_⟩) (by assumption) ?_
      rotate_left
      · (intro w hSw; (try dsimp only at hSw); go_simp; try with_reducible rfl)
      try simp only [List.getElem_toArray, List.getElem_cons_zero, List.getElem_cons_succ, Act.put, List.setIfInBounds_toArray, List.set_cons_zero, List.set_cons_succ]
      refine wpAnyH_take (i := 5) (v := ?_) rfl (by kernel_rfl) (by kernel_rfl) (by kernel_rfl) (fun _ _ _ h => h) (Or.inl ⟨by rfl, ?_⟩) (by assumption) ?_
      rotate_left
      · (intro w hSw; (try dsimp only at hSw); go_simp; try with_reducible rfl)
      try simp only [List.getElem_toArray, List.getElem_cons_zero, List.getElem_cons_succ, Act.put, List.setIfInBounds_toArray, List.set_cons_zero, List.set_cons_succ]
      refine wpAnyH_take (i := 8) (v := ?_) rfl (by kernel_rfl) (by kernel_rfl) (by kernel_rfl) (fun _ _ _ h => h) (Or.inl ⟨by rfl, ?_⟩) (by assumption) ?_
      rotate_left
      · (intro w hSw; (try dsimp only at hSw); go_simp; try with_reducible rfl)
      try simp only [List.getElem_toArray, List.getElem_cons_zero, List.getElem_cons_succ, Act.put, List.setIfInBounds_toArray, List.set_cons_zero, List.set_cons_succ]
      refine wpAnyH_take (i := 9) (v := ?_) rfl (by kernel_rfl) (by kernel_rfl) (by kernel_rfl) (fun _ _ _ h => h) (Or.inl ⟨by rfl, ?_⟩) (by assumption) ?_
      rotate_left
      · (intro w hSw; (try dsimp only at hSw); go_simp; try with_reducible rfl)
      try simp only [List.getElem_toArray, List.getElem_cons_zero, List.getElem_cons_succ, Act.put, List.setIfInBounds_toArray, List.set_cons_zero, List.set_cons_succ]
      refine wpAnyH_take (i := 10) (v := ?_) rfl (by kernel_rfl) (by kernel_rfl) (by kernel_rfl) (fun _ _ _ h => h) (Or.inl ⟨by rfl, ?_⟩) (by assumption) ?_
      rotate_left
      · (intro w hSw; (try dsimp only at hSw); go_simp; try with_reducible rfl)
      try simp only [List.getElem_toArray, List.getElem_cons_zero, List.getElem_cons_succ, Act.put, List.setIfInBounds_toArray, List.set_cons_zero, List.set_cons_succ]
      refine wpAnyH_take (i := 11) (v := ?_) rfl (by kernel_rfl) (by kernel_rfl) (by kernel_rfl) (fun _ _ _ h => h) (Or.inl ⟨by rfl, ?_⟩) (by assumption) ?_
      rotate_left
      · (intro w hSw; (try dsimp only at hSw); go_simp; try with_reducible rfl)
      try simp only [List.getElem_toArray, List.getElem_cons_zero, List.getElem_cons_succ, Act.put, List.setIfInBounds_toArray, List.set_cons_zero, List.set_cons_succ]
      refine wpAnyH_take (i := 13) (v := ?_) rfl (by kernel_rfl) (by kernel_rfl) (by kernel_rfl) (fun _ _ _ h => h) (Or.inl ⟨by rfl, ?_⟩) (by assumption) ?_
      rotate_left
      · (intro w hSw; (try dsimp only at hSw); go_simp; try with_reducible rfl)
      try simp only [List.getElem_toArray, List.getElem_cons_zero, List.getElem_cons_succ, Act.put, List.setIfInBounds_toArray, List.set_cons_zero, List.set_cons_succ]
      refine wpAnyH_ready (rs := [6]) (by kernel_rfl) (by simp) ?_
      refine AllReadyH.cons (i := 6) rfl (fun K hK => ?_) AllReadyH.nil
      go_simp
      go_at_call 15
      refine (two_any 8 q r _ _ _ (by omega) (HVq.out _ hz0) (HVr.out _ hz0)).mono ?_
      rintro e w1 ⟨v1, rfl, hv1, hx1⟩
      have hv1 := Lib.hid (fun W (hW : Ext w1 W) => hv1.later hW.later)
      have hz1 := hz0.trans hx1
      refine hK.out _ _ (HSS.out _ hz1) (fun hHeld1 => ?_)
      clear hK K hHeld
      try simp only [List.getElem_toArray, List.getElem_cons_zero, List.getElem_cons_succ, Act.put, List.setIfInBounds_toArray, List.set_cons_zero, List.set_cons_succ]
      refine wpAnyH_ready (rs := [7]) (by kernel_rfl) (by simp) ?_
      refine AllReadyH.cons (i := 7) rfl (fun K hK => ?_) AllReadyH.nil
      go_simp
      go_at_call 15
      refine (two_any 8 p (unionT2 q r) _ _ _ (by omega) (HVp.out _ hz1) (hv1.out _ (Ext.refl _))).mono ?_
      rintro e w2 ⟨v2, rfl, hv2, hx2⟩
      have hv2 := Lib.hid (fun W (hW : Ext w2 W) => hv2.later hW.later)
      have hz2 := hz1.trans hx2
      refine hK.out _ _ (HSS.out _ hz2) (fun hHeld2 => ?_)
      clear hK K hHeld1
      try simp only [List.getElem_toArray, List.getElem_cons_zero, List.getElem_cons_succ, Act.put, List.setIfInBounds_toArray, List.set_cons_zero, List.set_cons_succ]
      refine wpAnyH_ready (rs := [12]) (by kernel_rfl) (by simp) ?_
      refine AllReadyH.cons (i := 12) rfl (fun K hK => ?_) AllReadyH.nil
      go_simp
      go_at_call 15
      refine (two_any 8 p q _ _ _ (by omega) (HVp.out _ hz2) (HVq.out _ hz2)).mono ?_
      rintro e w3 ⟨v3, rfl, hv3, hx3⟩
      have hv3 := Lib.hid (fun W (hW : Ext w3 W) => hv3.later hW.later)
      have hz3 := hz2.trans hx3
      refine hK.out _ _ (HSS.out _ hz3) (fun hHeld3 => ?_)
      clear hK K hHeld2
      try simp only [List.getElem_toArray, List.getElem_cons_zero, List.getElem_cons_succ, Act.put, List.setIfInBounds_toArray, List.set_cons_zero, List.set_cons_succ]
      as_aux_lemma =>
        refine wpAnyH_ready (rs := [14]) (by kernel_rfl) (by simp) ?_
        refine AllReadyH.cons (i := 14) rfl (fun K hK => ?_) AllReadyH.nil
        go_simp
        go_at_call 15
        refine (two_any 8 (unionT2 p q) r _ _ _ (by omega) (hv3.out _ (Ext.refl _)) (HVr.out _ hz3)).mono ?_
        rintro e w4 ⟨v4, rfl, hv4, hx4⟩
        have hv4 := Lib.hid (fun W (hW : Ext w4 W) => hv4.later hW.later)
        have hz4 := hz3.trans hx4
        refine hK.out _ _ (HSS.out _ hz4) (fun hHeld4 => ?_)
        clear hK K hHeld3
        try simp only [List.getElem_toArray, List.getElem_cons_zero, List.getElem_cons_succ, Act.put, List.setIfInBounds_toArray, List.set_cons_zero, List.set_cons_succ]
        refine wpAnyH_ready (rs := [15]) (by kernel_rfl) (by simp) ?_
        refine AllReadyH.cons (i := 15) rfl (fun K hK => ?_) AllReadyH.nil
        go_simp
        go_at_call 16
        refine (is_law (unionT2 p (unionT2 q r)) (unionT2 (unionT2 p q) r) _ _ x _ _ (hv2.out _ (hx3.trans hx4)) (hv4.out _ (Ext.refl _)) (HRx.out _ hz4) (fun y => alg_union_assoc p q r x y)).mono ?_
        rintro e w5 ⟨rfl, hx5⟩
        have hz5 := hz4.trans hx5
        refine hK.out _ _ (HSS.out _ hz5) (fun hHeld5 => ?_)
        clear hK K hHeld4
        try simp only [List.getElem_toArray, List.getElem_cons_zero, List.getElem_cons_succ, Act.put, List.setIfInBounds_toArray, List.set_cons_zero, List.set_cons_succ]
        as_aux_lemma =>
          refine wpAnyH_take (i := 16) (v := ?_) rfl (by kernel_rfl) (by kernel_rfl) (by kernel_rfl) (fun _ _ _ h => h) (Or.inl ⟨by rfl, ?_⟩) (by assumption) ?_
          rotate_left
          · (intro w hSw; (try dsimp only at hSw); go_simp; try with_reducible rfl)
          try simp only [List.getElem_toArray, List.getElem_cons_zero, List.getElem_cons_succ, Act.put, List.setIfInBounds_toArray, List.set_cons_zero, List.set_cons_succ]
          refine wpAnyH_take (i := 17) (v := ?_) rfl (by kernel_rfl) (by kernel_rfl) (by kernel_rfl) (fun _ _ _ h => h) (Or.inl ⟨by rfl, ?_⟩) (by assumption) ?_
          rotate_left
          · (intro w hSw; (try dsimp only at hSw); go_simp; try with_reducible rfl)
          try simp only [List.getElem_toArray, List.getElem_cons_zero, List.getElem_cons_succ, Act.put, List.setIfInBounds_toArray, List.set_cons_zero, List.set_cons_succ]
          refine wpAnyH_take (i := 18) (v := ?_) rfl (by kernel_rfl) (by kernel_rfl) (by kernel_rfl) (fun _ _ _ h => h) (Or.inl ⟨by rfl, ?_⟩) (by assumption) ?_
          rotate_left
          · (intro w hSw; (try dsimp only at hSw); go_simp; try with_reducible rfl)
          try simp only [List.getElem_toArray, List.getElem_cons_zero, List.getElem_cons_succ, Act.put, List.setIfInBounds_toArray, List.set_cons_zero, List.set_cons_succ]
          refine wpAnyH_take (i := 19) (v := ?_) rfl (by kernel_rfl) (by kernel_rfl) (by kernel_rfl) (fun _ _ _ h => h) (Or.inl ⟨by rfl, ?_⟩) (by assumption) ?_
          rotate_left
          · (intro w hSw; (try dsimp only at hSw); go_simp; try with_reducible rfl)
          try simp only [List.getElem_toArray, List.getElem_cons_zero, List.getElem_cons_succ, Act.put, List.setIfInBounds_toArray, List.set_cons_zero, List.set_cons_succ]
          refine wpAnyH_take (i := 20) (v := ?_) rfl (by kernel_rfl) (by kernel_rfl) (by kernel_rfl) (fun _ _ _ h => h) (Or.inl ⟨by rfl, ?_⟩) (by assumption) ?_
          rotate_left
          · (intro w hSw; (try dsimp only at hSw); go_simp; try with_reducible rfl)
          try simp only [List.getElem_toArray, List.getElem_cons_zero, List.getElem_cons_succ, Act.put, List.setIfInBounds_toArray, List.set_cons_zero, List.set_cons_succ]
          refine wpAnyH_take (i := 21) (v := ?_) rfl (by kernel_rfl) (by kernel_rfl) (by kernel_rfl) (fun _ _ _ h => h) (Or.inl ⟨by rfl, ?_⟩) (by assumption) ?_
          rotate_left
          · (intro w hSw; (try dsimp only at hSw); go_simp; try with_reducible rfl)
          try simp only [List.getElem_toArray, List.getElem_cons_zero, List.getElem_cons_succ, Act.put, List.setIfInBounds_toArray, List.set_cons_zero, List.set_cons_succ]
          refine wpAnyH_take (i := 22) (v := ?_) rfl (by kernel_rfl) (by kernel_rfl) (by kernel_rfl) (fun _ _ _ h => h) (Or.inl ⟨by rfl, ?_⟩) (by assumption) ?_
          rotate_left
          · (intro w hSw; (try dsimp only at hSw); go_simp; try with_reducible rfl)
          try simp only [List.getElem_toArray, List.getElem_cons_zero, List.getElem_cons_succ, Act.put, List.setIfInBounds_toArray, List.set_cons_zero, List.set_cons_succ]
          refine wpAnyH_take (i := 25) (v := ?_) rfl (by kernel_rfl) (by kernel_rfl) (by kernel_rfl) (fun _ _ _ h => h) (Or.inl ⟨by rfl, ?_⟩) (by assumption) ?_
          rotate_left
          · (intro w hSw; (try dsimp only at hSw); go_simp; try with_reducible rfl)
          try simp only [List.getElem_toArray, List.getElem_cons_zero, List.getElem_cons_succ, Act.put, List.setIfInBounds_toArray, List.set_cons_zero, List.set_cons_succ]
          refine wpAnyH_take (i := 26) (v := ?_) rfl (by kernel_rfl) (by kernel_rfl) (by kernel_rfl) (fun _ _ _ h => h) (Or.inl ⟨by rfl, ?_⟩) (by assumption) ?_
          rotate_left
          · (intro w hSw; (try dsimp only at hSw); go_simp; try with_reducible rfl)
          try simp only [List.getElem_toArray, List.getElem_cons_zero, List.getElem_cons_succ, Act.put, List.setIfInBounds_toArray, List.set_cons_zero, List.set_cons_succ]
          refine wpAnyH_take (i := 27) (v := ?_) rfl (by kernel_rfl) (by kernel_rfl) (by kernel_rfl) (fun _ _ _ h => h) (Or.inl ⟨by rfl, ?_⟩) (by assumption) ?_
          rotate_left
          · (intro w hSw; (try dsimp only at hSw); go_simp; try with_reducible rfl)
          try simp only [List.getElem_toArray, List.getElem_cons_zero, List.getElem_cons_succ, Act.put, List.setIfInBounds_toArray, List.set_cons_zero, List.set_cons_succ]
          refine wpAnyH_take (i := 28) (v := ?_) rfl (by kernel_rfl) (by kernel_rfl) (by kernel_rfl) (fun _ _ _ h => h) (Or.inl ⟨by rfl, ?_⟩) (by assumption) ?_
          rotate_left
          · (intro w hSw; (try dsimp only at hSw); go_simp; try with_reducible rfl)
          try simp only [List.getElem_toArray, List.getElem_cons_zero, List.getElem_cons_succ, Act.put, List.setIfInBounds_toArray, List.set_cons_zero, List.set_cons_succ]
          refine wpAnyH_take (i := 30) (v := ?_) rfl (by kernel_rfl) (by kernel_rfl) (by kernel_rfl) (fun _ _ _ h => h) (Or.inl ⟨by rfl, ?_⟩) (by assumption) ?_
          rotate_left
          · (intro w hSw; (try dsimp only at hSw); go_simp; try with_reducible rfl)
          try simp only [List.getElem_toArray, List.getElem_cons_zero, List.getElem_cons_succ, Act.put, List.setIfInBounds_toArray, List.set_cons_zero, List.set_cons_succ]
          refine wpAnyH_ready (rs := [23]) (by kernel_rfl) (by simp) ?_
          refine AllReadyH.cons (i := 23) rfl (fun K hK => ?_) AllReadyH.nil
          go_simp
          go_at_call 15
          refine (two_any 9 q r _ _ _ (by omega) (HVq.out _ hz5) (HVr.out _ hz5)).mono ?_
          rintro e w6 ⟨v6, rfl, hv6, hx6⟩
          have hv6 := Lib.hid (fun W (hW : Ext w6 W) => hv6.later hW.later)
          have hz6 := hz5.trans hx6
          refine hK.out _ _ (HSS.out _ hz6) (fun hHeld6 => ?_)
          clear hK K hHeld5
          try simp only [List.getElem_toArray, List.getElem_cons_zero, List.getElem_cons_succ, Act.put, List.setIfInBounds_toArray, List.set_cons_zero, List.set_cons_succ]
          as_aux_lemma =>
            refine wpAnyH_ready (rs := [24]) (by kernel_rfl) (by simp) ?_
            refine AllReadyH.cons (i := 24) rfl (fun K hK => ?_) AllReadyH.nil
            go_simp
            go_at_call 15
            refine (two_any 9 p (thenT2 q r) _ _ _ (by omega) (HVp.out _ hz6) (hv6.out _ (Ext.refl _))).mono ?_
            rintro e w7 ⟨v7, rfl, hv7, hx7⟩
            have hv7 := Lib.hid (fun W (hW : Ext w7 W) => hv7.later hW.later)
            have hz7 := hz6.trans hx7
            refine hK.out _ _ (HSS.out _ hz7) (fun hHeld7 => ?_)
            clear hK K hHeld6
            try simp only [List.getElem_toArray, List.getElem_cons_zero, List.getElem_cons_succ, Act.put, List.setIfInBounds_toArray, List.set_cons_zero, List.set_cons_succ]
            refine wpAnyH_ready (rs := [29]) (by kernel_rfl) (by simp) ?_
            refine AllReadyH.cons (i := 29) rfl (fun K hK => ?_) AllReadyH.nil
            go_simp
            go_at_call 15
            refine (two_any 9 p q _ _ _ (by omega) (HVp.out _ hz7) (HVq.out _ hz7)).mono ?_
            rintro e w8 ⟨v8, rfl, hv8, hx8⟩
            have hv8 := Lib.hid (fun W (hW : Ext w8 W) => hv8.later hW.later)
            have hz8 := hz7.trans hx8
            refine hK.out _ _ (HSS.out _ hz8) (fun hHeld8 => ?_)
            clear hK K hHeld7
            try simp only [List.getElem_toArray, List.getElem_cons_zero, List.getElem_cons_succ, Act.put, List.setIfInBounds_toArray, List.set_cons_zero, List.set_cons_succ]
            refine wpAnyH_ready (rs := [31]) (by kernel_rfl) (by simp) ?_
            refine AllReadyH.cons (i := 31) rfl (fun K hK => ?_) AllReadyH.nil
            go_simp
            go_at_call 15
            refine (two_any 9 (thenT2 p q) r _ _ _ (by omega) (hv8.out _ (Ext.refl _)) (HVr.out _ hz8)).mono ?_
            rintro e w9 ⟨v9, rfl, hv9, hx9⟩
            have hv9 := Lib.hid (fun W (hW : Ext w9 W) => hv9.later hW.later)
            have hz9 := hz8.trans hx9
            refine hK.out _ _ (HSS.out _ hz9) (fun hHeld9 => ?_)
            clear hK K hHeld8
            try simp only [List.getElem_toArray, List.getElem_cons_zero, List.getElem_cons_succ, Act.put, List.setIfInBounds_toArray, List.set_cons_zero, List.set_cons_succ]
            as_aux_lemma =>
              refine wpAnyH_ready (rs := [32]) (by kernel_rfl) (by simp) ?_
              refine AllReadyH.cons (i := 32) rfl (fun K hK => ?_) AllReadyH.nil
              go_simp
              go_at_call 16
              refine (is_law (thenT2 p (thenT2 q r)) (thenT2 (thenT2 p q) r) _ _ x _ _ (hv7.out _ (hx8.trans hx9)) (hv9.out _ (Ext.refl _)) (HRx.out _ hz9) (fun y => alg_then_assoc p q r x y)).mono ?_
              rintro e w10 ⟨rfl, hx10⟩
              have hz10 := hz9.trans hx10
              refine hK.out _ _ (HSS.out _ hz10) (fun hHeld10 => ?_)
              clear hK K hHeld9
              try simp only [List.getElem_toArray, List.getElem_cons_zero, List.getElem_cons_succ, Act.put, List.setIfInBounds_toArray, List.set_cons_zero, List.set_cons_succ]
              as_aux_lemma =>
                refine wpAnyH_take (i := 33) (v := ?_) rfl (by kernel_rfl) (by kernel_rfl) (by kernel_rfl) (fun _ _ _ h => h) (Or.inl ⟨by rfl, ?_⟩) (by assumption) ?_
                rotate_left
                · (intro w hSw; (try dsimp only at hSw); go_simp; try with_reducible rfl)
                try simp only [List.getElem_toArray, List.getElem_cons_zero, List.getElem_cons_succ, Act.put, List.setIfInBounds_toArray, List.set_cons_zero, List.set_cons_succ]
                refine wpAnyH_take (i := 34) (v := ?_) rfl (by kernel_rfl) (by kernel_rfl) (by kernel_rfl) (fun _ _ _ h => h) (Or.inl ⟨by rfl, ?_⟩) (by assumption) ?_
                rotate_left
                · (intro w hSw; (try dsimp only at hSw); go_simp; try with_reducible rfl)
                try simp only [List.getElem_toArray, List.getElem_cons_zero, List.getElem_cons_succ, Act.put, List.setIfInBounds_toArray, List.set_cons_zero, List.set_cons_succ]
                refine wpAnyH_take (i := 35) (v := ?_) rfl (by kernel_rfl) (by kernel_rfl) (by kernel_rfl) (fun _ _ _ h => h) (Or.inl ⟨by rfl, ?_⟩) (by assumption) ?_
                rotate_left
                · (intro w hSw; (try dsimp only at hSw); go_simp; try with_reducible rfl)
                try simp only [List.getElem_toArray, List.getElem_cons_zero, List.getElem_cons_succ, Act.put, List.setIfInBounds_toArray, List.set_cons_zero, List.set_cons_succ]
                refine wpAnyH_take (i := 36) (v := ?_) rfl (by kernel_rfl) (by kernel_rfl) (by kernel_rfl) (fun _ _ _ h => h) (Or.inl ⟨by rfl, ?_⟩) (by assumption) ?_
                rotate_left
                · (intro w hSw; (try dsimp only at hSw); go_simp; try with_reducible rfl)
                try simp only [List.getElem_toArray, List.getElem_cons_zero, List.getElem_cons_succ, Act.put, List.setIfInBounds_toArray, List.set_cons_zero, List.set_cons_succ]
                refine wpAnyH_take (i := 37) (v := ?_) rfl (by kernel_rfl) (by kernel_rfl) (by kernel_rfl) (fun _ _ _ h => h) (Or.inl ⟨by rfl, ?_⟩) (by assumption) ?_
                rotate_left
                · (intro w hSw; (try dsimp only at hSw); go_simp; try with_reducible rfl)
                try simp only [List.getElem_toArray, List.getElem_cons_zero, List.getElem_cons_succ, Act.put, List.setIfInBounds_toArray, List.set_cons_zero, List.set_cons_succ]
                refine wpAnyH_take (i := 38) (v := ?_) rfl (by kernel_rfl) (by kernel_rfl) (by kernel_rfl) (fun _ _ _ h => h) (Or.inl ⟨by rfl, ?_⟩) (by assumption) ?_
                rotate_left
                · (intro w hSw; (try dsimp only at hSw); go_simp; try with_reducible rfl)
                try simp only [List.getElem_toArray, List.getElem_cons_zero, List.getElem_cons_succ, Act.put, List.setIfInBounds_toArray, List.set_cons_zero, List.set_cons_succ]
                refine wpAnyH_take (i := 40) (v := ?_) rfl (by kernel_rfl) (by kernel_rfl) (by kernel_rfl) (fun _ _ _ h => h) (Or.inl ⟨by rfl, ?_⟩) (by assumption) ?_
                rotate_left
                · (intro w hSw; (try dsimp only at hSw); go_simp; try with_reducible rfl)
                try simp only [List.getElem_toArray, List.getElem_cons_zero, List.getElem_cons_succ, Act.put, List.setIfInBounds_toArray, List.set_cons_zero, List.set_cons_succ]
                refine wpAnyH_take (i := 41) (v := ?_) rfl (by kernel_rfl) (by kernel_rfl) (by kernel_rfl) (fun _ _ _ h => h) (Or.inl ⟨by rfl, ?_⟩) (by assumption) ?_
                rotate_left
                · (intro w hSw; (try dsimp only at hSw); go_simp; try with_reducible rfl)
                try simp only [List.getElem_toArray, List.getElem_cons_zero, List.getElem_cons_succ, Act.put, List.setIfInBounds_toArray, List.set_cons_zero, List.set_cons_succ]
                refine wpAnyH_take (i := 42) (v := ?_) rfl (by kernel_rfl) (by kernel_rfl) (by kernel_rfl) (fun _ _ _ h => h) (Or.inl ⟨by rfl, ?_⟩) (by assumption) ?_
                rotate_left
                · (intro w hSw; (try dsimp only at hSw); go_simp; try with_reducible rfl)
                try simp only [List.getElem_toArray, List.getElem_cons_zero, List.getElem_cons_succ, Act.put, List.setIfInBounds_toArray, List.set_cons_zero, List.set_cons_succ]
                refine wpAnyH_ready (rs := [39]) (by kernel_rfl) (by simp) ?_
                refine AllReadyH.cons (i := 39) rfl (fun K hK => ?_) AllReadyH.nil
                go_simp
                go_at_call 15
                refine (two_any 8 p q _ _ _ (by omega) (HVp.out _ hz10) (HVq.out _ hz10)).mono ?_
                rintro e w11 ⟨v11, rfl, hv11, hx11⟩
                have hv11 := Lib.hid (fun W (hW : Ext w11 W) => hv11.later hW.later)
                have hz11 := hz10.trans hx11
                refine hK.out _ _ (HSS.out _ hz11) (fun hHeld11 => ?_)
                clear hK K hHeld10
                try simp only [List.getElem_toArray, List.getElem_cons_zero, List.getElem_cons_succ, Act.put, List.setIfInBounds_toArray, List.set_cons_zero, List.set_cons_succ]
                refine wpAnyH_ready (rs := [43]) (by kernel_rfl) (by simp) ?_
                refine AllReadyH.cons (i := 43) rfl (fun K hK => ?_) AllReadyH.nil
                go_simp
                go_at_call 15
                refine (two_any 8 q p _ _ _ (by omega) (HVq.out _ hz11) (HVp.out _ hz11)).mono ?_
                rintro e w12 ⟨v12, rfl, hv12, hx12⟩
                have hv12 := Lib.hid (fun W (hW : Ext w12 W) => hv12.later hW.later)
                have hz12 := hz11.trans hx12
                refine hK.out _ _ (HSS.out _ hz12) (fun hHeld12 => ?_)
                clear hK K hHeld11
                try simp only [List.getElem_toArray, List.getElem_cons_zero, List.getElem_cons_succ, Act.put, List.setIfInBounds_toArray, List.set_cons_zero, List.set_cons_succ]
                as_aux_lemma =>
                  refine wpAnyH_ready (rs := [44]) (by kernel_rfl) (by simp) ?_
                  refine AllReadyH.cons (i := 44) rfl (fun K hK => ?_) AllReadyH.nil
                  go_simp
                  go_at_call 16
                  refine (is_law (unionT2 p q) (unionT2 q p) _ _ x _ _ (hv11.out _ hx12) (hv12.out _ (Ext.refl _)) (HRx.out _ hz12) (fun y => alg_union_comm p q x y)).mono ?_
                  rintro e w13 ⟨rfl, hx13⟩
                  have hz13 := hz12.trans hx13
                  refine hK.out _ _ (HSS.out _ hz13) (fun hHeld13 => ?_)
                  clear hK K hHeld12
                  try simp only [List.getElem_toArray, List.getElem_cons_zero, List.getElem_cons_succ, Act.put, List.setIfInBounds_toArray, List.set_cons_zero, List.set_cons_succ]
                  as_aux_lemma =>
                    refine wpAnyH_take (i := 45) (v := ?_) rfl (by kernel_rfl) (by kernel_rfl) (by kernel_rfl) (fun _ _ _ h => h) (Or.inl ⟨by rfl, ?_⟩) (by assumption) ?_
                    rotate_left
                    · (intro w hSw; (try dsimp only at hSw); go_simp; try with_reducible rfl)
                    try simp only [List.getElem_toArray, List.getElem_cons_zero, List.getElem_cons_succ, Act.put, List.setIfInBounds_toArray, List.set_cons_zero, List.set_cons_succ]
                    refine wpAnyH_take (i := 46) (v := ?_) rfl (by kernel_rfl) (by kernel_rfl) (by kernel_rfl) (fun _ _ _ h => h) (Or.inl ⟨by rfl, ?_⟩) (by assumption) ?_
                    rotate_left
                    · (intro w hSw; (try dsimp only at hSw); go_simp; try with_reducible rfl)
                    try simp only [List.getElem_toArray, List.getElem_cons_zero, List.getElem_cons_succ, Act.put, List.setIfInBounds_toArray, List.set_cons_zero, List.set_cons_succ]
                    refine wpAnyH_take (i := 47) (v := ?_) rfl (by kernel_rfl) (by kernel_rfl) (by kernel_rfl) (fun _ _ _ h => h) (Or.inl ⟨by rfl, ?_⟩) (by assumption) ?_
                    rotate_left
                    · (intro w hSw; (try dsimp only at hSw); go_simp; try with_reducible rfl)
                    try simp only [List.getElem_toArray, List.getElem_cons_zero, List.getElem_cons_succ, Act.put, List.setIfInBounds_toArray, List.set_cons_zero, List.set_cons_succ]
                    refine wpAnyH_take (i := 48) (v := ?_) rfl (by kernel_rfl) (by kernel_rfl) (by kernel_rfl) (fun _ _ _ h => h) (Or.inl ⟨by rfl, ?_⟩) (by assumption) ?_
                    rotate_left
                    · (intro w hSw; (try dsimp only at hSw); go_simp; try with_reducible rfl)
                    try simp only [List.getElem_toArray, List.getElem_cons_zero, List.getElem_cons_succ, Act.put, List.setIfInBounds_toArray, List.set_cons_zero, List.set_cons_succ]
                    refine wpAnyH_take (i := 49) (v := ?_) rfl (by kernel_rfl) (by kernel_rfl) (by kernel_rfl) (fun _ _ _ h => h) (Or.inl ⟨by rfl, ?_⟩) (by assumption) ?_
                    rotate_left
                    · (intro w hSw; (try dsimp only at hSw); go_simp; try with_reducible rfl)
                    try simp only [List.getElem_toArray, List.getElem_cons_zero, List.getElem_cons_succ, Act.put, List.setIfInBounds_toArray, List.set_cons_zero, List.set_cons_succ]
                    refine wpAnyH_take (i := 50) (v := ?_) rfl (by kernel_rfl) (by kernel_rfl) (by kernel_rfl) (fun _ _ _ h => h) (Or.inl ⟨by rfl, ?_⟩) (by assumption) ?_
                    rotate_left
                    · (intro w hSw; (try dsimp only at hSw); go_simp; try with_reducible rfl)
                    try simp only [List.getElem_toArray, List.getElem_cons_zero, List.getElem_cons_succ, Act.put, List.setIfInBounds_toArray, List.set_cons_zero, List.set_cons_succ]
                    refine wpAnyH_take (i := 52) (v := ?_) rfl (by kernel_rfl) (by kernel_rfl) (by kernel_rfl) (fun _ _ _ h => h) (Or.inl ⟨by rfl, ?_⟩) (by assumption) ?_
                    rotate_left
                    · (intro w hSw; (try dsimp only at hSw); go_simp; try with_reducible rfl)
                    try simp only [List.getElem_toArray, List.getElem_cons_zero, List.getElem_cons_succ, Act.put, List.setIfInBounds_toArray, List.set_cons_zero, List.set_cons_succ]
                    refine wpAnyH_ready (rs := [51]) (by kernel_rfl) (by simp) ?_
                    refine AllReadyH.cons (i := 51) rfl (fun K hK => ?_) AllReadyH.nil
                    go_simp
                    go_at_call 15
                    refine (two_any 8 p p _ _ _ (by omega) (HVp.out _ hz13) (HVp.out _ hz13)).mono ?_
                    rintro e w14 ⟨v14, rfl, hv14, hx14⟩
                    have hv14 := Lib.hid (fun W (hW : Ext w14 W) => hv14.later hW.later)
                    have hz14 := hz13.trans hx14
                    refine hK.out _ _ (HSS.out _ hz14) (fun hHeld14 => ?_)
                    clear hK K hHeld13
                    try simp only [List.getElem_toArray, List.getElem_cons_zero, List.getElem_cons_succ, Act.put, List.setIfInBounds_toArray, List.set_cons_zero, List.set_cons_succ]
                    refine wpAnyH_ready (rs := [53]) (by kernel_rfl) (by simp) ?_
                    refine AllReadyH.cons (i := 53) rfl (fun K hK => ?_) AllReadyH.nil
                    go_simp
                    go_at_call 16
                    refine (is_law (unionT2 p p) p _ _ x _ _ (hv14.out _ (Ext.refl _)) (HVp.out _ hz14) (HRx.out _ hz14) (fun y => alg_union_self p x y)).mono ?_
                    rintro e w15 ⟨rfl, hx15⟩
                    have hz15 := hz14.trans hx15
                    refine hK.out _ _ (HSS.out _ hz15) (fun hHeld15 => ?_)
                    clear hK K hHeld14
                    try simp only [List.getElem_toArray, List.getElem_cons_zero, List.getElem_cons_succ, Act.put, List.setIfInBounds_toArray, List.set_cons_zero, List.set_cons_succ]
                    as_aux_lemma =>
                      refine wpAnyH_take (i := 54) (v := ?_) rfl (by kernel_rfl) (by kernel_rfl) (by kernel_rfl) (fun _ _ _ h => h) (Or.inl ⟨by rfl, ?_⟩) (by assumption) ?_
                      rotate_left
                      · (intro w hSw; (try dsimp only at hSw); go_simp; try with_reducible rfl)
                      try simp only [List.getElem_toArray, List.getElem_cons_zero, List.getElem_cons_succ, Act.put, List.setIfInBounds_toArray, List.set_cons_zero, List.set_cons_succ]
                      refine wpAnyH_take (i := 55) (v := ?_) rfl (by kernel_rfl) (by kernel_rfl) (by kernel_rfl) (fun _ _ _ h => h) (Or.inl ⟨by rfl, ?_⟩) (by assumption) ?_
                      rotate_left
                      · (intro w hSw; (try dsimp only at hSw); go_simp; try with_reducible rfl)
                      try simp only [List.getElem_toArray, List.getElem_cons_zero, List.getElem_cons_succ, Act.put, List.setIfInBounds_toArray, List.set_cons_zero, List.set_cons_succ]
                      refine wpAnyH_take (i := 56) (v := ?_) rfl (by kernel_rfl) (by kernel_rfl) (by kernel_rfl) (fun _ _ _ h => h) (Or.inl ⟨by rfl, ?_⟩) (by assumption) ?_
                      rotate_left
                      · (intro w hSw; (try dsimp only at hSw); go_simp; try with_reducible rfl)
                      try simp only [List.getElem_toArray, List.getElem_cons_zero, List.getElem_cons_succ, Act.put, List.setIfInBounds_toArray, List.set_cons_zero, List.set_cons_succ]
                      refine wpAnyH_take (i := 57) (v := ?_) rfl (by kernel_rfl) (by kernel_rfl) (by kernel_rfl) (fun _ _ _ h => h) (Or.inl ⟨by rfl, ?_⟩) (by assumption) ?_
                      rotate_left
                      · (intro w hSw; (try dsimp only at hSw); go_simp; try with_reducible rfl)
                      try simp only [List.getElem_toArray, List.getElem_cons_zero, List.getElem_cons_succ, Act.put, List.setIfInBounds_toArray, List.set_cons_zero, List.set_cons_succ]
                      refine wpAnyH_take (i := 58) (v := ?_) rfl (by kernel_rfl) (by kernel_rfl) (by kernel_rfl) (fun _ _ _ h => h) (Or.inl ⟨by rfl, ?_⟩) (by assumption) ?_
                      rotate_left
                      · (intro w hSw; (try dsimp only at hSw); go_simp; try with_reducible rfl)
                      try simp only [List.getElem_toArray, List.getElem_cons_zero, List.getElem_cons_succ, Act.put, List.setIfInBounds_toArray, List.set_cons_zero, List.set_cons_succ]
                      refine wpAnyH_take (i := 59) (v := ?_) rfl (by kernel_rfl) (by kernel_rfl) (by kernel_rfl) (fun _ _ _ h => h) (Or.inl ⟨by rfl, ?_⟩) (by assumption) ?_
                      rotate_left
                      · (intro w hSw; (try dsimp only at hSw); go_simp; try with_reducible rfl)
                      try simp only [List.getElem_toArray, List.getElem_cons_zero, List.getElem_cons_succ, Act.put, List.setIfInBounds_toArray, List.set_cons_zero, List.set_cons_succ]
                      refine wpAnyH_take (i := 60) (v := ?_) rfl (by kernel_rfl) (by kernel_rfl) (by kernel_rfl) (fun _ _ _ h => h) (Or.inl ⟨by rfl, ?_⟩) (by assumption) ?_
                      rotate_left
                      · (intro w hSw; (try dsimp only at hSw); go_simp; try with_reducible rfl)
                      try simp only [List.getElem_toArray, List.getElem_cons_zero, List.getElem_cons_succ, Act.put, List.setIfInBounds_toArray, List.set_cons_zero, List.set_cons_succ]
                      refine wpAnyH_take (i := 62) (v := ?_) rfl (by kernel_rfl) (by kernel_rfl) (by kernel_rfl) (fun _ _ _ h => h) (Or.inl ⟨by rfl, ?_⟩) (by assumption) ?_
                      rotate_left
                      · (intro w hSw; (try dsimp only at hSw); go_simp; try with_reducible rfl)
                      try simp only [List.getElem_toArray, List.getElem_cons_zero, List.getElem_cons_succ, Act.put, List.setIfInBounds_toArray, List.set_cons_zero, List.set_cons_succ]
                      refine wpAnyH_take (i := 64) (v := ?_) rfl (by kernel_rfl) (by kernel_rfl) (by kernel_rfl) (fun _ _ _ h => h) (Or.inl ⟨by rfl, ?_⟩) (by assumption) ?_
                      rotate_left
                      · (intro w hSw; (try dsimp only at hSw); go_simp; try with_reducible rfl)
                      try simp only [List.getElem_toArray, List.getElem_cons_zero, List.getElem_cons_succ, Act.put, List.setIfInBounds_toArray, List.set_cons_zero, List.set_cons_succ]
                      refine wpAnyH_take (i := 65) (v := ?_) rfl (by kernel_rfl) (by kernel_rfl) (by kernel_rfl) (fun _ _ _ h => h) (Or.inl ⟨by rfl, ?_⟩) (by assumption) ?_
                      rotate_left
                      · (intro w hSw; (try dsimp only at hSw); go_simp; try with_reducible rfl)
                      try simp only [List.getElem_toArray, List.getElem_cons_zero, List.getElem_cons_succ, Act.put, List.setIfInBounds_toArray, List.set_cons_zero, List.set_cons_succ]
                      refine wpAnyH_take (i := 66) (v := ?_) rfl (by kernel_rfl) (by kernel_rfl) (by kernel_rfl) (fun _ _ _ h => h) (Or.inl ⟨by rfl, ?_⟩) (by assumption) ?_
                      rotate_left
                      · (intro w hSw; (try dsimp only at hSw); go_simp; try with_reducible rfl)
                      try simp only [List.getElem_toArray, List.getElem_cons_zero, List.getElem_cons_succ, Act.put, List.setIfInBounds_toArray, List.set_cons_zero, List.set_cons_succ]
                      refine wpAnyH_take (i := 67) (v := ?_) rfl (by kernel_rfl) (by kernel_rfl) (by kernel_rfl) (fun _ _ _ h => h) (Or.inl ⟨by rfl, ?_⟩) (by assumption) ?_
                      rotate_left
                      · (intro w hSw; (try dsimp only at hSw); go_simp; try with_reducible rfl)
                      try simp only [List.getElem_toArray, List.getElem_cons_zero, List.getElem_cons_succ, Act.put, List.setIfInBounds_toArray, List.set_cons_zero, List.set_cons_succ]
                      refine wpAnyH_take (i := 69) (v := ?_) rfl (by kernel_rfl) (by kernel_rfl) (by kernel_rfl) (fun _ _ _ h => h) (Or.inl ⟨by rfl, ?_⟩) (by assumption) ?_
                      rotate_left
                      · (intro w hSw; (try dsimp only at hSw); go_simp; try with_reducible rfl)
                      try simp only [List.getElem_toArray, List.getElem_cons_zero, List.getElem_cons_succ, Act.put, List.setIfInBounds_toArray, List.set_cons_zero, List.set_cons_succ]
                      refine wpAnyH_take (i := 70) (v := ?_) rfl (by kernel_rfl) (by kernel_rfl) (by kernel_rfl) (fun _ _ _ h => h) (Or.inl ⟨by rfl, ?_⟩) (by assumption) ?_
                      rotate_left
                      · (intro w hSw; (try dsimp only at hSw); go_simp; try with_reducible rfl)
                      try simp only [List.getElem_toArray, List.getElem_cons_zero, List.getElem_cons_succ, Act.put, List.setIfInBounds_toArray, List.set_cons_zero, List.set_cons_succ]
                      refine wpAnyH_take (i := 71) (v := ?_) rfl (by kernel_rfl) (by kernel_rfl) (by kernel_rfl) (fun _ _ _ h => h) (Or.inl ⟨by rfl, ?_⟩) (by assumption) ?_
                      rotate_left
                      · (intro w hSw; (try dsimp only at hSw); go_simp; try with_reducible rfl)
                      try simp only [List.getElem_toArray, List.getElem_cons_zero, List.getElem_cons_succ, Act.put, List.setIfInBounds_toArray, List.set_cons_zero, List.set_cons_succ]
                      refine wpAnyH_ready (rs := [61]) (by kernel_rfl) (by simp) ?_
                      refine AllReadyH.cons (i := 61) rfl (fun K hK => ?_) AllReadyH.nil
                      go_simp
                      go_at_call 15
                      refine (two_any 8 p q _ _ _ (by omega) (HVp.out _ hz15) (HVq.out _ hz15)).mono ?_
                      rintro e w16 ⟨v16, rfl, hv16, hx16⟩
                      have hv16 := Lib.hid (fun W (hW : Ext w16 W) => hv16.later hW.later)
                      have hz16 := hz15.trans hx16
                      refine hK.out _ _ (HSS.out _ hz16) (fun hHeld16 => ?_)
                      clear hK K hHeld15
                      try simp only [List.getElem_toArray, List.getElem_cons_zero, List.getElem_cons_succ, Act.put, List.setIfInBounds_toArray, List.set_cons_zero, List.set_cons_succ]
                      refine wpAnyH_ready (rs := [63]) (by kernel_rfl) (by simp) ?_
                      refine AllReadyH.cons (i := 63) rfl (fun K hK => ?_) AllReadyH.nil
                      go_simp
                      go_at_call 15
                      refine (two_any 9 (unionT2 p q) r _ _ _ (by omega) (hv16.out _ (Ext.refl _)) (HVr.out _ hz16)).mono ?_
                      rintro e w17 ⟨v17, rfl, hv17, hx17⟩
                      have hv17 := Lib.hid (fun W (hW : Ext w17 W) => hv17.later hW.later)
                      have hz17 := hz16.trans hx17
                      refine hK.out _ _ (HSS.out _ hz17) (fun hHeld17 => ?_)
                      clear hK K hHeld16
                      try simp only [List.getElem_toArray, List.getElem_cons_zero, List.getElem_cons_succ, Act.put, List.setIfInBounds_toArray, List.set_cons_zero, List.set_cons_succ]
                      refine wpAnyH_ready (rs := [68]) (by kernel_rfl) (by simp) ?_
                      refine AllReadyH.cons (i := 68) rfl (fun K hK => ?_) AllReadyH.nil
                      go_simp
                      go_at_call 15
                      refine (two_any 9 p r _ _ _ (by omega) (HVp.out _ hz17) (HVr.out _ hz17)).mono ?_
                      rintro e w18 ⟨v18, rfl, hv18, hx18⟩
                      have hv18 := Lib.hid (fun W (hW : Ext w18 W) => hv18.later hW.later)
                      have hz18 := hz17.trans hx18
                      refine hK.out _ _ (HSS.out _ hz18) (fun hHeld18 => ?_)
                      clear hK K hHeld17
                      try simp only [List.getElem_toArray, List.getElem_cons_zero, List.getElem_cons_succ, Act.put, List.setIfInBounds_toArray, List.set_cons_zero, List.set_cons_succ]
                      as_aux_lemma =>
                        refine wpAnyH_ready (rs := [72]) (by kernel_rfl) (by simp) ?_
                        refine AllReadyH.cons (i := 72) rfl (fun K hK => ?_) AllReadyH.nil
                        go_simp
                        go_at_call 15
                        refine (two_any 9 q r _ _ _ (by omega) (HVq.out _ hz18) (HVr.out _ hz18)).mono ?_
                        rintro e w19 ⟨v19, rfl, hv19, hx19⟩
                        have hv19 := Lib.hid (fun W (hW : Ext w19 W) => hv19.later hW.later)
                        have hz19 := hz18.trans hx19
                        refine hK.out _ _ (HSS.out _ hz19) (fun hHeld19 => ?_)
                        clear hK K hHeld18
                        try simp only [List.getElem_toArray, List.getElem_cons_zero, List.getElem_cons_succ, Act.put, List.setIfInBounds_toArray, List.set_cons_zero, List.set_cons_succ]
                        refine wpAnyH_ready (rs := [73]) (by kernel_rfl) (by simp) ?_
                        refine AllReadyH.cons (i := 73) rfl (fun K hK => ?_) AllReadyH.nil
                        go_simp
                        go_at_call 15
                        refine (two_any 8 (thenT2 p r) (thenT2 q r) _ _ _ (by omega) (hv18.out _ hx19) (hv19.out _ (Ext.refl _))).mono ?_
                        rintro e w20 ⟨v20, rfl, hv20, hx20⟩
                        have hv20 := Lib.hid (fun W (hW : Ext w20 W) => hv20.later hW.later)
                        have hz20 := hz19.trans hx20
                        refine hK.out _ _ (HSS.out _ hz20) (fun hHeld20 => ?_)
                        clear hK K hHeld19
                        try simp only [List.getElem_toArray, List.getElem_cons_zero, List.getElem_cons_succ, Act.put, List.setIfInBounds_toArray, List.set_cons_zero, List.set_cons_succ]
                        refine wpAnyH_ready (rs := [74]) (by kernel_rfl) (by simp) ?_
                        refine AllReadyH.cons (i := 74) rfl (fun K hK => ?_) AllReadyH.nil
                        go_simp
                        go_at_call 16
                        refine (is_law (thenT2 (unionT2 p q) r) (unionT2 (thenT2 p r) (thenT2 q r)) _ _ x _ _ (hv17.out _ ((hx18.trans hx19).trans hx20)) (hv20.out _ (Ext.refl _)) (HRx.out _ hz20) (fun y => alg_dist_left p q r x y)).mono ?_
                        rintro e w21 ⟨rfl, hx21⟩
                        have hz21 := hz20.trans hx21
                        refine hK.out _ _ (HSS.out _ hz21) (fun hHeld21 => ?_)
                        clear hK K hHeld20
                        try simp only [List.getElem_toArray, List.getElem_cons_zero, List.getElem_cons_succ, Act.put, List.setIfInBounds_toArray, List.set_cons_zero, List.set_cons_succ]
                        as_aux_lemma =>
                          refine wpAnyH_take (i := 75) (v := ?_) rfl (by kernel_rfl) (by kernel_rfl) (by kernel_rfl) (fun _ _ _ h => h) (Or.inl ⟨by rfl, ?_⟩) (by assumption) ?_
                          rotate_left
                          · (intro w hSw; (try dsimp only at hSw); go_simp; try with_reducible rfl)
                          try simp only [List.getElem_toArray, List.getElem_cons_zero, List.getElem_cons_succ, Act.put, List.setIfInBounds_toArray, List.set_cons_zero, List.set_cons_succ]
                          refine wpAnyH_take (i := 76) (v := ?_) rfl (by kernel_rfl) (by kernel_rfl) (by kernel_rfl) (fun _ _ _ h => h) (Or.inl ⟨by rfl, ?_⟩) (by assumption) ?_
                          rotate_left
                          · (intro w hSw; (try dsimp only at hSw); go_simp; try with_reducible rfl)
                          try simp only [List.getElem_toArray, List.getElem_cons_zero, List.getElem_cons_succ, Act.put, List.setIfInBounds_toArray, List.set_cons_zero, List.set_cons_succ]
                          refine wpAnyH_take (i := 77) (v := ?_) rfl (by kernel_rfl) (by kernel_rfl) (by kernel_rfl) (fun _ _ _ h => h) (Or.inl ⟨by rfl, ?_⟩) (by assumption) ?_
                          rotate_left
                          · (intro w hSw; (try dsimp only at hSw); go_simp; try with_reducible rfl)
                          try simp only [List.getElem_toArray, List.getElem_cons_zero, List.getElem_cons_succ, Act.put, List.setIfInBounds_toArray, List.set_cons_zero, List.set_cons_succ]
                          refine wpAnyH_take (i := 78) (v := ?_) rfl (by kernel_rfl) (by kernel_rfl) (by kernel_rfl) (fun _ _ _ h => h) (Or.inl ⟨by rfl, ?_⟩) (by assumption) ?_
                          rotate_left
                          · (intro w hSw; (try dsimp only at hSw); go_simp; try with_reducible rfl)
                          try simp only [List.getElem_toArray, List.getElem_cons_zero, List.getElem_cons_succ, Act.put, List.setIfInBounds_toArray, List.set_cons_zero, List.set_cons_succ]
                          refine wpAnyH_take (i := 79) (v := ?_) rfl (by kernel_rfl) (by kernel_rfl) (by kernel_rfl) (fun _ _ _ h => h) (Or.inl ⟨by rfl, ?_⟩) (by assumption) ?_
                          rotate_left
                          · (intro w hSw; (try dsimp only at hSw); go_simp; try with_reducible rfl)
                          try simp only [List.getElem_toArray, List.getElem_cons_zero, List.getElem_cons_succ, Act.put, List.setIfInBounds_toArray, List.set_cons_zero, List.set_cons_succ]
                          refine wpAnyH_take (i := 80) (v := ?_) rfl (by kernel_rfl) (by kernel_rfl) (by kernel_rfl) (fun _ _ _ h => h) (Or.inl ⟨by rfl, ?_⟩) (by assumption) ?_
                          rotate_left
                          · (intro w hSw; (try dsimp only at hSw); go_simp; try with_reducible rfl)
                          try simp only [List.getElem_toArray, List.getElem_cons_zero, List.getElem_cons_succ, Act.put, List.setIfInBounds_toArray, List.set_cons_zero, List.set_cons_succ]
                          refine wpAnyH_take (i := 81) (v := ?_) rfl (by kernel_rfl) (by kernel_rfl) (by kernel_rfl) (fun _ _ _ h => h) (Or.inl ⟨by rfl, ?_⟩) (by assumption) ?_
                          rotate_left
                          · (intro w hSw; (try dsimp only at hSw); go_simp; try with_reducible rfl)
                          try simp only [List.getElem_toArray, List.getElem_cons_zero, List.getElem_cons_succ, Act.put, List.setIfInBounds_toArray, List.set_cons_zero, List.set_cons_succ]
                          refine wpAnyH_take (i := 82) (v := ?_) rfl (by kernel_rfl) (by kernel_rfl) (by kernel_rfl) (fun _ _ _ h => h) (Or.inl ⟨by rfl, ?_⟩) (by assumption) ?_
                          rotate_left
                          · (intro w hSw; (try dsimp only at hSw); go_simp; try with_reducible rfl)
                          try simp only [List.getElem_toArray, List.getElem_cons_zero, List.getElem_cons_succ, Act.put, List.setIfInBounds_toArray, List.set_cons_zero, List.set_cons_succ]
                          refine wpAnyH_take (i := 85) (v := ?_) rfl (by kernel_rfl) (by kernel_rfl) (by kernel_rfl) (fun _ _ _ h => h) (Or.inl ⟨by rfl, ?_⟩) (by assumption) ?_
                          rotate_left
                          · (intro w hSw; (try dsimp only at hSw); go_simp; try with_reducible rfl)
                          try simp only [List.getElem_toArray, List.getElem_cons_zero, List.getElem_cons_succ, Act.put, List.setIfInBounds_toArray, List.set_cons_zero, List.set_cons_succ]
                          refine wpAnyH_take (i := 86) (v := ?_) rfl (by kernel_rfl) (by kernel_rfl) (by kernel_rfl) (fun _ _ _ h => h) (Or.inl ⟨by rfl, ?_⟩) (by assumption) ?_
                          rotate_left
                          · (intro w hSw; (try dsimp only at hSw); go_simp; try with_reducible rfl)
                          try simp only [List.getElem_toArray, List.getElem_cons_zero, List.getElem_cons_succ, Act.put, List.setIfInBounds_toArray, List.set_cons_zero, List.set_cons_succ]
                          refine wpAnyH_take (i := 87) (v := ?_) rfl (by kernel_rfl) (by kernel_rfl) (by kernel_rfl) (fun _ _ _ h => h) (Or.inl ⟨by rfl, ?_⟩) (by assumption) ?_
                          rotate_left
                          · (intro w hSw; (try dsimp only at hSw); go_simp; try with_reducible rfl)
                          try simp only [List.getElem_toArray, List.getElem_cons_zero, List.getElem_cons_succ, Act.put, List.setIfInBounds_toArray, List.set_cons_zero, List.set_cons_succ]
                          refine wpAnyH_take (i := 88) (v := ?_) rfl (by kernel_rfl) (by kernel_rfl) (by kernel_rfl) (fun _ _ _ h => h) (Or.inl ⟨by rfl, ?_⟩) (by assumption) ?_
                          rotate_left
                          · (intro w hSw; (try dsimp only at hSw); go_simp; try with_reducible rfl)
                          try simp only [List.getElem_toArray, List.getElem_cons_zero, List.getElem_cons_succ, Act.put, List.setIfInBounds_toArray, List.set_cons_zero, List.set_cons_succ]
                          refine wpAnyH_take (i := 90) (v := ?_) rfl (by kernel_rfl) (by kernel_rfl) (by kernel_rfl) (fun _ _ _ h => h) (Or.inl ⟨by rfl, ?_⟩) (by assumption) ?_
                          rotate_left
                          · (intro w hSw; (try dsimp only at hSw); go_simp; try with_reducible rfl)
                          try simp only [List.getElem_toArray, List.getElem_cons_zero, List.getElem_cons_succ, Act.put, List.setIfInBounds_toArray, List.set_cons_zero, List.set_cons_succ]
                          refine wpAnyH_take (i := 91) (v := ?_) rfl (by kernel_rfl) (by kernel_rfl) (by kernel_rfl) (fun _ _ _ h => h) (Or.inl ⟨by rfl, ?_⟩) (by assumption) ?_
                          rotate_left
                          · (intro w hSw; (try dsimp only at hSw); go_simp; try with_reducible rfl)
                          try simp only [List.getElem_toArray, List.getElem_cons_zero, List.getElem_cons_succ, Act.put, List.setIfInBounds_toArray, List.set_cons_zero, List.set_cons_succ]
                          refine wpAnyH_take (i := 92) (v := ?_) rfl (by kernel_rfl) (by kernel_rfl) (by kernel_rfl) (fun _ _ _ h => h) (Or.inl ⟨by rfl, ?_⟩) (by assumption) ?_
                          rotate_left
                          · (intro w hSw; (try dsimp only at hSw); go_simp; try with_reducible rfl)
                          try simp only [List.getElem_toArray, List.getElem_cons_zero, List.getElem_cons_succ, Act.put, List.setIfInBounds_toArray, List.set_cons_zero, List.set_cons_succ]
                          refine wpAnyH_ready (rs := [83]) (by kernel_rfl) (by simp) ?_
                          refine AllReadyH.cons (i := 83) rfl (fun K hK => ?_) AllReadyH.nil
                          go_simp
                          go_at_call 15
                          refine (two_any 8 q r _ _ _ (by omega) (HVq.out _ hz21) (HVr.out _ hz21)).mono ?_
                          rintro e w22 ⟨v22, rfl, hv22, hx22⟩
                          have hv22 := Lib.hid (fun W (hW : Ext w22 W) => hv22.later hW.later)
                          have hz22 := hz21.trans hx22
                          refine hK.out _ _ (HSS.out _ hz22) (fun hHeld22 => ?_)
                          clear hK K hHeld21
                          try simp only [List.getElem_toArray, List.getElem_cons_zero, List.getElem_cons_succ, Act.put, List.setIfInBounds_toArray, List.set_cons_zero, List.set_cons_succ]
                          refine wpAnyH_ready (rs := [84]) (by kernel_rfl) (by simp) ?_
                          refine AllReadyH.cons (i := 84) rfl (fun K hK => ?_) AllReadyH.nil
                          go_simp
                          go_at_call 15
                          refine (two_any 9 p (unionT2 q r) _ _ _ (by omega) (HVp.out _ hz22) (hv22.out _ (Ext.refl _))).mono ?_
                          rintro e w23 ⟨v23, rfl, hv23, hx23⟩
                          have hv23 := Lib.hid (fun W (hW : Ext w23 W) => hv23.later hW.later)
                          have hz23 := hz22.trans hx23
                          refine hK.out _ _ (HSS.out _ hz23) (fun hHeld23 => ?_)
                          clear hK K hHeld22
                          try simp only [List.getElem_toArray, List.getElem_cons_zero, List.getElem_cons_succ, Act.put, List.setIfInBounds_toArray, List.set_cons_zero, List.set_cons_succ]
                          refine wpAnyH_ready (rs := [89]) (by kernel_rfl) (by simp) ?_
                          refine AllReadyH.cons (i := 89) rfl (fun K hK => ?_) AllReadyH.nil
                          go_simp
                          go_at_call 15
                          refine (two_any 9 p q _ _ _ (by omega) (HVp.out _ hz23) (HVq.out _ hz23)).mono ?_
                          rintro e w24 ⟨v24, rfl, hv24, hx24⟩
                          have hv24 := Lib.hid (fun W (hW : Ext w24 W) => hv24.later hW.later)
                          have hz24 := hz23.trans hx24
                          refine hK.out _ _ (HSS.out _ hz24) (fun hHeld24 => ?_)
                          clear hK K hHeld23
                          try simp only [List.getElem_toArray, List.getElem_cons_zero, List.getElem_cons_succ, Act.put, List.setIfInBounds_toArray, List.set_cons_zero, List.set_cons_succ]
                          as_aux_lemma =>
                            refine wpAnyH_ready (rs := [93]) (by kernel_rfl) (by simp) ?_
                            refine AllReadyH.cons (i := 93) rfl (fun K hK => ?_) AllReadyH.nil
                            go_simp
                            go_at_call 15
                            refine (two_any 9 p r _ _ _ (by omega) (HVp.out _ hz24) (HVr.out _ hz24)).mono ?_
                            rintro e w25 ⟨v25, rfl, hv25, hx25⟩
                            have hv25 := Lib.hid (fun W (hW : Ext w25 W) => hv25.later hW.later)
                            have hz25 := hz24.trans hx25
                            refine hK.out _ _ (HSS.out _ hz25) (fun hHeld25 => ?_)
                            clear hK K hHeld24
                            try simp only [List.getElem_toArray, List.getElem_cons_zero, List.getElem_cons_succ, Act.put, List.setIfInBounds_toArray, List.set_cons_zero, List.set_cons_succ]
                            refine wpAnyH_ready (rs := [94]) (by kernel_rfl) (by simp) ?_
                            refine AllReadyH.cons (i := 94) rfl (fun K hK => ?_) AllReadyH.nil
                            go_simp
                            go_at_call 15
                            refine (two_any 8 (thenT2 p q) (thenT2 p r) _ _ _ (by omega) (hv24.out _ hx25) (hv25.out _ (Ext.refl _))).mono ?_
                            rintro e w26 ⟨v26, rfl, hv26, hx26⟩
                            have hv26 := Lib.hid (fun W (hW : Ext w26 W) => hv26.later hW.later)
                            have hz26 := hz25.trans hx26
                            refine hK.out _ _ (HSS.out _ hz26) (fun hHeld26 => ?_)
                            clear hK K hHeld25
                            try simp only [List.getElem_toArray, List.getElem_cons_zero, List.getElem_cons_succ, Act.put, List.setIfInBounds_toArray, List.set_cons_zero, List.set_cons_succ]
                            refine wpAnyH_ready (rs := [95]) (by kernel_rfl) (by simp) ?_
                            refine AllReadyH.cons (i := 95) rfl (fun K hK => ?_) AllReadyH.nil
                            go_simp
                            go_at_call 16
                            refine (is_law (thenT2 p (unionT2 q r)) (unionT2 (thenT2 p q) (thenT2 p r)) _ _ x _ _ (hv23.out _ ((hx24.trans hx25).trans hx26)) (hv26.out _ (Ext.refl _)) (HRx.out _ hz26) (fun y => alg_dist_right p q r x y)).mono ?_
                            rintro e w27 ⟨rfl, hx27⟩
                            have hz27 := hz26.trans hx27
                            refine hK.out _ _ (HSS.out _ hz27) (fun hHeld27 => ?_)
                            clear hK K hHeld26
                            try simp only [List.getElem_toArray, List.getElem_cons_zero, List.getElem_cons_succ, Act.put, List.setIfInBounds_toArray, List.set_cons_zero, List.set_cons_succ]
                            as_aux_lemma =>
                              refine wpAnyH_take (i := 96) (v := ?_) rfl (by kernel_rfl) (by kernel_rfl) (by kernel_rfl) (fun _ _ _ h => h) (Or.inl ⟨by rfl, ?_⟩) (by assumption) ?_
                              rotate_left
                              · (intro w hSw; (try dsimp only at hSw); go_simp; try with_reducible rfl)
                              try simp only [List.getElem_toArray, List.getElem_cons_zero, List.getElem_cons_succ, Act.put, List.setIfInBounds_toArray, List.set_cons_zero, List.set_cons_succ]
                              refine wpAnyH_take (i := 97) (v := ?_) rfl (by kernel_rfl) (by kernel_rfl) (by kernel_rfl) (fun _ _ _ h => h) (Or.inl ⟨by rfl, ?_⟩) (by assumption) ?_
                              rotate_left
                              · (intro w hSw; (try dsimp only at hSw); go_simp; try with_reducible rfl)
                              try simp only [List.getElem_toArray, List.getElem_cons_zero, List.getElem_cons_succ, Act.put, List.setIfInBounds_toArray, List.set_cons_zero, List.set_cons_succ]
                              refine wpAnyH_take (i := 98) (v := ?_) rfl (by kernel_rfl) (by kernel_rfl) (by kernel_rfl) (fun _ _ _ h => h) (Or.inl ⟨by rfl, ?_⟩) (by assumption) ?_
                              rotate_left
                              · (intro w hSw; (try dsimp only at hSw); go_simp; try with_reducible rfl)
                              try simp only [List.getElem_toArray, List.getElem_cons_zero, List.getElem_cons_succ, Act.put, List.setIfInBounds_toArray, List.set_cons_zero, List.set_cons_succ]
                              refine wpAnyH_take (i := 99) (v := ?_) rfl (by kernel_rfl) (by kernel_rfl) (by kernel_rfl) (fun _ _ _ h => h) (Or.inl ⟨by rfl, ?_⟩) (by assumption) ?_
                              rotate_left
                              · (intro w hSw; (try dsimp only at hSw); go_simp; try with_reducible rfl)
                              try simp only [List.getElem_toArray, List.getElem_cons_zero, List.getElem_cons_succ, Act.put, List.setIfInBounds_toArray, List.set_cons_zero, List.set_cons_succ]
                              refine wpAnyH_take (i := 100) (v := ?_) rfl (by kernel_rfl) (by kernel_rfl) (by kernel_rfl) (fun _ _ _ h => h) (Or.inl ⟨by rfl, ?_⟩) (by assumption) ?_
                              rotate_left
                              · (intro w hSw; (try dsimp only at hSw); go_simp; try with_reducible rfl)
                              try simp only [List.getElem_toArray, List.getElem_cons_zero, List.getElem_cons_succ, Act.put, List.setIfInBounds_toArray, List.set_cons_zero, List.set_cons_succ]
                              refine wpAnyH_take (i := 101) (v := ?_) rfl (by kernel_rfl) (by kernel_rfl) (by kernel_rfl) (fun _ _ _ h => h) (Or.inl ⟨by rfl, ?_⟩) (by assumption) ?_
                              rotate_left
                              · (intro w hSw; (try dsimp only at hSw); go_simp; try with_reducible rfl)
                              try simp only [List.getElem_toArray, List.getElem_cons_zero, List.getElem_cons_succ, Act.put, List.setIfInBounds_toArray, List.set_cons_zero, List.set_cons_succ]
                              refine wpAnyH_take (i := 103) (v := ?_) rfl (by kernel_rfl) (by kernel_rfl) (by kernel_rfl) (fun _ _ _ h => h) (Or.inl ⟨by rfl, ?_⟩) (by assumption) ?_
                              rotate_left
                              · (intro w hSw; (try dsimp only at hSw); go_simp; try with_reducible rfl)
                              try simp only [List.getElem_toArray, List.getElem_cons_zero, List.getElem_cons_succ, Act.put, List.setIfInBounds_toArray, List.set_cons_zero, List.set_cons_succ]
                              refine wpAnyH_ready (rs := [102]) (by kernel_rfl) (by simp) ?_
                              refine AllReadyH.cons (i := 102) rfl (fun K hK => ?_) AllReadyH.nil
                              go_simp
                              go_at_call 15
                              refine (two_any 9 yesF p _ _ _ (by omega) (HVY.out _ hz27) (HVp.out _ hz27)).mono ?_
                              rintro e w28 ⟨v28, rfl, hv28, hx28⟩
                              have hv28 := Lib.hid (fun W (hW : Ext w28 W) => hv28.later hW.later)
                              have hz28 := hz27.trans hx28
                              refine hK.out _ _ (HSS.out _ hz28) (fun hHeld28 => ?_)
                              clear hK K hHeld27
                              try simp only [List.getElem_toArray, List.getElem_cons_zero, List.getElem_cons_succ, Act.put, List.setIfInBounds_toArray, List.set_cons_zero, List.set_cons_succ]
                              refine wpAnyH_ready (rs := [104]) (by kernel_rfl) (by simp) ?_
                              refine AllReadyH.cons (i := 104) rfl (fun K hK => ?_) AllReadyH.nil
                              go_simp
                              go_at_call 16
                              refine (is_law (thenT2 yesF p) p _ _ x _ _ (hv28.out _ (Ext.refl _)) (HVp.out _ hz28) (HRx.out _ hz28) (fun y => alg_yes_then p x y)).mono ?_
                              rintro e w29 ⟨rfl, hx29⟩
                              have hz29 := hz28.trans hx29
                              refine hK.out _ _ (HSS.out _ hz29) (fun hHeld29 => ?_)
                              clear hK K hHeld28
                              try simp only [List.getElem_toArray, List.getElem_cons_zero, List.getElem_cons_succ, Act.put, List.setIfInBounds_toArray, List.set_cons_zero, List.set_cons_succ]
                              as_aux_lemma =>
                                refine wpAnyH_take (i := 105) (v := ?_) rfl (by kernel_rfl) (by kernel_rfl) (by kernel_rfl) (fun _ _ _ h => h) (Or.inl ⟨by rfl, ?_⟩) (by assumption) ?_
                                rotate_left
                                · (intro w hSw; (try dsimp only at hSw); go_simp; try with_reducible rfl)
                                try simp only [List.getElem_toArray, List.getElem_cons_zero, List.getElem_cons_succ, Act.put, List.setIfInBounds_toArray, List.set_cons_zero, List.set_cons_succ]
                                refine wpAnyH_take (i := 106) (v := ?_) rfl (by kernel_rfl) (by kernel_rfl) (by kernel_rfl) (fun _ _ _ h => h) (Or.inl ⟨by rfl, ?_⟩) (by assumption) ?_
                                rotate_left
                                · (intro w hSw; (try dsimp only at hSw); go_simp; try with_reducible rfl)
                                try simp only [List.getElem_toArray, List.getElem_cons_zero, List.getElem_cons_succ, Act.put, List.setIfInBounds_toArray, List.set_cons_zero, List.set_cons_succ]
                                refine wpAnyH_take (i := 107) (v := ?_) rfl (by kernel_rfl) (by kernel_rfl) (by kernel_rfl) (fun _ _ _ h => h) (Or.inl ⟨by rfl, ?_⟩) (by assumption) ?_
                                rotate_left
                                · (intro w hSw; (try dsimp only at hSw); go_simp; try with_reducible rfl)
                                try simp only [List.getElem_toArray, List.getElem_cons_zero, List.getElem_cons_succ, Act.put, List.setIfInBounds_toArray, List.set_cons_zero, List.set_cons_succ]
                                refine wpAnyH_take (i := 108) (v := ?_) rfl (by kernel_rfl) (by kernel_rfl) (by kernel_rfl) (fun _ _ _ h => h) (Or.inl ⟨by rfl, ?_⟩) (by assumption) ?_
                                rotate_left
                                · (intro w hSw; (try dsimp only at hSw); go_simp; try with_reducible rfl)
                                try simp only [List.getElem_toArray, List.getElem_cons_zero, List.getElem_cons_succ, Act.put, List.setIfInBounds_toArray, List.set_cons_zero, List.set_cons_succ]
                                refine wpAnyH_take (i := 109) (v := ?_) rfl (by kernel_rfl) (by kernel_rfl) (by kernel_rfl) (fun _ _ _ h => h) (Or.inl ⟨by rfl, ?_⟩) (by assumption) ?_
                                rotate_left
                                · (intro w hSw; (try dsimp only at hSw); go_simp; try with_reducible rfl)
                                try simp only [List.getElem_toArray, List.getElem_cons_zero, List.getElem_cons_succ, Act.put, List.setIfInBounds_toArray, List.set_cons_zero, List.set_cons_succ]
                                refine wpAnyH_take (i := 110) (v := ?_) rfl (by kernel_rfl) (by kernel_rfl) (by kernel_rfl) (fun _ _ _ h => h) (Or.inl ⟨by rfl, ?_⟩) (by assumption) ?_
                                rotate_left
                                · (intro w hSw; (try dsimp only at hSw); go_simp; try with_reducible rfl)
                                try simp only [List.getElem_toArray, List.getElem_cons_zero, List.getElem_cons_succ, Act.put, List.setIfInBounds_toArray, List.set_cons_zero, List.set_cons_succ]
                                refine wpAnyH_take (i := 112) (v := ?_) rfl (by kernel_rfl) (by kernel_rfl) (by kernel_rfl) (fun _ _ _ h => h) (Or.inl ⟨by rfl, ?_⟩) (by assumption) ?_
                                rotate_left
                                · (intro w hSw; (try dsimp only at hSw); go_simp; try with_reducible rfl)
                                try simp only [List.getElem_toArray, List.getElem_cons_zero, List.getElem_cons_succ, Act.put, List.setIfInBounds_toArray, List.set_cons_zero, List.set_cons_succ]
                                refine wpAnyH_ready (rs := [111]) (by kernel_rfl) (by simp) ?_
                                refine AllReadyH.cons (i := 111) rfl (fun K hK => ?_) AllReadyH.nil
                                go_simp
                                go_at_call 15
                                refine (two_any 9 p yesF _ _ _ (by omega) (HVp.out _ hz29) (HVY.out _ hz29)).mono ?_
                                rintro e w30 ⟨v30, rfl, hv30, hx30⟩
                                have hv30 := Lib.hid (fun W (hW : Ext w30 W) => hv30.later hW.later)
                                have hz30 := hz29.trans hx30
                                refine hK.out _ _ (HSS.out _ hz30) (fun hHeld30 => ?_)
                                clear hK K hHeld29
                                try simp only [List.getElem_toArray, List.getElem_cons_zero, List.getElem_cons_succ, Act.put, List.setIfInBounds_toArray, List.set_cons_zero, List.set_cons_succ]
                                as_aux_lemma =>
                                  refine wpAnyH_ready (rs := [113]) (by kernel_rfl) (by simp) ?_
                                  refine AllReadyH.cons (i := 113) rfl (fun K hK => ?_) AllReadyH.nil
                                  go_simp
                                  go_at_call 16
                                  refine (is_law (thenT2 p yesF) p _ _ x _ _ (hv30.out _ (Ext.refl _)) (HVp.out _ hz30) (HRx.out _ hz30) (fun y => alg_then_yes p x y)).mono ?_
                                  rintro e w31 ⟨rfl, hx31⟩
                                  have hz31 := hz30.trans hx31
                                  refine hK.out _ _ (HSS.out _ hz31) (fun hHeld31 => ?_)
                                  clear hK K hHeld30
                                  try simp only [List.getElem_toArray, List.getElem_cons_zero, List.getElem_cons_succ, Act.put, List.setIfInBounds_toArray, List.set_cons_zero, List.set_cons_succ]
                                  as_aux_lemma =>
                                    refine wpAnyH_take (i := 114) (v := ?_) rfl (by kernel_rfl) (by kernel_rfl) (by kernel_rfl) (fun _ _ _ h => h) (Or.inl ⟨by rfl, ?_⟩) (by assumption) ?_
                                    rotate_left
                                    · (intro w hSw; (try dsimp only at hSw); go_simp; try with_reducible rfl)
                                    try simp only [List.getElem_toArray, List.getElem_cons_zero, List.getElem_cons_succ, Act.put, List.setIfInBounds_toArray, List.set_cons_zero, List.set_cons_succ]
                                    refine wpAnyH_take (i := 115) (v := ?_) rfl (by kernel_rfl) (by kernel_rfl) (by kernel_rfl) (fun _ _ _ h => h) (Or.inl ⟨by rfl, ?_⟩) (by assumption) ?_
                                    rotate_left
                                    · (intro w hSw; (try dsimp only at hSw); go_simp; try with_reducible rfl)
                                    try simp only [List.getElem_toArray, List.getElem_cons_zero, List.getElem_cons_succ, Act.put, List.setIfInBounds_toArray, List.set_cons_zero, List.set_cons_succ]
                                    refine wpAnyH_take (i := 116) (v := ?_) rfl (by kernel_rfl) (by kernel_rfl) (by kernel_rfl) (fun _ _ _ h => h) (Or.inl ⟨by rfl, ?_⟩) (by assumption) ?_
                                    rotate_left
                                    · (intro w hSw; (try dsimp only at hSw); go_simp; try with_reducible rfl)
                                    try simp only [List.getElem_toArray, List.getElem_cons_zero, List.getElem_cons_succ, Act.put, List.setIfInBounds_toArray, List.set_cons_zero, List.set_cons_succ]
                                    refine wpAnyH_take (i := 117) (v := ?_) rfl (by kernel_rfl) (by kernel_rfl) (by kernel_rfl) (fun _ _ _ h => h) (Or.inl ⟨by rfl, ?_⟩) (by assumption) ?_
                                    rotate_left
                                    · (intro w hSw; (try dsimp only at hSw); go_simp; try with_reducible rfl)
                                    try simp only [List.getElem_toArray, List.getElem_cons_zero, List.getElem_cons_succ, Act.put, List.setIfInBounds_toArray, List.set_cons_zero, List.set_cons_succ]
                                    refine wpAnyH_take (i := 118) (v := ?_) rfl (by kernel_rfl) (by kernel_rfl) (by kernel_rfl) (fun _ _ _ h => h) (Or.inl ⟨by rfl, ?_⟩) (by assumption) ?_
                                    rotate_left
                                    · (intro w hSw; (try dsimp only at hSw); go_simp; try with_reducible rfl)
                                    try simp only [List.getElem_toArray, List.getElem_cons_zero, List.getElem_cons_succ, Act.put, List.setIfInBounds_toArray, List.set_cons_zero, List.set_cons_succ]
                                    refine wpAnyH_take (i := 119) (v := ?_) rfl (by kernel_rfl) (by kernel_rfl) (by kernel_rfl) (fun _ _ _ h => h) (Or.inl ⟨by rfl, ?_⟩) (by assumption) ?_
                                    rotate_left
                                    · (intro w hSw; (try dsimp only at hSw); go_simp; try with_reducible rfl)
                                    try simp only [List.getElem_toArray, List.getElem_cons_zero, List.getElem_cons_succ, Act.put, List.setIfInBounds_toArray, List.set_cons_zero, List.set_cons_succ]
                                    refine wpAnyH_take (i := 121) (v := ?_) rfl (by kernel_rfl) (by kernel_rfl) (by kernel_rfl) (fun _ _ _ h => h) (Or.inl ⟨by rfl, ?_⟩) (by assumption) ?_
                                    rotate_left
                                    · (intro w hSw; (try dsimp only at hSw); go_simp; try with_reducible rfl)
                                    try simp only [List.getElem_toArray, List.getElem_cons_zero, List.getElem_cons_succ, Act.put, List.setIfInBounds_toArray, List.set_cons_zero, List.set_cons_succ]
                                    refine wpAnyH_ready (rs := [120]) (by kernel_rfl) (by simp) ?_
                                    refine AllReadyH.cons (i := 120) rfl (fun K hK => ?_) AllReadyH.nil
                                    go_simp
                                    go_at_call 15
                                    refine (two_any 8 p noF _ _ _ (by omega) (HVp.out _ hz31) (HVN.out _ hz31)).mono ?_
                                    rintro e w32 ⟨v32, rfl, hv32, hx32⟩
                                    have hv32 := Lib.hid (fun W (hW : Ext w32 W) => hv32.later hW.later)
                                    have hz32 := hz31.trans hx32
                                    refine hK.out _ _ (HSS.out _ hz32) (fun hHeld32 => ?_)
                                    clear hK K hHeld31
                                    try simp only [List.getElem_toArray, List.getElem_cons_zero, List.getElem_cons_succ, Act.put, List.setIfInBounds_toArray, List.set_cons_zero, List.set_cons_succ]
                                    refine wpAnyH_ready (rs := [122]) (by kernel_rfl) (by simp) ?_
                                    refine AllReadyH.cons (i := 122) rfl (fun K hK => ?_) AllReadyH.nil
                                    go_simp
                                    go_at_call 16
                                    refine (is_law (unionT2 p noF) p _ _ x _ _ (hv32.out _ (Ext.refl _)) (HVp.out _ hz32) (HRx.out _ hz32) (fun y => alg_union_no p x y)).mono ?_
                                    rintro e w33 ⟨rfl, hx33⟩
                                    have hz33 := hz32.trans hx33
                                    refine hK.out _ _ (HSS.out _ hz33) (fun hHeld33 => ?_)
                                    clear hK K hHeld32
                                    try simp only [List.getElem_toArray, List.getElem_cons_zero, List.getElem_cons_succ, Act.put, List.setIfInBounds_toArray, List.set_cons_zero, List.set_cons_succ]
                                    as_aux_lemma =>
                                      refine wpAnyH_take (i := 123) (v := ?_) rfl (by kernel_rfl) (by kernel_rfl) (by kernel_rfl) (fun _ _ _ h => h) (Or.inl ⟨by rfl, ?_⟩) (by assumption) ?_
                                      rotate_left
                                      · (intro w hSw; (try dsimp only at hSw); go_simp; try with_reducible rfl)
                                      try simp only [List.getElem_toArray, List.getElem_cons_zero, List.getElem_cons_succ, Act.put, List.setIfInBounds_toArray, List.set_cons_zero, List.set_cons_succ]
                                      refine wpAnyH_take (i := 124) (v := ?_) rfl (by kernel_rfl) (by kernel_rfl) (by kernel_rfl) (fun _ _ _ h => h) (Or.inl ⟨by rfl, ?_⟩) (by assumption) ?_
                                      rotate_left
                                      · (intro w hSw; (try dsimp only at hSw); go_simp; try with_reducible rfl)
                                      try simp only [List.getElem_toArray, List.getElem_cons_zero, List.getElem_cons_succ, Act.put, List.setIfInBounds_toArray, List.set_cons_zero, List.set_cons_succ]
                                      refine wpAnyH_take (i := 125) (v := ?_) rfl (by kernel_rfl) (by kernel_rfl) (by kernel_rfl) (fun _ _ _ h => h) (Or.inl ⟨by rfl, ?_⟩) (by assumption) ?_
                                      rotate_left
                                      · (intro w hSw; (try dsimp only at hSw); go_simp; try with_reducible rfl)
                                      try simp only [List.getElem_toArray, List.getElem_cons_zero, List.getElem_cons_succ, Act.put, List.setIfInBounds_toArray, List.set_cons_zero, List.set_cons_succ]
                                      refine wpAnyH_take (i := 126) (v := ?_) rfl (by kernel_rfl) (by kernel_rfl) (by kernel_rfl) (fun _ _ _ h => h) (Or.inl ⟨by rfl, ?_⟩) (by assumption) ?_
                                      rotate_left
                                      · (intro w hSw; (try dsimp only at hSw); go_simp; try with_reducible rfl)
                                      try simp only [List.getElem_toArray, List.getElem_cons_zero, List.getElem_cons_succ, Act.put, List.setIfInBounds_toArray, List.set_cons_zero, List.set_cons_succ]
                                      refine wpAnyH_take (i := 127) (v := ?_) rfl (by kernel_rfl) (by kernel_rfl) (by kernel_rfl) (fun _ _ _ h => h) (Or.inl ⟨by rfl, ?_⟩) (by assumption) ?_
                                      rotate_left
                                      · (intro w hSw; (try dsimp only at hSw); go_simp; try with_reducible rfl)
                                      try simp only [List.getElem_toArray, List.getElem_cons_zero, List.getElem_cons_succ, Act.put, List.setIfInBounds_toArray, List.set_cons_zero, List.set_cons_succ]
                                      refine wpAnyH_take (i := 128) (v := ?_) rfl (by kernel_rfl) (by kernel_rfl) (by kernel_rfl) (fun _ _ _ h => h) (Or.inl ⟨by rfl, ?_⟩) (by assumption) ?_
                                      rotate_left
                                      · (intro w hSw; (try dsimp only at hSw); go_simp; try with_reducible rfl)
                                      try simp only [List.getElem_toArray, List.getElem_cons_zero, List.getElem_cons_succ, Act.put, List.setIfInBounds_toArray, List.set_cons_zero, List.set_cons_succ]
                                      refine wpAnyH_take (i := 130) (v := ?_) rfl (by kernel_rfl) (by kernel_rfl) (by kernel_rfl) (fun _ _ _ h => h) (Or.inl ⟨by rfl, ?_⟩) (by assumption) ?_
                                      rotate_left
                                      · (intro w hSw; (try dsimp only at hSw); go_simp; try with_reducible rfl)
                                      try simp only [List.getElem_toArray, List.getElem_cons_zero, List.getElem_cons_succ, Act.put, List.setIfInBounds_toArray, List.set_cons_zero, List.set_cons_succ]
                                      refine wpAnyH_ready (rs := [129]) (by kernel_rfl) (by simp) ?_
                                      refine AllReadyH.cons (i := 129) rfl (fun K hK => ?_) AllReadyH.nil
                                      go_simp
                                      go_at_call 15
                                      refine (two_any 9 noF p _ _ _ (by omega) (HVN.out _ hz33) (HVp.out _ hz33)).mono ?_
                                      rintro e w34 ⟨v34, rfl, hv34, hx34⟩
                                      have hv34 := Lib.hid (fun W (hW : Ext w34 W) => hv34.later hW.later)
                                      have hz34 := hz33.trans hx34
                                      refine hK.out _ _ (HSS.out _ hz34) (fun hHeld34 => ?_)
                                      clear hK K hHeld33
                                      try simp only [List.getElem_toArray, List.getElem_cons_zero, List.getElem_cons_succ, Act.put, List.setIfInBounds_toArray, List.set_cons_zero, List.set_cons_succ]
                                      refine wpAnyH_ready (rs := [131]) (by kernel_rfl) (by simp) ?_
                                      refine AllReadyH.cons (i := 131) rfl (fun K hK => ?_) AllReadyH.nil
                                      go_simp
                                      go_at_call 16
                                      refine (is_law (thenT2 noF p) noF _ _ x _ _ (hv34.out _ (Ext.refl _)) (HVN.out _ hz34) (HRx.out _ hz34) (fun y => alg_no_then p x y)).mono ?_
                                      rintro e w35 ⟨rfl, hx35⟩
                                      have hz35 := hz34.trans hx35
                                      refine hK.out _ _ (HSS.out _ hz35) (fun hHeld35 => ?_)
                                      clear hK K hHeld34
                                      try simp only [List.getElem_toArray, List.getElem_cons_zero, List.getElem_cons_succ, Act.put, List.setIfInBounds_toArray, List.set_cons_zero, List.set_cons_succ]
                                      as_aux_lemma =>
                                        refine wpAnyH_take (i := 132) (v := ?_) rfl (by kernel_rfl) (by kernel_rfl) (by kernel_rfl) (fun _ _ _ h => h) (Or.inl ⟨by rfl, ?_⟩) (by assumption) ?_
                                        rotate_left
                                        · (intro w hSw; (try dsimp only at hSw); go_simp; try with_reducible rfl)
                                        try simp only [List.getElem_toArray, List.getElem_cons_zero, List.getElem_cons_succ, Act.put, List.setIfInBounds_toArray, List.set_cons_zero, List.set_cons_succ]
                                        refine wpAnyH_take (i := 133) (v := ?_) rfl (by kernel_rfl) (by kernel_rfl) (by kernel_rfl) (fun _ _ _ h => h) (Or.inl ⟨by rfl, ?_⟩) (by assumption) ?_
                                        rotate_left
                                        · (intro w hSw; (try dsimp only at hSw); go_simp; try with_reducible rfl)
                                        try simp only [List.getElem_toArray, List.getElem_cons_zero, List.getElem_cons_succ, Act.put, List.setIfInBounds_toArray, List.set_cons_zero, List.set_cons_succ]
                                        refine wpAnyH_ready (rs := [134]) (by kernel_rfl) (by simp) ?_
                                        refine AllReadyH.cons (i := 134) rfl (fun K hK => ?_) AllReadyH.nil
                                        go_simp
                                        go_at_call 13
                                        refine (wakes_any _).mono ?_
                                        rintro e w36 ⟨rfl, hx36⟩
                                        have hz36 := hz35.trans hx36
                                        refine hK.out _ _ (HSS.out _ hz36) (fun hHeld36 => ?_)
                                        clear hK K hHeld35
                                        try simp only [List.getElem_toArray, List.getElem_cons_zero, List.getElem_cons_succ, Act.put, List.setIfInBounds_toArray, List.set_cons_zero, List.set_cons_succ]
                                        as_aux_lemma =>
                                          refine wpAnyH_take (i := 135) (v := ?_) rfl (by kernel_rfl) (by kernel_rfl) (by kernel_rfl) (fun _ _ _ h => h) (Or.inl ⟨by rfl, ?_⟩) (by assumption) ?_
                                          rotate_left
                                          · (intro w hSw; (try dsimp only at hSw); go_simp; try with_reducible rfl)
                                          try simp only [List.getElem_toArray, List.getElem_cons_zero, List.getElem_cons_succ, Act.put, List.setIfInBounds_toArray, List.set_cons_zero, List.set_cons_succ]
                                          refine wpAnyH_take (i := 136) (v := ?_) rfl (by kernel_rfl) (by kernel_rfl) (by kernel_rfl) (fun _ _ _ h => h) (Or.inl ⟨by rfl, ?_⟩) (by assumption) ?_
                                          rotate_left
                                          · (intro w hSw; (try dsimp only at hSw); go_simp; try with_reducible rfl)
                                          try simp only [List.getElem_toArray, List.getElem_cons_zero, List.getElem_cons_succ, Act.put, List.setIfInBounds_toArray, List.set_cons_zero, List.set_cons_succ]
                                          refine wpAnyH_done (by kernel_rfl) ?_ _
                                          refine NoPanic.normal ?_
                                          go_wp2_with fail
                                          go_ret
                                          exact ⟨rfl, HZJ.out.trans hz36⟩
end Go.Proofs.Ytpjmdjddgnaddaa
