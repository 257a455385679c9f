/- The document's Of. -/
import Derived.Test.YtddeelepaiklgaaRef19f
import Derived.Test.YtddeelepaiklgaaRef19g
namespace Go.Proofs.Ytddeelepaiklgaa
open Go.RowKit Go.Maps

theorem rOf_any (t : Tm) : ROfOf t := by
  match t with
  | .mk op f n ks =>
    intro x v wb c w0 w hpre
    have hkid : ∀ i (h : i < ks.length), ROfOf (ks[i]) := fun i h => rOf_any (ks[i])
    rcases Tm.right_pol hpre.right with ⟨rfl, h1, _⟩ | ⟨rfl, h1⟩ | ⟨rfl, h1, _⟩ | ⟨rfl | rfl, h1, _⟩
    · exact rOf_filter f n ks x v wb c w0 w hpre
    · exact rOf_set f n ks x v wb c w0 w hpre
    · obtain ⟨k, rfl⟩ := List.length_eq_one_iff.1 h1
      exact rOf_star f n k (rStar_of k (rAll_of k (hkid 0 (by simp)))) x v wb c w0 w hpre
    · exact rOf_union f n ks hkid x v wb c w0 w hpre
    · exact rOf_then f n ks (fun i h => rAll_of _ (hkid i h)) x v wb c w0 w hpre
termination_by SizeOf.sizeOf t
decreasing_by
  have := List.sizeOf_lt_of_mem (List.getElem_mem h)
  simp; omega

set_option maxHeartbeats 4000000 in
set_option maxRecDepth 100000 in
theorem refOf_any (t : Tm) (v : Value) (x : Hdr) (w : World) (hv : t.Val w v) :
    Calls Try.prog 26 #[v, .agg x.cs] w fun e w' => Ext w w' ∧ (ofC t x).2.length ≤ 64 ∧ ∃ s, e = .returned (.tuple #[s, .int .i64 (ofC t x).1]) ∧ HSl w' w.heap.size (ofC t x).2 s := by
  have HV := Lib.hid hv
  obtain ⟨p, len, cap, rfl⟩ := hv.cs'
  clear hv
  obtain ⟨wA, hA⟩ : ∃ W : World, w.alloc (.cells #[.int .i8 t.op, .int .i8 t.fld, .int .u64 t.n, .slice p len cap] 31) = W := ⟨_, rfl⟩
  have xA : Ext w wA := hA ▸ Ext.alloc _ _
  have sA : wA.heap.size = w.heap.size + 1 := by rw [← hA, World.size_alloc]
  have rA : wA.rangeAt w.heap.size 0 [.int .i8 t.op, .int .i8 t.fld, .int .u64 t.n, .slice p len cap] := by
    have := rangeAt_new w #[.int .i8 t.op, .int .i8 t.fld, .int .u64 t.n, .slice p len cap] 31
    rw [hA] at this
    exact this
  obtain ⟨wB, hB⟩ : ∃ W : World, wA.alloc (.cells x.cs 24) = W := ⟨_, rfl⟩
  have xB : Ext wA wB := hB ▸ Ext.alloc _ _
  have rB : wB.rangeAt (w.heap.size + 1) 0 x.cs.toList := by
    have := rangeAt_new wA x.cs 24
    rw [hB, sA] at this
    exact this
  have xAB := xA.trans xB
  have HRA := Lib.hid (fun W (hW : Ext wB W) => World.rangeAt.later hW.later (World.rangeAt.later xB.later rA))
  have HRX := Lib.hid (fun W (hW : Ext wB W) => World.rangeAt.later hW.later rB)
  have HVB := Lib.hid (HV.out.later xAB.later)
  have HX := Lib.hid xAB
  have HEQ := Lib.hid (show w.alloc (.cells #[.int .i8 t.op, .int .i8 t.fld, .int .u64 t.n, .slice p len cap] 31) = wA ∧ wA.alloc (.cells x.cs 24) = wB from ⟨hA, hB⟩)
  obtain ⟨a0, a1, a2, a3⟩ := cells4' (HRA.out _ (Ext.refl _))
  clear rA rB xA xB hA hB xAB sA
  go_enter Try.func26, Try.ntmps26
  go_upto_region 1 with fail
  rw [HEQ.out.1, HEQ.out.2]
  clear HEQ
  go_wp2_with fail
  refine (refCheck_any t _ _ _ _ _ HVB.out).mono ?_
  rintro e w1 ⟨rfl, hx1⟩
  have HX1 := Lib.hid (HX.out.trans hx1)
  by_cases h0 : checkT t = 0
  · obtain ⟨hr, hsz, -⟩ := checkT_zero h0
    obtain ⟨wD, hD⟩ : ∃ W : World, w1.alloc (.cells #[.int .i64 0] 89) = W := ⟨_, rfl⟩
    have xD : Ext w1 wD := hD ▸ Ext.alloc _ _
    have hcD : wD.cell? ⟨w1.heap.size, 0, none⟩ = some (.int .i64 0) := by rw [← hD]; simp [go_sem]
    have hfD : wD.frozen? ⟨w1.heap.size, 0, none⟩ = false := by rw [← hD]; simp [go_sem]
    have hpre : RPre t (.agg #[.int .i8 t.op, .int .i8 t.fld, .int .u64 t.n, .slice p len cap]) w1.heap.size 0 w1 wD :=
      ⟨hr, hsz, HVB.out.later hx1.later, xD, Nat.le_refl _, by omega, hcD, hfD⟩
    have HC := Lib.hid (rOf_any t x _ _ 0 w1 wD hpre)
    have HOC := Lib.hid (show ofC t x = match t.ofT x 0 with | some r => (0, r.1) | none => (200, []) from by unfold ofC; rw [if_pos h0]; cases t.ofT x 0 <;> rfl)
    obtain ⟨b0, b1, b2, b3⟩ := cells4' (HRA.out _ (hx1.trans xD))
    have HRXD := Lib.hid (HRX.out _ (hx1.trans xD))
    have HXD := Lib.hid xD
    have HEQ := Lib.hid hD
    have hw1 : w.heap.size ≤ w1.heap.size := HX1.out.size
    have hwD : w.heap.size ≤ wD.heap.size := by have := xD.size; omega
    rw [h0]
    generalize t.ofT x 0 = R at *
    clear a0 a1 a2 a3 hpre hcD hfD xD hD hr hsz h0
    go_upto_region 5 with fail
    rw [HEQ.out]
    clear HEQ
    go_wp2_with (first | (refine wpList_load_H rfl _ rfl _ _ rfl x HRXD.out ?_))
    refine HC.out.mono ?_
    rintro e w5 ⟨hk5, v5, rfl, hok5⟩
    have HX5 := Lib.hid (show Ext w w5 from (HX1.out.trans HXD.out).trans' ⟨hk5.os, hk5.tape, hk5.output, hk5.size, fun i hi => hk5.block i (Nat.lt_of_lt_of_le hi hwD) (by show ¬ i = w1.heap.size; omega)⟩)
    cases R with
    | none =>
      have hv5 := hok5.none
      subst hv5
      have HF := Lib.hid (show ofC t x = (200, []) from HOC.out)
      clear hok5 HC b0 b1 b2 b3
      go_wp2_with fail
      go_ret2
      exact ⟨HX5.out, by rw [HF.out]; simp, .slice none 0 0, by rw [HF.out]; rfl, by rw [HF.out]; exact ⟨none, 0, 0, rfl, rfl, .inl rfl⟩⟩
    | some r =>
      obtain ⟨l, c2⟩ := r
      have HF := Lib.hid (show ofC t x = (0, l) from HOC.out)
      have HOK := Lib.hid hok5
      clear hok5 HC b0 b1 b2 b3
      go_wp2_with fail
      go_ret2
      exact ⟨HX5.out, by rw [HF.out]; exact HOK.out.2.1, v5, by rw [HF.out]; rfl, by rw [HF.out]; exact HOK.out.1.mono hwD⟩
  · have HF := Lib.hid (show ofC t x = (checkT t, []) from by unfold ofC; rw [if_neg h0])
    have hd : (checkT t == 0) = false := by simpa using h0
    generalize checkT t = y at *
    clear h0
    go_wp2_with fail
    go_ret2
    exact ⟨HX1.out, by rw [HF.out]; simp, .slice none 0 0, by rw [HF.out]; rfl, by rw [HF.out]; exact ⟨none, 0, 0, rfl, rfl, .inl rfl⟩⟩
end Go.Proofs.Ytddeelepaiklgaa
