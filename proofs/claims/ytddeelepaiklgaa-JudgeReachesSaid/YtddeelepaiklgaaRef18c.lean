/- The document's Big, Check, Pred (of a policy without queries). -/
import Derived.Test.YtddeelepaiklgaaRef18b
namespace Go.Proofs.Ytddeelepaiklgaa
open Go.RowKit

theorem cells5 {w : World} {b : Nat} {a0 a1 a2 a3 a4 : Value} (h : w.rangeAt b 0 [a0, a1, a2, a3, a4]) : w.cell? ⟨b, 0, none⟩ = some a0 ∧ w.cell? ⟨b, 1, none⟩ = some a1 ∧ w.cell? ⟨b, 2, none⟩ = some a2 ∧ w.cell? ⟨b, 3, none⟩ = some a3 ∧ w.cell? ⟨b, 4, none⟩ = some a4 :=
  ⟨h 0 _ rfl, h 1 _ rfl, h 2 _ rfl, h 3 _ rfl, h 4 _ rfl⟩

set_option maxHeartbeats 4000000 in
set_option maxRecDepth 100000 in
theorem refBig_any (t : Tm) (op f n s : Value) (w : World) (hv : t.Val w (.agg #[op, f, n, s])) :
    Calls Try.prog 41 #[.agg #[op, f, n, s, .slice none 0 0]] w fun e w' => e = .returned (.bool (bigB [t])) ∧ Ext w w' := by
  have HV := Lib.hid hv
  obtain ⟨cs, hcs, s', rfl, -, -, -, p, len, cap, rfl, -⟩ := hv
  simp only [Value.agg.injEq, Array.mk.injEq, List.cons.injEq, and_true] at hcs
  obtain ⟨rfl, rfl, rfl, rfl⟩ := hcs
  have HB := Lib.hid (bigB_one t)
  obtain ⟨wA, hA⟩ : ∃ W : World, w.alloc (.cells #[.int .i8 t.op, .int .i8 t.fld, .int .u64 t.n, .slice p len cap, .slice none 0 0] 34) = W := ⟨_, rfl⟩
  have xA : Ext w wA := hA ▸ Ext.alloc _ _
  have rA : wA.rangeAt w.heap.size 0 [.int .i8 t.op, .int .i8 t.fld, .int .u64 t.n, .slice p len cap, .slice none 0 0] := by
    have := rangeAt_new w #[.int .i8 t.op, .int .i8 t.fld, .int .u64 t.n, .slice p len cap, .slice none 0 0] 34
    rw [hA] at this
    exact this
  have HRA := Lib.hid (fun W (hW : Ext wA W) => World.rangeAt.later hW.later rA)
  have HVA := Lib.hid (fun W (hW : Ext wA W) => HV.out.later (xA.trans hW).later)
  have HZ := Lib.hid xA
  have HEQ := Lib.hid hA
  clear xA rA hA
  go_enter Try.func41, Try.ntmps41
  go_upto_region 1 with fail
  rw [HEQ.out]
  clear HEQ
  obtain ⟨c0, c1, c2, c3, c4⟩ := cells5 (HRA.out _ (Ext.refl _))
  go_wp2_with fail
  refine (refSize_any t _ wA 4096 (by omega) (by omega) (HVA.out _ (Ext.refl _))).mono ?_
  rintro e w1 ⟨rfl, hx1⟩
  clear c0 c1 c2 c3 c4
  obtain ⟨c0, c1, c2, c3, c4⟩ := cells5 (HRA.out _ hx1)
  have HX1 := Lib.hid hx1
  by_cases hs : 4096 < t.sz
  · have HF := Lib.hid (show bigB [t] = true from by rw [HB.out]; simp [hs])
    rw [show min (t.sz : Int) (4096 + 1) = 4097 from by omega]
    clear hs
    go_wp2_with fail
    refine wp_loop_rounds 1 ?_
    rw [rounds_succ]
    go_wp2_with fail
    go_ret
    exact ⟨by rw [HF.out]; rfl, HZ.out.trans HX1.out⟩
  · have HF := Lib.hid (show bigB [t] = decide (128 < t.dp 128) from by rw [HB.out]; simp [hs])
    rw [show min (t.sz : Int) (4096 + 1) = (t.sz : Int) from by omega]
    have hs2 : (t.sz : Int) ≤ 4096 := by omega
    have HD := Lib.hid (refDeep_any t _ w1 128 (by omega) (HVA.out _ hx1))
    generalize t.sz = q at *
    clear hs
    go_wp2_with fail
    refine wp_loop_rounds 1 ?_
    rw [rounds_succ]
    go_wp2_with fail
    refine HD.out.mono ?_
    rintro e w2 ⟨rfl, hx2⟩
    have d4 := hx2.later _ _ c4
    generalize t.dp 128 = d at *
    by_cases hd : 128 < d
    · have HF2 := Lib.hid (show bigB [t] = true from by rw [HF.out]; simpa using hd)
      have hd2 : (128 : Int) < (d : Int) := by omega
      clear hd
      go_wp2_with fail
      go_ret
      exact ⟨by rw [HF2.out]; rfl, HZ.out.trans (HX1.out.trans hx2)⟩
    · have HF2 := Lib.hid (show bigB [t] = false from by rw [HF.out]; simpa using hd)
      have hd2 : (d : Int) ≤ 128 := by omega
      clear hd
      go_wp2_with fail
      refine wp_loop_rounds 1 ?_
      rw [rounds_succ]
      go_wp2_with fail
      go_ret
      exact ⟨by rw [HF2.out]; rfl, HZ.out.trans (HX1.out.trans hx2)⟩

set_option maxHeartbeats 4000000 in
set_option maxRecDepth 100000 in
theorem refCheck_any (t : Tm) (op f n s : Value) (w : World) (hv : t.Val w (.agg #[op, f, n, s])) :
    Calls Try.prog 25 #[.agg #[op, f, n, s, .slice none 0 0]] w fun e w' => e = .returned (.int .i64 (checkT t)) ∧ Ext w w' := by
  have HV := Lib.hid hv
  obtain ⟨cs, hcs, s', rfl, -, -, -, p, len, cap, rfl, -⟩ := hv
  simp only [Value.agg.injEq, Array.mk.injEq, List.cons.injEq, and_true] at hcs
  obtain ⟨rfl, rfl, rfl, rfl⟩ := hcs
  obtain ⟨wA, hA⟩ : ∃ W : World, w.alloc (.cells #[.int .i8 t.op, .int .i8 t.fld, .int .u64 t.n, .slice p len cap, .slice none 0 0] 34) = W := ⟨_, rfl⟩
  have xA : Ext w wA := hA ▸ Ext.alloc _ _
  have rA : wA.rangeAt w.heap.size 0 [.int .i8 t.op, .int .i8 t.fld, .int .u64 t.n, .slice p len cap, .slice none 0 0] := by
    have := rangeAt_new w #[.int .i8 t.op, .int .i8 t.fld, .int .u64 t.n, .slice p len cap, .slice none 0 0] 34
    rw [hA] at this
    exact this
  have HRA := Lib.hid (fun W (hW : Ext wA W) => World.rangeAt.later hW.later rA)
  have HVA := Lib.hid (fun W (hW : Ext wA W) => HV.out.later (xA.trans hW).later)
  have HZ := Lib.hid xA
  have HEQ := Lib.hid hA
  clear xA rA hA
  go_enter Try.func25, Try.ntmps25
  go_upto_region 1 with fail
  rw [HEQ.out]
  clear HEQ
  obtain ⟨c0, c1, c2, c3, c4⟩ := cells5 (HRA.out _ (Ext.refl _))
  go_wp2_with fail
  refine (refBig_any t _ _ _ _ wA (HVA.out _ (Ext.refl _))).mono ?_
  rintro e w1 ⟨rfl, hx1⟩
  clear c0 c1 c2 c3 c4
  obtain ⟨c0, c1, c2, c3, c4⟩ := cells5 (HRA.out _ hx1)
  have HX1 := Lib.hid hx1
  have HR := Lib.hid (refRight_any t false _ w1 (HVA.out _ hx1))
  cases hb : bigB [t] with
  | true =>
    have HF := Lib.hid (show checkT t = 200 from by simp [checkT, hb])
    clear hb
    go_wp2_with fail
    go_ret
    exact ⟨by rw [HF.out]; rfl, HZ.out.trans HX1.out⟩
  | false =>
    have HP := Lib.hid (show checkT t = if t.right false then 0 else 170 from by simp [checkT, hb])
    clear hb
    go_wp2_with fail
    refine HR.out.mono ?_
    rintro e w2 ⟨rfl, hx2⟩
    have d4 := hx2.later _ _ c4
    cases hq : t.right false with
    | true =>
      have HF := Lib.hid (show checkT t = 0 from by rw [HP.out, hq]; rfl)
      clear hq
      go_wp2_with fail
      refine wp_loop_rounds 1 ?_
      rw [rounds_succ]
      go_wp2_with fail
      go_ret
      exact ⟨by rw [HF.out]; rfl, HZ.out.trans (HX1.out.trans hx2)⟩
    | false =>
      have HF := Lib.hid (show checkT t = 170 from by rw [HP.out, hq]; rfl)
      clear hq
      go_wp2_with fail
      go_ret
      exact ⟨by rw [HF.out]; rfl, HZ.out.trans (HX1.out.trans hx2)⟩

end Go.Proofs.Ytddeelepaiklgaa
