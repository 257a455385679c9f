/- MeaningStar, walked. -/
import Derived.Test.YtpjmdjddgnaddaaLawOf
import Derived.Test.YtpjmdjddgnaddaaWakes
import Derived.Test.YtpjmdjddgnaddaaAlg
namespace Go.Proofs.Ytpjmdjddgnaddaa
open Go.RowKit Go.Maps

theorem cells4 {w : World} {b : Nat} {a0 a1 a2 a3 : Value} (h : w.rangeAt b 0 [a0, a1, a2, a3]) : w.cell? ⟨b, 0, none⟩ = some a0 ∧ w.cell? ⟨b, 1, none⟩ = some a1 ∧ w.cell? ⟨b, 2, none⟩ = some a2 ∧ w.cell? ⟨b, 3, none⟩ = some a3 :=
  ⟨h 0 _ rfl, h 1 _ rfl, h 2 _ rfl, h 3 _ rfl⟩
theorem tms_of {w : World} {ks : List Tm} {b len cap : Nat} (hl : len = ks.length) (hlc : len ≤ cap) (hc : cap ≤ 9223372036854775807) (h : Tm.AllAt w ks b 0) : Tms w ks (.slice (some ⟨b, 0, none⟩) len cap) :=
  ⟨_, _, _, rfl, hl, hlc, hc, .inr ⟨_, _, rfl, h⟩⟩
theorem HSl.at {w : World} {lo : Nat} {l : List Hdr} {v : Value} (h : HSl w lo l v) : ∃ p len cap, v = .slice p len cap := by
  obtain ⟨p, len, cap, rfl, _⟩ := h
  exact ⟨_, _, _, rfl⟩

set_option maxRecDepth 100000 in
set_option maxHeartbeats 4000000 in
theorem lawStar_any (p : Tm) (v : Value) (x : Hdr) (w : World) (hv : p.Val w v) :
    Calls Try.prog 5 #[v, .agg x.cs] w fun e w' => e = .returned (.bool true) ∧ Ext w w' := by
  have HV := Lib.hid hv
  obtain ⟨pp, len, cap, rfl⟩ := hv.cs
  clear hv
  go_enter Try.func5, Try.ntmps5
  go_wp2_with fail
  have hx0 : Ext w (((w.alloc (.cells #[.int .i8 p.op, .int .i8 p.fld, .int .u64 p.n, .slice pp len cap] 26)).alloc (.cells x.cs 28)).alloc (.cells #[.int .i8 p.op, .int .i8 p.fld, .int .u64 p.n, .slice pp len cap] 26)) := ((Ext.alloc _ _).andAlloc _).andAlloc _
  have hat : Tm.AllAt (((w.alloc (.cells #[.int .i8 p.op, .int .i8 p.fld, .int .u64 p.n, .slice pp len cap] 26)).alloc (.cells x.cs 28)).alloc (.cells #[.int .i8 p.op, .int .i8 p.fld, .int .u64 p.n, .slice pp len cap] 26)) [p] (w.heap.size + 1 + 1) 0 := by
    have := allAt_one (HV.out.later ((Ext.alloc w (.cells #[.int .i8 p.op, .int .i8 p.fld, .int .u64 p.n, .slice pp len cap] 26)).andAlloc (.cells x.cs 28)).later) 26
    rwa [World.size_alloc, World.size_alloc] at this
  have hrp : (((w.alloc (.cells #[.int .i8 p.op, .int .i8 p.fld, .int .u64 p.n, .slice pp len cap] 26)).alloc (.cells x.cs 28)).alloc (.cells #[.int .i8 p.op, .int .i8 p.fld, .int .u64 p.n, .slice pp len cap] 26)).rangeAt w.heap.size 0 [.int .i8 p.op, .int .i8 p.fld, .int .u64 p.n, .slice pp len cap] :=
    World.rangeAt.later ((Ext.alloc _ _).andAlloc _).later (rangeAt_new w #[.int .i8 p.op, .int .i8 p.fld, .int .u64 p.n, .slice pp len cap] 26)
  have hrx : (((w.alloc (.cells #[.int .i8 p.op, .int .i8 p.fld, .int .u64 p.n, .slice pp len cap] 26)).alloc (.cells x.cs 28)).alloc (.cells #[.int .i8 p.op, .int .i8 p.fld, .int .u64 p.n, .slice pp len cap] 26)).rangeAt (w.heap.size + 1) 0 x.cs.toList := World.rangeAt.later (Ext.alloc _ _).later (by
    have := rangeAt_new (w.alloc (.cells #[.int .i8 p.op, .int .i8 p.fld, .int .u64 p.n, .slice pp len cap] 26)) x.cs 28
    rwa [World.size_alloc] at this)
  have hs0 : (((w.alloc (.cells #[.int .i8 p.op, .int .i8 p.fld, .int .u64 p.n, .slice pp len cap] 26)).alloc (.cells x.cs 28)).alloc (.cells #[.int .i8 p.op, .int .i8 p.fld, .int .u64 p.n, .slice pp len cap] 26)).heap.size = w.heap.size + 1 + 1 + 1 := by simp
  generalize (((w.alloc (.cells #[.int .i8 p.op, .int .i8 p.fld, .int .u64 p.n, .slice pp len cap] 26)).alloc (.cells x.cs 28)).alloc (.cells #[.int .i8 p.op, .int .i8 p.fld, .int .u64 p.n, .slice pp len cap] 26)) = wa at *
  have hxb : Ext wa (wa.alloc (.cells #[.int .i8 10, .int .i8 0, .int .u64 0, .slice (some ⟨w.heap.size + 1 + 1, 0, none⟩) 1 1] 26)) := Ext.alloc _ _
  have hsv := (val_mk (op := 10) (f := 0) (n := 0) (by omega) (by omega) (by omega) _ 1 1 rfl (by omega) (by omega) hat)
  have HP := Lib.hid (check_any (starT1 p) _ _ _ _ _ (hsv.later hxb.later))
  have hrs : (wa.alloc (.cells #[.int .i8 10, .int .i8 0, .int .u64 0, .slice (some ⟨w.heap.size + 1 + 1, 0, none⟩) 1 1] 26)).rangeAt (w.heap.size + 1 + 1 + 1) 0 [.int .i8 10, .int .i8 0, .int .u64 0, .slice (some ⟨w.heap.size + 1 + 1, 0, none⟩) 1 1] := by
    have := rangeAt_new wa #[.int .i8 10, .int .i8 0, .int .u64 0, .slice (some ⟨w.heap.size + 1 + 1, 0, none⟩) 1 1] 26
    rwa [hs0] at this
  have HSV := Lib.hid (hsv.later hxb.later)
  have HVb := Lib.hid (HV.out.later (hx0.trans hxb).later)
  have HRP := Lib.hid (World.rangeAt.later hxb.later hrp)
  have HRX := Lib.hid (World.rangeAt.later hxb.later hrx)
  have HRS := Lib.hid hrs
  have HX0 := Lib.hid (hx0.trans hxb)
  clear hx0 hat hrp hrx hs0 hsv hrs hxb
  generalize (wa.alloc (.cells #[.int .i8 10, .int .i8 0, .int .u64 0, .slice (some ⟨w.heap.size + 1 + 1, 0, none⟩) 1 1] 26)) = wb at *
  refine HP.out.mono ?_
  rintro e w1 ⟨rfl, hx1⟩
  by_cases h0 : checkT (starT1 p) = 0
  · rw [h0]
    obtain ⟨p0, p1, p2, p3⟩ := cells4 (World.rangeAt.later hx1.later HRP.out)
    have HR1 := Lib.hid (World.rangeAt.later hx1.later HRX.out)
    have HC1 := Lib.hid (lawOf_any 10 [p] _ x _ (by omega) (tms_of (by rfl) (Nat.le_refl 1) (by omega) (allAt_one (HVb.out.later hx1.later) 26)))
    have HX1 := Lib.hid (HX0.out.trans hx1)
    go_wp2_with (first | (refine wpList_load_H rfl _ rfl (w.heap.size + 1) 0 rfl x (by repeat (first | exact HR1.out | refine World.rangeAt.later (Ext.alloc _ _).later ?_)) ?_))
    refine HC1.out.mono ?_
    rintro e w2 ⟨hx2, hl2, s2, rfl, hown2⟩
    have hx12 : Ext w1 w2 := (Ext.alloc _ _).trans hx2
    have HS2 := Lib.hid (HSl.of_owns hown2)
    obtain ⟨q2, n2, k2, rfl⟩ := HS2.out.at
    have HE2 := Lib.hid (rfl : decide ((ofC (.mk 10 0 0 [p]) x).1 = 0) = decide ((ofC (.mk 10 0 0 [p]) x).1 = 0))
    generalize hb2 : decide ((ofC (.mk 10 0 0 [p]) x).1 = 0) = b2 at *
    clear hown2
    have hxw2 : Ext wb w2 := hx1.trans hx12
    obtain ⟨p0', p1', p2', p3'⟩ := cells4 (World.rangeAt.later hxw2.later HRP.out)
    obtain ⟨t0, t1, t2, t3⟩ := cells4 (World.rangeAt.later hxw2.later HRS.out)
    have hlt2 : w.heap.size < w2.heap.size := World.block_lt_of_cell? w2 _ p0'
    have hlt2' : w.heap.size + 1 + 1 + 1 < w2.heap.size := World.block_lt_of_cell? w2 _ t0
    have HR2 := Lib.hid (World.rangeAt.later hxw2.later HRX.out)
    have hy1 := allAt_one (val_leaf (w := w2) (op := 1) (f := 0) (n := 0) (by omega) (by omega) (by omega)) 26
    have hy2 := val_mk (op := 6) (f := 0) (n := 0) (by omega) (by omega) (by omega) _ 1 1 rfl (by omega) (by omega) hy1
    have hxy : Ext w2 (w2.alloc (.cells #[.int .i8 1, .int .i8 0, .int .u64 0, .slice none 0 0] 26)) := Ext.alloc _ _
    have hy3 := allAt_two ((HVb.out.later hxw2.later).later hxy.later) ((HSV.out.later hxw2.later).later hxy.later) 26
    rw [World.size_alloc] at hy3
    have hy4 := val_mk (op := 9) (f := 0) (n := 0) (by omega) (by omega) (by omega) _ 2 2 rfl (by omega) (by omega) hy3
    have hy5 := allAt_two (hy2.later (Ext.alloc _ _).later) hy4 26
    rw [World.size_alloc, World.size_alloc] at hy5
    have HC2 := Lib.hid (lawOf_any 8 _ _ x _ (by omega) (tms_of (len := 2) rfl (Nat.le_refl 2) (by omega) hy5))
    have HX2 := Lib.hid (HX1.out.trans hx12)
    have HW2 := Lib.hid hxw2
    have HL2 := Lib.hid hl2
    clear hy1 hy2 hxy hy3 hy4 hy5 hx12 hxw2 hx2 hl2 p0 p1 p2 p3
    go_wp2_with (first | (refine wpList_load_H rfl _ rfl (w.heap.size + 1) 0 rfl x (by repeat (first | exact HR2.out | refine World.rangeAt.later (Ext.alloc _ _).later ?_)) ?_))
    refine HC2.out.mono ?_
    rintro e w3 ⟨hx3, hl3, s3, rfl, hown3⟩
    have hx23 : Ext w2 w3 := (((Ext.alloc _ _).andAlloc _).andAlloc _).trans hx3
    have HS3 := Lib.hid (HSl.of_owns hown3)
    obtain ⟨q3, n3, k3, rfl⟩ := HS3.out.at
    have hxw3 : Ext wb w3 := HW2.out.trans hx23
    obtain ⟨r0, r1, r2, r3⟩ := cells4 (World.rangeAt.later hxw3.later HRS.out)
    have HR3 := Lib.hid (World.rangeAt.later hxw3.later HRX.out)
    have HC3 := Lib.hid (lawOf_any 10 [starT1 p] _ x _ (by omega) (tms_of (by rfl) (Nat.le_refl 1) (by omega) (allAt_one (HSV.out.later hxw3.later) 26)))
    have HX3 := Lib.hid (HX2.out.trans hx23)
    have HD3 := Lib.hid hx23
    have HL3 := Lib.hid hl3
    generalize hb3 : decide ((ofC (.mk 8 0 0 [.mk 6 0 0 [.mk 1 0 0 []], .mk 9 0 0 [p, .mk 10 0 0 [p]]]) x).1 = 0) = b3 at *
    clear hl3 hx23 hx3 hxw3 hown3 p0' p1' p2' p3' t0 t1 t2 t3
    have hlt3 : w.heap.size + 1 + 1 + 1 < w3.heap.size := World.block_lt_of_cell? w3 _ r0
    go_wp2_with (first | (refine wpList_load_H rfl _ rfl (w.heap.size + 1) 0 rfl x (by repeat (first | exact HR3.out | refine World.rangeAt.later (Ext.alloc _ _).later ?_)) ?_))
    refine HC3.out.mono ?_
    rintro e w4 ⟨hx4, hl4, s4, rfl, hown4⟩
    have hx34 : Ext w3 w4 := (Ext.alloc _ _).trans hx4
    have HS4 := Lib.hid (HSl.of_owns hown4)
    obtain ⟨q4, n4, k4, rfl⟩ := HS4.out.at
    generalize hb4 : decide ((ofC (.mk 10 0 0 [starT1 p]) x).1 = 0) = b4 at *
    have HA := Lib.hid (alike_any _ _ _ _ b2 b3 _ _ w4 (HS2.out.ext (HD3.out.trans hx34)) (HS3.out.ext hx34) HL2.out)
    rw [show (!b2 || !b3 || decide ((ofC (.mk 10 0 0 [p]) x).2 = (ofC (.mk 8 0 0 [.mk 6 0 0 [.mk 1 0 0 []], .mk 9 0 0 [p, .mk 10 0 0 [p]]]) x).2)) = true from by rw [← hb2, ← hb3]; exact same_of_den (alg_star p x)] at HA
    have HX4 := Lib.hid (HX3.out.trans hx34)
    have HB := Lib.hid (fun w5 (hx5 : Ext w4 w5) => alike_any _ _ _ _ b2 b4 _ _ w5 (HS2.out.ext ((HD3.out.trans hx34).trans hx5)) (HS4.out.ext hx5) HL2.out)
    rw [show (!b2 || !b4 || decide ((ofC (.mk 10 0 0 [p]) x).2 = (ofC (.mk 10 0 0 [starT1 p]) x).2)) = true from by rw [← hb2, ← hb4]; exact same_of_den (alg_star_star p x)] at HB
    clear hb2 hb3 hb4 hl4 hx4 hown4 hx34 r0 r1 r2 r3
    go_wp2_with fail
    refine HA.out.mono ?_
    rintro e w5 ⟨rfl, hx5⟩
    go_wp2_with fail
    refine (HB.out w5 hx5).mono ?_
    rintro e w6 ⟨rfl, hx6⟩
    go_wp2_with fail
    refine (wakes_any w6).mono ?_
    rintro e w7 ⟨rfl, hx7⟩
    go_wp2_with fail
    go_ret
    exact ⟨rfl, ((HX4.out.trans hx5).trans hx6).trans hx7⟩
  · have hd : (checkT (starT1 p) != 0) = true := by simpa using h0
    generalize checkT (starT1 p) = y at *
    clear h0
    go_wp2_with fail
    refine (wakes_any w1).mono ?_
    rintro e w2 ⟨rfl, hx2⟩
    go_wp2_with fail
    go_ret
    exact ⟨rfl, (HX0.out.trans hx1).trans hx2⟩
end Go.Proofs.Ytpjmdjddgnaddaa
