/- MeaningAlgebra's question: do two policies make the same of the header? -/
import Derived.Test.YtpjmdjddgnaddaaLawOf
import Derived.Test.YtpjmdjddgnaddaaWakes
import Derived.Test.YtpjmdjddgnaddaaAlg
import Derived.Test.YtpjmdjddgnaddaaLStar
namespace Go.Proofs.Ytpjmdjddgnaddaa
open Go.RowKit Go.Maps

set_option maxRecDepth 100000 in
set_option maxHeartbeats 4000000 in
theorem is_law (ta tb : Tm) (va vb : Value) (x : Hdr) (hb : Nat) (w : World) (ha : ta.Val w va) (hb' : tb.Val w vb) (hx : w.rangeAt hb 0 x.cs.toList) (hden : ∀ y, ta.den x y ↔ tb.den x y) :
    Calls Try.prog 16 #[va, vb, .pointer (some ⟨hb, 0, none⟩)] w fun e w' => e = .returned (.bool true) ∧ Ext w w' := by
  obtain ⟨pa, la, ka, rfl⟩ := ha.cs
  obtain ⟨pb, lb, kb, rfl⟩ := hb'.cs
  have HC1 := Lib.hid (fun W (hW : Ext w W) => meaningOf_any ta _ x W (ha.later hW.later))
  have HC2 := Lib.hid (fun W (hW : Ext w W) => meaningOf_any tb _ x W (hb'.later hW.later))
  have HRX := Lib.hid (fun W (hW : Ext w W) => World.rangeAt.later hW.later hx)
  have HT := Lib.hid (same_of_den hden)
  generalize ofC ta x = R1 at *
  generalize ofC tb x = R2 at *
  obtain ⟨c1, l1⟩ := R1
  obtain ⟨c2, l2⟩ := R2
  clear ha hb' hx hden
  go_enter Try.func16, Try.ntmps16
  go_wp2_with (first | (refine wpList_load_H rfl _ rfl hb 0 rfl x (HRX.out _ (by repeat (first | assumption | exact Ext.refl _ | refine Ext.andAlloc ?_ _))) ?_))
  refine (HC1.out _ ((Ext.alloc _ _).andAlloc _)).mono ?_
  rintro e w1 ⟨hx1, h641, s1, rfl, hown1⟩
  have hbx := rangeAt_new (w.alloc (.cells #[.int .i8 ta.op, .int .i8 ta.fld, .int .u64 ta.n, .slice pa la ka] 26)) #[.int .i8 tb.op, .int .i8 tb.fld, .int .u64 tb.n, .slice pb lb kb] 26
  rw [World.size_alloc] at hbx
  obtain ⟨b0, b1, b2, b3⟩ := cells4 (World.rangeAt.later hx1.later hbx)
  have hw1 : Ext w w1 := ((Ext.alloc _ _).andAlloc _).trans hx1
  have HS1 := Lib.hid (HSl.of_owns hown1)
  obtain ⟨q1, n1, k1, rfl⟩ := HS1.out.at
  clear hx1 hown1 hbx
  go_wp2_with (first | (refine wpList_load_H rfl _ rfl hb 0 rfl x (HRX.out _ (by repeat (first | assumption | exact Ext.refl _ | refine Ext.andAlloc ?_ _))) ?_))
  refine (HC2.out _ hw1).mono ?_
  rintro e w2 ⟨hx2, h642, s2, rfl, hown2⟩
  have HS2 := Lib.hid (HSl.of_owns hown2)
  obtain ⟨q2, n2, k2, rfl⟩ := HS2.out.at
  have HA := Lib.hid (fun (a b : Bool) => alike_any l1 l2 _ _ a b _ _ w2 (HS1.out.ext hx2) HS2.out h641)
  have HX := Lib.hid (hw1.trans hx2)
  clear hx2 hown2 hw1 b0 b1 b2 b3
  have fin : ∀ (a b : Bool), a = decide (c1 = 0) → b = decide (c2 = 0) → (!a || !b || decide (l1 = l2)) = true := fun a b ha hb => by rw [ha, hb]; exact HT.out
  have FIN := Lib.hid fin
  clear fin
  have e1 : (c1 == 0) = decide (c1 = 0) := rfl
  have e2 : (c2 == 0) = decide (c2 = 0) := rfl
  generalize hd1 : decide (c1 = 0) = d1 at *
  generalize hd2 : decide (c2 = 0) = d2 at *
  clear hd1 hd2
  go_wp2_with fail
  refine (HA.out d1 d2).mono ?_
  rintro e w3 ⟨rfl, hx3⟩
  rw [FIN.out d1 d2 rfl rfl]
  go_wp2_with fail
  go_ret
  exact ⟨rfl, HX.out.trans hx3⟩
end Go.Proofs.Ytpjmdjddgnaddaa
