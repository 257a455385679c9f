/- the law's of: what a policy makes of a header, and whether it is told. -/
import Derived.Test.YtpjmdjddgnaddaaTwo
namespace Go.Proofs.Ytpjmdjddgnaddaa
open Go.RowKit Go.Maps

set_option maxHeartbeats 2000000 in
theorem lawOf_any (op : Int) (ks : List Tm) (sv : Value) (x : Hdr) (w : World) (ho : 0 ≤ op ∧ op ≤ 10) (hk : Tms w ks sv) :
    Calls Try.prog 18 #[.agg x.cs, .int .i8 op, sv] w fun e w' => Ext w w' ∧ (ofC (.mk op 0 0 ks) x).2.length ≤ 64 ∧ ∃ s, e = .returned (.tuple #[s, .bool (decide ((ofC (.mk op 0 0 ks) x).1 = 0))]) ∧ w'.ownsRow w.heap.size 28 11 s (ofC (.mk op 0 0 ks) x).2.length (flatH (ofC (.mk op 0 0 ks) x).2) := by
  obtain ⟨p, len, cap, rfl, hl, hlc, hcm, hall⟩ := hk
  have hv : (Tm.mk op 0 0 ks).Val w (.agg #[.int .i8 op, .int .i8 0, .int .u64 0, .slice p len cap]) := ⟨_, rfl, _, rfl, by show -128 ≤ op ∧ op ≤ 127; omega, by show (-128 : Int) ≤ 0 ∧ (0 : Int) ≤ 127; omega, by show (0 : Int) ≤ 0 ∧ (0 : Int) ≤ 18446744073709551615; omega, _, _, _, rfl, hl, hlc, hcm, hall⟩
  have hxa : Ext w (w.alloc (.cells x.cs 28)) := Ext.alloc _ _
  have HX := Lib.hid hxa
  have HR := Lib.hid (rangeAt_new w x.cs 28)
  have HC := Lib.hid (meaningOf_any _ _ x _ (hv.later hxa.later))
  generalize ofC (.mk op 0 0 ks) x = R at *
  clear hv hall hl hlc hcm hxa
  go_enter Try.func18, Try.ntmps18
  go_wp2_with (first | (refine wpList_load_H rfl _ rfl w.heap.size 0 rfl x HR.out ?_))
  refine HC.out.mono ?_
  rintro e w1 ⟨hx, h64, s, rfl, hown⟩
  have HO := Lib.hid (ownsRow_base hown HX.out.size)
  obtain ⟨c, l⟩ := R
  by_cases h0 : c = 0
  · subst h0
    go_wp2_with fail
    go_ret2
    exact ⟨HX.out.trans hx, _, rfl, HO.out⟩
  · have hd : (c == 0) = false := by simpa using h0
    have hd2 : decide (c = 0) = false := by simpa using h0
    go_wp2_with fail
    go_ret2
    exact ⟨HX.out.trans hx, _, rfl, HO.out⟩
end Go.Proofs.Ytpjmdjddgnaddaa
