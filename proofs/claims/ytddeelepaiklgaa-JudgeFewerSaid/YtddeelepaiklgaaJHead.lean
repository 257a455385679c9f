/- header.Check. -/
import Derived.Test.YtddeelepaiklgaaJOver
namespace Go.Proofs.Ytddeelepaiklgaa
open Go.RowKit Go.Maps
set_option linter.unusedSimpArgs false

def kindB (k p fa ta sp dp : Int) : Bool :=
  if k = 33024 then false else if k < 1536 then false else if k ≠ 2048 ∧ p ≠ 0 then false else if ¬ (k = 2048 ∨ k = 2054) ∧ ¬ (fa = 0 ∧ ta = 0) then false
  else if ¬ (k = 2048 ∧ (p = 6 ∨ p = 17)) ∧ ¬ (sp = 0 ∧ dp = 0) then false else true
def fitsL (x : Hdr) : List Nat → Bool
  | [] => true
  | i :: is => fitsB i (x.f i) && fitsL x is
def idx11 : List Nat := [0, 1, 2, 3, 4, 5, 6, 7, 8, 9, 10]
def headE (x : Hdr) : Int := if fitsL x idx11 && kindB (x.f 2) (x.f 6) (x.f 4) (x.f 5) (x.f 7) (x.f 8) then 0 else 10

set_option maxHeartbeats 1000000 in
theorem headFits_any (f n : Int) (w : World) (hf : -128 ≤ f ∧ f ≤ 127) (_hn : 0 ≤ n ∧ n ≤ 18446744073709551615) :
   Calls Try.prog 40 #[.int .i8 f, .int .u64 n] w fun e w' => e = .returned (.bool (fitsB f n)) ∧ Ext w w' := by
  have HW := Lib.hid (fun w => width_any f hf w)
  obtain ⟨k, hk, hk2⟩ := widthI_le f
  unfold fitsB
  rw [hk] at HW
  rw [hk, Int.toNat_natCast]
  clear hk
  go_enter Try.func40, Try.ntmps40
  go_wp2_with fail
  refine (HW.out _).mono ?_
  rintro e w1 ⟨rfl, hx⟩
  by_cases hz : (k : Int) = 0
  · have h1 : ((k : Int) == 0) = true := by simpa using hz
    have HF : Hid (fitsK k n = false) := by simp only [Hid, fitsK, h1, if_true]
    have hz2 : ¬ (0 : Int) < k := by omega
    go_wp2_with fail
    go_ret
    exact ⟨by rw [HF.out]; rfl, hx⟩
  · have h1 : ((k : Int) == 0) = false := by simpa using hz
    have hz2 : (0 : Int) < k := by omega
    go_wp2_with fail
    all_goals (go_ret; refine ⟨?_, hx⟩; simp_all [fitsK])

theorem or_zero {a b : Nat} : a ||| b = 0 ↔ a = 0 ∧ b = 0 := by
  constructor
  · intro h
    exact ⟨Nat.le_zero.1 (h ▸ Nat.left_le_or), Nat.le_zero.1 (h ▸ Nat.right_le_or)⟩
  · rintro ⟨rfl, rfl⟩; rfl
theorem u64_or_zero {a b : Int} (ha : 0 ≤ a ∧ a ≤ 18446744073709551615) (hb : 0 ≤ b ∧ b ≤ 18446744073709551615) : ∃ o : Int, bits .or .u64 a b = o ∧ (o = 0 ↔ a = 0 ∧ b = 0) := by
  refine ⟨_, u64_or a b ha.1 (by omega) hb.1 (by omega), ?_⟩
  have := or_zero (a := a.toNat) (b := b.toNat)
  omega

set_option maxRecDepth 100000 in
theorem indexH (x : Hdr) (j : Nat) (hj : j < 11) (w : World) : (Instr.index 24 (.agg x.cs) (.int .i64 j)).run Try.prog w = .ok (.int .u64 (x.f j)) w := by
  rw [Hdr.cs_eq]
  match j, hj with
  | 0, _ => rfl
  | 1, _ => rfl
  | 2, _ => rfl
  | 3, _ => rfl
  | 4, _ => rfl
  | 5, _ => rfl
  | 6, _ => rfl
  | 7, _ => rfl
  | 8, _ => rfl
  | 9, _ => rfl
  | 10, _ => rfl

set_option maxHeartbeats 4000000 in
set_option maxRecDepth 100000 in
theorem head_any (x : Hdr) (w : World) :
    Calls Try.prog 20 #[.agg x.cs] w fun e w' => e = .returned (.int .i64 (headE x)) ∧ Ext w w' := by
  have HFI := Lib.hid (fun (i : Nat) W (hi : i < 11) => headFits_any i (x.f i) W (by omega) (x.f_bd i))
  obtain ⟨wA, hA⟩ : ∃ W : World, w.alloc (.cells x.cs 24) = W := ⟨_, rfl⟩
  have xA : Ext w wA := hA ▸ Ext.alloc _ _
  have rA : wA.rangeAt w.heap.size 0 x.cs.toList := by rw [← hA]; exact rangeAt_new w x.cs 24
  have HR := Lib.hid (fun W (hW : Ext wA W) => World.rangeAt.later hW.later rA)
  have HX := Lib.hid xA
  have HEQ := Lib.hid hA
  have HR0 := Lib.hid rA
  clear hA xA rA
  go_enter Try.func20, Try.ntmps20
  go_upto_region 1 with fail
  rw [HEQ.out]
  clear HEQ
  go_wp2_with (first | (refine wpList_load_H rfl _ rfl _ _ rfl x HR0.out ?_))
  go_loopw [8] (fun i wr => ∃ j : Nat, j ≤ 11 ∧ i = .int .i64 j ∧ Hid (fitsL x (idx11.drop j) = fitsL x idx11) ∧ Hid (Ext wA wr)) (fun i _ => 11 - (intOf i).toNat)
  case atStart => exact ⟨0, by omega, rfl, rfl, Ext.refl _⟩
  case round =>
    obtain ⟨wn, rfl⟩ : ∃ wn : World, wn = wr := ⟨_, rfl⟩
    obtain ⟨j, hj, rfl, hT, hx⟩ := hrel
    by_cases hlt : j < 11
    · have hT2 : (fitsB j (x.f j) && fitsL x (idx11.drop (j + 1))) = fitsL x idx11 := by
        rw [← hT.out]
        have : j = 0 ∨ j = 1 ∨ j = 2 ∨ j = 3 ∨ j = 4 ∨ j = 5 ∨ j = 6 ∨ j = 7 ∨ j = 8 ∨ j = 9 ∨ j = 10 := by omega
        rcases this with rfl | rfl | rfl | rfl | rfl | rfl | rfl | rfl | rfl | rfl | rfl <;> rfl
      have hw8 : IntKind.i8.wrap (j : Int) = j := by
        have : j = 0 ∨ j = 1 ∨ j = 2 ∨ j = 3 ∨ j = 4 ∨ j = 5 ∨ j = 6 ∨ j = 7 ∨ j = 8 ∨ j = 9 ∨ j = 10 := by omega
        rcases this with rfl | rfl | rfl | rfl | rfl | rfl | rfl | rfl | rfl | rfl | rfl <;> rfl
      have hix := indexH x j hlt wn
      have HFj := Lib.hid (HFI.out j wn hlt)
      have HT2 := Lib.hid hT2
      clear hT hT2
      go_wp2_with fail
      refine HFj.out.mono ?_
      rintro e w1 ⟨rfl, hx1⟩
      have HX1 := Lib.hid (hx.out.trans hx1)
      clear hix hw8
      cases hb : fitsB j (x.f j) with
      | true =>
        have HT3 := Lib.hid (show fitsL x (idx11.drop (j + 1)) = fitsL x idx11 from by rw [← HT2.out, hb]; rfl)
        clear hb
        go_wp2_with fail
        go_roundw
        case rel => exact ⟨j + 1, by omega, by go_num, HT3.out, HX1.out⟩
        case measure => simp [intOf]; omega
      | false =>
        have HF := Lib.hid (show headE x = 10 from by unfold headE; rw [← HT2.out, hb]; rfl)
        clear hb
        go_wp2_with fail
        go_ret
        exact ⟨by rw [HF.out]; rfl, HX.out.trans HX1.out⟩
    · have HT := Lib.hid (show fitsL x idx11 = true from by
        rw [← hT.out, List.drop_of_length_le (by simp [idx11]; omega), fitsL])
      have HF := Lib.hid (show headE x = if kindB (x.f 2) (x.f 6) (x.f 4) (x.f 5) (x.f 7) (x.f 8) then 0 else 10 from by unfold headE; rw [HT.out, Bool.true_and])
      have hr := HR.out _ hx.out
      have c2 := cellAt hr 2 (by omega)
      have c4 := cellAt hr 4 (by omega)
      have c5 := cellAt hr 5 (by omega)
      have c6 := cellAt hr 6 (by omega)
      have c7 := cellAt hr 7 (by omega)
      have c8 := cellAt hr 8 (by omega)
      simp only [Nat.zero_add] at c2 c4 c5 c6 c7 c8
      obtain ⟨o1, ho1, ho1z⟩ := u64_or_zero (x.f_bd 4) (x.f_bd 5)
      obtain ⟨o2, ho2, ho2z⟩ := u64_or_zero (x.f_bd 7) (x.f_bd 8)
      have hkb := x.f_bd 2
      have hpb := x.f_bd 6
      generalize x.f 2 = k at *
      generalize x.f 4 = f4 at *
      generalize x.f 5 = f5 at *
      generalize x.f 6 = p at *
      generalize x.f 7 = f7 at *
      generalize x.f 8 = f8 at *
      have HZ1 := Lib.hid ho1z
      have HZ2 := Lib.hid ho2z
      clear hT hr ho1z ho2z
      go_wp2_with fail
      all_goals (try simp only [beq_eq_false_iff_ne, ne_eq, beq_iff_eq, bne_iff_ne, bne_eq_false_iff_eq, Bool.not_eq_true', Bool.not_eq_false'] at *)
      all_goals (have hz1 := HZ1.out; have hz2 := HZ2.out)
      all_goals first
        | (exfalso; omega)
        | (have hv : (if kindB k p f4 f5 f7 f8 then 0 else 10 : Int) = 0 := by
            have : kindB k p f4 f5 f7 f8 = true := by unfold kindB; (repeat' split) <;> first | rfl | (exfalso; omega)
            rw [this]; rfl
           go_ret; exact ⟨by rw [HF.out, hv]; rfl, HX.out.trans hx.out⟩)
        | (have hv : (if kindB k p f4 f5 f7 f8 then 0 else 10 : Int) = 10 := by
            have : kindB k p f4 f5 f7 f8 = false := by unfold kindB; (repeat' split) <;> first | rfl | (exfalso; omega)
            rw [this]; rfl
           go_ret; exact ⟨by rw [HF.out, hv]; rfl, HX.out.trans hx.out⟩)
end Go.Proofs.Ytddeelepaiklgaa
