/- header.Width and the reference's Width: a field's width in bits. -/
import Derived.Test.YtehdddilcakmlaaDoorBase
namespace Go.Proofs.YtehdddilcakmlaaDoor
open Go.RowKit

def widthI (f : Int) : Int :=
  if f = 0 then 48 else if f = 1 then 48 else if f = 2 then 16 else if f = 3 then 12 else if f = 4 then 32 else if f = 5 then 32 else
  if f = 6 then 8 else if f = 7 then 16 else if f = 8 then 16 else if f = 9 then 16 else if f = 10 then 16 else 0

def widA : Array Value := #[.int .i64 48, .int .i64 48, .int .i64 16, .int .i64 12, .int .i64 32, .int .i64 32, .int .i64 8, .int .i64 16, .int .i64 16, .int .i64 16, .int .i64 16]
set_option maxHeartbeats 400000 in
theorem widths_any (w : World) : Calls Tryd.prog 55 #[] w fun e w' => e = .returned (.agg widA) ∧ w.alloc (.cells widA 93) = w' := by
  go_enter Tryd.func55, Tryd.ntmps55
  go_wp2
  exact bodyPost_ret (v := .agg widA) (by simp [results, Tryd.results55, go_sem, widA]) rfl ⟨rfl, rfl⟩

theorem wid_i0 (w : World) : (Instr.index 93 (.agg widA) (.int .i8 0)).run Tryd.prog w = .ok (.int .i64 48) w := by kernel_rfl
theorem wid_i1 (w : World) : (Instr.index 93 (.agg widA) (.int .i8 1)).run Tryd.prog w = .ok (.int .i64 48) w := by kernel_rfl
theorem wid_i2 (w : World) : (Instr.index 93 (.agg widA) (.int .i8 2)).run Tryd.prog w = .ok (.int .i64 16) w := by kernel_rfl
theorem wid_i3 (w : World) : (Instr.index 93 (.agg widA) (.int .i8 3)).run Tryd.prog w = .ok (.int .i64 12) w := by kernel_rfl
theorem wid_i4 (w : World) : (Instr.index 93 (.agg widA) (.int .i8 4)).run Tryd.prog w = .ok (.int .i64 32) w := by kernel_rfl
theorem wid_i5 (w : World) : (Instr.index 93 (.agg widA) (.int .i8 5)).run Tryd.prog w = .ok (.int .i64 32) w := by kernel_rfl
theorem wid_i6 (w : World) : (Instr.index 93 (.agg widA) (.int .i8 6)).run Tryd.prog w = .ok (.int .i64 8) w := by kernel_rfl
theorem wid_i7 (w : World) : (Instr.index 93 (.agg widA) (.int .i8 7)).run Tryd.prog w = .ok (.int .i64 16) w := by kernel_rfl
theorem wid_i8 (w : World) : (Instr.index 93 (.agg widA) (.int .i8 8)).run Tryd.prog w = .ok (.int .i64 16) w := by kernel_rfl
theorem wid_i9 (w : World) : (Instr.index 93 (.agg widA) (.int .i8 9)).run Tryd.prog w = .ok (.int .i64 16) w := by kernel_rfl
theorem wid_i10 (w : World) : (Instr.index 93 (.agg widA) (.int .i8 10)).run Tryd.prog w = .ok (.int .i64 16) w := by kernel_rfl
theorem wid_idx (k : Nat) (hk : k < 11) (w : World) : (Instr.index 93 (.agg widA) (.int .i8 k)).run Tryd.prog w = .ok (.int .i64 (widthI k)) w := by
  match k, hk with
  | 0, _ => exact wid_i0 w
  | 1, _ => exact wid_i1 w
  | 2, _ => exact wid_i2 w
  | 3, _ => exact wid_i3 w
  | 4, _ => exact wid_i4 w
  | 5, _ => exact wid_i5 w
  | 6, _ => exact wid_i6 w
  | 7, _ => exact wid_i7 w
  | 8, _ => exact wid_i8 w
  | 9, _ => exact wid_i9 w
  | 10, _ => exact wid_i10 w

set_option maxHeartbeats 400000 in
theorem width_any (f : Int) (hf : -128 ≤ f ∧ f ≤ 127) (w : World) : Calls Tryd.prog 44 #[.int .i8 f] w fun e w' => e = .returned (.int .i64 (widthI f)) ∧ Ext w w' := by
  by_cases h1 : f < 0
  · have HF : Hid (widthI f = 0) := by simp only [Hid, widthI]; repeat rw [if_neg (by omega)]
    go_enter Tryd.func44, Tryd.ntmps44
    go_wp2_with fail
    go_ret
    exact ⟨by rw [HF.out]; rfl, Ext.refl _⟩
  by_cases h2 : 11 ≤ f
  · have HF : Hid (widthI f = 0) := by simp only [Hid, widthI]; repeat rw [if_neg (by omega)]
    go_enter Tryd.func44, Tryd.ntmps44
    go_wp2_with fail
    go_ret
    exact ⟨by rw [HF.out]; rfl, Ext.refl _⟩
  obtain ⟨k, rfl⟩ := Int.eq_ofNat_of_zero_le (Int.not_lt.1 h1)
  have hi := wid_idx k (by omega)
  go_enter Tryd.func44, Tryd.ntmps44
  go_wp2_with fail
  refine (widths_any _).mono ?_
  rintro e w' ⟨rfl, rfl⟩
  go_wp2_with fail
  go_ret
  exact ⟨rfl, Ext.alloc _ _⟩

set_option maxHeartbeats 400000 in
theorem refWidth_any (f : Int) (hf : -128 ≤ f ∧ f ≤ 127) (w : World) : Calls Tryd.prog 47 #[.int .i8 f] w fun e w' => e = .returned (.int .i64 (widthI f)) ∧ w = w' := by
  by_cases h1 : f < 0 ∨ 11 ≤ f
  · have HF : Hid (widthI f = 0) := by simp only [Hid, widthI]; repeat rw [if_neg (by omega)]
    have h0 : (f == 0) = false := by simp; omega
    have h0 : (f == 1) = false := by simp; omega
    have h0 : (f == 2) = false := by simp; omega
    have h0 : (f == 3) = false := by simp; omega
    have h0 : (f == 4) = false := by simp; omega
    have h0 : (f == 5) = false := by simp; omega
    have h0 : (f == 6) = false := by simp; omega
    have h0 : (f == 7) = false := by simp; omega
    have h0 : (f == 8) = false := by simp; omega
    have h0 : (f == 9) = false := by simp; omega
    have h0 : (f == 10) = false := by simp; omega
    clear h1
    go_enter Tryd.func47, Tryd.ntmps47
    go_wp2_with fail
    go_ret
    exact ⟨by rw [HF.out]; rfl, rfl⟩
  obtain ⟨k, rfl⟩ := Int.eq_ofNat_of_zero_le (a := f) (by omega)
  have hk : k < 11 := by omega
  clear h1 hf
  match k, hk with
  | 0, _ | 1, _ | 2, _ | 3, _ | 4, _ | 5, _ | 6, _ | 7, _ | 8, _ | 9, _ | 10, _ =>
    go_enter Tryd.func47, Tryd.ntmps47
    go_wp2_with fail
    go_ret
    exact ⟨rfl, rfl⟩
end Go.Proofs.YtehdddilcakmlaaDoor
