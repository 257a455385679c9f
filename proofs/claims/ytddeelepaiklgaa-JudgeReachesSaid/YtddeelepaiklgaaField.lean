/- policy.field and the reference's fits: whether a field and a number may stand in a term. -/
import Derived.Test.YtddeelepaiklgaaWid
namespace Go.Proofs.Ytddeelepaiklgaa
open Go.RowKit

def fieldK (k : Nat) (op f n : Int) : Bool :=
  if (k : Int) == 0 then false else if n / 2 ^ k != 0 then false else if f == 3 then false else if f == 2 then op == 2 else if f == 6 then op == 2 else if f == 10 then op == 2
  else if f == 9 then (op == 2 || n != 0) else true
def fieldB (op f n : Int) : Bool := fieldK (widthI f).toNat op f n
def fitsK (k : Nat) (n : Int) : Bool := if (k : Int) == 0 then false else n / 2 ^ k == 0
def fitsB (f n : Int) : Bool := fitsK (widthI f).toNat n

theorem widthI_le (f : Int) : ∃ k : Nat, widthI f = k ∧ k ≤ 48 := by
  unfold widthI
  repeat' split
  all_goals first | exact ⟨48, rfl, by omega⟩ | exact ⟨16, rfl, by omega⟩ | exact ⟨12, rfl, by omega⟩ | exact ⟨32, rfl, by omega⟩ | exact ⟨8, rfl, by omega⟩ | exact ⟨0, rfl, by omega⟩

set_option maxHeartbeats 1000000 in
theorem field_any (op f n : Int) (b o : Nat) (w : World) (hf : -128 ≤ f ∧ f ≤ 127) (_hn : 0 ≤ n ∧ n ≤ 18446744073709551615) (c0 : w.cell? ⟨b, o, none⟩ = some (.int .i8 op)) (c1 : w.cell? ⟨b, o + 1, none⟩ = some (.int .i8 f)) (c2 : w.cell? ⟨b, o + 2, none⟩ = some (.int .u64 n)) :
   Calls Try.prog 59 #[.pointer (some ⟨b, o, none⟩)] w fun e w' => e = .returned (.bool (fieldB op f n)) ∧ Ext w w' := by
  have HW := Lib.hid (fun w => width_any f hf w)
  obtain ⟨k, hk, hk2⟩ := widthI_le f
  unfold fieldB
  rw [hk] at HW
  rw [hk, Int.toNat_natCast]
  clear hk
  go_enter Try.func59, Try.ntmps59
  go_wp2_with fail
  refine (HW.out _).mono ?_
  rintro e w1 ⟨rfl, hx⟩
  have d0 := hx.later _ _ c0
  have d1 := hx.later _ _ c1
  have d2 := hx.later _ _ c2
  clear c0 c1 c2
  by_cases hz : (k : Int) = 0
  · have h1 : ((k : Int) == 0) = true := by simpa using hz
    have HF : Hid (fieldK k op f n = false) := by simp only [Hid, fieldK, h1, if_true]
    clear hz
    go_wp2_with fail
    go_ret
    exact ⟨by rw [HF.out]; rfl, hx⟩
  · have h1 : ((k : Int) == 0) = false := by simpa using hz
    clear hz
    go_wp2_with fail
    all_goals (go_ret; refine ⟨?_, hx⟩; simp_all [fieldK])

set_option maxHeartbeats 1000000 in
theorem fits_any (op f n : Int) (s : Value) (w : World) (hf : -128 ≤ f ∧ f ≤ 127) (_hn : 0 ≤ n ∧ n ≤ 18446744073709551615) :
   Calls Try.prog 63 #[.agg #[.int .i8 op, .int .i8 f, .int .u64 n, s]] w fun e w' => e = .returned (.bool (fitsB f n)) ∧ Ext w w' := by
  have HW := Lib.hid (fun w => refWidth_any f hf w)
  obtain ⟨k, hk, hk2⟩ := widthI_le f
  unfold fitsB
  rw [hk] at HW
  rw [hk, Int.toNat_natCast]
  clear hk
  go_enter Try.func63, Try.ntmps63
  go_wp2_with fail
  refine (HW.out _).mono ?_
  rintro e w1 ⟨rfl, rfl⟩
  by_cases hz : (k : Int) = 0
  · have h1 : ((k : Int) == 0) = true := by simpa using hz
    have HF : Hid (fitsK k n = false) := by simp only [Hid, fitsK, h1, if_true]
    have h2 : decide (0 < (k : Int)) = false := by simp; omega
    go_wp2_with fail
    go_ret
    exact ⟨by rw [HF.out]; rfl, Ext.alloc _ _⟩
  · have h1 : ((k : Int) == 0) = false := by simpa using hz
    have h2 : decide (0 < (k : Int)) = true := by simp; omega
    have HF : Hid (fitsK k n = (n / 2 ^ k == 0)) := by simp only [Hid, fitsK, h1]; rfl
    have hk0 : 0 < k := by omega
    clear hz
    go_wp2_with fail
    all_goals (go_ret; exact ⟨by rw [HF.out]; rfl, Ext.alloc _ _⟩)
end Go.Proofs.Ytddeelepaiklgaa
