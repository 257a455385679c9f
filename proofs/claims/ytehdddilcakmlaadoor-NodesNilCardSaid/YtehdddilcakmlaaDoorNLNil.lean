/- NodesNil walked. -/
import Derived.Test.YtehdddilcakmlaaDoorNWakes
namespace Go.Proofs.YtehdddilcakmlaaDoor
open Go.RowKit Go.Sort Go.Maps Go.Lib
set_option linter.unusedSimpArgs false

set_option maxHeartbeats 8000000 in
set_option maxRecDepth 100000 in
theorem lawNil_any (q : Option Addr) (m c : Nat) (f n id : Int) (w : World) (hid : -9223372036854775808 ≤ id ∧ id ≤ 9223372036854775807) (ht : Tb w) :
    Calls Tryd.prog 4 #[.slice q m c, .int .i8 f, .int .u64 n, .int .i64 id] w fun e w' => e = .returned (.bool true) ∧ Ext w w' := by
  have HTB := Lib.hid ht
  clear ht
  go_enter Tryd.func4, Tryd.ntmps4
  go_wp2_with fail
  refine (leafNil_any q m c w).mono ?_
  rintro e w1 ⟨rfl, rfl⟩
  go_wp2_with fail
  refine (testNil_any f n id id w).mono ?_
  rintro e w1 ⟨rfl, hx1⟩
  have HX1 := Lib.hid hx1
  clear hx1
  go_wp2_with fail
  refine (getNil_any id w1).mono ?_
  rintro e w2 ⟨rfl, hx2⟩
  obtain ⟨w3, h3⟩ : ∃ W : World, w2.alloc (.cells #[.int .i8 0, .int .u64 0, .int .i64 0, .int .i64 0, .slice none 0 0] 41) = W := ⟨_, rfl⟩
  have x3 : Ext w2 w3 := h3 ▸ Ext.alloc _ _
  have n0 : w3.cell? ⟨w2.heap.size, 0, none⟩ = some (.int .i8 0) := by rw [← h3]; simp [go_sem]
  have n1 : w3.cell? ⟨w2.heap.size, 1, none⟩ = some (.int .u64 0) := by rw [← h3]; simp [go_sem]
  have n2 : w3.cell? ⟨w2.heap.size, 2, none⟩ = some (.int .i64 0) := by rw [← h3]; simp [go_sem]
  have n3 : w3.cell? ⟨w2.heap.size, 3, none⟩ = some (.int .i64 0) := by rw [← h3]; simp [go_sem]
  have n4 : w3.cell? ⟨w2.heap.size, 4, none⟩ = some (.slice none 0 0) := by rw [← h3]; simp [go_sem]
  have HX3 := Lib.hid (HX1.out.trans (hx2.trans x3))
  have HE3 := Lib.hid h3
  clear hx2 x3 h3
  go_upto_region 5 with fail
  try rw [HE3.out]
  go_wp2_with fail
  refine (alike_any (B := AnyB) (C := AnyB) zNode zNode (.agg #[.int .i8 0, .int .u64 0, .int .i64 0, .int .i64 0, .slice none 0 0]) (.agg #[.int .i8 0, .int .u64 0, .int .i64 0, .int .i64 0, .slice none 0 0]) w3 ⟨_, rfl, RowsOn.nil⟩ ⟨_, rfl, RowsOn.nil⟩).mono ?_
  rintro e w4 ⟨rfl, hx4⟩
  have hdd : decide (zNode = zNode) = true := by simp
  rw [hdd]
  have HX4 := Lib.hid (HX3.out.trans hx4)
  clear hx4 hdd
  go_wp2_with fail
  refine (lenNil_any w4).mono ?_
  rintro e w5 ⟨rfl, rfl⟩
  go_wp2_with fail
  refine (wakes20_any w4 (HTB.out.ext HX4.out)).mono ?_
  rintro e w6 ⟨rfl, hx6⟩
  go_wp2_with fail
  go_ret
  exact ⟨rfl, HX4.out.trans hx6⟩
theorem lawNil_row (l : List RowD) (f n id : Int) (v : Value) (w : World) (hv : RowsOn AnyB w l v) (hf : -128 ≤ f ∧ f ≤ 127) (hn : 0 ≤ n ∧ n ≤ 18446744073709551615) (hid : -9223372036854775808 ≤ id ∧ id ≤ 9223372036854775807) (ht : Tb w) :
    Calls Tryd.prog 4 #[v, .int .i8 f, .int .u64 n, .int .i64 id] w fun e w' => e = .returned (.bool true) ∧ Ext w w' := by
  obtain ⟨q, m, c, rfl, -⟩ := hv
  exact lawNil_any q m c f n id w hid ht
end Go.Proofs.YtehdddilcakmlaaDoor
