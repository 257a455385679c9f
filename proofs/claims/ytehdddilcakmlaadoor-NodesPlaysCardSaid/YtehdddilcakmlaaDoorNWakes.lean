/- The wakes of the law of nodes. -/
import Derived.Test.YtehdddilcakmlaaDoorNOwn
namespace Go.Proofs.YtehdddilcakmlaaDoor
open Go.RowKit Go.Sort Go.Maps Go.Lib
set_option linter.unusedSimpArgs false

def wkA : NdD := ⟨-1, 0, 0, 0, []⟩
def wkB : NdD := ⟨-1, 0, 0, 0, [[]]⟩
def wkC : NdD := ⟨5, 9, 1, 0, []⟩
theorem wk_l1 : leafP [] [] = ((0, 0), [wkA]) := by kernel_rfl
theorem wk_l2 : leafP [wkA] [[]] = ((1, 0), [wkA, wkB]) := by kernel_rfl
theorem wk_l3 : leafP [wkA, wkB] [] = ((0, 0), [wkA, wkB]) := by kernel_rfl
theorem wk_t1 : testP [wkA, wkB] 5 9 1 0 = ((2, 0), [wkA, wkB, wkC]) := by kernel_rfl
theorem wk_t2 : testP [wkA, wkB, wkC] 4 1 2 2 = ((2, 0), [wkA, wkB, wkC]) := by kernel_rfl
theorem wk_t3 : testP [wkA, wkB, wkC] 5 11 1 2 = ((0, 2), [wkA, wkB, wkC]) := by kernel_rfl
theorem wk_g : getP [wkA, wkB, wkC] 2 = some wkC := by kernel_rfl

set_option maxHeartbeats 8000000 in
set_option maxRecDepth 100000 in
theorem wakes20_any (w : World) (ht : Tb w) : Calls Tryd.prog 9 #[] w fun e w' => e = .returned (.bool true) ∧ Ext w w' := by
  have HTB := Lib.hid ht
  clear ht
  go_enter Tryd.func9, Tryd.ntmps9
  go_wp2_with fail
  refine (newO w).mono ?_
  rintro e w1 ⟨p, rfl, hd⟩
  have HD1 := Lib.hid hd
  have HL1 := Lib.hid (leafO p [] [] (.slice none 0 0) w1 hd (RowsOn.nil (B := AnyB)) (by simp) (by simp) (HTB.out.ext hd.ex))
  rw [wk_l1] at HL1
  clear hd
  go_wp2_with fail
  refine HL1.out.mono ?_
  rintro e w2 ⟨rfl, hd⟩
  have HD2 := Lib.hid hd
  obtain ⟨w3, h3⟩ : ∃ W : World, w2.alloc (.cells #[.slice none 0 0] 52) = W := ⟨_, rfl⟩
  have x3 : Ext w2 w3 := h3 ▸ Ext.alloc _ _
  have r3 : w3.rangeAt w2.heap.size 0 [.slice none 0 0] := by rw [← h3]; exact rangeAt_new w2 _ _
  have HL2 := Lib.hid (leafO p [wkA] [[]] (.slice (some ⟨w2.heap.size, 0, none⟩) 1 1) w3 (hd.ext x3)
    (show RowsOn AnyB w3 [[]] (.slice (some ⟨w2.heap.size, 0, none⟩) 1 1) from ⟨_, 1, 1, rfl, rfl, Nat.le_refl _, by omega, .inr ⟨w2.heap.size, 0, [.slice none 0 0], rfl, trivial, by rw [← h3, World.size_alloc]; omega, rfl, r3, fun i h1 h2 => by
      have : i = 0 := by simpa using h1
      subst this
      exact RowOn.nil⟩⟩) (by simp) (by simp) (HTB.out.ext (hd.ext x3).ex))
  rw [wk_l2] at HL2
  have HE3 := Lib.hid h3
  clear hd x3 r3 h3
  go_wp2_with fail
  try rw [HE3.out]
  refine HL2.out.mono ?_
  rintro e w4 ⟨rfl, hd⟩
  have HL3 := Lib.hid (leafO p [wkA, wkB] [] (.slice none 0 0) w4 hd (RowsOn.nil (B := AnyB)) (by simp) (by simp) (HTB.out.ext hd.ex))
  rw [wk_l3] at HL3
  clear hd
  go_wp2_with fail
  refine HL3.out.mono ?_
  rintro e w5 ⟨rfl, hd⟩
  have HT1 := Lib.hid (testO p [wkA, wkB] 5 9 1 0 w5 hd (by omega) (by omega) (by omega) (by omega))
  rw [wk_t1] at HT1
  clear hd
  go_wp2_with fail
  refine HT1.out.mono ?_
  rintro e w6 ⟨rfl, hd⟩
  have HT2 := Lib.hid (testO p [wkA, wkB, wkC] 4 1 2 2 w6 hd (by omega) (by omega) (by omega) (by omega))
  rw [wk_t2] at HT2
  clear hd
  go_wp2_with fail
  refine HT2.out.mono ?_
  rintro e w7 ⟨rfl, hd⟩
  have HT3 := Lib.hid (testO p [wkA, wkB, wkC] 5 11 1 2 w7 hd (by omega) (by omega) (by omega) (by omega))
  rw [wk_t3] at HT3
  clear hd
  go_wp2_with fail
  refine HT3.out.mono ?_
  rintro e w8 ⟨rfl, hd⟩
  have HG := Lib.hid (getO p [wkA, wkB, wkC] 2 w8 hd (by omega))
  have HD8 := Lib.hid hd
  clear hd
  go_wp2_with fail
  refine HG.out.mono ?_
  rintro e w9 ⟨⟨v, rfl, hv⟩, hx9⟩
  rw [wk_g] at hv ⊢
  obtain ⟨lv, rfl, hlv⟩ := hv
  obtain ⟨q, n, c, rfl, -, -, -, -⟩ := hlv
  obtain ⟨w10, h10⟩ : ∃ W : World, w9.alloc (.cells #[.int .i8 5, .int .u64 9, .int .i64 1, .int .i64 0, .slice q n c] 41) = W := ⟨_, rfl⟩
  have x10 : Ext w9 w10 := h10 ▸ Ext.alloc _ _
  have HD10 := Lib.hid ((HD8.out.ext hx9).ext x10)
  have HLN := Lib.hid (lenO p [wkA, wkB, wkC] w10 HD10.out)
  have n0 : w10.cell? ⟨w9.heap.size, 0, none⟩ = some (.int .i8 5) := by rw [← h10]; simp [go_sem]
  have n2 : w10.cell? ⟨w9.heap.size, 2, none⟩ = some (.int .i64 1) := by rw [← h10]; simp [go_sem]
  have n3 : w10.cell? ⟨w9.heap.size, 3, none⟩ = some (.int .i64 0) := by rw [← h10]; simp [go_sem]
  have HE10 := Lib.hid h10
  clear hx9 x10 h10
  simp only [wkC, Option.getD_some]
  go_upto_region 9 with fail
  try rw [HE10.out]
  go_wp2_with fail
  refine HLN.out.mono ?_
  rintro e w11 ⟨rfl, rfl⟩
  go_wp2_with fail
  go_ret
  exact ⟨rfl, HD10.out.ex⟩
end Go.Proofs.YtehdddilcakmlaaDoor
