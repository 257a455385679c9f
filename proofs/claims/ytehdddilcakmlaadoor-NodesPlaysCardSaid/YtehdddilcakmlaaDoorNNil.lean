/- The store that is not there. -/
import Derived.Test.YtehdddilcakmlaaDoorNAlike
namespace Go.Proofs.YtehdddilcakmlaaDoor
open Go.RowKit Go.Sort Go.Maps Go.Lib
set_option linter.unusedSimpArgs false

theorem leafNil_any (q : Option Addr) (n c : Nat) (w : World) :
    Calls Tryd.prog 11 #[.pointer none, .slice q n c] w fun e w' => e = .returned (.tuple #[.int .i64 0, .int .i64 1]) ∧ w = w' := by
  go_enter Tryd.func11, Tryd.ntmps11
  go_wp2_with fail
  go_ret2
  exact ⟨rfl, rfl⟩

theorem testNil_any (f n hi lo : Int) (w : World) :
    Calls Tryd.prog 13 #[.pointer none, .int .i8 f, .int .u64 n, .int .i64 hi, .int .i64 lo] w fun e w' => e = .returned (.tuple #[.int .i64 0, .int .i64 1]) ∧ Ext w w' := by
  obtain ⟨wB, hB⟩ : ∃ W : World, w.alloc (.cells #[.pointer none] 25) = W := ⟨_, rfl⟩
  have HX := Lib.hid (show Ext w wB from hB ▸ Ext.alloc _ _)
  have hs : wB.cell? ⟨w.heap.size, 0, none⟩ = some (.pointer none) := by rw [← hB]; simp [go_sem]
  have HEQ := Lib.hid hB
  clear hB
  go_enter Tryd.func13, Tryd.ntmps13
  go_wp2_with fail
  simp only [HEQ.out]
  go_wp2_with fail
  go_ret2
  exact ⟨rfl, HX.out⟩

theorem lenNil_any (w : World) :
    Calls Tryd.prog 18 #[.pointer none] w fun e w' => e = .returned (.int .i64 0) ∧ w = w' := by
  go_enter Tryd.func18, Tryd.ntmps18
  go_wp2_with fail
  go_ret
  exact ⟨rfl, rfl⟩

theorem getNil_any (id : Int) (w : World) :
    Calls Tryd.prog 15 #[.pointer none, .int .i64 id] w fun e w' => e = .returned (.tuple #[.agg #[.int .i8 0, .int .u64 0, .int .i64 0, .int .i64 0, .slice none 0 0], .bool false]) ∧ Ext w w' := by
  obtain ⟨wA, hA⟩ : ∃ W : World, w.alloc (.cells #[.int .i8 0, .int .u64 0, .int .i64 0, .int .i64 0, .slice none 0 0] 41) = W := ⟨_, rfl⟩
  have xA : Ext w wA := hA ▸ Ext.alloc _ _
  have HTH := Lib.hid (fun W (hW : Ext wA W) => show W.there w.heap.size 0 5 from thereF (cs := #[.int .i8 0, .int .u64 0, .int .i64 0, .int .i64 0, .slice none 0 0]) (t := 41) (by rw [hA]; exact hW))
  have HXA := Lib.hid xA
  have HEQ := Lib.hid hA
  have HINF := Lib.hid (show ∀ a b c d e, (Tryd.prog.info? 41).map (·.size) = some (#[Value.int .i8 a, .int .u64 b, .int .i64 c, .int .i64 d, e]).size from fun a b c d e => by
    show _ = some 5
    kernel_rfl)
  have HEND := Lib.hid (fun (W : World) (a b c d : Int) (sv : Value) (hW : Ext wA W) => show (∀ k v, [Value.int .i8 a, .int .u64 b, .int .i64 c, .int .i64 d, sv][k]? = some v → (W.setCells w.heap.size 0 [.int .i8 a, .int .u64 b, .int .i64 c, .int .i64 d, sv]).cell? ⟨w.heap.size, k, none⟩ = some v) ∧ Ext w (W.setCells w.heap.size 0 [.int .i8 a, .int .u64 b, .int .i64 c, .int .i64 d, sv]) from by
    refine ⟨fun k v hv => ?_, (HXA.out.trans hW).trans' ?_⟩
    · have := World.rangeAt_setCells_same W w.heap.size 0 [.int .i8 a, .int .u64 b, .int .i64 c, .int .i64 d, sv] (fun j hj => HTH.out W hW j hj) k v hv
      rwa [Nat.zero_add] at this
    · have hk := keep_setCells (w := W) w.heap.size 0 [.int .i8 a, .int .u64 b, .int .i64 c, .int .i64 d, sv]
      exact ⟨hk.os, hk.tape, hk.output, hk.size, fun i hi => hk.block i (Nat.lt_of_lt_of_le hi (HXA.out.trans hW).size) (fun e => by omega)⟩)
  clear xA hA
  obtain ⟨HK, HXE⟩ := HEND.out wA 0 0 0 0 (.slice none 0 0) (Ext.refl _)
  have HK := Lib.hid HK
  have HXE := Lib.hid HXE
  have hth := HTH.out wA (Ext.refl _)
  have hone : (#[Value.int .i8 0, .int .u64 0, .int .i64 0, .int .i64 0, .slice none 0 0]).all (·.oneCell') = true := nd_one _ _ _ _ _ _ _
  have HO := Lib.hid hone
  have HT5 := Lib.hid hth
  clear hth hone
  have hi2 := HINF.out 0 0 0 0 (.slice none 0 0)
  have HI2 := Lib.hid hi2
  clear hi2
  go_enter Tryd.func15, Tryd.ntmps15
  go_upto_region 1 with fail
  rw [HEQ.out]
  go_wp2_with (first | (refine wpList_store_mid rfl 41 _ _ rfl w.heap.size 0 #[.int .i8 0, .int .u64 0, .int .i64 0, .int .i64 0, .slice none 0 0] rfl rfl HT5.out HI2.out HO.out ?_))
  have k0 := HK.out 0 _ rfl
  have k1 := HK.out 1 _ rfl
  have k2 := HK.out 2 _ rfl
  have k3 := HK.out 3 _ rfl
  have k4 := HK.out 4 _ rfl
  refine bodyPost_ret_by (v := .tuple #[.agg #[.int .i8 0, .int .u64 0, .int .i64 0, .int .i64 0, .slice none 0 0], .bool false]) ?_ rfl ⟨rfl, HXE.out⟩
  rw [results_cell_tmp rfl]
  generalize wA.setCells w.heap.size 0 _ = wE at *
  go_simp
  try rfl
end Go.Proofs.YtehdddilcakmlaaDoor
