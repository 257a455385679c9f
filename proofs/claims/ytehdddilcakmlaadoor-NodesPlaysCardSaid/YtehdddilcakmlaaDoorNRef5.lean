/- The document's store: Leaf, Get, Test (law 20). -/
import Derived.Test.YtehdddilcakmlaaDoorNRef4
import Derived.Test.YtehdddilcakmlaaDoorNOnceP
namespace Go.Proofs.YtehdddilcakmlaaDoor
open Go.RowKit Go.Sort Go.Maps Go.Lib
set_option linter.unusedSimpArgs false

theorem RfS.frame {B : Nat → Prop} {lo : Nat} {w : World} {g : Nat} {L : List NdD} {rv : Value} {rvs : List Value} (h : RfS B lo w g L rv rvs) : ∀ b, w.heap.size ≤ b → b ≠ g ∧ rv.ownBlock ≠ some b := fun b hb => by
  have hg : g < w.heap.size := World.block_lt_of_cell? w _ h.c
  refine ⟨by omega, fun e => ?_⟩
  have := (owns_lt h.o b e).2
  omega
set_option maxHeartbeats 8000000 in
set_option maxRecDepth 100000 in
theorem refLeaf_any {B D : Nat → Prop} {lo : Nat} (g : Nat) (L : List NdD) (rv : Value) (rvs : List Value) (l : List RowD) (v : Value) (w : World) (h : RfS B lo w g L rv rvs) (hlo : lo ≤ w.heap.size) (hL : InvL L) (hv : RowsOn D w l v) (hl : l.length ≤ 10000) (hrl : ∀ r ∈ l, r.length ≤ 10000) :
    Calls Tryd.prog 12 #[.pointer (some ⟨g, 0, none⟩), v] w (PutR B (fun _ => False) lo w g rv (leafP L l)) := by
  have HS := Lib.hid h
  have HIL := Lib.hid hL
  have HRW := Lib.hid (refRows_any l v w hv hl hrl)
  have HLE := Lib.hid (show leafP L l = (match rowsP l with
    | none => ((0, 2), L)
    | some r => if 64 < r.length then ((0, 200), L) else putN L ⟨-1, 0, 0, 0, r⟩) from rfl)
  generalize leafP L l = R at *
  clear h hL hv hl hrl
  go_enter Tryd.func12, Tryd.ntmps12
  go_wp2_with fail
  refine HRW.out.mono ?_
  rintro e w1 ⟨hx1, hp⟩
  have HX1 := Lib.hid hx1
  cases hR : rowsP l with
  | none =>
    rw [hR] at hp
    obtain ⟨u, rfl⟩ := hp
    have HF := Lib.hid (show R = ((0, 2), L) from by rw [HLE.out, hR])
    clear hR
    go_wp2_with fail
    go_ret2
    exact PutR.same HS.out HX1.out HF.out
  | some m =>
    rw [hR] at hp
    obtain ⟨u, rfl, hu⟩ := hp
    have HU := Lib.hid hu
    have HRS := Lib.hid hR
    have HLE2 := Lib.hid (show R = (if 64 < m.length then ((0, 200), L) else putN L ⟨-1, 0, 0, 0, m⟩) from by rw [HLE.out, hR])
    obtain ⟨pu, lu, cu, rfl, hlu, -⟩ := hu
    have HLU := Lib.hid hlu
    clear hR hx1 hlu
    by_cases h64 : 64 < lu
    · have HF := Lib.hid (show R = ((0, 200), L) from by rw [HLE2.out, if_pos (by rw [← HLU.out]; exact h64)])
      go_wp2_with fail
      go_ret2
      exact PutR.same HS.out HX1.out HF.out
    · have HPT := Lib.hid (refPut_any g L rv rvs ⟨-1, 0, 0, 0, m⟩ (.slice pu lu cu) w1 (HS.out.ext HX1.out) (Nat.le_trans hlo HX1.out.size) HIL.out (fun b hb => HS.out.frame b hb) HU.out (rowsP_ok HRS.out))
      have HF := Lib.hid (show R = putN L ⟨-1, 0, 0, 0, m⟩ from by rw [HLE2.out, if_neg (by rw [← HLU.out]; exact h64)])
      rw [← HF.out] at HPT
      go_wp2_with fail
      refine HPT.out.mono ?_
      intro e w2 hp
      have HP := Lib.hid hp
      obtain ⟨rfl, -⟩ := hp
      go_wp2_with fail
      go_ret2
      exact HP.out.from HX1.out fun b hb => hb

set_option maxHeartbeats 8000000 in
set_option maxRecDepth 100000 in
theorem refGet_any {B : Nat → Prop} {lo : Nat} (g : Nat) (L : List NdD) (rv : Value) (rvs : List Value) (id : Int) (w : World) (h : RfS B lo w g L rv rvs) (hL : InvL L) (hid : -9223372036854775808 ≤ id ∧ id ≤ 9223372036854775807) :
    Calls Tryd.prog 16 #[.pointer (some ⟨g, 0, none⟩), .int .i64 id] w fun e w' => GetPost L id e w' ∧ Ext w w' := by
  have HS := Lib.hid h
  have hmb := hL.2.1
  obtain ⟨q, c, rfl, -⟩ := owns_form h.o
  obtain ⟨wA, hA⟩ : ∃ W : World, w.alloc (.cells #[.int .i8 0, .int .u64 0, .int .i64 0, .int .i64 0, .slice none 0 0] 41) = W := ⟨_, rfl⟩
  have xA : Ext w wA := hA ▸ Ext.alloc _ _
  have HTH := Lib.hid (fun W (hW : Ext wA W) => show W.there w.heap.size 0 5 from thereF (cs := #[.int .i8 0, .int .u64 0, .int .i64 0, .int .i64 0, .slice none 0 0]) (t := 41) (by rw [hA]; exact hW))
  have HXA := Lib.hid xA
  have HEQ := Lib.hid hA
  have c0 := xA.later _ _ h.c
  have HINF := Lib.hid (show ∀ a b c d e, (Tryd.prog.info? 41).map (·.size) = some (#[Value.int .i8 a, .int .u64 b, .int .i64 c, .int .i64 d, e]).size from fun a b c d e => by
    show _ = some 5
    kernel_rfl)
  have HEND := Lib.hid (fun (W : World) (a b c d : Int) (sv : Value) (hW : Ext wA W) => show (∀ k v, [Value.int .i8 a, .int .u64 b, .int .i64 c, .int .i64 d, sv][k]? = some v → (W.setCells w.heap.size 0 [.int .i8 a, .int .u64 b, .int .i64 c, .int .i64 d, sv]).cell? ⟨w.heap.size, k, none⟩ = some v) ∧ Ext w (W.setCells w.heap.size 0 [.int .i8 a, .int .u64 b, .int .i64 c, .int .i64 d, sv]) from by
    refine ⟨fun k v hv => ?_, (HXA.out.trans hW).trans' ?_⟩
    · have := World.rangeAt_setCells_same W w.heap.size 0 [.int .i8 a, .int .u64 b, .int .i64 c, .int .i64 d, sv] (fun j hj => HTH.out W hW j hj) k v hv
      rwa [Nat.zero_add] at this
    · have hk := keep_setCells (w := W) w.heap.size 0 [.int .i8 a, .int .u64 b, .int .i64 c, .int .i64 d, sv]
      exact ⟨hk.os, hk.tape, hk.output, hk.size, fun i hi => hk.block i (Nat.lt_of_lt_of_le hi (HXA.out.trans hW).size) (fun e => by omega)⟩)
  obtain ⟨m, hm⟩ : ∃ m, m = L.length := ⟨_, rfl⟩
  have HMN := Lib.hid hm
  rw [← hm] at c0 hmb
  clear xA hA h hm
  by_cases hin : 0 ≤ id ∧ id < m
  case neg =>
    have HG := Lib.hid (show getP L id = none from by unfold getP; rw [if_neg (by rw [← HMN.out]; exact hin)])
    have hlow : id < 0 ∨ (0 ≤ id ∧ (m : Int) ≤ id) := by omega
    obtain ⟨HK, HXE⟩ := HEND.out wA 0 0 0 0 (.slice none 0 0) (Ext.refl _)
    have HK := Lib.hid HK
    have HXE := Lib.hid HXE
    have HO := Lib.hid (show (#[Value.int .i8 0, .int .u64 0, .int .i64 0, .int .i64 0, .slice none 0 0]).all (·.oneCell') = true from nd_one _ _ _ _ _ _ _)
    have HT5 := Lib.hid (HTH.out wA (Ext.refl _))
    have HI2 := Lib.hid (HINF.out 0 0 0 0 (.slice none 0 0))
    clear hin
    rcases hlow with hlow | ⟨hl1, hl2⟩
    · go_enter Tryd.func16, Tryd.ntmps16
      go_upto_region 1 with fail
      rw [HEQ.out]
      go_wp2_with (first | (refine wpList_store_mid rfl 41 _ _ rfl w.heap.size 0 #[.int .i8 0, .int .u64 0, .int .i64 0, .int .i64 0, .slice none 0 0] rfl rfl HT5.out HI2.out HO.out ?_))
      have k0 := HK.out 0 _ rfl
      have k1 := HK.out 1 _ rfl
      have k2 := HK.out 2 _ rfl
      have k3 := HK.out 3 _ rfl
      have k4 := HK.out 4 _ rfl
      refine bodyPost_ret_by (v := .tuple #[.agg #[.int .i8 0, .int .u64 0, .int .i64 0, .int .i64 0, .slice none 0 0], .bool false]) ?_ rfl ⟨⟨_, by rw [HG.out]; rfl, by rw [HG.out]; exact ⟨_, rfl, RowsOn.nil⟩⟩, HXE.out⟩
      rw [results_cell_tmp rfl]
      generalize wA.setCells w.heap.size 0 _ = wE at *
      go_simp
      try rfl
    · go_enter Tryd.func16, Tryd.ntmps16
      go_upto_region 1 with fail
      rw [HEQ.out]
      go_wp2_with (first | (refine wpList_store_mid rfl 41 _ _ rfl w.heap.size 0 #[.int .i8 0, .int .u64 0, .int .i64 0, .int .i64 0, .slice none 0 0] rfl rfl HT5.out HI2.out HO.out ?_))
      have k0 := HK.out 0 _ rfl
      have k1 := HK.out 1 _ rfl
      have k2 := HK.out 2 _ rfl
      have k3 := HK.out 3 _ rfl
      have k4 := HK.out 4 _ rfl
      refine bodyPost_ret_by (v := .tuple #[.agg #[.int .i8 0, .int .u64 0, .int .i64 0, .int .i64 0, .slice none 0 0], .bool false]) ?_ rfl ⟨⟨_, by rw [HG.out]; rfl, by rw [HG.out]; exact ⟨_, rfl, RowsOn.nil⟩⟩, HXE.out⟩
      rw [results_cell_tmp rfl]
      generalize wA.setCells w.heap.size 0 _ = wE at *
      go_simp
      try rfl
  obtain ⟨k, rfl⟩ : ∃ k : Nat, id = k := ⟨id.toNat, by omega⟩
  have hkm : k < m := by omega
  have hkl : k < L.length := by rw [← HMN.out]; exact hkm
  obtain ⟨x, hx⟩ : ∃ x, x = L[k] := ⟨_, rfl⟩
  have HG := Lib.hid (show getP L k = some x from by unfold getP; rw [if_pos (by rw [← HMN.out]; exact hin), Int.toNat_natCast, List.getElem?_eq_getElem hkl, hx])
  obtain ⟨g', rfl, hrg⟩ : ∃ g, q = some ⟨g, 0, none⟩ ∧ w.rangeAt g 0 (flatN L rvs) := by
    rcases owns_range HS.out.o with ⟨h0, -⟩ | ⟨g, c, he, -, -, hr⟩
    · omega
    · cases he
      exact ⟨g, rfl, hr⟩
  have rk := nodeCells HS.out.v.1 hrg k hkl
  obtain ⟨xv, hxv⟩ : ∃ xv, xv = rvs[k]'(by rw [HS.out.v.1]; exact hkl) := ⟨_, rfl⟩
  have hlf : RowsOn AnyB w x.leaf xv := by
    have := HS.out.v.2 k hkl (by rw [HS.out.v.1]; exact hkl)
    rw [← hx, ← hxv] at this
    exact this.mono fun _ _ _ => trivial
  rw [← hx, ← hxv] at rk
  have e0 : wA.cell? ⟨g', k * 5, none⟩ = some (.int .i8 x.f) := HXA.out.later _ _ (by simpa using rk 0 _ rfl)
  have e1 : wA.cell? ⟨g', k * 5 + 1, none⟩ = some (.int .u64 x.n) := HXA.out.later _ _ (rk 1 _ rfl)
  have e2 : wA.cell? ⟨g', k * 5 + 2, none⟩ = some (.int .i64 x.hi) := HXA.out.later _ _ (rk 2 _ rfl)
  have e3 : wA.cell? ⟨g', k * 5 + 3, none⟩ = some (.int .i64 x.lo) := HXA.out.later _ _ (rk 3 _ rfl)
  have e4 : wA.cell? ⟨g', k * 5 + 4, none⟩ = some xv := HXA.out.later _ _ (rk 4 _ rfl)
  have HLF := Lib.hid hlf
  obtain ⟨pv, nv, cv, rfl, -⟩ := hlf
  obtain ⟨HK, HXE⟩ := HEND.out wA x.f x.n x.hi x.lo (.slice pv nv cv) (Ext.refl _)
  have HK := Lib.hid HK
  have HXE := Lib.hid HXE
  have HT5 := Lib.hid (HTH.out wA (Ext.refl _))
  have HI2 := Lib.hid (HINF.out x.f x.n x.hi x.lo (.slice pv nv cv))
  have HRV := Lib.hid (HLF.out.ext HXE.out)
  clear hx hxv rk hin hrg
  go_enter Tryd.func16, Tryd.ntmps16
  go_upto_region 1 with fail
  rw [HEQ.out]
  go_wp2_with (first | (refine wpList_store_mid rfl 41 _ _ rfl w.heap.size 0 #[.int .i8 x.f, .int .u64 x.n, .int .i64 x.hi, .int .i64 x.lo, .slice pv nv cv] rfl rfl HT5.out HI2.out (nd_one _ _ _ _ _ _ _) ?_))
  have k0 := HK.out 0 _ rfl
  have k1 := HK.out 1 _ rfl
  have k2 := HK.out 2 _ rfl
  have k3 := HK.out 3 _ rfl
  have k4 := HK.out 4 _ rfl
  refine bodyPost_ret_by (v := .tuple #[.agg #[.int .i8 x.f, .int .u64 x.n, .int .i64 x.hi, .int .i64 x.lo, .slice pv nv cv], .bool true]) ?_ rfl ⟨⟨_, by rw [HG.out]; rfl, by rw [HG.out]; exact ⟨_, rfl, by show RowsOn AnyB _ x.leaf _; exact HRV.out⟩⟩, HXE.out⟩
  rw [results_cell_tmp rfl]
  generalize wA.setCells w.heap.size 0 _ = wE at *
  go_simp
  try rfl
end Go.Proofs.YtehdddilcakmlaaDoor
