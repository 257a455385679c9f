/- (*Store).Get. -/
import Derived.Test.YtjjbdbklbghlhaaGreatDoorMD
import Derived.Laws.ResultCell
import Derived.Laws.NewBlocks
import Derived.Laws.OwnMore
import Derived.Test.YtjjbdbklbghlhaaGreatDoorMA
namespace Go.Proofs.YtjjbdbklbghlhaaGreatDoor
open Go.RowKit Go.Sort Go.Maps Go.Lib
set_option linter.unusedSimpArgs false

/-- a node by value -/
def NodeVal (B : Nat → Prop) (w : World) (x : NdD) (v : Value) : Prop := ∃ lv, v = .agg #[.int .i8 x.f, .int .u64 x.n, .int .i64 x.hi, .int .i64 x.lo, lv] ∧ RowsOn B w x.leaf lv
theorem NodeVal.ext {B : Nat → Prop} {w w' : World} {x : NdD} {v : Value} (h : NodeVal B w x v) (hx : Ext w w') : NodeVal B w' x v := by
 obtain ⟨lv, he, hr⟩ := h
 exact ⟨lv, he, hr.ext hx⟩
def zNode : NdD := ⟨0, 0, 0, 0, []⟩
def getP (L : List NdD) (id : Int) : Option NdD := if 0 ≤ id ∧ id < L.length then L[id.toNat]? else none
def GetPostB (B : Nat → Prop) (L : List NdD) (id : Int) (e : Ending) (w' : World) : Prop := ∃ v, e = .returned (.tuple #[v, .bool (getP L id).isSome]) ∧ NodeVal B w' ((getP L id).getD zNode) v
def GetPost (L : List NdD) (id : Int) (e : Ending) (w' : World) : Prop := ∃ v, e = .returned (.tuple #[v, .bool (getP L id).isSome]) ∧ NodeVal AnyB w' ((getP L id).getD zNode) v
theorem thereF {w W : World} {t : TypeId} {cs : Array Value} (hW : Ext (w.alloc (.cells cs t)) W) : W.there w.heap.size 0 cs.size := fun j hj => by
 have h1 : (w.alloc (.cells cs t)).cell? ⟨w.heap.size, 0 + j, none⟩ = some cs[j] := by
  rw [Nat.zero_add, World.cell?_alloc_new]
  simp [hj]
 refine ⟨by rw [hW.later _ _ h1]; rfl, ?_⟩
 rw [Below.frozen hW (World.block_lt_of_cell? _ _ h1)]
 have := World.frozen?_alloc_mark w cs t 0 0 (0 + j)
 rw [this]; simp
theorem nd_one (a b c d : Int) (p : Option Addr) (n c' : Nat) : (#[Value.int .i8 a, .int .u64 b, .int .i64 c, .int .i64 d, .slice p n c']).all (·.oneCell') = true :=
 all_oneCell_toArray (cs := [Value.int .i8 a, .int .u64 b, .int .i64 c, .int .i64 d, .slice p n c']) (by
  intro v hv
  rcases List.mem_cons.1 hv with rfl | hv
  ·rfl
  rcases List.mem_cons.1 hv with rfl | hv
  ·rfl
  rcases List.mem_cons.1 hv with rfl | hv
  ·rfl
  rcases List.mem_cons.1 hv with rfl | hv
  ·rfl
  rcases List.mem_cons.1 hv with rfl | hv
  ·rfl
  cases hv)

set_option maxHeartbeats 8000000 in
set_option maxRecDepth 100000 in
theorem getS_new {F : Nat → Prop} (p : Nat) (L : List NdD) (id : Int) (w : World) (h : St F w p L) (hid : -9223372036854775808 ≤ id ∧ id ≤ 9223372036854775807) :
    Calls Tryz.prog 16 #[.pointer (some ⟨p, 0, none⟩), .int .i64 id] w fun e w' => GetPostB (fun b => w.heap.size + 2 ≤ b) L id e w' ∧ Ext w w' := by
  have HST := Hd h
  obtain ⟨lv, mt, ml, lvs, T, S, hM⟩ := h
  have hvl := hM.leafs.1
  have hmb := hM.inv.2.1
  obtain ⟨q, c, rfl, -⟩ := owns_form hM.own
  obtain ⟨wA, hA⟩ : ∃ W : World, w.alloc (.cells #[.int .i8 0, .int .u64 0, .int .i64 0, .int .i64 0, .slice none 0 0] 42) = W := ⟨_, rfl⟩
  have xA : Ext w wA := hA ▸ Ext.alloc _ _
  have sA : wA.heap.size = w.heap.size + 1 := by rw [← hA, World.size_alloc]
  have HTH := Hd (fun W (hW : Ext wA W) => show W.there w.heap.size 0 5 from thereF (cs := #[.int .i8 0, .int .u64 0, .int .i64 0, .int .i64 0, .slice none 0 0]) (t := 42) (by rw [hA]; exact hW))
  have HXA := Hd xA
  have HEQ := Hd hA
  have c0 := xA.later _ _ hM.c0
  have HINF := Hd (show ∀ a b c d e, (Tryz.prog.info? 42).map (·.size) = some (#[Value.int .i8 a, .int .u64 b, .int .i64 c, .int .i64 d, e]).size from fun a b c d e => by
    show _ = some 5
    kernel_rfl)
  -- the end: the node n is stored into the result's cell
  have HEND := Hd (fun (W : World) (a b c d : Int) (sv : Value) (hW : Ext wA W) => show (∀ k v, [Value.int .i8 a, .int .u64 b, .int .i64 c, .int .i64 d, sv][k]? = some v → (W.setCells w.heap.size 0 [.int .i8 a, .int .u64 b, .int .i64 c, .int .i64 d, sv]).cell? ⟨w.heap.size, k, none⟩ = some v) ∧ Ext w (W.setCells w.heap.size 0 [.int .i8 a, .int .u64 b, .int .i64 c, .int .i64 d, sv]) from by
    refine ⟨fun k v hv => ?_, (HXA.out.trans hW).trans' ?_⟩
    · have := World.rangeAt_setCells_same W w.heap.size 0 [.int .i8 a, .int .u64 b, .int .i64 c, .int .i64 d, sv] (fun j hj => HTH.out W hW j hj) k v hv
      rwa [Nat.zero_add] at this
    · have hk := keep_setCells (w := W) w.heap.size 0 [.int .i8 a, .int .u64 b, .int .i64 c, .int .i64 d, sv]
      exact ⟨hk.os, hk.tape, hk.output, hk.size, fun i hi => hk.block i (Nat.lt_of_lt_of_le hi (HXA.out.trans hW).size) (fun e => by omega)⟩)
  obtain ⟨m, hm⟩ : ∃ m, m = L.length := ⟨_, rfl⟩
  have HMN := Hd hm
  rw [← hm] at c0 hmb
  have HM := Hd hM
  clear xA hA hM hm
  by_cases hin : 0 ≤ id ∧ id < m
  case neg =>
    have HG := Hd (show getP L id = none from by unfold getP; rw [if_neg (by rw [← HMN.out]; exact hin)])
    have hlow : id < 0 ∨ (0 ≤ id ∧ (m : Int) ≤ id) := by omega
    obtain ⟨HK, HXE⟩ := HEND.out wA 0 0 0 0 (.slice none 0 0) (Ext.refl _)
    have HK := Hd HK
    have HXE := Hd HXE
    have hth := HTH.out wA (Ext.refl _)
    have hone : (#[Value.int .i8 0, .int .u64 0, .int .i64 0, .int .i64 0, .slice none 0 0]).all (·.oneCell') = true := nd_one _ _ _ _ _ _ _
    have HO := Hd hone
    have HT5 := Hd hth
    clear hth hone hin
    have hi2 := HINF.out 0 0 0 0 (.slice none 0 0)
    have HI2 := Hd hi2
    clear hi2
    rcases hlow with hlow | ⟨hl1, hl2⟩
    · go_enter Tryz.func16, Tryz.ntmps16
      go_upto_region 1 with fail
      rw [HEQ.out]
      go_wp2_with (first | (refine wpList_store_mid rfl 42 _ _ rfl w.heap.size 0 #[.int .i8 0, .int .u64 0, .int .i64 0, .int .i64 0, .slice none 0 0] rfl rfl HT5.out HI2.out HO.out ?_))
      have k0 := HK.out 0 _ rfl
      have k1 := HK.out 1 _ rfl
      have k2 := HK.out 2 _ rfl
      have k3 := HK.out 3 _ rfl
      have k4 := HK.out 4 _ rfl
      refine bodyPost_ret_by (v := .tuple #[.agg #[.int .i8 0, .int .u64 0, .int .i64 0, .int .i64 0, .slice none 0 0], .bool false]) ?_ rfl ⟨⟨_, by rw [HG.out]; rfl, by rw [HG.out]; exact ⟨_, rfl, RowsOn.nil⟩⟩, HXE.out⟩
      rw [results_cell_tmp rfl]
      generalize wA.setCells w.heap.size 0 _ = wE at *
      go_simp
      try rfl
    · go_enter Tryz.func16, Tryz.ntmps16
      go_upto_region 1 with fail
      rw [HEQ.out]
      go_wp2_with (first | (refine wpList_store_mid rfl 42 _ _ rfl w.heap.size 0 #[.int .i8 0, .int .u64 0, .int .i64 0, .int .i64 0, .slice none 0 0] rfl rfl HT5.out HI2.out HO.out ?_))
      have k0 := HK.out 0 _ rfl
      have k1 := HK.out 1 _ rfl
      have k2 := HK.out 2 _ rfl
      have k3 := HK.out 3 _ rfl
      have k4 := HK.out 4 _ rfl
      refine bodyPost_ret_by (v := .tuple #[.agg #[.int .i8 0, .int .u64 0, .int .i64 0, .int .i64 0, .slice none 0 0], .bool false]) ?_ rfl ⟨⟨_, by rw [HG.out]; rfl, by rw [HG.out]; exact ⟨_, rfl, RowsOn.nil⟩⟩, HXE.out⟩
      rw [results_cell_tmp rfl]
      generalize wA.setCells w.heap.size 0 _ = wE at *
      go_simp
      try rfl
  obtain ⟨k, rfl⟩ : ∃ k : Nat, id = k := ⟨id.toNat, by omega⟩
  have hkm : k < m := by omega
  have hkl : k < L.length := by rw [← HMN.out]; exact hkm
  obtain ⟨x, hx⟩ : ∃ x, x = L[k] := ⟨_, rfl⟩
  have HG := Hd (show getP L k = some x from by unfold getP; rw [if_pos (by rw [← HMN.out]; exact hin), Int.toNat_natCast, List.getElem?_eq_getElem hkl, hx])
  have hxin : x ∈ L := by rw [hx]; exact List.getElem_mem _
  have HIX := Hd (HM.out.inv.2.2 x hxin)
  obtain ⟨g, rfl, hrg⟩ : ∃ g, q = some ⟨g, 0, none⟩ ∧ w.rangeAt g 0 (flatN L lvs) := by
    rcases owns_range HM.out.own with ⟨h0, -⟩ | ⟨g, c, he, -, -, hr⟩
    · omega
    · cases he
      exact ⟨g, rfl, hr⟩
  have rk := nodeCells hvl hrg k hkl
  obtain ⟨xv, hxv⟩ : ∃ xv, xv = lvs[k]'(by omega) := ⟨_, rfl⟩
  have hlf : RowsOn AnyB w x.leaf xv := by
    have := HM.out.leafs.2 k hkl (by omega)
    rw [← hx, ← hxv] at this
    exact this.mono fun _ _ _ => trivial
  rw [← hx, ← hxv] at rk
  have e0 : wA.cell? ⟨g, k * 5, none⟩ = some (.int .i8 x.f) := HXA.out.later _ _ (by simpa using rk 0 _ rfl)
  have e1 : wA.cell? ⟨g, k * 5 + 1, none⟩ = some (.int .u64 x.n) := HXA.out.later _ _ (rk 1 _ rfl)
  have e2 : wA.cell? ⟨g, k * 5 + 2, none⟩ = some (.int .i64 x.hi) := HXA.out.later _ _ (rk 2 _ rfl)
  have e3 : wA.cell? ⟨g, k * 5 + 3, none⟩ = some (.int .i64 x.lo) := HXA.out.later _ _ (rk 3 _ rfl)
  have e4 : wA.cell? ⟨g, k * 5 + 4, none⟩ = some xv := HXA.out.later _ _ (rk 4 _ rfl)
  have HLF := Hd hlf
  obtain ⟨pv, nv, cv, rfl, hnv, hnc, hcc, hlr⟩ := hlf
  obtain ⟨wB, hB⟩ : ∃ W : World, wA.alloc (.cells #[.int .i8 x.f, .int .u64 x.n, .int .i64 x.hi, .int .i64 x.lo, .slice pv nv cv] 42) = W := ⟨_, rfl⟩
  have xB : Ext wA wB := hB ▸ Ext.alloc _ _
  have sB : wB.heap.size = w.heap.size + 2 := by rw [← hB, World.size_alloc, sA]
  have HXB := Hd xB
  have HEB := Hd hB
  have HBC := Hd (fun W (hW : Ext wB W) => show W.cell? ⟨w.heap.size + 1, 0, none⟩ = some (.int .i8 x.f) ∧ W.cell? ⟨w.heap.size + 1, 1, none⟩ = some (.int .u64 x.n) ∧ W.cell? ⟨w.heap.size + 1, 2, none⟩ = some (.int .i64 x.hi) ∧ W.cell? ⟨w.heap.size + 1, 3, none⟩ = some (.int .i64 x.lo) ∧ W.cell? ⟨w.heap.size + 1, 4, none⟩ = some (.slice pv nv cv) ∧ W.frozen? ⟨w.heap.size + 1, 4, none⟩ = false from by
    have b0 : wB.cell? ⟨w.heap.size + 1, 0, none⟩ = some (.int .i8 x.f) := by rw [← hB, ← sA]; simp [go_sem]
    have b1 : wB.cell? ⟨w.heap.size + 1, 1, none⟩ = some (.int .u64 x.n) := by rw [← hB, ← sA]; simp [go_sem]
    have b2 : wB.cell? ⟨w.heap.size + 1, 2, none⟩ = some (.int .i64 x.hi) := by rw [← hB, ← sA]; simp [go_sem]
    have b3 : wB.cell? ⟨w.heap.size + 1, 3, none⟩ = some (.int .i64 x.lo) := by rw [← hB, ← sA]; simp [go_sem]
    have b4 : wB.cell? ⟨w.heap.size + 1, 4, none⟩ = some (.slice pv nv cv) := by rw [← hB, ← sA]; simp [go_sem]
    have bf : wB.frozen? ⟨w.heap.size + 1, 4, none⟩ = false := by rw [← hB, ← sA]; simp [go_sem]
    exact ⟨hW.later _ _ b0, hW.later _ _ b1, hW.later _ _ b2, hW.later _ _ b3, hW.later _ _ b4, by rw [Below.frozen hW (World.block_lt_of_cell? _ _ b4)]; exact bf⟩)
  have hokx := HIX.out.1
  obtain ⟨kk, hkk⟩ : ∃ kk, kk = k := ⟨_, rfl⟩
  have HNV := Hd hnv
  clear rk hrg hx hxv xB hB hlr hxin hkk hnv
  go_enter Tryz.func16, Tryz.ntmps16
  go_upto_region 1 with fail
  rw [HEQ.out]
  have hk1 : ¬ ((k : Int) < 0) := by omega
  have hk2 : ¬ ((m : Int) ≤ k) := by omega
  go_upto_region 4 with (first | (refine wpList_store_new rfl 42 _ _ rfl _ #[.int .i8 x.f, .int .u64 x.n, .int .i64 x.hi, .int .i64 x.lo, .slice pv nv cv] rfl rfl (by kernel_rfl) rfl (by rfl) ?_))
  rw [HEB.out]
  try simp only [Act.put]
  try rw [sA]
  clear e0 e1 e2 e3 e4 c0
  by_cases hf : x.f < 0
  case neg =>
    obtain ⟨b0, b1, b2, b3, b4, -⟩ := HBC.out wB (Ext.refl _)
    obtain ⟨HK, HXE⟩ := HEND.out wB x.f x.n x.hi x.lo (.slice pv nv cv) HXB.out
    have HK := Hd HK
    have HXE := Hd HXE
    have HT5 := Hd (HTH.out wB HXB.out)
    have HI2 := Hd (HINF.out x.f x.n x.hi x.lo (.slice pv nv cv))
    have hlf0 : x.leaf = [] := by
      rcases HIX.out.2 with ⟨l, he, -⟩ | ⟨-, he⟩
      · exfalso
        have : x.f = -1 := by rw [he]
        omega
      · exact he
    have HL0 := Hd hlf0
    have hnv0 : nv = 0 := by rw [HNV.out, hlf0]; rfl
    subst hnv0
    clear hlf0
    go_wp2_with (first | (refine wpList_store_mid rfl 42 _ _ rfl w.heap.size 0 #[.int .i8 x.f, .int .u64 x.n, .int .i64 x.hi, .int .i64 x.lo, .slice pv 0 cv] rfl rfl HT5.out HI2.out (nd_one _ _ _ _ _ _ _) ?_))
    have k0 := HK.out 0 _ rfl
    have k1 := HK.out 1 _ rfl
    have k2 := HK.out 2 _ rfl
    have k3 := HK.out 3 _ rfl
    have k4 := HK.out 4 _ rfl
    refine bodyPost_ret_by (v := .tuple #[.agg #[.int .i8 x.f, .int .u64 x.n, .int .i64 x.hi, .int .i64 x.lo, .slice pv 0 cv], .bool true]) ?_ rfl ⟨⟨_, by rw [HG.out]; rfl, by rw [HG.out]; exact ⟨_, rfl, by show RowsOn _ _ x.leaf _; rw [HL0.out]; exact ⟨pv, 0, cv, rfl, rfl, Nat.zero_le _, hcc, .inl rfl⟩⟩⟩, HXE.out⟩
    rw [results_cell_tmp rfl]
    generalize wB.setCells w.heap.size 0 _ = wE at *
    go_simp
    try rfl
  obtain ⟨l0, hxe, hrp, h64⟩ : ∃ l, x = ⟨-1, 0, 0, 0, x.leaf⟩ ∧ rowsP l = some x.leaf ∧ x.leaf.length ≤ 64 := by
    rcases HIX.out.2 with h | ⟨h, -⟩
    · exact h
    · omega
  have HSH := Hd (rowsP_short hrp)
  have hnv64 : nv ≤ 64 := by rw [HNV.out]; exact h64
  clear hxe hrp h64
  obtain ⟨b0, b1, b2, b3, b4, -⟩ := HBC.out wB (Ext.refl _)
  obtain ⟨i0, hi0, hz0, hz1, hz2⟩ := info_parts (show (Tryz.prog.info? 78).map (fun i => (i.zero, i.size, i.bytes)) = some (some (.slice none 0 0), 1, 24) from by kernel_rfl)
  obtain ⟨gB, hgB⟩ : ∃ gB, gB = wB.heap.size := ⟨_, rfl⟩
  have hgB2 : gB = w.heap.size + 2 := by rw [hgB, sB]
  have HLR := Hd (fun W (hW : Ext w W) i (hi : i < x.leaf.length) => show ∃ b o u, pv = some ⟨b, o, none⟩ ∧ W.cell? ⟨b, o + i, none⟩ = some u ∧ RowOn AnyB W (x.leaf[i]) u from by
    obtain ⟨_, _, _, he, h1, h2, h3, hh⟩ := HLF.out
    cases he
    rcases hh with hh | ⟨b, o, vs, hp, -, -, hvl, hrr, hrow⟩
    · rw [hh] at hi; simp at hi
    · have hi' : i < vs.length := by rw [hvl]; exact hi
      exact ⟨b, o, vs[i], hp, hW.later _ _ (hrr i _ (List.getElem?_eq_getElem hi')), (hrow i hi hi').ext hW⟩)
  go_wp2_with (first | (refine wpList_make_full wB rfl _ _ 40 rfl wB.heap.size 78 i0 _ 1 Tryz.underlying40 hi0 hz0 hz1 .i64 .i64 _ _ nv rfl rfl rfl rfl (by rw [hz2]; omega) (by unfold maxLen; omega) (Nat.le_refl _) ?_; intro wm hown hgm; refine Hid.out ?_))
  refine Hd ?_
  have hxm : Ext wB wm := ⟨hgm.os, hgm.tape, hgm.output, hgm.size, fun i hi => hgm.block i hi (by simp)⟩
  obtain ⟨xs, hxs⟩ : ∃ xs, (madeCells (Value.slice none 0 0).cells (nv * 1)).toList = xs := ⟨_, rfl⟩
  rw [hxs, ← hgB] at hown
  first | rw [← hgB] | rw [← hgB2]
  have HOW := Hd hown
  have HXM := Hd hxm
  obtain ⟨m0, m1, m2, m3, m4, -⟩ := HBC.out wm hxm
  have hgl : gB ≤ w.heap.size + 2 := by omega
  have hgg : w.heap.size + 2 ≤ gB := by omega
  clear hown hgm hxs b0 b1 b2 b3 b4 hi0 hz0 hz1 hz2 hxm hgB hgB2
  go_wp2_with fail
  clear m0 m1 m2 m3 m4
  go_loopw [43] (fun i wr => ∃ (j : Nat) (vs : List Value), j ≤ nv ∧ i = .int .i64 j ∧ Hid (wr.ownsRow gB 78 1 (.slice (some ⟨gB, 0, none⟩) nv nv) nv vs) ∧ Hid (∀ i (h : i < vs.length) (hx : i < x.leaf.length), i < j → RowOn (fun b => w.heap.size + 2 < b) wr (x.leaf[i]) (vs[i])) ∧ Hid (Ext wB wr)) (fun i _ => nv - (intOf i).toNat)
  case atStart => exact ⟨0, xs, Nat.zero_le _, rfl, HOW.out, fun i _ _ h => by omega, HXM.out⟩
  case round =>
    obtain ⟨wn, rfl⟩ : ∃ wn : World, wn = wr := ⟨_, rfl⟩
    obtain ⟨j, vs, hj, rfl, ho, hrs, hxn⟩ := hrel
    have hvsl : vs.length = nv := by have := ho.out.1; rw [this, Nat.mul_one]
    have hszn := hxn.out.size
    by_cases hlt : j < nv
    · have hjl : j < x.leaf.length := by rw [← HNV.out]; exact hlt
      obtain ⟨bb, oo, rv, hpe, hcell, hrow⟩ := HLR.out wn (HXA.out.trans (HXB.out.trans hxn.out)) j hjl
      subst hpe
      have hrl := HSH.out _ (List.getElem_mem hjl)
      obtain ⟨r, hr⟩ : ∃ r, r = x.leaf[j] := ⟨_, rfl⟩
      rw [← hr] at hrow hrl
      have HR := Hd hr
      have HC := Hd (cloneA_any r rv wn hrow (by omega))
      have hokr : ∀ a ∈ r, a.ok := by obtain ⟨_, _, _, _, _, _, _, h, _⟩ := hrow; exact h
      have HOK := Hd hokr
      obtain ⟨pr, cr, rfl, -⟩ := hrow.form
      obtain ⟨rn, hrn⟩ : ∃ rn, rn = r.length := ⟨_, rfl⟩
      have HRN := Hd hrn
      rw [← hrn] at HC hcell
      clear hrow hr hokr hrn
      go_wp2_with fail
      refine HC.out.mono ?_
      rintro e w2 ⟨u, rfl, hou, hx2⟩
      have HU := Hd hou
      have HX2 := Hd (hxn.out.trans hx2)
      have HO2 := Hd (owns_ext ho.out hx2)
      obtain ⟨pu, cu, rfl, hcu1, hcu2⟩ := owns_form hou
      obtain ⟨ov, hov⟩ : ∃ ov, vs[j]? = some ov := ⟨_, List.getElem?_eq_getElem (by omega)⟩
      have cg := HO2.out.cells (g := gB) rfl j ov hov
      rw [Addr.add_mid, Nat.zero_add] at cg
      have fg : w2.frozen? ⟨gB, j, none⟩ = false := by
        rcases HO2.out.2 with ⟨e0, _⟩ | ⟨g', cap', cur, e0, _, hg, _⟩
        · cases e0
        · cases e0; simp [World.frozen?, hg]
      have HST2 := Hd (World.ownsRow.stored HO2.out j (.slice pu rn cu))
      have HRS2 := Hd (show ∀ i (h : i < (vs.set j (.slice pu rn cu)).length) (hx : i < x.leaf.length), i < j + 1 → RowOn (fun b => w.heap.size + 2 < b) (w2.setCell ⟨gB, j, none⟩ (.slice pu rn cu)) (x.leaf[i]) ((vs.set j (.slice pu rn cu))[i]) from fun i h hx hij => by
        have hset : ∀ (rr : RowD) (vv : Value), RowOn (fun b => w.heap.size + 2 < b) w2 rr vv → RowOn (fun b => w.heap.size + 2 < b) (w2.setCell ⟨gB, j, none⟩ (.slice pu rn cu)) rr vv := fun rr vv hh =>
          hh.keep HST2.out.2.size (fun b hb hlt => HST2.out.2.block b hlt (fun e => by injection e with e; omega))
        by_cases he : i = j
        · subst he
          rw [List.getElem_set_self]
          refine hset _ _ ?_
          rw [← HR.out]
          refine ⟨pu, rn, cu, rfl, HRN.out, hcu1, hcu2, HOK.out, ?_⟩
          rcases owns_range HU.out with ⟨h0, -⟩ | ⟨g', c', he', hb', hlt', hr'⟩
          · exact .inl (List.length_eq_zero_iff.1 (by rw [← HRN.out]; exact h0))
          · cases he'
            have h1 : wn.heap.size ≤ g' := hb'
            have h2 := ho.out
            have h3 : gB < wn.heap.size := by
              rcases h2.2 with ⟨e0, _⟩ | ⟨g'', cap', cur, e0, _, hg, _⟩
              · cases e0
              · cases e0; exact (Array.getElem?_eq_some_iff.1 hg).1
            exact .inr ⟨g', 0, rfl, by omega, hlt', hr'⟩
        · rw [List.getElem_set_ne (by omega)]
          have hi : i < vs.length := by simpa using h
          exact hset _ _ ((hrs.out i hi hx (by omega)).ext hx2))
      have HXS := Hd (show Ext wB (w2.setCell ⟨gB, j, none⟩ (.slice pu rn cu)) from HX2.out.andSet (show wB.heap.size ≤ gB by omega) _)
      clear hcell hou hx2 hov ho hrs hxn hcu1
      go_wp2_with fail
      go_roundw
      case rel => exact ⟨j + 1, vs.set j (.slice pu rn cu), by omega, by go_num, HST2.out.1, HRS2.out, HXS.out⟩
      case measure => simp [intOf]; omega
    · have hjn : j = nv := by omega
      subst hjn
      have HRV := Hd (show RowsOn (fun b => w.heap.size + 2 ≤ b) wn x.leaf (.slice (some ⟨gB, 0, none⟩) j j) from by
        have h1 := ho.out
        have h2 : wn.ownsRow gB 78 1 (.slice (some ⟨gB, 0, none⟩) j j) x.leaf.length vs := by rw [← HNV.out]; exact h1
        exact RowsOn.of_owns h2 ⟨by rw [hvsl, HNV.out], fun i a b => (hrs.out i b a (by omega)).mono fun b _ hb => by omega⟩ (fun b hb => by
          have e : gB = b := by injection hb
          omega))
      obtain ⟨m0, m1, m2, m3, m4, mf⟩ := HBC.out wn hxn.out
      have HMM := Hd (show (wn.setCell ⟨w.heap.size + 1, 4, none⟩ (.slice (some ⟨gB, 0, none⟩) j j)).cell? ⟨w.heap.size + 1, 0, none⟩ = some (.int .i8 x.f) ∧ (wn.setCell ⟨w.heap.size + 1, 4, none⟩ (.slice (some ⟨gB, 0, none⟩) j j)).cell? ⟨w.heap.size + 1, 1, none⟩ = some (.int .u64 x.n) ∧ (wn.setCell ⟨w.heap.size + 1, 4, none⟩ (.slice (some ⟨gB, 0, none⟩) j j)).cell? ⟨w.heap.size + 1, 2, none⟩ = some (.int .i64 x.hi) ∧ (wn.setCell ⟨w.heap.size + 1, 4, none⟩ (.slice (some ⟨gB, 0, none⟩) j j)).cell? ⟨w.heap.size + 1, 3, none⟩ = some (.int .i64 x.lo) ∧ (wn.setCell ⟨w.heap.size + 1, 4, none⟩ (.slice (some ⟨gB, 0, none⟩) j j)).cell? ⟨w.heap.size + 1, 4, none⟩ = some (.slice (some ⟨gB, 0, none⟩) j j) from by
        refine ⟨?_, ?_, ?_, ?_, World.cell?_setCell_same wn ⟨w.heap.size + 1, 4, none⟩ _ m4⟩
        · rw [World.cell?_setCell_other _ _ _ _ (fun e => by injection e with _ e2; omega)]; exact m0
        · rw [World.cell?_setCell_other _ _ _ _ (fun e => by injection e with _ e2; omega)]; exact m1
        · rw [World.cell?_setCell_other _ _ _ _ (fun e => by injection e with _ e2; omega)]; exact m2
        · rw [World.cell?_setCell_other _ _ _ _ (fun e => by injection e with _ e2; omega)]; exact m3)
      have HXS := Hd (show Ext wA (wn.setCell ⟨w.heap.size + 1, 4, none⟩ (.slice (some ⟨gB, 0, none⟩) j j)) from (HXB.out.trans hxn.out).andSet (show wA.heap.size ≤ w.heap.size + 1 by omega) _)
      have hks : Keep (· = w.heap.size + 1) wn (wn.setCell ⟨w.heap.size + 1, 4, none⟩ (.slice (some ⟨gB, 0, none⟩) j j)) := Keep.set (S := (· = w.heap.size + 1)) wn ⟨w.heap.size + 1, 4, none⟩ _ rfl
      have HRV2 := Hd (show RowsOn (fun b => w.heap.size + 2 ≤ b) (wn.setCell ⟨w.heap.size + 1, 4, none⟩ (.slice (some ⟨gB, 0, none⟩) j j)) x.leaf (.slice (some ⟨gB, 0, none⟩) j j) from
        HRV.out.keep hks.size (fun b hb hlt => hks.block b hlt (by omega)))
      clear hks ho hrs
      go_upto_region 12 with fail
      generalize wn.setCell ⟨w.heap.size + 1, 4, none⟩ (.slice (some ⟨gB, 0, none⟩) j j) = wS at *
      clear m0 m1 m2 m3 m4 mf
      obtain ⟨m0, m1, m2, m3, m4⟩ := HMM.out
      obtain ⟨HK, HXE⟩ := HEND.out wS x.f x.n x.hi x.lo (.slice (some ⟨gB, 0, none⟩) j j) HXS.out
      have HK := Hd HK
      have HXE := Hd HXE
      have HT5 := Hd (HTH.out wS HXS.out)
      have HI2 := Hd (HINF.out x.f x.n x.hi x.lo (.slice (some ⟨gB, 0, none⟩) j j))
      have hks2 := keep_setCells (w := wS) w.heap.size 0 [.int .i8 x.f, .int .u64 x.n, .int .i64 x.hi, .int .i64 x.lo, .slice (some ⟨gB, 0, none⟩) j j]
      have HRV3 := Hd (show RowsOn (fun b => w.heap.size + 2 ≤ b) (wS.setCells w.heap.size 0 [.int .i8 x.f, .int .u64 x.n, .int .i64 x.hi, .int .i64 x.lo, .slice (some ⟨gB, 0, none⟩) j j]) x.leaf (.slice (some ⟨gB, 0, none⟩) j j) from
        HRV2.out.keep hks2.size (fun b hb hlt => hks2.block b hlt (by omega)))
      clear hks2
      go_wp2_with (first | (refine wpList_store_mid rfl 42 _ _ rfl w.heap.size 0 #[.int .i8 x.f, .int .u64 x.n, .int .i64 x.hi, .int .i64 x.lo, .slice (some ⟨gB, 0, none⟩) j j] rfl rfl HT5.out HI2.out (nd_one _ _ _ _ _ _ _) ?_))
      have k0 := HK.out 0 _ rfl
      have k1 := HK.out 1 _ rfl
      have k2 := HK.out 2 _ rfl
      have k3 := HK.out 3 _ rfl
      have k4 := HK.out 4 _ rfl
      refine bodyPost_ret_by (v := .tuple #[.agg #[.int .i8 x.f, .int .u64 x.n, .int .i64 x.hi, .int .i64 x.lo, .slice (some ⟨gB, 0, none⟩) j j], .bool true]) ?_ rfl ⟨⟨_, by rw [HG.out]; rfl, by rw [HG.out]; exact ⟨_, rfl, HRV3.out⟩⟩, HXE.out⟩
      rw [results_cell_tmp rfl]
      generalize wS.setCells w.heap.size 0 _ = wE at *
      go_simp
      try rfl
theorem getS_any {F : Nat → Prop} (p : Nat) (L : List NdD) (id : Int) (w : World) (h : St F w p L) (hid : -9223372036854775808 ≤ id ∧ id ≤ 9223372036854775807) :
  Calls Tryz.prog 16 #[.pointer (some ⟨p, 0, none⟩), .int .i64 id] w fun e w' => GetPost L id e w' ∧ Ext w w' := by
 refine (getS_new p L id w h hid).mono ?_
 rintro e w' ⟨⟨v, rfl, lv, rfl, hl⟩, hx⟩
 exact ⟨⟨_, rfl, lv, rfl, hl.mono fun _ _ _ => trivial⟩, hx⟩
end Go.Proofs.YtjjbdbklbghlhaaGreatDoor
/- law 20's alike. -/
namespace Go.Proofs.YtjjbdbklbghlhaaGreatDoor
open Go.RowKit Go.Sort Go.Maps Go.Lib
set_option linter.unusedSimpArgs false

theorem rowAt {B : Nat → Prop} {w : World} {r : RowD} {p : Option Addr} {len cap : Nat} (h : RowOn B w r (.slice p len cap)) : ∀ W, Ext w W → ∀ i (hi : i < r.length), ∃ b o, p = some ⟨b, o, none⟩ ∧ W.cell? ⟨b, o + i * 3, none⟩ = some (.int .i8 (r[i]).d) ∧ W.cell? ⟨b, o + i * 3 + 1, none⟩ = some (.int .i8 (r[i]).f) ∧ W.cell? ⟨b, o + i * 3 + 2, none⟩ = some (.int .u64 (r[i]).n) := by
 obtain ⟨_, _, _, he, h1, h2, h3, h4, hh⟩ := h
 cases he
 intro W hW i hi
 rcases hh with hh | ⟨b, o, hp, -, -, hr⟩
 ·rw [hh] at hi; simp at hi
 ·exact ⟨b, o, hp, acAt (World.rangeAt.later hW.later hr) i hi⟩

end Go.Proofs.YtjjbdbklbghlhaaGreatDoor
/- law 20's great. -/
namespace Go.Proofs.YtjjbdbklbghlhaaGreatDoor
open Go.RowKit Go.Sort Go.Maps Go.Lib
set_option linter.unusedSimpArgs false

end Go.Proofs.YtjjbdbklbghlhaaGreatDoor
/- The store that is not there. -/
namespace Go.Proofs.YtjjbdbklbghlhaaGreatDoor
open Go.RowKit Go.Sort Go.Maps Go.Lib
set_option linter.unusedSimpArgs false

end Go.Proofs.YtjjbdbklbghlhaaGreatDoor
