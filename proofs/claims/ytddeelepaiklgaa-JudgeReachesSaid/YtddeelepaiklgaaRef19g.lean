/- The document's of: sequences, stars, unions. -/
import Derived.Test.YtddeelepaiklgaaRef19e
namespace Go.Proofs.Ytddeelepaiklgaa
open Go.RowKit Go.Maps

theorem RPre.kid {op f n : Int} {ks : List Tm} {v : Value} {wb : Nat} {c : Int} {w0 w : World} (h : RPre (.mk op f n ks) v wb c w0 w) (hra : Tm.rightAll ks false = true) (i : Nat) (hi : i < ks.length) {u : Value} (hu : (ks[i]).Val w0 u) :
    RPre (ks[i]) u wb c w0 w :=
  ⟨Tm.rightAll_get hra i hi, by have := h.size; have := Tm.sz_get i hi; simp only [Tm.sz] at *; omega, hu, h.ext, h.above, h.bd, h.cell, h.fr⟩

set_option maxHeartbeats 4000000 in
set_option maxRecDepth 100000 in
theorem rOf_then (f n : Int) (ks : List Tm) (ih : ∀ i (h : i < ks.length), RAllOf (ks[i])) : ROfOf (.mk 9 f n ks) := by
  intro x v wb c w0 w hpre
  have IH := Lib.hid ih
  have hwb : wb < w.heap.size := World.block_lt_of_cell? w _ hpre.cell
  rcases Tm.right_pol hpre.right with ⟨h, -⟩ | ⟨h, -⟩ | ⟨h, -⟩ | ⟨-, hlen1, hra⟩ <;> try omega
  have HE := Lib.hid (Tm.ofT_then f n ks x c)
  obtain ⟨_, rfl, s, rfl, -, -, -, p, len, cap, rfl, hlen, hlc, hcm, hks⟩ := hpre.val
  simp only [Tm.op, Tm.fld, Tm.n, Tm.kids] at *
  have HL := Lib.hid hlen
  have HRA0 := Lib.hid hra
  have HKS := Lib.hid hks
  obtain ⟨wA, hA⟩ : ∃ W : World, w.alloc (.cells #[.int .i8 9, .int .i8 f, .int .u64 n, .slice p len cap] 31) = W := ⟨_, rfl⟩
  have xA : Ext w wA := hA ▸ Ext.alloc _ _
  have sA : wA.heap.size = w.heap.size + 1 := by rw [← hA, World.size_alloc]
  have rA : wA.rangeAt w.heap.size 0 [.int .i8 9, .int .i8 f, .int .u64 n, .slice p len cap] := by
    have := rangeAt_new w #[.int .i8 9, .int .i8 f, .int .u64 n, .slice p len cap] 31
    rw [hA] at this
    exact this
  obtain ⟨wB, hB⟩ : ∃ W : World, wA.alloc (.cells x.cs 24) = W := ⟨_, rfl⟩
  have xB : Ext wA wB := hB ▸ Ext.alloc _ _
  have sB : wB.heap.size = w.heap.size + 2 := by rw [← hB, World.size_alloc, sA]
  have rB : wB.rangeAt (w.heap.size + 1) 0 x.cs.toList := by
    have := rangeAt_new wA x.cs 24
    rw [hB, sA] at this
    exact this
  obtain ⟨wC, hC⟩ : ∃ W : World, wB.alloc (.cells x.cs 24) = W := ⟨_, rfl⟩
  have xC : Ext wB wC := hC ▸ Ext.alloc _ _
  have sC : wC.heap.size = w.heap.size + 3 := by rw [← hC, World.size_alloc, sB]
  have rC : wC.rangeAt (w.heap.size + 2) 0 x.cs.toList := by
    have := rangeAt_new wB x.cs 24
    rw [hC, sB] at this
    exact this
  have HRA := Lib.hid (fun W (hW : Keep (· = wb) wC W) => hW.range (World.rangeAt.later (xB.trans xC).later rA) (by show ¬ w.heap.size = wb; omega))
  have HRB := Lib.hid rB
  have HP := Lib.hid (hpre.more ((xA.trans xB).trans xC))
  have HX := Lib.hid ((xA.trans xB).trans xC)
  have HS0 := Lib.hid ((HSl.one rC).mono (show w.heap.size ≤ w.heap.size + 2 by omega))
  have HEQ := Lib.hid (show w.alloc (.cells #[.int .i8 9, .int .i8 f, .int .u64 n, .slice p len cap] 31) = wA ∧ wA.alloc (.cells x.cs 24) = wB ∧ wB.alloc (.cells x.cs 24) = wC from ⟨hA, hB, hC⟩)
  have HSB := Lib.hid sB
  have hlo : w.heap.size ≤ wC.heap.size := by omega
  obtain ⟨a0, a1, a2, a3⟩ := cells4' (World.rangeAt.later xB.later rA)
  clear hpre rA xA hA xB rB hB xC rC hC sA sB sC ih hra hlen hks
  go_enter Try.func44, Try.ntmps44
  go_upto_region 1 with fail
  rw [HEQ.out.1, HEQ.out.2.1]
  go_upto_region 19 with (first | (refine wpList_load_H rfl _ rfl (w.heap.size + 1) 0 rfl x HRB.out ?_) | (refine wpList_one_H rfl _ rfl x rfl ?_))
  rw [HEQ.out.2.2]
  try rw [HSB.out]
  clear HEQ a0 a1 a2 a3
  go_wp2_with fail
  go_loopw [8, 9] (fun s i wr => ∃ (j : Nat) (l : List Hdr) (c1 : Int), j ≤ len ∧ i = .int .i64 j ∧ Hid (HSl wr w.heap.size l s) ∧ l.length ≤ 64 ∧ Hid (Tm.thenT (ks.drop j) l c1 = (Tm.mk 9 f n ks).ofT x c) ∧ Hid (RPre (.mk 9 f n ks) (.agg #[.int .i8 9, .int .i8 f, .int .u64 n, .slice p len cap]) wb c1 w0 wr) ∧ Hid (Keep (· = wb) wC wr)) (fun _ i _ => len - (intOf i).toNat)
  case atStart => exact ⟨0, [x], c, Nat.zero_le _, rfl, HS0.out, by simp, HE.out.symm, HP.out, Keep.refl _ _⟩
  case round =>
    obtain ⟨wo, rfl⟩ : ∃ wo : World, wo = wr := ⟨_, rfl⟩
    obtain ⟨j, l, c1, hj, rfl, hs, hl64, hR, hpr, hk⟩ := hrel
    obtain ⟨a0, a1, a2, a3⟩ := cells4' (HRA.out _ hk.out)
    by_cases hlt : j < len
    · have hjl : j < ks.length := by rw [← HL.out]; exact hlt
      rcases HKS.out with hk0 | ⟨b', o', rfl, hall⟩
      · exfalso; subst hk0; simp at hjl
      have HT := Lib.hid ((Tm.AllAt_get hall j hjl).later hpr.out.ext.later)
      have HA := Lib.hid (fun u (hu : (ks[j]).Val w0 u) => IH.out j hjl l u8 u wb c1 w0 wo (hpr.out.kid HRA0.out j hjl hu) (hs.out.mono (show wb + 1 ≤ w.heap.size by omega)) hl64)
      have HT0 := Lib.hid (Tm.AllAt_get hall j hjl)
      have HR' := Lib.hid (show ((allF (fun x c => (ks[j]).ofT x c) l c1).bind fun r => Tm.thenT (ks.drop (j + 1)) r.1 r.2) = (Tm.mk 9 f n ks).ofT x c from by
        have := hR.out
        rw [drop_get hjl] at this
        exact this)
      generalize allF (fun x c => (ks[j]).ofT x c) l c1 = R at *
      generalize ks[j] = k at *
      obtain ⟨csk, hvk, hrk, -⟩ := HT0.out.val
      have HRK := Lib.hid (World.rangeAt.later hpr.out.ext.later hrk)
      obtain ⟨p2, l2, k2, he2⟩ := hvk.cs'
      cases he2
      obtain ⟨d0, d1, d2, d3⟩ := cells4' HRK.out
      have HAk := Lib.hid (HA.out _ hvk)
      clear hR hall HT HT0 HA hvk hrk
      go_wp2_with fail
      refine HAk.out.mono ?_
      rintro e w5 ⟨hk5, v5, rfl, hok5⟩
      have HK5 := Lib.hid (hk.out.trans hk5)
      cases R with
      | none =>
        have hv5 := hok5.none
        subst hv5
        have HF := Lib.hid (show none = (Tm.mk 9 f n ks).ofT x c from HR'.out)
        clear hok5 HR' HAk a0 a1 a2 a3 d0 d1 d2 d3
        go_wp2_with fail
        go_ret2
        exact ⟨(HX.out.keep _).trans HK5.out, .slice none 0 0, by rw [← HF.out]; rfl, by rw [← HF.out]; rfl⟩
      | some a =>
        obtain ⟨xs, c2⟩ := a
        obtain ⟨hs5, hx64, hbd2, hc2, hf2⟩ := hok5
        have HP5 := Lib.hid (hpr.out.later hk5 hbd2 hc2 hf2)
        have HS5 := Lib.hid (hs5.mono (show w.heap.size ≤ wo.heap.size by have := hk.out.size; omega))
        clear hs5 hbd2 hc2 hf2 HAk a0 a1 a2 a3 d0 d1 d2 d3
        go_wp2_with fail
        go_roundw
        case rel => exact ⟨j + 1, xs, c2, by omega, by go_num, HS5.out, hx64, HR'.out, HP5.out, HK5.out⟩
        case measure => simp [intOf]; omega
    · have HF := Lib.hid (show some (l, c1) = (Tm.mk 9 f n ks).ofT x c from by
        have := hR.out
        rw [List.drop_of_length_le (by have := HL.out; omega)] at this
        exact this)
      clear hR
      go_wp2_with fail
      go_ret2
      exact ⟨(HX.out.keep _).trans hk.out, u8, by rw [← HF.out]; rfl, by rw [← HF.out]; exact ⟨hs.out, hl64, hpr.out.bd, hpr.out.cell, hpr.out.fr⟩⟩

set_option maxHeartbeats 4000000 in
set_option maxRecDepth 100000 in
theorem rOf_star (f n : Int) (t : Tm) (ih : RStarOf t) : ROfOf (.mk 10 f n [t]) := by
  intro x v wb c w0 w hpre
  have hwb : wb < w.heap.size := World.block_lt_of_cell? w _ hpre.cell
  rcases Tm.right_pol hpre.right with ⟨h, -⟩ | ⟨h, -⟩ | ⟨-, hlen1, hra⟩ | ⟨h, -⟩ <;> try omega
  have HE := Lib.hid ((Tm.ofT_star f n [t] x c).trans (starT_one t x c))
  obtain ⟨_, rfl, s, rfl, -, -, -, p, len, cap, rfl, hlen, hlc, hcm, hks⟩ := hpre.val
  simp only [Tm.op, Tm.fld, Tm.n, Tm.kids] at *
  rcases hks with hks | ⟨b', o', rfl, hall⟩
  · cases hks
  have hl1 : 0 < len := by rw [hlen]; simp
  obtain ⟨csk, hvk, hrk, -⟩ := hall.1.val
  obtain ⟨p2, l2, k2, he2⟩ := hvk.cs'
  cases he2
  obtain ⟨wA, hA⟩ : ∃ W : World, w.alloc (.cells #[.int .i8 10, .int .i8 f, .int .u64 n, .slice (some ⟨b', o', none⟩) len cap] 31) = W := ⟨_, rfl⟩
  have xA : Ext w wA := hA ▸ Ext.alloc _ _
  have sA : wA.heap.size = w.heap.size + 1 := by rw [← hA, World.size_alloc]
  have rA : wA.rangeAt w.heap.size 0 [.int .i8 10, .int .i8 f, .int .u64 n, .slice (some ⟨b', o', none⟩) len cap] := by
    have := rangeAt_new w #[.int .i8 10, .int .i8 f, .int .u64 n, .slice (some ⟨b', o', none⟩) len cap] 31
    rw [hA] at this
    exact this
  obtain ⟨wB, hB⟩ : ∃ W : World, wA.alloc (.cells x.cs 24) = W := ⟨_, rfl⟩
  have xB : Ext wA wB := hB ▸ Ext.alloc _ _
  have rB : wB.rangeAt (w.heap.size + 1) 0 x.cs.toList := by
    have := rangeAt_new wA x.cs 24
    rw [hB, sA] at this
    exact this
  have xAB := xA.trans xB
  have HP := Lib.hid (hpre.more xAB)
  have HI := Lib.hid (fun W (hW : RPre (.mk 10 f n [t]) (.agg #[.int .i8 10, .int .i8 f, .int .u64 n, .slice (some ⟨b', o', none⟩) len cap]) wb c w0 W) => ih x _ wb c w0 W (by
    have := hW.kid hra 0 (by simp) (u := .agg #[.int .i8 t.op, .int .i8 t.fld, .int .u64 t.n, .slice p2 l2 k2]) hvk
    exact this))
  have HSS := Lib.hid (fun W (hW : Keep (· = wb) wB W) => (show (fun W => W.cell? ⟨w.heap.size, 3, none⟩ = some (.slice (some ⟨b', o', none⟩) len cap) ∧ W.cell? ⟨b', o', none⟩ = some (.int .i8 t.op) ∧ W.cell? ⟨b', o' + 1, none⟩ = some (.int .i8 t.fld) ∧ W.cell? ⟨b', o' + 2, none⟩ = some (.int .u64 t.n) ∧ W.cell? ⟨b', o' + 3, none⟩ = some (.slice p2 l2 k2) ∧ W.rangeAt (w.heap.size + 1) 0 x.cs.toList) W from by
    obtain ⟨_, _, _, e3⟩ := cells4' (hW.range (World.rangeAt.later xB.later rA) (by show ¬ w.heap.size = wb; omega))
    obtain ⟨d0, d1, d2, d3⟩ := cells4' (World.rangeAt.later ((hpre.ext.trans xAB).andKeep hW (fun i hi => by rw [hi]; exact hpre.above)).later hrk)
    exact ⟨by simpa using e3, by simpa using d0, by simpa using d1, by simpa using d2, by simpa using d3, hW.range rB (by show ¬ w.heap.size + 1 = wb; omega)⟩))
  have HX := Lib.hid xAB
  have HEQ := Lib.hid (show w.alloc (.cells #[.int .i8 10, .int .i8 f, .int .u64 n, .slice (some ⟨b', o', none⟩) len cap] 31) = wA ∧ wA.alloc (.cells x.cs 24) = wB from ⟨hA, hB⟩)
  obtain ⟨a0, a1, a2, a3⟩ := cells4' (World.rangeAt.later xB.later rA)
  have hwB : w.heap.size ≤ wB.heap.size := xAB.size
  clear hpre rA xA hA xB rB hB xAB sA hall hvk hrk hra ih hlen
  have hu28 : Try.prog.underlying 24 = some (.array 11 22) := Try.underlying24
  have hi28 : (Try.prog.info? 24).map (·.size) = some x.cs.toList.length := by rw [x.len_cs]; kernel_rfl
  go_enter Try.func44, Try.ntmps44
  go_upto_region 1 with fail
  rw [HEQ.out.1, HEQ.out.2]
  clear HEQ
  go_upto_region 16 with fail
  clear a0 a1 a2 a3
  obtain ⟨a3, d0, d1, d2, d3, hrx⟩ := HSS.out _ (Keep.refl _ _)
  have hxd : Keep (· = wb) wB wB.drew := (Ext.drew wB).keep _
  have HPd := Lib.hid (HP.out.more (Ext.drew wB))
  go_region_held3 (fun W => W.cell? ⟨w.heap.size, 3, none⟩ = some (.slice (some ⟨b', o', none⟩) len cap) ∧ W.cell? ⟨b', o', none⟩ = some (.int .i8 t.op) ∧ W.cell? ⟨b', o' + 1, none⟩ = some (.int .i8 t.fld) ∧ W.cell? ⟨b', o' + 2, none⟩ = some (.int .u64 t.n) ∧ W.cell? ⟨b', o' + 3, none⟩ = some (.slice p2 l2 k2) ∧ W.rangeAt (w.heap.size + 1) 0 x.cs.toList) (first | exact HSS.out _ hxd | exact HSS.out _ (hxd.trans hk5)) (first
    | (go_at_call 67; refine (HI.out _ HPd.out).mono ?_; rintro e w5 ⟨hk5, v5, rfl, hok5⟩))
  generalize hRR : starF (fun x c => t.ofT x c) 64 [x] [x] c = R at *
  clear a3 d0 d1 d2 d3 hrx
  go_wp2_with fail
  go_ret2
  refine ⟨(HX.out.keep _).trans (hxd.trans hk5), v5, by rw [HE.out]; rfl, ?_⟩
  rw [HE.out]
  cases R with
  | none => exact hok5
  | some r => exact ⟨hok5.1.mono hwB, hok5.2⟩

set_option maxHeartbeats 4000000 in
set_option maxRecDepth 100000 in
theorem rOf_union (f n : Int) (ks : List Tm) (ih : ∀ i (h : i < ks.length), ROfOf (ks[i])) : ROfOf (.mk 8 f n ks) := by
  intro x v wb c w0 w hpre
  have IH := Lib.hid ih
  have hwb : wb < w.heap.size := World.block_lt_of_cell? w _ hpre.cell
  rcases Tm.right_pol hpre.right with ⟨h, -⟩ | ⟨h, -⟩ | ⟨h, -⟩ | ⟨-, hlen1, hra⟩ <;> try omega
  have HE := Lib.hid (Tm.ofT_union f n ks x c)
  obtain ⟨_, rfl, s, rfl, -, -, -, p, len, cap, rfl, hlen, hlc, hcm, hks⟩ := hpre.val
  simp only [Tm.op, Tm.fld, Tm.n, Tm.kids] at *
  have HL := Lib.hid hlen
  have HRA0 := Lib.hid hra
  have HKS := Lib.hid hks
  obtain ⟨wA, hA⟩ : ∃ W : World, w.alloc (.cells #[.int .i8 8, .int .i8 f, .int .u64 n, .slice p len cap] 31) = W := ⟨_, rfl⟩
  have xA : Ext w wA := hA ▸ Ext.alloc _ _
  have sA : wA.heap.size = w.heap.size + 1 := by rw [← hA, World.size_alloc]
  have rA : wA.rangeAt w.heap.size 0 [.int .i8 8, .int .i8 f, .int .u64 n, .slice p len cap] := by
    have := rangeAt_new w #[.int .i8 8, .int .i8 f, .int .u64 n, .slice p len cap] 31
    rw [hA] at this
    exact this
  obtain ⟨wB, hB⟩ : ∃ W : World, wA.alloc (.cells x.cs 24) = W := ⟨_, rfl⟩
  have xB : Ext wA wB := hB ▸ Ext.alloc _ _
  have rB : wB.rangeAt (w.heap.size + 1) 0 x.cs.toList := by
    have := rangeAt_new wA x.cs 24
    rw [hB, sA] at this
    exact this
  have xAB := xA.trans xB
  have HRA := Lib.hid (fun W (hW : Keep (· = wb) wB W) => hW.range (World.rangeAt.later xB.later rA) (by show ¬ w.heap.size = wb; omega))
  have HRX := Lib.hid (fun W (hW : Keep (· = wb) wB W) => hW.range rB (by show ¬ w.heap.size + 1 = wb; omega))
  have HP := Lib.hid (hpre.more xAB)
  have HX := Lib.hid xAB
  have HEQ := Lib.hid (show w.alloc (.cells #[.int .i8 8, .int .i8 f, .int .u64 n, .slice p len cap] 31) = wA ∧ wA.alloc (.cells x.cs 24) = wB from ⟨hA, hB⟩)
  obtain ⟨a0, a1, a2, a3⟩ := cells4' (World.rangeAt.later xB.later rA)
  have hwB : w.heap.size ≤ wB.heap.size := xAB.size
  clear hpre rA xA hA xB rB hB xAB sA ih hra hlen hks
  have hu28 : Try.prog.underlying 24 = some (.array 11 22) := Try.underlying24
  have hi28 : (Try.prog.info? 24).map (·.size) = some x.cs.toList.length := by rw [x.len_cs]; kernel_rfl
  go_enter Try.func44, Try.ntmps44
  go_upto_region 1 with fail
  rw [HEQ.out.1, HEQ.out.2]
  clear HEQ
  go_wp2_with fail
  clear a0 a1 a2 a3
  go_loopw [12, 13] (fun u i wr => ∃ (j : Nat) (S : List Hdr) (c1 : Int), j ≤ len ∧ i = .int .i64 j ∧ Hid (HSl wr w.heap.size (sortH S) u) ∧ Hid S.Nodup ∧ S.length ≤ 64 ∧ Hid ((Tm.unionT (ks.drop j) x S c1).map (fun r => (sortH r.1, r.2)) = (Tm.mk 8 f n ks).ofT x c) ∧ Hid (RPre (.mk 8 f n ks) (.agg #[.int .i8 8, .int .i8 f, .int .u64 n, .slice p len cap]) wb c1 w0 wr) ∧ Hid (Keep (· = wb) wB wr)) (fun _ i _ => len - (intOf i).toNat)
  case atStart => exact ⟨0, [], c, Nat.zero_le _, rfl, HSl.nil _ _, List.nodup_nil, by simp, HE.out.symm, HP.out, Keep.refl _ _⟩
  case round =>
    obtain ⟨wo, rfl⟩ : ∃ wo : World, wo = wr := ⟨_, rfl⟩
    obtain ⟨j, S, c1, hj, rfl, hS, hnd, hS64, hR, hpr, hk⟩ := hrel
    by_cases hlt : j < len
    · have hjl : j < ks.length := by rw [← HL.out]; exact hlt
      rcases HKS.out with hk0 | ⟨b', o', rfl, hall⟩
      · exfalso; subst hk0; simp at hjl
      have hT0 := Tm.AllAt_get hall j hjl
      obtain ⟨csk, hvk, hrk, -⟩ := hT0.val
      have HOx := Lib.hid (fun W (hW : RPre (.mk 8 f n ks) (.agg #[.int .i8 8, .int .i8 f, .int .u64 n, .slice (some ⟨b', o', none⟩) len cap]) wb c1 w0 W) => IH.out j hjl x (.agg csk) wb c1 w0 W (hW.kid HRA0.out j hjl hvk))
      obtain ⟨p2, l2, k2, he2⟩ := hvk.cs'
      cases he2
      have HR' := Lib.hid (show ((((ks[j]).ofT x c1).bind fun r => (putAll S r.1).bind fun S' => Tm.unionT (ks.drop (j + 1)) x S' r.2).map fun r => (sortH r.1, r.2)) = (Tm.mk 8 f n ks).ofT x c from by
        have := hR.out
        rw [drop_get hjl] at this
        exact this)
      have hszr : wB.heap.size ≤ wo.heap.size := hk.out.size
      generalize hR0 : (ks[j]).ofT x c1 = R at *
      generalize ks[j] = k at *
      have HSS := Lib.hid (fun W (hW : Keep (· = wb) wo W) => (show (fun W => W.cell? ⟨w.heap.size, 3, none⟩ = some (.slice (some ⟨b', o', none⟩) len cap) ∧ W.cell? ⟨b', o' + j * 4, none⟩ = some (.int .i8 k.op) ∧ W.cell? ⟨b', o' + j * 4 + 1, none⟩ = some (.int .i8 k.fld) ∧ W.cell? ⟨b', o' + j * 4 + 2, none⟩ = some (.int .u64 k.n) ∧ W.cell? ⟨b', o' + j * 4 + 3, none⟩ = some (.slice p2 l2 k2) ∧ W.rangeAt (w.heap.size + 1) 0 x.cs.toList) W from by
        obtain ⟨_, _, _, e3⟩ := cells4' (HRA.out _ (hk.out.trans hW))
        obtain ⟨d0, d1, d2, d3⟩ := cells4' (World.rangeAt.later (hpr.out.ext.andKeep hW (fun i hi => by rw [hi]; exact hpr.out.above)).later hrk)
        exact ⟨by simpa using e3, by simpa using d0, by simpa using d1, by simpa using d2, by simpa using d3, HRX.out _ (hk.out.trans hW)⟩))
      obtain ⟨a3, d0, d1, d2, d3, hrx⟩ := HSS.out _ (Keep.refl _ _)
      have hxd : Keep (· = wb) wo wo.drew := (Ext.drew wo).keep _
      have HPd := Lib.hid (hpr.out.more (Ext.drew wo))
      clear hR hR0 hall hT0 hvk hrk
      go_upto_region 31 with fail
      go_region_held3 (fun W => W.cell? ⟨w.heap.size, 3, none⟩ = some (.slice (some ⟨b', o', none⟩) len cap) ∧ W.cell? ⟨b', o' + j * 4, none⟩ = some (.int .i8 k.op) ∧ W.cell? ⟨b', o' + j * 4 + 1, none⟩ = some (.int .i8 k.fld) ∧ W.cell? ⟨b', o' + j * 4 + 2, none⟩ = some (.int .u64 k.n) ∧ W.cell? ⟨b', o' + j * 4 + 3, none⟩ = some (.slice p2 l2 k2) ∧ W.rangeAt (w.heap.size + 1) 0 x.cs.toList) (first | exact HSS.out _ hxd | exact HSS.out _ (hxd.trans hk5)) (first
        | (go_at_call 44; refine (HOx.out _ HPd.out).mono ?_; rintro e w5 ⟨hk5, v5, rfl, hok5⟩))
      have HK5 := Lib.hid (hk.out.trans (hxd.trans hk5))
      cases R with
      | none =>
        have hv5 := hok5.none
        subst hv5
        have HF := Lib.hid (show none = (Tm.mk 8 f n ks).ofT x c from HR'.out)
        clear HR' hok5 HOx a3 d0 d1 d2 d3 hrx
        go_wp2_with fail
        go_ret2
        exact ⟨(HX.out.keep _).trans HK5.out, .slice none 0 0, by rw [← HF.out]; rfl, by rw [← HF.out]; rfl⟩
      | some r =>
        obtain ⟨xs, c2⟩ := r
        obtain ⟨hs5, hx64, hbd2, hc2, hf2⟩ := hok5
        have HP6 := Lib.hid (hpr.out.later (hxd.trans hk5) hbd2 hc2 hf2)
        have hR2 : (((putAll S xs).bind fun S' => Tm.unionT (ks.drop (j + 1)) x S' c2).map fun r => (sortH r.1, r.2)) = (Tm.mk 8 f n ks).ofT x c := HR'.out
        have hsz5 : w.heap.size ≤ w5.heap.size := by have := HK5.out.size; omega
        have hb := refBoth_any (sortH S) xs u12 v5 w.heap.size wo.drew.heap.size w5 (hS.out.keep (hxd.trans hk5) (fun b hb => by show ¬ b = wb; omega)) hs5 (by rw [length_sortH]; omega) (by omega) hsz5
        rcases putAll_ref xs S hnd.out hS64 with ⟨S', hput, hnd', hl', ha⟩ | ⟨hput, hlt2⟩
        · rw [ha, length_sortH, show decide (S'.length ≤ 64) = true from by simpa using hl'] at hb
          rw [hput] at hR2
          have HB := Lib.hid hb
          have HR2 := Lib.hid hR2
          have HN' := Lib.hid hnd'
          clear HR' hb hR2 hput ha hnd' hs5 hx64 hbd2 hc2 hf2 HOx a3 d0 d1 d2 d3 hrx
          go_wp2_with fail
          refine HB.out.mono ?_
          rintro e w6 ⟨⟨s6, rfl, hs6⟩, hx6⟩
          have HS6 := Lib.hid hs6
          clear hs6
          go_wp2_with fail
          go_roundw
          case rel => exact ⟨j + 1, S', c2, by omega, by go_num, HS6.out, HN'.out, hl', HR2.out, HP6.out.more hx6, HK5.out.trans (hx6.keep _)⟩
          case measure => simp [intOf]; omega
        · rw [show decide ((addAll (sortH S) xs).length ≤ 64) = false from by simpa using hlt2] at hb
          rw [hput] at hR2
          have HB := Lib.hid hb
          have HF := Lib.hid (show none = (Tm.mk 8 f n ks).ofT x c from hR2)
          clear HR' hb hR2 hput hlt2 hs5 hx64 hbd2 hc2 hf2 HOx a3 d0 d1 d2 d3 hrx
          go_wp2_with fail
          refine HB.out.mono ?_
          rintro e w6 ⟨⟨s6, rfl, hs6⟩, hx6⟩
          clear hs6
          go_wp2_with fail
          go_ret2
          exact ⟨(HX.out.keep _).trans (HK5.out.trans (hx6.keep _)), .slice none 0 0, by rw [← HF.out]; rfl, by rw [← HF.out]; rfl⟩
    · have HF := Lib.hid (show some (sortH S, c1) = (Tm.mk 8 f n ks).ofT x c from by
        have := hR.out
        rw [List.drop_of_length_le (by have := HL.out; omega)] at this
        exact this)
      obtain ⟨_, _, _, a3⟩ := cells4' (HRA.out _ hk.out)
      clear hR
      go_wp2_with fail
      go_ret2
      exact ⟨(HX.out.keep _).trans hk.out, u12, by rw [← HF.out]; rfl, by rw [← HF.out]; exact ⟨hS.out, by rw [length_sortH]; exact hS64, hpr.out.bd, hpr.out.cell, hpr.out.fr⟩⟩
end Go.Proofs.Ytddeelepaiklgaa
