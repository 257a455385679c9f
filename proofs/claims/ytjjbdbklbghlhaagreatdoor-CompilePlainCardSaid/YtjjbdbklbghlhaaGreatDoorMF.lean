/- (*Store).Test. -/
import Derived.Test.YtjjbdbklbghlhaaGreatDoorMA
import Derived.Test.YtjjbdbklbghlhaaGreatDoorMD
import Derived.Deep.DeepCutAuto
namespace Go.Proofs.YtjjbdbklbghlhaaGreatDoor
open Go.RowKit Go.Sort Go.Maps Go.Lib
set_option linter.unusedSimpArgs false

/-- a node that a test over it must lie ahead of -/
def behindB (f n : Int) (h l : NdD) : Bool := (decide (0 ≤ h.f) && decide (h.f ≤ f)) || (decide (0 ≤ l.f) && decide (orI (cmp1 l.f f) (cmp1 l.n n) ≤ 0))
def testP (L : List NdD) (f n hi lo : Int) : (Int × Int) × List NdD :=
 if fitsB f n = true ∧ (0 ≤ hi ∧ hi < L.length) ∧ (0 ≤ lo ∧ lo < L.length) then
  (match L[hi.toNat]?, L[lo.toNat]? with
  | some h, some l => if behindB f n h l then ((0, 2), L) else if hi = lo then ((hi, 0), L) else putN L ⟨f, n, hi, lo, []⟩
  | _, _ => ((0, 2), L))
 else ((0, 2), L)

set_option maxHeartbeats 2000000 in
theorem there_any {F : Nat → Prop} (p b : Nat) (L : List NdD) (w : World) (h : St F w p L) (hb : w.cell? ⟨b, 0, none⟩ = some (.pointer (some ⟨p, 0, none⟩))) (id : Int) :
  Calls Tryz.prog 65 #[.int .i64 id, .pointer (some ⟨b, 0, none⟩)] w fun e w' => e = .returned (.bool (decide (0 ≤ id ∧ id < L.length))) ∧ w = w' := by
 obtain ⟨lv, mt, ml, lvs, T, S, h⟩ := h
 have c0 := h.c0
 have hbd := h.inv.2.1
 obtain ⟨q, c, rfl, -⟩ := owns_form h.own
 obtain ⟨n, hn⟩ : ∃ n, n = L.length := ⟨_, rfl⟩
 rw [← hn] at c0 hbd ⊢
 clear h hn
 by_cases h0 : 0 ≤ id
 ·by_cases h1 : id < n
  ·have HF := Hd (show decide (0 ≤ id ∧ id < (n : Int)) = true from decide_eq_true ⟨h0, h1⟩)
   have hd1 : decide ((0 : Int) ≤ id) = true := decide_eq_true h0
   have hd2 : decide (id < (n : Int)) = true := decide_eq_true h1
   go_enter Tryz.func65, Tryz.ntmps65
   go_wp2_with fail
   go_ret
   exact ⟨by first | (rw [HF.out]; rfl) | rfl, rfl⟩
  ·have HF := Hd (show decide (0 ≤ id ∧ id < (n : Int)) = false from decide_eq_false fun h => h1 h.2)
   have hd1 : decide ((0 : Int) ≤ id) = true := decide_eq_true h0
   have hd2 : decide (id < (n : Int)) = false := decide_eq_false h1
   go_enter Tryz.func65, Tryz.ntmps65
   go_wp2_with fail
   go_ret
   exact ⟨by first | (rw [HF.out]; rfl) | rfl, rfl⟩
 ·have HF := Hd (show decide (0 ≤ id ∧ id < (n : Int)) = false from decide_eq_false fun h => h0 h.1)
  have hd1 : decide ((0 : Int) ≤ id) = false := decide_eq_false h0
  go_enter Tryz.func65, Tryz.ntmps65
  go_wp2_with fail
  go_ret
  exact ⟨by first | (rw [HF.out]; rfl) | rfl, rfl⟩

set_option maxHeartbeats 8000000 in
set_option maxRecDepth 100000 in
theorem testS_any {F : Nat → Prop} (p : Nat) (L : List NdD) (f n hi lo : Int) (w : World) (h : St F w p L) (hf : -128 ≤ f ∧ f ≤ 127) (hn : 0 ≤ n ∧ n ≤ 18446744073709551615) (hhi : -9223372036854775808 ≤ hi ∧ hi ≤ 9223372036854775807) (hlo : -9223372036854775808 ≤ lo ∧ lo ≤ 9223372036854775807) :
  Calls Tryz.prog 43 #[.pointer (some ⟨p, 0, none⟩), .int .i8 f, .int .u64 n, .int .i64 hi, .int .i64 lo] w (OpPost F w p (testP L f n hi lo)) := by
 have HST := Hd h
 have eg : ∀ args w, (callFunc 65 args).run Tryz.prog w = .ok (.enter 65 args) w := enters_of Tryz.func65 (by kernel_rfl) rfl
 obtain ⟨wA, hA⟩ : ∃ W : World, w.alloc (.cells #[.pointer (some ⟨p, 0, none⟩)] 31) = W := ⟨_, rfl⟩
 have xA : Ext w wA := hA ▸ Ext.alloc _ _
 have cA : wA.cell? ⟨w.heap.size, 0, none⟩ = some (.pointer (some ⟨p, 0, none⟩)) := by rw [← hA]; simp [go_sem]
 have HXA := Hd xA
 have HCA := Hd (fun W (hW : Ext wA W) => hW.later _ _ cA)
 have HEQ := Hd hA
 have HTE := Hd (show testP L f n hi lo = (if fitsB f n = true ∧ (0 ≤ hi ∧ hi < L.length) ∧ (0 ≤ lo ∧ lo < L.length) then
   (match L[hi.toNat]?, L[lo.toNat]? with
   | some h, some l => if behindB f n h l then ((0, 2), L) else if hi = lo then ((hi, 0), L) else putN L ⟨f, n, hi, lo, []⟩
   | _, _ => ((0, 2), L))
  else ((0, 2), L)) from rfl)
 have HFI := Hd (fitsN_any f n wA hf hn)
 have HTH := Hd (fun W (hW : Ext wA W) id => there_any p w.heap.size L W (HST.out.ext (HXA.out.trans hW)) (HCA.out W hW) id)
 have HBF := Hd hf
 have HBN := Hd hn
 have HBH := Hd (And.intro hhi hlo)
 generalize testP L f n hi lo = R at *
 clear h hA xA hf hn hhi hlo
 go_enter Tryz.func43, Tryz.ntmps43
 go_upto_region 1 with fail
 rw [HEQ.out]
 clear HEQ
 go_wp2_with fail
 refine HFI.out.mono ?_
 rintro e w1 ⟨rfl, hx1⟩
 have HX1 := Hd hx1
 have HXw1 := Hd (HXA.out.trans hx1)
 clear hx1
 cases hft : fitsB f n with
 | false =>
  have HF := Hd (OpPost.same HST.out HXw1.out (show R = ((0, 2), L) from by rw [HTE.out, if_neg (by rw [hft]; simp)]))
  clear hft
  go_wp2_with fail
  go_ret2
  exact HF.out
 | true =>
  have HFT := Hd hft
  clear hft
  go_wp2_with fail
  refine (HTH.out w1 HX1.out hi).mono ?_
  rintro e w1' ⟨rfl, rfl⟩
  by_cases hh : 0 ≤ hi ∧ hi < L.length
  case neg =>
   have HF := Hd (OpPost.same HST.out HXw1.out (show R = ((0, 2), L) from by rw [HTE.out, if_neg (fun h => hh h.2.1)]))
   rw [decide_eq_false hh]
   clear hh
   go_wp2_with fail
   go_ret2
   exact HF.out
  rw [decide_eq_true hh]
  have HH := Hd hh
  clear hh
  go_wp2_with fail
  refine (HTH.out w1 HX1.out lo).mono ?_
  rintro e w1' ⟨rfl, rfl⟩
  by_cases hl : 0 ≤ lo ∧ lo < L.length
  case neg =>
   have HF := Hd (OpPost.same HST.out HXw1.out (show R = ((0, 2), L) from by rw [HTE.out, if_neg (fun h => hl h.2.2)]))
   rw [decide_eq_false hl]
   clear hl
   go_wp2_with fail
   go_ret2
   exact HF.out
  rw [decide_eq_true hl]
  have hh := HH.out
  obtain ⟨kh, rfl⟩ : ∃ k : Nat, hi = k := ⟨hi.toNat, by omega⟩
  obtain ⟨kl, rfl⟩ : ∃ k : Nat, lo = k := ⟨lo.toNat, by omega⟩
  have hkh : kh < L.length := by omega
  have hkl : kl < L.length := by omega
  obtain ⟨nh, hnh⟩ : ∃ nh, nh = L[kh] := ⟨_, rfl⟩
  obtain ⟨nl, hnl⟩ : ∃ nl, nl = L[kl] := ⟨_, rfl⟩
  have HTE2 := Hd (show R = (if behindB f n nh nl then ((0, 2), L) else if (kh : Int) = kl then (((kh : Int), 0), L) else putN L ⟨f, n, kh, kl, []⟩) from by
   rw [HTE.out, if_pos ⟨HFT.out, hh, hl⟩, Int.toNat_natCast, Int.toNat_natCast, List.getElem?_eq_getElem hkh, List.getElem?_eq_getElem hkl, hnh, hnl])
  obtain ⟨lv, mt, ml, lvs, T, S, hM0⟩ := HST.out
  have HM0 := Hd hM0
  have HM := Hd (hM0.keep HXw1.out.size (fun b hb => Below.block HXw1.out b (hM0.lt b hb)))
  have hvl : lvs.length = L.length := hM0.leafs.1
  obtain ⟨g, c, rfl, hgb, hrg⟩ : ∃ g c, lv = .slice (some ⟨g, 0, none⟩) L.length c ∧ g < w1.heap.size ∧ w1.rangeAt g 0 (flatN L lvs) := by
   rcases owns_range HM.out.own with ⟨h0, -⟩ | ⟨g, c, he, -, hlt, hr⟩
   ·omega
   ·exact ⟨g, c, he, hlt, hr⟩
  have rh := nodeCells hvl hrg kh hkh
  have rl := nodeCells hvl hrg kl hkl
  obtain ⟨hv, hhv⟩ : ∃ hv, hv = lvs[kh]'(by omega) := ⟨_, rfl⟩
  obtain ⟨lv2, hlv2⟩ : ∃ lv2, lv2 = lvs[kl]'(by omega) := ⟨_, rfl⟩
  have fh : ∃ a b c, hv = .slice a b c := by
   obtain ⟨a, b, c, he, -⟩ := hM0.leafs.2 kh hkh (by omega)
   exact ⟨a, b, c, by rw [hhv]; exact he⟩
  have fl : ∃ a b c, lv2 = .slice a b c := by
   obtain ⟨a, b, c, he, -⟩ := hM0.leafs.2 kl hkl (by omega)
   exact ⟨a, b, c, by rw [hlv2]; exact he⟩
  rw [← hnh, ← hhv] at rh
  rw [← hnl, ← hlv2] at rl
  have okh := (hM0.inv.2.2 nh (by rw [hnh]; exact List.getElem_mem _)).1
  have okl := (hM0.inv.2.2 nl (by rw [hnl]; exact List.getElem_mem _)).1
  have h0 : w1.cell? ⟨g, kh * 5, none⟩ = some (.int .i8 nh.f) := by simpa using rh 0 _ rfl
  have h1 : w1.cell? ⟨g, kh * 5 + 1, none⟩ = some (.int .u64 nh.n) := rh 1 _ rfl
  have h2 : w1.cell? ⟨g, kh * 5 + 2, none⟩ = some (.int .i64 nh.hi) := rh 2 _ rfl
  have h3 : w1.cell? ⟨g, kh * 5 + 3, none⟩ = some (.int .i64 nh.lo) := rh 3 _ rfl
  have h4 : w1.cell? ⟨g, kh * 5 + 4, none⟩ = some hv := rh 4 _ rfl
  have l0 : w1.cell? ⟨g, kl * 5, none⟩ = some (.int .i8 nl.f) := by simpa using rl 0 _ rfl
  have l1 : w1.cell? ⟨g, kl * 5 + 1, none⟩ = some (.int .u64 nl.n) := rl 1 _ rfl
  have l2 : w1.cell? ⟨g, kl * 5 + 2, none⟩ = some (.int .i64 nl.hi) := rl 2 _ rfl
  have l3 : w1.cell? ⟨g, kl * 5 + 3, none⟩ = some (.int .i64 nl.lo) := rl 3 _ rfl
  have l4 : w1.cell? ⟨g, kl * 5 + 4, none⟩ = some lv2 := rl 4 _ rfl
  obtain ⟨ha, hb, hc, rfl⟩ := fh
  obtain ⟨la, lb, lc, rfl⟩ := fl
  have c5 := HCA.out w1 HX1.out
  have c0 := HM.out.c0
  have hpb : p < w1.heap.size := World.block_lt_of_cell? w1 _ c0
  have hwb : w.heap.size < w1.heap.size := World.block_lt_of_cell? w1 _ c5
  obtain ⟨m, hm⟩ : ∃ m, m = L.length := ⟨_, rfl⟩
  have HMN := Hd hm
  rw [← hm] at c0 hkh hkl
  have HKH := Hd hnh
  have HKL := Hd hnl
  have hmb : m ≤ 65536 := by have := hM0.inv.2.1; omega
  have HOKH := Hd okh
  have HOKL := Hd okl
  have HMB := Hd hmb
  have hm63 : (m : Int) ≤ 9223372036854775807 := by omega
  have hih : (kh : Int) < m := by omega
  have hil : (kl : Int) < m := by omega
  clear hl hh rh rl hrg hvl hM0 hhv hlv2 hm hnh hnl okh okl hmb
  go_upto_region 6 with fail
  go_cut [13, 14] (fun v13 v14 wx => ∃ bh bl : Nat, v13 = .pointer (some ⟨bh, 0, none⟩) ∧ v14 = .pointer (some ⟨bl, 0, none⟩) ∧ Hid (wx.cell? ⟨bh, 0, none⟩ = some (.int .i8 nh.f) ∧ wx.cell? ⟨bl, 0, none⟩ = some (.int .i8 nl.f) ∧ wx.cell? ⟨bl, 1, none⟩ = some (.int .u64 nl.n)) ∧ Hid (Ext w1 wx))
  case first =>
   go_region
   all_goals (go_wp2_with fail; go_meet; exact ⟨_, _, rfl, rfl, ⟨by simp [go_sem], by simp [go_sem], by simp [go_sem]⟩, ((Ext.alloc _ _).andAlloc _).andDrew⟩)
  case rest =>
   obtain ⟨bh, bl, rfl, rfl, hcc, hxc⟩ := hcut
   have HSS := Hd (fun W (hW : Ext wc W) => show (fun W => W.cell? ⟨bh, 0, none⟩ = some (.int .i8 nh.f) ∧ W.cell? ⟨bl, 0, none⟩ = some (.int .i8 nl.f) ∧ W.cell? ⟨bl, 1, none⟩ = some (.int .u64 nl.n)) W from
    ⟨hW.later _ _ hcc.out.1, hW.later _ _ hcc.out.2.1, hW.later _ _ hcc.out.2.2⟩)
   have HXC := Hd (hxc.out : Ext w1 wc)
   have HXw := Hd (HXw1.out.trans hxc.out)
   have hxd : Ext wc wc.drew := Ext.drew _
   have HBH2 := Hd (show behindB f n nh nl = ((decide (0 ≤ nh.f) && decide (nh.f ≤ f)) || (decide (0 ≤ nl.f) && decide (orI (cmp1 nl.f f) (cmp1 nl.n n) ≤ 0))) from rfl)
   have hokh := HOKH.out.1
   have hokl := HOKL.out.1
   have hfb := HBF.out
   clear h0 h1 h2 h3 h4 l0 l1 l2 l3 l4 c5 c0 hcc hxc
   have HOR := Hd (fun (b : Nat) (W : World) c0 c1 => or_any (cmp1 nl.f f) (cmp1 nl.n n) b W c0 c1)
   generalize orI (cmp1 nl.f f) (cmp1 nl.n n) = oo at *
   go_upto_region 7 with fail
   by_cases hA : 0 ≤ nh.f ∧ nh.f ≤ f
   ·have HF := Hd (fun W (hW : Ext wc W) => OpPost.same HST.out (HXw.out.trans hW) (show R = ((0, 2), L) from by
     rw [HTE2.out, HBH2.out, decide_eq_true hA.1, decide_eq_true hA.2]; rfl))
    obtain ⟨hA1, hA2⟩ := hA
    refine wp_region_noPanic ?_
    refine wp_region_held_drew (S := (fun W => W.cell? ⟨bh, 0, none⟩ = some (.int .i8 nh.f) ∧ W.cell? ⟨bl, 0, none⟩ = some (.int .i8 nl.f) ∧ W.cell? ⟨bl, 1, none⟩ = some (.int .u64 nl.n))) (by kernel_rfl) (HSS.out _ hxd) (fun hHeld => ?_)
    refine tk 0 (.pointer (some ⟨bh, 0, none⟩)) ?_
    try simp only [tkN]
    refine tk 1 (.int .i8 nh.f) ?_
    try simp only [tkN]
    refine tk 2 (.bool true) ?_
    try simp only [tkN]
    refine tk 3 (.bool true) ?_
    try simp only [tkN]
    refine tk 4 (.pointer (some ⟨bh, 0, none⟩)) ?_
    try simp only [tkN]
    refine tk 5 (.int .i8 nh.f) ?_
    try simp only [tkN]
    refine tk 6 (.int .i8 f) ?_
    try simp only [tkN]
    refine tk 7 (.bool true) ?_
    try simp only [tkN]
    refine tk 8 (.bool true) ?_
    try simp only [tkN]
    refine tk 9 (.bool true) ?_
    try simp only [tkN]
    refine tk0 10 ?_
    try simp only [tkN]
    refine tk0 11 ?_
    try simp only [tkN]
    refine tk0 12 ?_
    try simp only [tkN]
    refine tk0 13 ?_
    try simp only [tkN]
    refine tk0 14 ?_
    try simp only [tkN]
    refine tk0 15 ?_
    try simp only [tkN]
    refine tk0 16 ?_
    try simp only [tkN]
    refine tk0 17 ?_
    try simp only [tkN]
    refine tk0 18 ?_
    try simp only [tkN]
    refine tk0 19 ?_
    try simp only [tkN]
    refine tk0 20 ?_
    try simp only [tkN]
    refine tk0 21 ?_
    try simp only [tkN]
    refine tk0 22 ?_
    try simp only [tkN]
    refine tk0 23 ?_
    try simp only [tkN]
    refine tk0 24 ?_
    try simp only [tkN]
    refine tk0 25 ?_
    try simp only [tkN]
    refine tk 26 (.bool true) ?_
    try simp only [tkN]
    refine wpAnyH_done (by kernel_rfl) ?_ _
    refine NoPanic.normal ?_
    go_wp2_with fail
    go_ret2
    exact HF.out _ (hxd)
   ·have HNA := Hd (show (decide (0 ≤ nh.f) && decide (nh.f ≤ f)) = false from by
     by_cases h1 : 0 ≤ nh.f
     ·have h2 : ¬ nh.f ≤ f := fun h2 => hA ⟨h1, h2⟩
      simp [h1, h2]
     ·simp [h1])
    have hA' : nh.f < 0 ∨ (0 ≤ nh.f ∧ f < nh.f) := by omega
    clear hA
    by_cases hB : 0 ≤ nl.f ∧ oo ≤ 0
    ·have HF := Hd (fun W (hW : Ext wc W) => OpPost.same HST.out (HXw.out.trans hW) (show R = ((0, 2), L) from by
      rw [HTE2.out, HBH2.out, HNA.out, decide_eq_true hB.1, decide_eq_true hB.2]; rfl))
     obtain ⟨hB1, hB2⟩ := hB
     rcases hA' with hA1 | ⟨hA1, hA2⟩
     ·skip
      refine wp_region_noPanic ?_
      refine wp_region_held_drew (S := (fun W => W.cell? ⟨bh, 0, none⟩ = some (.int .i8 nh.f) ∧ W.cell? ⟨bl, 0, none⟩ = some (.int .i8 nl.f) ∧ W.cell? ⟨bl, 1, none⟩ = some (.int .u64 nl.n))) (by kernel_rfl) (HSS.out _ hxd) (fun hHeld => ?_)
      refine tk 0 (.pointer (some ⟨bh, 0, none⟩)) ?_
      try simp only [tkN]
      refine tk 1 (.int .i8 nh.f) ?_
      try simp only [tkN]
      refine tk 2 (.bool false) ?_
      try simp only [tkN]
      refine tk 3 (.bool false) ?_
      try simp only [tkN]
      refine tk0 4 ?_
      try simp only [tkN]
      refine tk0 5 ?_
      try simp only [tkN]
      refine tk0 6 ?_
      try simp only [tkN]
      refine tk0 7 ?_
      try simp only [tkN]
      refine tk 8 (.bool false) ?_
      try simp only [tkN]
      refine tk 9 (.bool false) ?_
      try simp only [tkN]
      refine tk 10 (.pointer (some ⟨bl, 0, none⟩)) ?_
      try simp only [tkN]
      refine tk 11 (.int .i8 nl.f) ?_
      try simp only [tkN]
      refine tk 12 (.bool true) ?_
      try simp only [tkN]
      refine tk 13 (.bool true) ?_
      try simp only [tkN]
      refine tk 14 (.pointer (some ⟨bl, 0, none⟩)) ?_
      try simp only [tkN]
      refine tk 15 (.int .i8 nl.f) ?_
      try simp only [tkN]
      refine tk 16 (.int .i8 f) ?_
      try simp only [tkN]
      refine tk 18 (.pointer (some ⟨bl, 1, none⟩)) ?_
      try simp only [tkN]
      refine tk 19 (.int .u64 nl.n) ?_
      try simp only [tkN]
      refine tk 20 (.int .u64 n) ?_
      try simp only [tkN]
      refine tk1 17 rfl (AllReadyH.cons rfl (fun K hK => ?_) AllReadyH.nil)
      go_simp
      go_at_call 68
      refine (cmp8_any nl.f f _).mono ?_
      rintro e y1 ⟨rfl, rfl⟩
      refine hK.out _ _ (HSS.out _ hxd) (fun hHeld1 => ?_)
      clear hK K
      try simp only [tkN]
      refine tk1 21 rfl (AllReadyH.cons rfl (fun K hK => ?_) AllReadyH.nil)
      go_simp
      go_at_call 69
      refine (cmp64_any nl.n n _).mono ?_
      rintro e y1 ⟨rfl, rfl⟩
      refine hK.out _ _ (HSS.out _ hxd) (fun hHeld2 => ?_)
      clear hK K
      try simp only [tkN]
      have hz1 : Ext wc (wc.drew.alloc (.cells #[.int .i64 (cmp1 nl.f f), .int .i64 (cmp1 nl.n n)] 3)) := hxd.andAlloc _
      refine tk1 22 rfl (AllReadyH.cons rfl (fun K hK => ?_) AllReadyH.nil)
      go_simp
      refine hK.out _ _ (HSS.out _ hz1) (fun hHeld3 => ?_)
      clear hK K
      try simp only [tkN]
      refine tk1 23 rfl (AllReadyH.cons rfl (fun K hK => ?_) AllReadyH.nil)
      go_simp
      go_at_call 67
      refine (HOR.out wc.heap.size _ (by simp [go_sem]) (by simp [go_sem])).mono ?_
      rintro e y1 ⟨rfl, rfl⟩
      refine hK.out _ _ (HSS.out _ hz1) (fun hHeld4 => ?_)
      clear hK K
      try simp only [tkN]
      refine tk 24 (.bool true) ?_
      try simp only [tkN]
      refine tk 25 (.bool true) ?_
      try simp only [tkN]
      refine tk 26 (.bool true) ?_
      try simp only [tkN]
      refine wpAnyH_done (by kernel_rfl) ?_ _
      refine NoPanic.normal ?_
      go_wp2_with fail
      go_ret2
      exact HF.out _ (hxd.andAlloc _)
     ·skip
      refine wp_region_noPanic ?_
      refine wp_region_held_drew (S := (fun W => W.cell? ⟨bh, 0, none⟩ = some (.int .i8 nh.f) ∧ W.cell? ⟨bl, 0, none⟩ = some (.int .i8 nl.f) ∧ W.cell? ⟨bl, 1, none⟩ = some (.int .u64 nl.n))) (by kernel_rfl) (HSS.out _ hxd) (fun hHeld => ?_)
      refine tk 0 (.pointer (some ⟨bh, 0, none⟩)) ?_
      try simp only [tkN]
      refine tk 1 (.int .i8 nh.f) ?_
      try simp only [tkN]
      refine tk 2 (.bool true) ?_
      try simp only [tkN]
      refine tk 3 (.bool true) ?_
      try simp only [tkN]
      refine tk 4 (.pointer (some ⟨bh, 0, none⟩)) ?_
      try simp only [tkN]
      refine tk 5 (.int .i8 nh.f) ?_
      try simp only [tkN]
      refine tk 6 (.int .i8 f) ?_
      try simp only [tkN]
      refine tk 7 (.bool false) ?_
      try simp only [tkN]
      refine tk 8 (.bool false) ?_
      try simp only [tkN]
      refine tk 9 (.bool false) ?_
      try simp only [tkN]
      refine tk 10 (.pointer (some ⟨bl, 0, none⟩)) ?_
      try simp only [tkN]
      refine tk 11 (.int .i8 nl.f) ?_
      try simp only [tkN]
      refine tk 12 (.bool true) ?_
      try simp only [tkN]
      refine tk 13 (.bool true) ?_
      try simp only [tkN]
      refine tk 14 (.pointer (some ⟨bl, 0, none⟩)) ?_
      try simp only [tkN]
      refine tk 15 (.int .i8 nl.f) ?_
      try simp only [tkN]
      refine tk 16 (.int .i8 f) ?_
      try simp only [tkN]
      refine tk 18 (.pointer (some ⟨bl, 1, none⟩)) ?_
      try simp only [tkN]
      refine tk 19 (.int .u64 nl.n) ?_
      try simp only [tkN]
      refine tk 20 (.int .u64 n) ?_
      try simp only [tkN]
      refine tk1 17 rfl (AllReadyH.cons rfl (fun K hK => ?_) AllReadyH.nil)
      go_simp
      go_at_call 68
      refine (cmp8_any nl.f f _).mono ?_
      rintro e y1 ⟨rfl, rfl⟩
      refine hK.out _ _ (HSS.out _ hxd) (fun hHeld1 => ?_)
      clear hK K
      try simp only [tkN]
      refine tk1 21 rfl (AllReadyH.cons rfl (fun K hK => ?_) AllReadyH.nil)
      go_simp
      go_at_call 69
      refine (cmp64_any nl.n n _).mono ?_
      rintro e y1 ⟨rfl, rfl⟩
      refine hK.out _ _ (HSS.out _ hxd) (fun hHeld2 => ?_)
      clear hK K
      try simp only [tkN]
      have hz1 : Ext wc (wc.drew.alloc (.cells #[.int .i64 (cmp1 nl.f f), .int .i64 (cmp1 nl.n n)] 3)) := hxd.andAlloc _
      refine tk1 22 rfl (AllReadyH.cons rfl (fun K hK => ?_) AllReadyH.nil)
      go_simp
      refine hK.out _ _ (HSS.out _ hz1) (fun hHeld3 => ?_)
      clear hK K
      try simp only [tkN]
      refine tk1 23 rfl (AllReadyH.cons rfl (fun K hK => ?_) AllReadyH.nil)
      go_simp
      go_at_call 67
      refine (HOR.out wc.heap.size _ (by simp [go_sem]) (by simp [go_sem])).mono ?_
      rintro e y1 ⟨rfl, rfl⟩
      refine hK.out _ _ (HSS.out _ hz1) (fun hHeld4 => ?_)
      clear hK K
      try simp only [tkN]
      refine tk 24 (.bool true) ?_
      try simp only [tkN]
      refine tk 25 (.bool true) ?_
      try simp only [tkN]
      refine tk 26 (.bool true) ?_
      try simp only [tkN]
      refine wpAnyH_done (by kernel_rfl) ?_ _
      refine NoPanic.normal ?_
      go_wp2_with fail
      go_ret2
      exact HF.out _ (hxd.andAlloc _)
    ·have HTE3 := Hd (show R = (if (kh : Int) = kl then (((kh : Int), 0), L) else putN L ⟨f, n, kh, kl, []⟩) from by
      rw [HTE2.out, HBH2.out, HNA.out]
      by_cases h1 : 0 ≤ nl.f
      ·have h2 : ¬ oo ≤ 0 := fun h2 => hB ⟨h1, h2⟩
       simp [h1, h2]
      ·simp [h1])
     have hB' : nl.f < 0 ∨ (0 ≤ nl.f ∧ 0 < oo) := by omega
     clear hB
     go_cut [79] (fun s79 wx => s79 = .bool false ∧ Hid (Ext wc wx))
     case first =>
      rcases hA' with hA1 | ⟨hA1, hA2⟩ <;> rcases hB' with hB1 | ⟨hB1, hB2⟩
      ·skip
       refine wp_region_noPanic ?_
       refine wp_region_held_drew (S := (fun W => W.cell? ⟨bh, 0, none⟩ = some (.int .i8 nh.f) ∧ W.cell? ⟨bl, 0, none⟩ = some (.int .i8 nl.f) ∧ W.cell? ⟨bl, 1, none⟩ = some (.int .u64 nl.n))) (by kernel_rfl) (HSS.out _ hxd) (fun hHeld => ?_)
       refine tk 0 (.pointer (some ⟨bh, 0, none⟩)) ?_
       try simp only [tkN]
       refine tk 1 (.int .i8 nh.f) ?_
       try simp only [tkN]
       refine tk 2 (.bool false) ?_
       try simp only [tkN]
       refine tk 3 (.bool false) ?_
       try simp only [tkN]
       refine tk0 4 ?_
       try simp only [tkN]
       refine tk0 5 ?_
       try simp only [tkN]
       refine tk0 6 ?_
       try simp only [tkN]
       refine tk0 7 ?_
       try simp only [tkN]
       refine tk 8 (.bool false) ?_
       try simp only [tkN]
       refine tk 9 (.bool false) ?_
       try simp only [tkN]
       refine tk 10 (.pointer (some ⟨bl, 0, none⟩)) ?_
       try simp only [tkN]
       refine tk 11 (.int .i8 nl.f) ?_
       try simp only [tkN]
       refine tk 12 (.bool false) ?_
       try simp only [tkN]
       refine tk 13 (.bool false) ?_
       try simp only [tkN]
       refine tk0 14 ?_
       try simp only [tkN]
       refine tk0 15 ?_
       try simp only [tkN]
       refine tk0 16 ?_
       try simp only [tkN]
       refine tk0 17 ?_
       try simp only [tkN]
       refine tk0 18 ?_
       try simp only [tkN]
       refine tk0 19 ?_
       try simp only [tkN]
       refine tk0 20 ?_
       try simp only [tkN]
       refine tk0 21 ?_
       try simp only [tkN]
       refine tk0 22 ?_
       try simp only [tkN]
       refine tk0 23 ?_
       try simp only [tkN]
       refine tk0 24 ?_
       try simp only [tkN]
       refine tk 25 (.bool false) ?_
       try simp only [tkN]
       refine tk 26 (.bool false) ?_
       try simp only [tkN]
       refine wpAnyH_done (by kernel_rfl) ?_ _
       refine NoPanic.normal ?_
       go_wp2_with fail
       go_meet
       exact ⟨rfl, hxd⟩
      ·skip
       refine wp_region_noPanic ?_
       refine wp_region_held_drew (S := (fun W => W.cell? ⟨bh, 0, none⟩ = some (.int .i8 nh.f) ∧ W.cell? ⟨bl, 0, none⟩ = some (.int .i8 nl.f) ∧ W.cell? ⟨bl, 1, none⟩ = some (.int .u64 nl.n))) (by kernel_rfl) (HSS.out _ hxd) (fun hHeld => ?_)
       refine tk 0 (.pointer (some ⟨bh, 0, none⟩)) ?_
       try simp only [tkN]
       refine tk 1 (.int .i8 nh.f) ?_
       try simp only [tkN]
       refine tk 2 (.bool false) ?_
       try simp only [tkN]
       refine tk 3 (.bool false) ?_
       try simp only [tkN]
       refine tk0 4 ?_
       try simp only [tkN]
       refine tk0 5 ?_
       try simp only [tkN]
       refine tk0 6 ?_
       try simp only [tkN]
       refine tk0 7 ?_
       try simp only [tkN]
       refine tk 8 (.bool false) ?_
       try simp only [tkN]
       refine tk 9 (.bool false) ?_
       try simp only [tkN]
       refine tk 10 (.pointer (some ⟨bl, 0, none⟩)) ?_
       try simp only [tkN]
       refine tk 11 (.int .i8 nl.f) ?_
       try simp only [tkN]
       refine tk 12 (.bool true) ?_
       try simp only [tkN]
       refine tk 13 (.bool true) ?_
       try simp only [tkN]
       refine tk 14 (.pointer (some ⟨bl, 0, none⟩)) ?_
       try simp only [tkN]
       refine tk 15 (.int .i8 nl.f) ?_
       try simp only [tkN]
       refine tk 16 (.int .i8 f) ?_
       try simp only [tkN]
       refine tk 18 (.pointer (some ⟨bl, 1, none⟩)) ?_
       try simp only [tkN]
       refine tk 19 (.int .u64 nl.n) ?_
       try simp only [tkN]
       refine tk 20 (.int .u64 n) ?_
       try simp only [tkN]
       refine tk1 17 rfl (AllReadyH.cons rfl (fun K hK => ?_) AllReadyH.nil)
       go_simp
       go_at_call 68
       refine (cmp8_any nl.f f _).mono ?_
       rintro e y1 ⟨rfl, rfl⟩
       refine hK.out _ _ (HSS.out _ hxd) (fun hHeld1 => ?_)
       clear hK K
       try simp only [tkN]
       refine tk1 21 rfl (AllReadyH.cons rfl (fun K hK => ?_) AllReadyH.nil)
       go_simp
       go_at_call 69
       refine (cmp64_any nl.n n _).mono ?_
       rintro e y1 ⟨rfl, rfl⟩
       refine hK.out _ _ (HSS.out _ hxd) (fun hHeld2 => ?_)
       clear hK K
       try simp only [tkN]
       have hz1 : Ext wc (wc.drew.alloc (.cells #[.int .i64 (cmp1 nl.f f), .int .i64 (cmp1 nl.n n)] 3)) := hxd.andAlloc _
       refine tk1 22 rfl (AllReadyH.cons rfl (fun K hK => ?_) AllReadyH.nil)
       go_simp
       refine hK.out _ _ (HSS.out _ hz1) (fun hHeld3 => ?_)
       clear hK K
       try simp only [tkN]
       refine tk1 23 rfl (AllReadyH.cons rfl (fun K hK => ?_) AllReadyH.nil)
       go_simp
       go_at_call 67
       refine (HOR.out wc.heap.size _ (by simp [go_sem]) (by simp [go_sem])).mono ?_
       rintro e y1 ⟨rfl, rfl⟩
       refine hK.out _ _ (HSS.out _ hz1) (fun hHeld4 => ?_)
       clear hK K
       try simp only [tkN]
       refine tk 24 (.bool false) ?_
       try simp only [tkN]
       refine tk 25 (.bool false) ?_
       try simp only [tkN]
       refine tk 26 (.bool false) ?_
       try simp only [tkN]
       refine wpAnyH_done (by kernel_rfl) ?_ _
       refine NoPanic.normal ?_
       go_wp2_with fail
       go_meet
       exact ⟨rfl, hxd.andAlloc _⟩
      ·skip
       refine wp_region_noPanic ?_
       refine wp_region_held_drew (S := (fun W => W.cell? ⟨bh, 0, none⟩ = some (.int .i8 nh.f) ∧ W.cell? ⟨bl, 0, none⟩ = some (.int .i8 nl.f) ∧ W.cell? ⟨bl, 1, none⟩ = some (.int .u64 nl.n))) (by kernel_rfl) (HSS.out _ hxd) (fun hHeld => ?_)
       refine tk 0 (.pointer (some ⟨bh, 0, none⟩)) ?_
       try simp only [tkN]
       refine tk 1 (.int .i8 nh.f) ?_
       try simp only [tkN]
       refine tk 2 (.bool true) ?_
       try simp only [tkN]
       refine tk 3 (.bool true) ?_
       try simp only [tkN]
       refine tk 4 (.pointer (some ⟨bh, 0, none⟩)) ?_
       try simp only [tkN]
       refine tk 5 (.int .i8 nh.f) ?_
       try simp only [tkN]
       refine tk 6 (.int .i8 f) ?_
       try simp only [tkN]
       refine tk 7 (.bool false) ?_
       try simp only [tkN]
       refine tk 8 (.bool false) ?_
       try simp only [tkN]
       refine tk 9 (.bool false) ?_
       try simp only [tkN]
       refine tk 10 (.pointer (some ⟨bl, 0, none⟩)) ?_
       try simp only [tkN]
       refine tk 11 (.int .i8 nl.f) ?_
       try simp only [tkN]
       refine tk 12 (.bool false) ?_
       try simp only [tkN]
       refine tk 13 (.bool false) ?_
       try simp only [tkN]
       refine tk0 14 ?_
       try simp only [tkN]
       refine tk0 15 ?_
       try simp only [tkN]
       refine tk0 16 ?_
       try simp only [tkN]
       refine tk0 17 ?_
       try simp only [tkN]
       refine tk0 18 ?_
       try simp only [tkN]
       refine tk0 19 ?_
       try simp only [tkN]
       refine tk0 20 ?_
       try simp only [tkN]
       refine tk0 21 ?_
       try simp only [tkN]
       refine tk0 22 ?_
       try simp only [tkN]
       refine tk0 23 ?_
       try simp only [tkN]
       refine tk0 24 ?_
       try simp only [tkN]
       refine tk 25 (.bool false) ?_
       try simp only [tkN]
       refine tk 26 (.bool false) ?_
       try simp only [tkN]
       refine wpAnyH_done (by kernel_rfl) ?_ _
       refine NoPanic.normal ?_
       go_wp2_with fail
       go_meet
       exact ⟨rfl, hxd⟩
      ·skip
       refine wp_region_noPanic ?_
       refine wp_region_held_drew (S := (fun W => W.cell? ⟨bh, 0, none⟩ = some (.int .i8 nh.f) ∧ W.cell? ⟨bl, 0, none⟩ = some (.int .i8 nl.f) ∧ W.cell? ⟨bl, 1, none⟩ = some (.int .u64 nl.n))) (by kernel_rfl) (HSS.out _ hxd) (fun hHeld => ?_)
       refine tk 0 (.pointer (some ⟨bh, 0, none⟩)) ?_
       try simp only [tkN]
       refine tk 1 (.int .i8 nh.f) ?_
       try simp only [tkN]
       refine tk 2 (.bool true) ?_
       try simp only [tkN]
       refine tk 3 (.bool true) ?_
       try simp only [tkN]
       refine tk 4 (.pointer (some ⟨bh, 0, none⟩)) ?_
       try simp only [tkN]
       refine tk 5 (.int .i8 nh.f) ?_
       try simp only [tkN]
       refine tk 6 (.int .i8 f) ?_
       try simp only [tkN]
       refine tk 7 (.bool false) ?_
       try simp only [tkN]
       refine tk 8 (.bool false) ?_
       try simp only [tkN]
       refine tk 9 (.bool false) ?_
       try simp only [tkN]
       refine tk 10 (.pointer (some ⟨bl, 0, none⟩)) ?_
       try simp only [tkN]
       refine tk 11 (.int .i8 nl.f) ?_
       try simp only [tkN]
       refine tk 12 (.bool true) ?_
       try simp only [tkN]
       refine tk 13 (.bool true) ?_
       try simp only [tkN]
       refine tk 14 (.pointer (some ⟨bl, 0, none⟩)) ?_
       try simp only [tkN]
       refine tk 15 (.int .i8 nl.f) ?_
       try simp only [tkN]
       refine tk 16 (.int .i8 f) ?_
       try simp only [tkN]
       refine tk 18 (.pointer (some ⟨bl, 1, none⟩)) ?_
       try simp only [tkN]
       refine tk 19 (.int .u64 nl.n) ?_
       try simp only [tkN]
       refine tk 20 (.int .u64 n) ?_
       try simp only [tkN]
       refine tk1 17 rfl (AllReadyH.cons rfl (fun K hK => ?_) AllReadyH.nil)
       go_simp
       go_at_call 68
       refine (cmp8_any nl.f f _).mono ?_
       rintro e y1 ⟨rfl, rfl⟩
       refine hK.out _ _ (HSS.out _ hxd) (fun hHeld1 => ?_)
       clear hK K
       try simp only [tkN]
       refine tk1 21 rfl (AllReadyH.cons rfl (fun K hK => ?_) AllReadyH.nil)
       go_simp
       go_at_call 69
       refine (cmp64_any nl.n n _).mono ?_
       rintro e y1 ⟨rfl, rfl⟩
       refine hK.out _ _ (HSS.out _ hxd) (fun hHeld2 => ?_)
       clear hK K
       try simp only [tkN]
       have hz1 : Ext wc (wc.drew.alloc (.cells #[.int .i64 (cmp1 nl.f f), .int .i64 (cmp1 nl.n n)] 3)) := hxd.andAlloc _
       refine tk1 22 rfl (AllReadyH.cons rfl (fun K hK => ?_) AllReadyH.nil)
       go_simp
       refine hK.out _ _ (HSS.out _ hz1) (fun hHeld3 => ?_)
       clear hK K
       try simp only [tkN]
       refine tk1 23 rfl (AllReadyH.cons rfl (fun K hK => ?_) AllReadyH.nil)
       go_simp
       go_at_call 67
       refine (HOR.out wc.heap.size _ (by simp [go_sem]) (by simp [go_sem])).mono ?_
       rintro e y1 ⟨rfl, rfl⟩
       refine hK.out _ _ (HSS.out _ hz1) (fun hHeld4 => ?_)
       clear hK K
       try simp only [tkN]
       refine tk 24 (.bool false) ?_
       try simp only [tkN]
       refine tk 25 (.bool false) ?_
       try simp only [tkN]
       refine tk 26 (.bool false) ?_
       try simp only [tkN]
       refine wpAnyH_done (by kernel_rfl) ?_ _
       refine NoPanic.normal ?_
       go_wp2_with fail
       go_meet
       exact ⟨rfl, hxd.andAlloc _⟩
     case rest =>
      obtain ⟨rfl, hcut⟩ := hcut
      have HXr := Hd (HXw.out.trans hcut.out)
      have hxr1 : Ext w1 wc := HXC.out.trans hcut.out
      have c5 : wc.cell? ⟨w.heap.size, 0, none⟩ = some (.pointer (some ⟨p, 0, none⟩)) := HCA.out wc (HX1.out.trans hxr1)
      have HXr1 := Hd hxr1
      clear hcut hxr1 hA' hB' hokh hokl
      by_cases hkk : kh = kl
      ·have HF := Hd (OpPost.same HST.out HXr.out (show R = (((kh : Int), 0), L) from by rw [HTE3.out, if_pos (by rw [hkk])]))
       subst hkk
       clear c5
       go_wp2_with fail
       go_ret2
       exact HF.out
      ·have HTE4 := Hd (show R = putN L ⟨f, n, kh, kl, []⟩ from by rw [HTE3.out, if_neg (by omega)])
       have hkk2 : ((kh : Int) == (kl : Int)) = false := by simpa using (fun e : (kh : Int) = kl => hkk (by omega))
       have hfb2 := (okA_bd (a := ⟨0, f, n⟩) (by simp [okA, HFT.out])).2
       have hf0 : 0 ≤ f := hfb2.1
       obtain ⟨k, hk⟩ : ∃ k : Tk, k = ⟨⟨f, n, kh, kl⟩, HBF.out, HBN.out, (show (-9223372036854775808 : Int) ≤ kh ∧ (kh : Int) ≤ 9223372036854775807 from by have := HMB.out; omega), (show (-9223372036854775808 : Int) ≤ kl ∧ (kl : Int) ≤ 9223372036854775807 from by have := HMB.out; omega)⟩ := ⟨_, rfl⟩
       have HK := Hd (show k.1 = ⟨f, n, kh, kl⟩ from by rw [hk])
       have HKV := Hd (show kvT k = .agg #[.int .i8 f, .int .u64 n, .int .i64 kh, .int .i64 kl] from by rw [hk]; rfl)
       clear hk hkk
       obtain ⟨wK, hwK⟩ : ∃ W : World, wc.alloc (.cells #[.int .i8 f, .int .u64 n, .int .i64 kh, .int .i64 kl] 136) = W := ⟨_, rfl⟩
       have xK : Ext wc wK := hwK ▸ Ext.alloc _ _
       have k0 : wK.cell? ⟨wc.heap.size, 0, none⟩ = some (.int .i8 f) := by rw [← hwK]; simp [go_sem]
       have k1 : wK.cell? ⟨wc.heap.size, 1, none⟩ = some (.int .u64 n) := by rw [← hwK]; simp [go_sem]
       have k2 : wK.cell? ⟨wc.heap.size, 2, none⟩ = some (.int .i64 kh) := by rw [← hwK]; simp [go_sem]
       have k3 : wK.cell? ⟨wc.heap.size, 3, none⟩ = some (.int .i64 kl) := by rw [← hwK]; simp [go_sem]
       have HEK := Hd hwK
       have HXK := Hd (HXr.out.trans xK)
       have HXK1 := Hd (HXr1.out.trans xK)
       have HKC := Hd (And.intro k0 (And.intro k1 (And.intro k2 k3)))
       have hwc : w.heap.size < wc.heap.size := World.block_lt_of_cell? wc _ c5
       clear hwK xK k0 k1 k2 k3
       go_upto_region 12 with (first | (refine wpList_store_new rfl 136 _ _ rfl _ #[.int .i8 f, .int .u64 n, .int .i64 kh, .int .i64 kl] rfl rfl (by kernel_rfl) rfl (by rfl) ?_))
       rw [HEK.out]
       try simp only [Act.put]
       clear c5
       have HMK := Hd (HM0.out.keep HXK.out.size (fun b hb => Below.block HXK.out b (HM0.out.lt b hb)))
       have hz0 : Ext wK wK.drew := Ext.drew _
       have HLKK := Hd (fun W (hW : Ext wK W) => show (Instr.lookup 67 (.map (some mt)) (.agg #[.int .i8 f, .int .u64 n, .int .i64 kh, .int .i64 kl]) true).run Tryz.prog W = .ok (.tuple #[((look k T).map vvI).getD (.int .i64 0), .bool (look k T).isSome]) W from by
        have := run_lookup_of codedT Tryz.underlying67 (MapRaw.ext HMK.out.mT hW : MapOf W kvT vvI mt T) HMK.out.nT k _ (zeroIv W) true
        rw [HKV.out] at this
        exact this)
       obtain ⟨gv, hgv⟩ : ∃ gv : Int, ((look k T).map vvI).getD (.int .i64 0) = .int .i64 gv := by
        cases look k T with
        | none => exact ⟨0, rfl⟩
        | some id => exact ⟨id, rfl⟩
       obtain ⟨gb, hgb⟩ : ∃ gb : Bool, (look k T).isSome = gb := ⟨_, rfl⟩
       rw [hgv, hgb] at HLKK
       have HGV := Hd hgv
       have HGB := Hd hgb
       clear hgv hgb
       have HSK := Hd (fun W (hW : Ext wK W) => show (fun W => W.cell? ⟨w.heap.size, 0, none⟩ = some (.pointer (some ⟨p, 0, none⟩)) ∧ W.cell? ⟨p, 1, none⟩ = some (.map (some mt)) ∧ W.cell? ⟨wc.heap.size, 0, none⟩ = some (.int .i8 f) ∧ W.cell? ⟨wc.heap.size, 1, none⟩ = some (.int .u64 n) ∧ W.cell? ⟨wc.heap.size, 2, none⟩ = some (.int .i64 kh) ∧ W.cell? ⟨wc.heap.size, 3, none⟩ = some (.int .i64 kl) ∧
         (Instr.lookup 67 (.map (some mt)) (.agg #[.int .i8 f, .int .u64 n, .int .i64 kh, .int .i64 kl]) true).run Tryz.prog W = .ok (.tuple #[.int .i64 gv, .bool gb]) W) W from
        ⟨HCA.out W (HX1.out.trans (HXK1.out.trans hW)), hW.later _ _ HMK.out.c1, hW.later _ _ HKC.out.1, hW.later _ _ HKC.out.2.1, hW.later _ _ HKC.out.2.2.1, hW.later _ _ HKC.out.2.2.2, HLKK.out W hW⟩)
       refine wp_region_noPanic ?_
       refine wp_region_held_drew (S := (fun W => W.cell? ⟨w.heap.size, 0, none⟩ = some (.pointer (some ⟨p, 0, none⟩)) ∧ W.cell? ⟨p, 1, none⟩ = some (.map (some mt)) ∧ W.cell? ⟨wc.heap.size, 0, none⟩ = some (.int .i8 f) ∧ W.cell? ⟨wc.heap.size, 1, none⟩ = some (.int .u64 n) ∧ W.cell? ⟨wc.heap.size, 2, none⟩ = some (.int .i64 kh) ∧ W.cell? ⟨wc.heap.size, 3, none⟩ = some (.int .i64 kl) ∧ (Instr.lookup 67 (.map (some mt)) (.agg #[.int .i8 f, .int .u64 n, .int .i64 kh, .int .i64 kl]) true).run Tryz.prog W = .ok (.tuple #[.int .i64 gv, .bool gb]) W)) (by kernel_rfl) (HSK.out _ hz0) (fun hHeld => ?_)
       refine tk 0 (.pointer (some ⟨p, 0, none⟩)) ?_
       try simp only [tkN]
       refine tk 1 (.pointer (some ⟨p, 0, none⟩)) ?_
       try simp only [tkN]
       refine tk 2 (.pointer (some ⟨p, 1, none⟩)) ?_
       try simp only [tkN]
       refine tk 3 (.map (some mt)) ?_
       try simp only [tkN]
       refine tk 4 (.agg #[.int .i8 f, .int .u64 n, .int .i64 kh, .int .i64 kl]) ?_
       try simp only [tkN]
       refine tk 5 (.tuple #[.int .i64 gv, .bool gb]) ?_
       try simp only [tkN]
       refine tk 6 (.tuple #[.int .i64 gv, .bool gb]) ?_
       try simp only [tkN]
       refine tk 7 (.int .i64 gv) ?_
       try simp only [tkN]
       refine tk 8 (.bool gb) ?_
       try simp only [tkN]
       refine tk 9 (.int .i64 gv) ?_
       try simp only [tkN]
       refine tk 10 (.bool gb) ?_
       try simp only [tkN]
       refine wpAnyH_done (by kernel_rfl) ?_ _
       refine NoPanic.normal ?_
       clear hHeld
       have HXd := Hd hz0
       have HXKd := Hd (HXK.out.trans hz0)
       cases gb with
       | true =>
        have HF := Hd (show OpPost F w p R (.returned (.tuple #[.int .i64 gv, .int .i64 0])) wK.drew from by
         obtain ⟨id, hid⟩ := Option.isSome_iff_exists.1 HGB.out
         obtain ⟨i, rfl, hi, -⟩ := (HMK.out.lT k id).1 hid
         have hg := HGV.out
         rw [hid] at hg
         have hg2 : (i : Int) = gv := by
          have : Value.int .i64 (i : Int) = .int .i64 gv := hg
          injection this
         rw [HK.out] at hi
         exact OpPost.same HST.out HXKd.out (by
          rw [HTE4.out]
          unfold putN
          rw [findN_at HMK.out.inv.1 hi, ← hg2]))
        clear hz0
        go_wp2_with fail
        go_ret2
        exact HF.out
       | false =>
        have HLN := Hd (show look k T = none from by
         have := HGB.out
         cases h : look k T with
         | none => rfl
         | some x => rw [h] at this; cases this)
        have HNO := Hd (show ∀ i : Nat, L[i]? ≠ some ⟨f, n, kh, kl, []⟩ from fun i hi => by
         have := (HMK.out.lT k i).2 ⟨i, rfl, by rw [HK.out]; exact hi, by rw [HK.out]; exact hf0⟩
         rw [HLN.out] at this; cases this)
        have HTE5 := Hd (show R = addN L ⟨f, n, kh, kl, []⟩ from by
         rw [HTE4.out]; unfold putN; rw [findN_none HNO.out])
        have HMd := Hd (HMK.out.keep hz0.size (fun b hb => Below.block hz0 b (HMK.out.lt b hb)))
        have c5 := (HSK.out _ hz0).1
        clear hz0
        by_cases hfull : 65536 ≤ L.length
        ·have HF := Hd (fun W (hW : Ext wK.drew W) => OpPost.same HST.out (HXKd.out.trans hW) (show R = ((0, 200), L) from by
          rw [HTE5.out]; unfold addN; rw [if_pos hfull]))
         have HAD := Hd (addBig_any p L wK.drew ⟨_, _, _, _, _, _, HMd.out⟩ f n kh kl (.slice none 0 0) hfull)
         clear hfull
         go_wp2_with fail
         refine HAD.out.mono ?_
         rintro e w3 ⟨rfl, hx3⟩
         have HX3 := Hd hx3
         clear hx3
         go_wp2_with fail
         go_ret2
         exact HF.out _ HX3.out
        ·have HTE6 := Hd (show R = (((L.length : Int), 0), L ++ [⟨f, n, kh, kl, []⟩]) from by rw [HTE5.out]; unfold addN; rw [if_neg hfull])
         have HAD := Hd (addS_any p L _ mt ml lvs T S ⟨f, n, kh, kl, []⟩ (.slice none 0 0) wK.drew HMd.out (by omega) rfl)
         have HFU := Hd hfull
         clear hfull
         go_wp2_with fail
         refine HAD.out.mono ?_
         rintro e w3 ⟨lv', rfl, ho, hc, hf3, hat, hk3, hcs⟩
         have hlvw : ∀ b, (Value.slice (some ⟨g, 0, none⟩) L.length c).ownBlock = some b → b < w.heap.size := fun b hb => HM0.out.lt b (HM0.out.fp.2.2.2 b hb)
         have hpw : p < w.heap.size := HM0.out.lt p HM0.out.fp.1
         have hne1 : ∀ b, w.heap.size ≤ b → ¬ (b = p ∨ (Value.slice (some ⟨g, 0, none⟩) L.length c).ownBlock = some b) := fun b hb e => by
          rcases e with e | e
          ·omega
          ·have := hlvw b e; omega
         obtain ⟨d0, d1, d2, d3⟩ := HKC.out
         have q5 := hk3.cell c5 (hne1 _ (Nat.le_refl _))
         have q0 := hk3.cell (HXd.out.later _ _ d0) (hne1 _ (by show w.heap.size ≤ wc.heap.size; omega))
         have q1 := hk3.cell (HXd.out.later _ _ d1) (hne1 _ (by show w.heap.size ≤ wc.heap.size; omega))
         have q2 := hk3.cell (HXd.out.later _ _ d2) (hne1 _ (by show w.heap.size ≤ wc.heap.size; omega))
         have q3 := hk3.cell (HXd.out.later _ _ d3) (hne1 _ (by show w.heap.size ≤ wc.heap.size; omega))
         have qp := hcs 1 _ (by omega) HMd.out.c1
         have hT3 : MapOf w3 kvT vvI mt T := MapRaw.kept HMd.out.mT (hk3.block mt (MapRaw.lt HMd.out.mT) (fun e => by
          rcases e with e | e
          ·exact HMd.out.ne.1 e.symm
          ·exact HMd.out.ne.2.2.2.2.1 e))
         have xd3 : Ext w3 w3.drew := Ext.drew _
         obtain ⟨w4, hup, hmt, hg4⟩ := run_update_of codedT Tryz.underlying67 (MapRaw.ext hT3 xd3 : MapOf w3.drew kvT vvI mt T) HMd.out.nT k (L.length : Int)
         rw [HKV.out] at hup
         have hkg : Keep (fun b => b = mt ∨ b = ml) w3 w4 := (xd3.keep _).trans ((Keep.grown hg4).mono fun b _ hb => .inl hb)
         have HTO := Hd (show StTo F w w4 p (L ++ [⟨f, n, kh, kl, []⟩]) (fun b => F b ∨ (w.heap.size ≤ b ∧ b < w4.heap.size)) from by
          refine HM0.out.added (x := ⟨f, n, kh, kl, []⟩) (xv := .slice none 0 0) (T' := store k (L.length : Int) T) (S' := S) HXKd.out RowsOn.nil ho hc hf3 hat hk3 hcs hkg hmt (store_keys HMd.out.nT) ?_ HMd.out.nS (fun y id => ?_) (fun s id => ?_) ?_
          ·have h1 : w3.heap[ml]? = wK.drew.heap[ml]? := hk3.block ml (MapRaw.lt HMd.out.mS) (fun e => by
            rcases e with e | e
            ·exact HMd.out.ne.2.1 e.symm
            ·exact HMd.out.ne.2.2.2.2.2 e)
           have h3 := MapRaw.ext (MapRaw.kept HMd.out.mS h1) xd3
           exact MapRaw.kept h3 (hg4.block ml (MapRaw.lt h3) (fun e => HMd.out.ne.2.2.1 (by injection e with e; exact e.symm)))
          ·by_cases hy : y = k
           ·subst hy
            rw [look_store]
            constructor
            ·intro e
             injection e with e
             exact ⟨L.length, e.symm, getElem?_snoc.2 (.inr ⟨rfl, by rw [HK.out]⟩), by rw [HK.out]; exact hf0⟩
            ·rintro ⟨i, rfl, e2, e3⟩
             rcases getElem?_snoc.1 e2 with e2 | ⟨rfl, -⟩
             ·have := (HMd.out.lT y i).2 ⟨i, rfl, e2, e3⟩
              rw [HLN.out] at this; cases this
             ·rfl
           ·rw [look_other _ hy, HMd.out.lT y id]
            constructor
            ·rintro ⟨i, e1, e2, e3⟩
             exact ⟨i, e1, getElem?_snoc.2 (.inl e2), e3⟩
            ·rintro ⟨i, e1, e2, e3⟩
             rcases getElem?_snoc.1 e2 with e2 | ⟨-, e2⟩
             ·exact ⟨i, e1, e2, e3⟩
             ·exfalso
              injection e2 with f1 f2 f3 f4 _
              apply hy
              apply Subtype.ext
              rw [HK.out]
              obtain ⟨⟨yf, yn, yh, yl⟩, hyo⟩ := y
              simp only [TkD.mk.injEq]
              exact ⟨f1.symm, f2.symm, f3.symm, f4.symm⟩
          ·rw [HMd.out.lS s id]
           constructor
           ·rintro ⟨i, r, e1, e2, e3⟩
            exact ⟨i, r, e1, getElem?_snoc.2 (.inl e2), e3⟩
           ·rintro ⟨i, r, e1, e2, e3⟩
            rcases getElem?_snoc.1 e2 with e2 | ⟨-, e2⟩
            ·exact ⟨i, r, e1, e2, e3⟩
            ·injection e2 with f1
             omega
          ·exact InvL.snoc HMd.out.inv HNO.out (by have := HFU.out; omega) ⟨⟨HBF.out, HBN.out, by show (-9223372036854775808 : Int) ≤ kh ∧ (kh : Int) ≤ 9223372036854775807; have := HMB.out; omega, by show (-9223372036854775808 : Int) ≤ kl ∧ (kl : Int) ≤ 9223372036854775807; have := HMB.out; omega⟩, .inr ⟨hf0, rfl⟩⟩)
         have hbn : L.length ≤ 65536 := HMd.out.inv.2.1
         have HF := Hd (show OpPost F w p R (.returned (.tuple #[.int .i64 L.length, .int .i64 0])) w4 from by
          rw [HTE6.out]; exact ⟨rfl, _, HTO.out⟩)
         have HGS := Hd (show ∀ b j v, b ≠ mt → w3.drew.cell? ⟨b, j, none⟩ = some v → w4.cell? ⟨b, j, none⟩ = some v from fun b j v hb hv => hg4.cell hv (fun e => hb (by injection e)))
         have hpmt : p ≠ mt := HMd.out.ne.1
         have hmtw : mt < w.heap.size := HM0.out.lt mt HM0.out.fp.2.1
         have HSW := Hd (show (fun W => W.cell? ⟨w.heap.size, 0, none⟩ = some (.pointer (some ⟨p, 0, none⟩)) ∧ W.cell? ⟨p, 1, none⟩ = some (.map (some mt)) ∧ W.cell? ⟨wc.heap.size, 0, none⟩ = some (.int .i8 f) ∧ W.cell? ⟨wc.heap.size, 1, none⟩ = some (.int .u64 n) ∧ W.cell? ⟨wc.heap.size, 2, none⟩ = some (.int .i64 kh) ∧ W.cell? ⟨wc.heap.size, 3, none⟩ = some (.int .i64 kl)) w3.drew from
          ⟨xd3.later _ _ q5, xd3.later _ _ qp, xd3.later _ _ q0, xd3.later _ _ q1, xd3.later _ _ q2, xd3.later _ _ q3⟩)
         have HSW4 := Hd (show (fun W => W.cell? ⟨w.heap.size, 0, none⟩ = some (.pointer (some ⟨p, 0, none⟩)) ∧ W.cell? ⟨p, 1, none⟩ = some (.map (some mt)) ∧ W.cell? ⟨wc.heap.size, 0, none⟩ = some (.int .i8 f) ∧ W.cell? ⟨wc.heap.size, 1, none⟩ = some (.int .u64 n) ∧ W.cell? ⟨wc.heap.size, 2, none⟩ = some (.int .i64 kh) ∧ W.cell? ⟨wc.heap.size, 3, none⟩ = some (.int .i64 kl)) w4 from by
          obtain ⟨a1, a2, a3, a4, a5, a6⟩ := HSW.out
          exact ⟨HGS.out _ _ _ (by omega) a1, HGS.out _ _ _ hpmt a2, HGS.out _ _ _ (by omega) a3, HGS.out _ _ _ (by omega) a4, HGS.out _ _ _ (by omega) a5, HGS.out _ _ _ (by omega) a6⟩)
         have HUP := Hd (show (Instr.mapUpdate 67 (.map (some mt)) (.agg #[.int .i8 f, .int .u64 n, .int .i64 kh, .int .i64 kl]) (.int .i64 L.length)).run Tryz.prog w3.drew = .ok () w4 from hup)
         obtain ⟨ln, hln⟩ : ∃ ln, ln = L.length := ⟨_, rfl⟩
         rw [← hln] at HF hbn HUP ⊢
         clear hln
         clear ho hc hf3 hat hk3 hcs hup hmt hg4 c5 q0 q1 q2 q3 q5 qp d0 d1 d2 d3 hT3 xd3 hkg
         go_upto_region 17 with fail
         refine wp_region_noPanic ?_
         refine wp_region_held_drew (S := (fun W => W.cell? ⟨w.heap.size, 0, none⟩ = some (.pointer (some ⟨p, 0, none⟩)) ∧ W.cell? ⟨p, 1, none⟩ = some (.map (some mt)) ∧ W.cell? ⟨wc.heap.size, 0, none⟩ = some (.int .i8 f) ∧ W.cell? ⟨wc.heap.size, 1, none⟩ = some (.int .u64 n) ∧ W.cell? ⟨wc.heap.size, 2, none⟩ = some (.int .i64 kh) ∧ W.cell? ⟨wc.heap.size, 3, none⟩ = some (.int .i64 kl))) (by kernel_rfl) (HSW.out) (fun hHeld => ?_)
         refine tk 0 (.pointer (some ⟨p, 0, none⟩)) ?_
         try simp only [tkN]
         refine tk 1 (.pointer (some ⟨p, 0, none⟩)) ?_
         try simp only [tkN]
         refine tk 2 (.pointer (some ⟨p, 1, none⟩)) ?_
         try simp only [tkN]
         refine tk 3 (.map (some mt)) ?_
         try simp only [tkN]
         refine tk 4 (.agg #[.int .i8 f, .int .u64 n, .int .i64 kh, .int .i64 kl]) ?_
         try simp only [tkN]
         refine tk 5 (.int .i64 ln) ?_
         try simp only [tkN]
         have hup := HUP.out
         refine tk1 6 rfl (AllReadyH.cons rfl (fun K hK => ?_) AllReadyH.nil)
         go_simp
         refine hK.out _ _ HSW4.out (fun hHeld1 => ?_)
         clear hK K hup
         try simp only [tkN]
         refine wpAnyH_done (by kernel_rfl) ?_ _
         refine NoPanic.normal ?_
         clear hHeld hHeld1
         go_wp2_with fail
         go_ret2
         exact HF.out
end Go.Proofs.YtjjbdbklbghlhaaGreatDoor
