/- The maker's then: what b makes of what a makes. -/
import Derived.Test.YtjjbdbklbghlhaaGreatDoorMA
import Derived.Test.YtjjbdbklbghlhaaGreatDoorMK
namespace Go.Proofs.YtjjbdbklbghlhaaGreatDoor
open Go.RowKit Go.Sort Go.Maps Go.Lib
set_option linter.unusedSimpArgs false

def ThenOf (k : Nat) : Prop := ∀ (F : Nat → Prop) (p m mt : Nat) (L : List NdD) (D : List (Dk × Nat)) (a b : Nat) (w : World), a < k → a < L.length → b < L.length → Mk F w p m mt L D →
 Calls Tryz.prog 75 #[.pointer (some ⟨m, 0, none⟩), .int .i64 a, .int .i64 b] w (MPost F w p m mt (thenP k L a b))
theorem rowsNil {B : Nat → Prop} (w : World) : RowsOn B w [] (.slice none 0 0) := ⟨none, 0, 0, rfl, rfl, Nat.le_refl _, by omega, .inl rfl⟩
theorem fold_err {b : Nat} {rs : List RowD} {R : Out} (h : R.1.1 ≠ 0) : rs.foldl (rowStep b) R = R := by rw [← rowsThen_eq]; exact rowsThen_err h
theorem fold_fine {b : Nat} {L0 : List NdD} {rs : List RowD} {R : Out} (h : Fine L0 R) (hb : b < L0.length) : Fine L0 (rs.foldl (rowStep b) R) := by rw [← rowsThen_eq]; exact rowsThen_fine h hb

set_option maxHeartbeats 8000000 in
set_option maxRecDepth 100000 in
theorem dthen1_any (k : Nat) (IH : ThenOf k) (F : Nat → Prop) (p m mt : Nat) (L : List NdD) (D : List (Dk × Nat)) (a b : Nat) (w : World) (hak : a < k + 1) (ha : a < L.length) (hb : b < L.length) (h : Mk F w p m mt L D)
  (b0 b1 b2 : Nat) (h0 : Boxes F mt w b0 (.pointer (some ⟨m, 0, none⟩))) (h1 : Boxes F mt w b1 (.int .i64 a)) (h2 : Boxes F mt w b2 (.int .i64 b)) :
  Calls Tryz.prog 111 #[.pointer (some ⟨b0, 0, none⟩), .pointer (some ⟨b1, 0, none⟩), .pointer (some ⟨b2, 0, none⟩)] w (MPost F w p m mt (thenP (k + 1) L a b)) := by
 have HM := Hd h
 have HIH := Hd IH
 have HAB := Hd (show a < k + 1 ∧ a < L.length ∧ b < L.length from ⟨hak, ha, hb⟩)
 have HBX := Hd (And.intro h0 (And.intro h1 h2))
 have HND := Hd (dnode_any p m mt L D a w h ha)
 have HUP := Hd (show thenP (k + 1) L a b = (if (nodeP L a).f < 0 then rowsThen b (nodeP L a).leaf (leafR L []) else
   bindR (thenP k L (nodeP L a).hi.toNat b) fun h L1 => bindR (thenP k L1 (nodeP L a).lo.toNat b) fun l L2 => pickP (h + l + 1) L2 ((nodeP L a).f, (nodeP L a).n) h l) from by rw [thenP])
 have HKD := Hd (fun hf => h.inv.kids ha hf)
 have HLF := Hd (h.leafs ha)
 have HTB := Hd (fun hf => h.testB ha hf)
 generalize thenP (k + 1) L a b = R at *
 obtain ⟨x, hx⟩ : ∃ x, x = nodeP L a := ⟨_, rfl⟩
 rw [← hx] at HND HUP HKD HLF HTB
 have k0 := h0.c
 have k1 := h1.c
 clear h IH hak ha hb hx h0 h1 h2
 go_enter Tryz.func111, Tryz.ntmps111
 go_wp2_with fail
 refine HND.out.mono ?_
 rintro e w1 ⟨q, kk, c, rfl, hrv, hx1⟩
 obtain ⟨w2, h2⟩ : ∃ W : World, w1.alloc (.cells #[.int .i8 x.f, .int .u64 x.n, .int .i64 x.hi, .int .i64 x.lo, .slice q kk c] 42) = W := ⟨_, rfl⟩
 have x2 : Ext w1 w2 := h2 ▸ Ext.alloc _ _
 obtain ⟨d0, d1, d2, d3, d4⟩ : w2.cell? ⟨w1.heap.size, 0, none⟩ = some (.int .i8 x.f) ∧ w2.cell? ⟨w1.heap.size, 1, none⟩ = some (.int .u64 x.n) ∧ w2.cell? ⟨w1.heap.size, 2, none⟩ = some (.int .i64 x.hi) ∧ w2.cell? ⟨w1.heap.size, 3, none⟩ = some (.int .i64 x.lo) ∧ w2.cell? ⟨w1.heap.size, 4, none⟩ = some (.slice q kk c) := by rw [← h2]; exact dcell5 _ _ _ _ _ _
 have hs1 : w.heap.size ≤ w1.heap.size := hx1.size
 have HX := Hd (hx1.trans x2)
 have HRV := Hd (hrv.ext x2)
 have HE2 := Hd h2
 have HS2 := Hd (show w2.heap.size = w1.heap.size + 1 from by rw [← h2, World.size_alloc])
 clear h2 x2 hx1 hrv HND k0 k1
 go_upto_region 2 with fail
 rw [HE2.out]
 clear HE2
 have HM2 := Hd (HM.out.ext HX.out)
 have HB0 := Hd (HBX.out.1.ext HX.out)
 have HB2 := Hd (HBX.out.2.2.ext HX.out)
 have HSC := Hd (show ∀ (F' : Nat → Prop) (W : World), Went F mt w2 F' W → ((fun W : World => W.cell? ⟨b0, 0, none⟩ = some (.pointer (some ⟨m, 0, none⟩)) ∧ W.cell? ⟨b2, 0, none⟩ = some (.int .i64 b))) W from fun F' W hw => ⟨(HB0.out.keep hw.1 hw.2).c, (HB2.out.keep hw.1 hw.2).c⟩)
 by_cases hxf : x.f < 0
 case pos =>
  have hgd : decide (0 ≤ x.f) = false := decide_eq_false (by omega)
  have HUL := Hd (show R = x.leaf.foldl (rowStep b) (leafR L []) from by rw [HUP.out, if_pos hxf]; exact rowsThen_eq _ _ _)
  obtain ⟨_, _, _, he, hkl, hkc, hkm, -⟩ := id HRV.out
  cases he
  have HKL := Hd hkl
  have hk64 : kk ≤ 64 := by have := HLF.out.1; omega
  obtain ⟨vs, hvs, hva⟩ := rowsVs HRV.out
  have HVA := Hd (show ∀ (F' : Nat → Prop) (W : World), Went F mt w2 F' W → ∀ i (hi : i < x.leaf.length) (hi' : i < vs.length), ∃ b o, q = some ⟨b, o, none⟩ ∧ W.cell? ⟨b, o + i, none⟩ = some vs[i] ∧ RowF F' mt W (x.leaf[i]) vs[i] from fun F' W hW i hi hi' => by
   have hlt := HM.out.lt
   obtain ⟨_, _, _, he, -, -, -, hor⟩ := id HRV.out
   cases he
   rcases hor with e | ⟨b', o, ws, hp, hB, hblt, hwl, hr, hrow⟩
   ·rw [e] at hi; simp at hi
   ·rcases hva with e | ⟨b2', o2, hp2, hr2⟩
    ·rw [e] at hi; simp at hi
    ·rw [hp] at hp2
     cases hp2
     refine ⟨b', o, hp, ?_, ?_⟩
     ·exact hW.2.cell (hr2 i _ (List.getElem?_eq_getElem hi')) (fun e => by
      have hB2 : w.heap.size ≤ b' := hB
      rcases e with e | e
      ·have h9 : b' < w.heap.size := hlt.1 _ e
       omega
      ·have h9 : b' = mt := e
       have := hlt.2.2
       omega)
     ·exact RowF.went (RowOn.mono (hvs.2 i hi hi') (fun z hz hb => ⟨fun e => by have := hlt.1 _ e; omega, fun e => by have := hlt.2.2; omega⟩)) hW)
  have HVL := Hd hvs.1
  have HLEAF := Hd (leafS_any p L [] (.slice none 0 0) w2 HM2.out.st (rowsNil (B := AnyB) w2) (by simp) (fun r hr => by cases hr) HM2.out.tab)
  obtain ⟨T, hT⟩ : ∃ T, T = leafP L [] := ⟨_, rfl⟩
  have HTR := Hd (show leafR L [] = ((T.1.2, T.1.1.toNat), T.2) from by rw [hT]; rfl)
  have HTN := Hd (show T.1.2 = 0 → T.1.1 = ((T.1.1.toNat : Nat) : Int) from fun h5 => by rw [hT] at h5 ⊢; exact leafP_nn h5)
  have htf := leafR_fine HM.out.inv []
  rw [HTR.out] at htf
  have HTF := Hd htf
  rw [← hT] at HLEAF
  have km := HM2.out.c0
  have k0 := HB0.out.c
  clear hvs hva hkl hT htf hxf HUP d1 d2 d3
  have HD4 := Hd d4
  clear d4
  go_wp2_with fail
  refine HLEAF.out.mono ?_
  rintro e w5 ⟨rfl, F5, hto⟩
  have HM5 := Hd (HM2.out.op hto HTF.out.pre HTF.out.inv)
  have HW5 := Hd (Went.op (mt := mt) hto)
  have HMU := Hd (dmust_any T.1.1 T.1.2 w5)
  clear hto km k0 d0
  go_wp2_with fail
  refine HMU.out.mono ?_
  rintro e w6 ⟨he, rfl⟩
  have HWX := Hd (Went.ofExt (F := F) (mt := mt) HX.out)
  by_cases r3 : T.1.2 = 0
  case neg =>
   rw [endD_no r3] at he
   subst he
   have HFIN := Hd (show MPost F w p m mt R (.panicked (stopC T.1.2)) w5 from by
    have hw := HWX.out.trans HW5.out
    rw [HUL.out, HTR.out, fold_err (by exact r3)]
    exact ⟨(endD_no r3 _).symm, F5, D, HM5.out, hw.1, hw.2⟩)
   clear r3
   go_wp2_with fail
   exact ⟨rfl, HFIN.out⟩
  rw [r3, endD_ok] at he
  subst he
  have HT0 := Hd (show leafR L [] = ((0, T.1.1.toNat), T.2) from by rw [HTR.out, r3])
  have HTE := Hd (HTN.out r3)
  obtain ⟨o0, ho0⟩ : ∃ o0, o0 = T.1.1.toNat := ⟨_, rfl⟩
  rw [← ho0] at HT0 HTE
  rw [HTE.out]
  have hd4 : w5.cell? ⟨w1.heap.size, 4, none⟩ = some (.slice q kk c) := by
   refine HW5.out.2.cell HD4.out (fun e => ?_)
   have hlt := HM.out.lt
   rcases e with e | e
   ·have h9 : w1.heap.size < w.heap.size := hlt.1 _ e
    omega
   ·have h9 : w1.heap.size = mt := e
    have := hlt.2.2
    omega
  clear r3 ho0 HTE
  go_upto_region 5 with fail
  go_wp2_with fail
  clear hd4
  go_loopw [5, 41] (fun ov i wr => ∃ (I o : Nat) (F' : Nat → Prop) (D' : List (Dk × Nat)) (L' : List NdD), I ≤ kk ∧ i = .int .i64 I ∧ ov = .int .i64 o ∧ Hid ((x.leaf.take I).foldl (rowStep b) (leafR L []) = ((0, o), L')) ∧ Hid (Mk F' wr p m mt L' D') ∧ Hid (Went F mt w2 F' wr)) (fun _ i _ => kk - (intOf i).toNat)
  case atStart => exact ⟨0, o0, F5, D, T.2, Nat.zero_le _, rfl, rfl, HT0.out, HM5.out, HW5.out⟩
  case round =>
   obtain ⟨wo, rfl⟩ : ∃ wo : World, wo = wr := ⟨_, rfl⟩
   obtain ⟨I, o, F', D', L', hI, rfl, rfl, hfo, hM', hW'⟩ := hrel
   by_cases h1 : I < kk
   case neg =>
    have HFIN := Hd (show MPost F w p m mt R (.returned (.int .i64 o)) wo from by
     have h3 := hfo.out
     rw [List.take_of_length_le (by have := HKL.out; omega)] at h3
     have hw := HWX.out.trans hW'.out
     rw [HUL.out, h3]
     exact ⟨(endD_ok _).symm, F', D', hM'.out, hw.1, hw.2⟩)
    go_wp2_with fail
    go_ret
    exact HFIN.out
   have hIl : I < x.leaf.length := by rw [← HKL.out]; exact h1
   have hIv : I < vs.length := by rw [HVL.out]; exact hIl
   obtain ⟨b', oo, rfl, hc, hrw⟩ := HVA.out F' wo hW'.out I hIl hIv
   have hr11 := HLF.out.2 _ (List.getElem_mem hIl)
   have HTK := Hd (show (x.leaf.take (I + 1)).foldl (rowStep b) (leafR L []) = rowStep b ((0, o), L') x.leaf[I] from by
    rw [List.take_succ_eq_append_getElem hIl, List.foldl_append, hfo.out]; rfl)
   have HDR := Hd (show R = (x.leaf.drop (I + 1)).foldl (rowStep b) (rowStep b ((0, o), L') x.leaf[I]) from by
    rw [HUL.out, ← HTK.out, ← List.foldl_append, List.take_append_drop])
   have hfin : Fine L ((0, o), L') := by
    have := fold_fine (rs := x.leaf.take I) (leafR_fine HM.out.inv []) HAB.out.2.2
    rw [hfo.out] at this
    exact this
   have hol := hfin.lt rfl
   have hbl : b < L'.length := Nat.lt_of_lt_of_le HAB.out.2.2 hfin.pre.length_le
   dsimp only at hol
   obtain ⟨row, hro⟩ : ∃ row, row = x.leaf[I] := ⟨_, rfl⟩
   obtain ⟨rv, hrv⟩ : ∃ rv, rv = vs[I] := ⟨_, rfl⟩
   rw [← hro] at HTK HDR hr11 hrw
   rw [← hrv] at hc hrw
   obtain ⟨R1, hR1⟩ : ∃ R1, R1 = behindP (b + 1) L' row b := ⟨_, rfl⟩
   have hfn1 : Fine L' R1 := by rw [hR1]; exact behindP_fine hfin.inv hbl
   obtain ⟨R2, hR2⟩ : ∃ R2, R2 = unionP (o + R1.1.2 + 1) R1.2 o R1.1.2 := ⟨_, rfl⟩
   have HST := Hd (show rowStep b ((0, o), L') row = (if R1.1.1 = 0 then R2 else R1) from by
    unfold rowStep bindR
    rw [if_pos rfl]
    dsimp only
    rw [← hR1, hR2])
   have HFN1 := Hd hfn1
   have HOL := Hd hol
   have hMo := hM'.out
   have xzo : Ext wo wo.drew := Ext.drew _
   have HMD := Hd (hMo.ext xzo)
   have HWD := Hd (hW'.out.trans (Went.ofExt xzo))
   have HC1 := Hd (show Calls Tryz.prog 113 #[.pointer (some ⟨m, 0, none⟩), rv, .int .i64 b] wo.drew (MPost F' wo.drew p m mt R1) from by
    rw [hR1]; exact dbehind_any (b + 1) F' p m mt L' D' row rv b wo.drew (by omega) hbl (by omega) (RowF.ext hrw xzo) HMD.out)
   obtain ⟨pv, cv, rfl, -⟩ := RowOn.form hrw
   clear hro hrv hrw hfin hol hbl hfn1 hR1 hMo hfo hM' xzo hr11
   have hS0 := HSC.out F' wo.drew HWD.out
   have HC := Hd hR2
   clear hR2
   go_upto_region 8 with fail
   clear hc
   refine wp_region_held_drew (S := (fun W : World => W.cell? ⟨b0, 0, none⟩ = some (.pointer (some ⟨m, 0, none⟩)) ∧ W.cell? ⟨b2, 0, none⟩ = some (.int .i64 b))) (by kernel_rfl) (hS0) (fun hHeld => ?_)
   refine tk 0 (.pointer (some ⟨m, 0, none⟩)) ?_
   try simp only [tkN]
   refine tk 1 (.int .i64 o) ?_
   try simp only [tkN]
   refine tk 2 (.pointer (some ⟨m, 0, none⟩)) ?_
   try simp only [tkN]
   refine tk 3 (.slice pv row.length cv) ?_
   try simp only [tkN]
   refine tk 4 (.int .i64 b) ?_
   try simp only [tkN]
   refine tk1 5 rfl (AllReadyH.cons rfl (fun K hK => ?_) AllReadyH.nil)
   go_simp
   go_at_call 113
   refine (HC1.out).mono ?_
   rintro e w11 ⟨he, F11, D11, mk11, hs11, hk11⟩
   have we11 : Went F mt w2 F11 w11 := Went.trans HWD.out ⟨hs11, hk11⟩
   have hw := HWX.out.trans we11
   by_cases r11 : R1.1.1 = 0
   case neg =>
    rw [endD_no r11] at he
    subst he
    have HFIN := Hd (show MPost F w p m mt R (.panicked (stopC R1.1.1)) w11 from by
     rw [HDR.out, HST.out, if_neg r11, fold_err r11]
     exact ⟨(endD_no r11 _).symm, F11, D11, mk11, hw.1, hw.2⟩)
    go_wp2_with fail
    exact ⟨rfl, HFIN.out⟩
   rw [r11, endD_ok] at he
   subst he
   clear hw
   have HC2 := Hd (show Calls Tryz.prog 77 #[.pointer (some ⟨m, 0, none⟩), .int .i64 o, .int .i64 R1.1.2] w11 (MPost F11 w11 p m mt R2) from by
    rw [HC.out]; exact dunion_any _ F11 p m mt R1.2 D11 o R1.1.2 w11 (by omega) (by have := HFN1.out.pre.length_le; have := HOL.out; omega) (HFN1.out.lt r11) mk11)
   refine hK.out _ _ (HSC.out F11 w11 we11) (fun hh11 => ?_)
   clear hK K
   try simp only [tkN]
   refine tk1 6 rfl (AllReadyH.cons rfl (fun K hK => ?_) AllReadyH.nil)
   go_simp
   go_at_call 77
   refine (HC2.out).mono ?_
   rintro e w12 ⟨he, F12, D12, mk12, hs12, hk12⟩
   have we12 : Went F mt w2 F12 w12 := Went.trans we11 ⟨hs12, hk12⟩
   have hw := HWX.out.trans we12
   by_cases r12 : R2.1.1 = 0
   case neg =>
    rw [endD_no r12] at he
    subst he
    have HFIN := Hd (show MPost F w p m mt R (.panicked (stopC R2.1.1)) w12 from by
     rw [HDR.out, HST.out, if_pos r11, fold_err r12]
     exact ⟨(endD_no r12 _).symm, F12, D12, mk12, hw.1, hw.2⟩)
    go_wp2_with fail
    exact ⟨rfl, HFIN.out⟩
   rw [r12, endD_ok] at he
   subst he
   clear hw
   refine hK.out _ _ (HSC.out F12 w12 we12) (fun hh12 => ?_)
   clear hK K
   try simp only [tkN]
   refine tk 7 (.int .i64 R2.1.2) ?_
   try simp only [tkN]
   refine wpAnyH_done (by kernel_rfl) ?_ _
   have HN := Hd (show (x.leaf.take (I + 1)).foldl (rowStep b) (leafR L []) = ((0, R2.1.2), R2.2) from by rw [HTK.out, HST.out, if_pos r11]; exact out_eta r12)
   clear r11 r12
   go_wp2_with fail
   go_roundw
   case rel => exact ⟨I + 1, R2.1.2, F12, D12, R2.2, by omega, by go_num, rfl, HN.out, mk12, we12⟩
   case measure => simp [intOf]; omega
 have hxf0 : 0 ≤ x.f := by omega
 have hgd : decide (0 ≤ x.f) = true := by simpa using hxf0
 obtain ⟨hhi, hlo, hhl, hll, -⟩ := HKD.out hxf0
 have HTS := Hd (HTB.out hxf0)
 have HUN := Hd (HUP.out.trans (if_neg hxf))
 obtain ⟨ih, hih⟩ : ∃ ih, ih = x.hi.toNat := ⟨_, rfl⟩
 obtain ⟨il, hil⟩ : ∃ il, il = x.lo.toNat := ⟨_, rfl⟩
 rw [← hih] at hhi hhl HUN
 rw [← hil] at hlo hll HUN
 rw [hhi] at d2
 rw [hlo] at d3
 obtain ⟨xf, hxfe⟩ : ∃ xf, xf = x.f := ⟨_, rfl⟩
 obtain ⟨xn, hxne⟩ : ∃ xn, xn = x.n := ⟨_, rfl⟩
 rw [← hxfe, ← hxne] at HUN HTS
 rw [← hxfe] at hxf hxf0 d0 hgd
 rw [← hxne] at d1
 have HHL := Hd (show (ih < k ∧ ih < L.length) ∧ (il < k ∧ il < L.length) from by have := HAB.out; omega)
 have HD := Hd (And.intro d0 (And.intro d1 (And.intro d2 d3)))
 obtain ⟨R1, hR1⟩ : ∃ R1, R1 = thenP k L ih b := ⟨_, rfl⟩
 obtain ⟨R2, hR2⟩ : ∃ R2, R2 = thenP k R1.2 il b := ⟨_, rfl⟩
 have hfn1 : Fine L R1 := by rw [hR1]; exact thenP_fine HM.out.inv HHL.out.1.2 HAB.out.2.2
 have hfn2 : Fine R1.2 R2 := by rw [hR2]; exact thenP_fine hfn1.inv (by have := HHL.out.2.2; have := hfn1.pre.length_le; omega) (by have := HAB.out.2.2; have := hfn1.pre.length_le; omega)
 have HRR := Hd (show R = (if R1.1.1 = 0 then (if R2.1.1 = 0 then pickP (R1.1.2 + R2.1.2 + 1) R2.2 (xf, xn) R1.1.2 R2.1.2 else R2) else R1) from by
  rw [HUN.out, ← hR1]
  unfold bindR
  dsimp only
  rw [← hR2])
 have HFN1 := Hd hfn1
 have HFN2 := Hd hfn2
 have xzo : Ext w2 w2.drew := Ext.drew _
 have HMo := Hd (HM2.out.ext xzo)
 have HWo := Hd (Went.ofExt (F := F) (mt := mt) xzo)
 have HWX := Hd (Went.ofExt (F := F) (mt := mt) HX.out)
 have HC1 := Hd (show Calls Tryz.prog 75 #[.pointer (some ⟨m, 0, none⟩), .int .i64 ih, .int .i64 b] w2.drew (MPost F w2.drew p m mt R1) from by
  rw [hR1]; exact HIH.out F p m mt L D ih b w2.drew HHL.out.1.1 HHL.out.1.2 HAB.out.2.2 HMo.out)
 have HC2 := Hd (show ∀ F1 D1 W, Mk F1 W p m mt R1.2 D1 → Calls Tryz.prog 75 #[.pointer (some ⟨m, 0, none⟩), .int .i64 il, .int .i64 b] W (MPost F1 W p m mt R2) from fun F1 D1 W hM => by
  rw [hR2]; exact HIH.out F1 p m mt R1.2 D1 il b W HHL.out.2.1 (by have := HHL.out.2.2; have := hfn1.pre.length_le; omega) (by have := HAB.out.2.2; have := hfn1.pre.length_le; omega) hM)
 have HSW := Hd (show ∀ (F' : Nat → Prop) (W : World), Went F mt w2 F' W → ((fun W : World => W.cell? ⟨b0, 0, none⟩ = some (.pointer (some ⟨m, 0, none⟩)) ∧ W.cell? ⟨b2, 0, none⟩ = some (.int .i64 b) ∧ W.cell? ⟨w1.heap.size, 0, none⟩ = some (.int .i8 xf) ∧ W.cell? ⟨w1.heap.size, 1, none⟩ = some (.int .u64 xn) ∧ W.cell? ⟨w1.heap.size, 2, none⟩ = some (.int .i64 ih) ∧ W.cell? ⟨w1.heap.size, 3, none⟩ = some (.int .i64 il))) W from fun F' W hw => by
  have nf : ¬ (F w1.heap.size ∨ w1.heap.size = mt) := by
   have hlt := HM.out.lt
   rintro (e | e)
   ·have := hlt.1 _ e; omega
   ·have := hlt.2.2; omega
  have h7 := HSC.out F' W hw
  exact ⟨h7.1, h7.2, hw.2.cell HD.out.1 nf, hw.2.cell HD.out.2.1 nf, hw.2.cell HD.out.2.2.1 nf, hw.2.cell HD.out.2.2.2 nf⟩)
 have hS0 := HSW.out F w2.drew HWo.out
 clear hfn1 hfn2 hR1 hR2 xzo hhi hlo hhl hll hih hil hxfe hxne HUP HKD HLF HTB HRV d4
 go_upto_region 3 with fail
 clear d0 d1 d2 d3
 refine wp_region_held_drew (S := (fun W : World => W.cell? ⟨b0, 0, none⟩ = some (.pointer (some ⟨m, 0, none⟩)) ∧ W.cell? ⟨b2, 0, none⟩ = some (.int .i64 b) ∧ W.cell? ⟨w1.heap.size, 0, none⟩ = some (.int .i8 xf) ∧ W.cell? ⟨w1.heap.size, 1, none⟩ = some (.int .u64 xn) ∧ W.cell? ⟨w1.heap.size, 2, none⟩ = some (.int .i64 ih) ∧ W.cell? ⟨w1.heap.size, 3, none⟩ = some (.int .i64 il))) (by kernel_rfl) (hS0) (fun hHeld => ?_)
 refine tk 0 (.pointer (some ⟨m, 0, none⟩)) ?_
 try simp only [tkN]
 refine tk 1 (.pointer (some ⟨w1.heap.size, 0, none⟩)) ?_
 try simp only [tkN]
 refine tk 2 (.int .i8 xf) ?_
 try simp only [tkN]
 refine tk 3 (.pointer (some ⟨w1.heap.size, 1, none⟩)) ?_
 try simp only [tkN]
 refine tk 4 (.int .u64 xn) ?_
 try simp only [tkN]
 refine tk 5 (.pointer (some ⟨m, 0, none⟩)) ?_
 try simp only [tkN]
 refine tk 6 (.pointer (some ⟨w1.heap.size, 2, none⟩)) ?_
 try simp only [tkN]
 refine tk 7 (.int .i64 ih) ?_
 try simp only [tkN]
 refine tk 8 (.int .i64 b) ?_
 try simp only [tkN]
 refine tk 10 (.pointer (some ⟨m, 0, none⟩)) ?_
 try simp only [tkN]
 refine tk 11 (.pointer (some ⟨w1.heap.size, 3, none⟩)) ?_
 try simp only [tkN]
 refine tk 12 (.int .i64 il) ?_
 try simp only [tkN]
 refine tk 13 (.int .i64 b) ?_
 try simp only [tkN]
 refine tk1 9 rfl (AllReadyH.cons rfl (fun K hK => ?_) AllReadyH.nil)
 go_simp
 go_at_call 75
 refine (HC1.out).mono ?_
 rintro e w11 ⟨he, F11, D11, mk11, hs11, hk11⟩
 have we11 : Went F mt w2 F11 w11 := Went.trans HWo.out ⟨hs11, hk11⟩
 have hw := HWX.out.trans we11
 by_cases r11 : R1.1.1 = 0
 case neg =>
  rw [endD_no r11] at he
  subst he
  have HFIN := Hd (show MPost F w p m mt R (.panicked (stopC R1.1.1)) w11 from by
   rw [HRR.out, if_neg r11]
   exact ⟨(endD_no r11 _).symm, F11, D11, mk11, hw.1, hw.2⟩)
  go_wp2_with fail
  exact ⟨rfl, HFIN.out⟩
 rw [r11, endD_ok] at he
 subst he
 clear hw
 refine hK.out _ _ (HSW.out F11 w11 we11) (fun hh11 => ?_)
 clear hK K
 try simp only [tkN]
 refine tk1 14 rfl (AllReadyH.cons rfl (fun K hK => ?_) AllReadyH.nil)
 go_simp
 go_at_call 75
 refine (HC2.out F11 D11 w11 mk11).mono ?_
 rintro e w12 ⟨he, F12, D12, mk12, hs12, hk12⟩
 have we12 : Went F mt w2 F12 w12 := Went.trans we11 ⟨hs12, hk12⟩
 have hw := HWX.out.trans we12
 by_cases r12 : R2.1.1 = 0
 case neg =>
  rw [endD_no r12] at he
  subst he
  have HFIN := Hd (show MPost F w p m mt R (.panicked (stopC R2.1.1)) w12 from by
   rw [HRR.out, if_pos r11, if_neg r12]
   exact ⟨(endD_no r12 _).symm, F12, D12, mk12, hw.1, hw.2⟩)
  go_wp2_with fail
  exact ⟨rfl, HFIN.out⟩
 rw [r12, endD_ok] at he
 subst he
 clear hw
 refine hK.out _ _ (HSW.out F12 w12 we12) (fun hh12 => ?_)
 clear hK K
 try simp only [tkN]
 obtain ⟨R3, hR3⟩ : ∃ R3, R3 = pickP (R1.1.2 + R2.1.2 + 1) R2.2 (xf, xn) R1.1.2 R2.1.2 := ⟨_, rfl⟩
 have HC3 := Hd (show Calls Tryz.prog 112 #[.pointer (some ⟨m, 0, none⟩), .int .i8 xf, .int .u64 xn, .int .i64 R1.1.2, .int .i64 R2.1.2] w12 (MPost F12 w12 p m mt R3) from by
  rw [hR3]; exact dpick_any _ F12 p m mt R2.2 D12 xf xn R1.1.2 R2.1.2 w12 (by omega) (by have := HFN1.out.lt r11; have := HFN2.out.pre.length_le; omega) (HFN2.out.lt r12) HTS.out mk12)
 have HR3 := Hd (show R = R3 from by rw [HRR.out, if_pos r11, if_pos r12, hR3])
 clear hR3
 refine tk1 15 rfl (AllReadyH.cons rfl (fun K hK => ?_) AllReadyH.nil)
 go_simp
 go_at_call 112
 refine (HC3.out).mono ?_
 rintro e w13 ⟨he, F13, D13, mk13, hs13, hk13⟩
 have we13 : Went F mt w2 F13 w13 := Went.trans we12 ⟨hs13, hk13⟩
 have hw := HWX.out.trans we13
 by_cases r13 : R3.1.1 = 0
 case neg =>
  rw [endD_no r13] at he
  subst he
  have HFIN := Hd (show MPost F w p m mt R (.panicked (stopC R3.1.1)) w13 from by
   rw [HR3.out]
   exact ⟨(endD_no r13 _).symm, F13, D13, mk13, hw.1, hw.2⟩)
  go_wp2_with fail
  exact ⟨rfl, HFIN.out⟩
 rw [r13, endD_ok] at he
 subst he
 clear hw
 refine hK.out _ _ (HSW.out F13 w13 we13) (fun hh13 => ?_)
 clear hK K
 try simp only [tkN]
 refine tk 16 (.int .i64 R3.1.2) ?_
 try simp only [tkN]
 refine wpAnyH_done (by kernel_rfl) ?_ _
 have HFIN := Hd (show MPost F w p m mt R (.returned (.int .i64 R3.1.2)) w13 from by
  have hw := HWX.out.trans we13
  rw [HR3.out]
  refine ⟨?_, F13, D13, mk13, hw.1, hw.2⟩
  rw [r13]
  exact (endD_ok _).symm)
 go_wp2_with fail
 go_ret
 exact HFIN.out

theorem thenOk {a b : Nat} (ha : (a : Int) ≤ 9223372036854775807) (hb : (b : Int) ≤ 9223372036854775807) : DkD.ok ⟨1, a, b, 0, 0⟩ := by
 refine ⟨?_, ?_, ?_, ?_, ?_⟩ <;> dsimp only <;> omega

set_option maxHeartbeats 8000000 in
set_option maxRecDepth 100000 in
theorem dthen_step (k : Nat) (IH : ThenOf k) : ThenOf (k + 1) := by
 intro F p m mt L D a b w hab ha hb h
 have hbd := h.st.inv.2.1
 obtain ⟨w1, hw1⟩ : ∃ W : World, w.alloc (.cells #[.pointer (some ⟨m, 0, none⟩)] 140) = W := ⟨_, rfl⟩
 have x1 : Ext w w1 := hw1 ▸ Ext.alloc _ _
 have s1 : w1.heap.size = w.heap.size + 1 := by rw [← hw1, World.size_alloc]
 obtain ⟨w2, hw2⟩ : ∃ W : World, w1.alloc (.cells #[.int .i64 a] 3) = W := ⟨_, rfl⟩
 have x2 : Ext w1 w2 := hw2 ▸ Ext.alloc _ _
 have s2 : w2.heap.size = w.heap.size + 1 + 1 := by rw [← hw2, World.size_alloc, s1]
 obtain ⟨w3, hw3⟩ : ∃ W : World, w2.alloc (.cells #[.int .i64 b] 3) = W := ⟨_, rfl⟩
 have x3 : Ext w2 w3 := hw3 ▸ Ext.alloc _ _
 have c0 : w3.cell? ⟨w.heap.size, 0, none⟩ = some (.pointer (some ⟨m, 0, none⟩)) := (x2.trans x3).later _ _ (by rw [← hw1]; simp [go_sem])
 have c1 : w3.cell? ⟨w.heap.size + 1, 0, none⟩ = some (.int .i64 a) := x3.later _ _ (by rw [← hw2, ← s1]; simp [go_sem])
 have c2 : w3.cell? ⟨w.heap.size + 1 + 1, 0, none⟩ = some (.int .i64 b) := by rw [← hw3, ← s2]; simp [go_sem]
 have HX := Hd (x1.trans (x2.trans x3))
 have hnf : ∀ z, w.heap.size ≤ z → ¬ F z ∧ z ≠ mt := fun z hz => ⟨fun hF => by have := h.lt.1 z hF; omega, fun e => by have := h.lt.2.2; omega⟩
 have HB := Hd (show Boxes F mt w3 w.heap.size (.pointer (some ⟨m, 0, none⟩)) ∧ Boxes F mt w3 (w.heap.size + 1) (.int .i64 a) ∧ Boxes F mt w3 (w.heap.size + 1 + 1) (.int .i64 b) from
  ⟨⟨c0, hnf _ (by omega)⟩, ⟨c1, hnf _ (by omega)⟩, ⟨c2, hnf _ (by omega)⟩⟩)
 have HEQ := Hd (And.intro hw1 (And.intro hw2 hw3))
 have HSZ := Hd (And.intro s1 s2)
 have HM := Hd h
 have HIH := Hd IH
 have HAB := Hd (show a < k + 1 ∧ a < L.length ∧ b < L.length from ⟨hab, ha, hb⟩)
 have hai : (a : Int) ≤ 9223372036854775807 := by omega
 have hbi : (b : Int) ≤ 9223372036854775807 := by omega
 have HOK := Hd (thenOk hai hbi)
 clear hw1 hw2 hw3 s1 s2 x1 x2 x3 hnf h IH hab ha hb hbd
 have HON := Hd (donce_any p m mt L D ⟨⟨1, a, b, 0, 0⟩, HOK.out⟩ 111 #[.pointer (some ⟨w.heap.size, 0, none⟩), .pointer (some ⟨w.heap.size + 1, 0, none⟩), .pointer (some ⟨w.heap.size + 1 + 1, 0, none⟩)] w3 (HM.out.ext HX.out) (thenP (k + 1) L a b)
   (enters_of Tryz.func111 (by kernel_rfl) rfl)
   (by
    show thenP (k + 1) L a b = runD 1 (a : Int).toNat (b : Int).toNat 0 0 L
    unfold runD
    rw [if_neg (by decide), if_pos rfl, Int.toNat_natCast, Int.toNat_natCast]
    exact thenP_fuel HM.out.inv HAB.out.2.1 HAB.out.2.2 HAB.out.1 (by omega))
   (fun hr M hM hI => by
    show runD 1 (a : Int).toNat (b : Int).toNat 0 0 M = _
    unfold runD
    rw [if_neg (by decide), if_pos rfl, Int.toNat_natCast, Int.toNat_natCast]
    have e := thenP_fuel (k := k + 1) (k' := a + 1) HM.out.inv HAB.out.2.1 HAB.out.2.2 HAB.out.1 (by omega)
    refine thenP_again HM.out.inv HAB.out.2.1 HAB.out.2.2 (c := (thenP (k + 1) L a b).1.2) (L' := (thenP (k + 1) L a b).2) ?_ hM hI
    rw [← e]
    exact out_eta hr)
   (fun W hW => dthen1_any k HIH.out F p m mt L D a b W HAB.out.1 HAB.out.2.1 HAB.out.2.2 (HM.out.ext (HX.out.trans hW)) _ _ _ (HB.out.1.ext hW) (HB.out.2.1.ext hW) (HB.out.2.2.ext hW)))
 go_enter Tryz.func75, Tryz.ntmps75
 go_upto_region 1 with fail
 try simp only [HEQ.out.1, HEQ.out.2.1, HEQ.out.2.2, HSZ.out.1, HSZ.out.2]
 go_wp2_with fail
 refine HON.out.mono ?_
 intro e w6 hp
 have HP := Hd (hp.from HX.out)
 obtain ⟨he, -⟩ := hp
 by_cases hr : (thenP (k + 1) L a b).1.1 = 0
 ·rw [hr, endD_ok] at he
  subst he
  clear hr
  have HFIN := Hd (show MPost F w p m mt (thenP (k + 1) L a b) (.returned (.int .i64 (thenP (k + 1) L a b).1.2)) w6 from HP.out)
  generalize thenP (k + 1) L a b = R at *
  go_wp2_with fail
  go_ret
  exact HFIN.out
 ·rw [endD_no hr] at he
  subst he
  clear hr
  go_wp2_with fail
  exact ⟨rfl, HP.out⟩
theorem dthen_any : ∀ k, ThenOf k
 | 0 => fun _ _ _ _ _ _ _ _ _ hab => absurd hab (Nat.not_lt_zero _)
 | k + 1 => dthen_step k (dthen_any k)
end Go.Proofs.YtjjbdbklbghlhaaGreatDoor
/- The maker's not: of a predicate's diagram. -/
namespace Go.Proofs.YtjjbdbklbghlhaaGreatDoor
open Go.RowKit Go.Sort Go.Maps Go.Lib
set_option linter.unusedSimpArgs false

def NotOf (k : Nat) : Prop := ∀ (F : Nat → Prop) (p m mt : Nat) (L : List NdD) (D : List (Dk × Nat)) (a : Nat) (w : World), a < k → a < L.length → Mk F w p m mt L D →
 Calls Tryz.prog 73 #[.pointer (some ⟨m, 0, none⟩), .int .i64 a] w (MPost F w p m mt (notP k L a))
theorem rowsOneNil {B : Nat → Prop} (w : World) (g : Nat) (q : Option Addr) (hg : g < w.heap.size) (hB : B g) (hc : w.cell? ⟨g, 0, none⟩ = some (.slice q 0 0)) : RowsOn B w [[]] (.slice (some ⟨g, 0, none⟩) 1 1) :=
 ⟨_, 1, 1, rfl, rfl, Nat.le_refl _, by omega, .inr ⟨g, 0, [.slice q 0 0], rfl, hB, hg, rfl, fun j u hu => by
  cases j with
  | zero => simp at hu; subst hu; exact hc
  | succ j => simp at hu, fun i hi hi' => by
  cases i with
  | zero => exact ⟨q, 0, 0, rfl, rfl, Nat.le_refl _, by omega, fun x hx => by simp at hx, .inl rfl⟩
  | succ i => simp at hi⟩⟩

set_option maxHeartbeats 8000000 in
set_option maxRecDepth 100000 in
theorem dnot1_any (k : Nat) (IH : NotOf k) (F : Nat → Prop) (p m mt : Nat) (L : List NdD) (D : List (Dk × Nat)) (a : Nat) (w : World) (hak : a < k + 1) (ha : a < L.length) (h : Mk F w p m mt L D)
    (b0 b1 : Nat) (h0 : Boxes F mt w b0 (.pointer (some ⟨m, 0, none⟩))) (h1 : Boxes F mt w b1 (.int .i64 a)) :
    Calls Tryz.prog 109 #[.pointer (some ⟨b0, 0, none⟩), .pointer (some ⟨b1, 0, none⟩)] w (MPost F w p m mt (notP (k + 1) L a)) := by
  have HM := Hd h
  have HIH := Hd IH
  have HAB := Hd (show a < k + 1 ∧ a < L.length from ⟨hak, ha⟩)
  have HBX := Hd (And.intro h0 h1)
  have HND := Hd (dnode_any p m mt L D a w h ha)
  have HUP := Hd (show notP (k + 1) L a = (if (nodeP L a).f < 0 then
        (match (nodeP L a).leaf with
        | [] => leafR L [[]]
        | [[]] => leafR L []
        | _ => ((170, 0), L))
      else bindR (notP k L (nodeP L a).hi.toNat) fun h L1 => bindR (notP k L1 (nodeP L a).lo.toNat) fun l L2 => testR L2 ((nodeP L a).f, (nodeP L a).n) h l) from by rw [notP]; rfl)
  have HKD := Hd (fun hf => h.inv.kids ha hf)
  have HLF := Hd (h.leafs ha)
  have HTB := Hd (fun hf => h.testB ha hf)
  generalize notP (k + 1) L a = R at *
  obtain ⟨x, hx⟩ : ∃ x, x = nodeP L a := ⟨_, rfl⟩
  rw [← hx] at HND HUP HKD HLF HTB
  have k0 := h0.c
  have k1 := h1.c
  clear h IH hak ha hx h0 h1
  go_enter Tryz.func109, Tryz.ntmps109
  go_wp2_with fail
  refine HND.out.mono ?_
  rintro e w1 ⟨q, kk, c, rfl, hrv, hx1⟩
  obtain ⟨w2, h2⟩ : ∃ W : World, w1.alloc (.cells #[.int .i8 x.f, .int .u64 x.n, .int .i64 x.hi, .int .i64 x.lo, .slice q kk c] 42) = W := ⟨_, rfl⟩
  have x2 : Ext w1 w2 := h2 ▸ Ext.alloc _ _
  obtain ⟨d0, d1, d2, d3, d4⟩ : w2.cell? ⟨w1.heap.size, 0, none⟩ = some (.int .i8 x.f) ∧ w2.cell? ⟨w1.heap.size, 1, none⟩ = some (.int .u64 x.n) ∧ w2.cell? ⟨w1.heap.size, 2, none⟩ = some (.int .i64 x.hi) ∧ w2.cell? ⟨w1.heap.size, 3, none⟩ = some (.int .i64 x.lo) ∧ w2.cell? ⟨w1.heap.size, 4, none⟩ = some (.slice q kk c) := by rw [← h2]; exact dcell5 _ _ _ _ _ _
  have hs1 : w.heap.size ≤ w1.heap.size := hx1.size
  have HX := Hd (hx1.trans x2)
  have HRV := Hd (hrv.ext x2)
  have HE2 := Hd h2
  clear h2 x2 hx1 hrv HND k0 k1
  go_upto_region 2 with fail
  rw [HE2.out]
  clear HE2
  have HM2 := Hd (HM.out.ext HX.out)
  have HB0 := Hd (HBX.out.1.ext HX.out)
  have HWX := Hd (Went.ofExt (F := F) (mt := mt) HX.out)
  by_cases hxf : x.f < 0
  case pos =>
    have hgd : decide (0 ≤ x.f) = false := decide_eq_false (by omega)
    have HUL := Hd (HUP.out.trans (if_pos hxf))
    obtain ⟨_, _, _, he, hkl, hkc, hkm, hor⟩ := id HRV.out
    cases he
    have HKL := Hd hkl
    have hk64 : kk ≤ 64 := by have := HLF.out.1; omega
    have k0 := HB0.out.c
    have km := HM2.out.c0
    -- what a leaf made anew tells
    have HLEAFS := Hd (show ∀ (l : List RowD) (v : Value) (W : World), (l = [] ∨ l = [[]]) → RowsOn AnyB W l v → Ext w2 W → R = leafR L l → Calls Tryz.prog 64 #[.pointer (some ⟨p, 0, none⟩), v] W (fun e W' => ∃ T : (Int × Int) × List NdD, e = .returned (.tuple #[.int .i64 T.1.1, .int .i64 T.1.2]) ∧ (T.1.2 ≠ 0 → MPost F w p m mt R (.panicked (stopC T.1.2)) W') ∧ (T.1.2 = 0 → MPost F w p m mt R (.returned (.int .i64 T.1.1)) W')) from fun l v W hl hv hW hR => by
      refine (leafS_any p L l v W (HM2.out.ext hW).st hv (by rcases hl with rfl | rfl <;> simp) (fun r hr => by rcases hl with rfl | rfl <;> simp at hr; subst hr; simp) (HM2.out.ext hW).tab).mono ?_
      rintro e W' ⟨rfl, F5, hto⟩
      have htf := leafR_fine HM.out.inv l
      have hM5 := (HM2.out.ext hW).op hto htf.pre htf.inv
      have hw5 := HWX.out.trans ((Went.ofExt (F := F) (mt := mt) hW).trans (Went.op hto))
      have hTR : leafR L l = (((leafP L l).1.2, (leafP L l).1.1.toNat), (leafP L l).2) := rfl
      refine ⟨leafP L l, rfl, fun hn => ?_, fun hz => ?_⟩
      · rw [hR, hTR]
        exact ⟨(endD_no hn _).symm, F5, D, hM5, hw5.1, hw5.2⟩
      · rw [hR, hTR]
        refine ⟨?_, F5, D, hM5, hw5.1, hw5.2⟩
        show _ = endD (leafP L l).1.2 (.int .i64 ((leafP L l).1.1.toNat : Nat))
        rw [hz, endD_ok, ← leafP_nn hz])
    by_cases hk0 : kk = 0
    · have hl0 : x.leaf = [] := List.length_eq_zero_iff.1 (by omega)
      have hR1 : R = leafR L [[]] := by rw [HUL.out, hl0]
      subst hk0
      obtain ⟨wA, hA⟩ : ∃ W : World, w2.alloc (.cells #[] 81) = W := ⟨_, rfl⟩
      obtain ⟨wB, hB⟩ : ∃ W : World, wA.alloc (.cells #[.slice (some ⟨w2.heap.size, 0, none⟩) 0 0] 78) = W := ⟨_, rfl⟩
      have xA : Ext w2 wA := hA ▸ Ext.alloc _ _
      have xB : Ext wA wB := hB ▸ Ext.alloc _ _
      have sA : wA.heap.size = w2.heap.size + 1 := by rw [← hA, World.size_alloc]
      have sB : wB.heap.size = wA.heap.size + 1 := by rw [← hB, World.size_alloc]
      have hcB : wB.cell? ⟨wA.heap.size, 0, none⟩ = some (.slice (some ⟨w2.heap.size, 0, none⟩) 0 0) := by rw [← hB]; simp [go_sem]
      rw [sA] at hcB
      have HLE := Hd (HLEAFS.out [[]] (.slice (some ⟨w2.heap.size + 1, 0, none⟩) 1 1) wB (.inr rfl) (rowsOneNil (B := AnyB) wB (w2.heap.size + 1) _ (by omega) trivial hcB) (xA.trans xB) hR1)
      have k0 := (xA.trans xB).later _ _ k0
      have km := (xA.trans xB).later _ _ km
      have HEQ := Hd (And.intro hA hB)
      have HSA := Hd sA
      have km2 := HM2.out.c0
      have k02 := HB0.out.c
      clear hA hB xA xB sA sB hcB hxf hkl hor hl0 hR1 HUP HUL HKD HLF HTB d1 d2 d3
      have hlen : (((0 : Nat) : Int) == 0) = true := rfl
      go_upto_region 5 with fail
      go_wp2_with fail
      rw [HEQ.out.1, HEQ.out.2]
      refine HLE.out.mono ?_
      rintro e w5 ⟨T, rfl, hp, hr⟩
      have HMU := Hd (dmust_any T.1.1 T.1.2 w5)
      have HP := Hd hp
      have HQ := Hd hr
      clear hp hr
      go_wp2_with fail
      refine HMU.out.mono ?_
      rintro e w6 ⟨he, rfl⟩
      by_cases r3 : T.1.2 = 0
      case neg =>
        have HFIN := Hd (HP.out r3)
        rw [endD_no r3] at he
        subst he
        clear r3
        go_wp2_with fail
        exact ⟨rfl, HFIN.out⟩
      have HFIN := Hd (HQ.out r3)
      rw [r3, endD_ok] at he
      subst he
      clear r3
      go_wp2_with fail
      go_ret
      exact HFIN.out
    · have hlen : ((kk : Int) == 0) = false := by rw [beq_eq_false_iff_ne]; omega
      have hpan : x.leaf ≠ [[]] → R = ((170, 0), L) := fun hne => by
        rw [HUL.out]
        split
        · rename_i e; rw [e] at hkl; simp at hkl; omega
        · rename_i e; exact absurd e hne
        · rfl
      have HPAN := Hd (show x.leaf ≠ [[]] → ∀ W, Ext w2 W → MPost F w p m mt R (.panicked (stopC 170)) W from fun hne W hW => by
        rw [hpan hne]
        exact HM2.out.same hW rfl (endD_no (show (170 : Int) ≠ 0 by decide) _).symm |>.from HX.out)
      by_cases hk1 : 1 < kk
      · have hne : x.leaf ≠ [[]] := fun e => by rw [e] at hkl; simp at hkl; omega
        have HFIN := Hd (HPAN.out hne w2 (Ext.refl _))
        clear hxf hkl hor HUP HUL HKD HLF HTB d1 d2 d3 hpan hne hk0 k0 km
        go_wp2_with fail
        exact ⟨rfl, HFIN.out⟩
      · obtain rfl : kk = 1 := by omega
        obtain ⟨b', o, vs, rfl, -, -, hvl, hr, hrow⟩ := hor.resolve_left (fun e => by rw [e] at hkl; simp at hkl)
        have hv0 : 0 < vs.length := by omega
        have hl0 : 0 < x.leaf.length := by omega
        have hrw := hrow 0 hl0 hv0
        have hc := hr 0 _ (List.getElem?_eq_getElem hv0)
        obtain ⟨rv, hrv⟩ : ∃ rv, rv = vs[0] := ⟨_, rfl⟩
        rw [← hrv] at hrw hc
        obtain ⟨pv, cv, rfl, -⟩ := RowOn.form hrw
        obtain ⟨nr, hnr⟩ : ∃ nr, nr = (x.leaf[0]).length := ⟨_, rfl⟩
        rw [← hnr] at hc
        simp only [Nat.add_zero] at hc
        have HR0 := Hd (show R = (if nr = 0 then leafR L [] else ((170, 0), L)) from by
          by_cases hn0 : nr = 0
          · rw [if_pos hn0, HUL.out]
            have e1 : x.leaf = [x.leaf[0]] := by
              apply List.ext_getElem
              · simp; omega
              · intro i h1 h2
                simp at h2
                subst h2
                rfl
            have e2 : x.leaf[0] = [] := List.length_eq_zero_iff.1 (by omega)
            have e3 : x.leaf = [[]] := by rw [e1, e2]
            rw [e3]
          · rw [if_neg hn0]
            refine hpan (fun e => ?_)
            have : x.leaf[0] = [] := by simp [e]
            rw [this] at hnr
            simp at hnr
            omega)
        have hnrm : nr ≤ 11 := by rw [hnr]; exact HLF.out.2 _ (List.getElem_mem hl0)
        clear hxf hkl hor HUP HUL HKD HLF HTB d1 d2 d3 hpan hk0 hvl hr hrow hrw hnr hrv hv0 hl0 HRV hlen hkc hkm hk64 hk1
        have hlen : (((1 : Nat) : Int) == 0) = false := rfl
        by_cases hn0 : nr = 0
        · subst hn0
          have HLE := Hd (HLEAFS.out [] (.slice none 0 0) w2 (.inl rfl) (rowsNil _) (Ext.refl _) (by rw [HR0.out, if_pos rfl]))
          go_wp2_with fail
          refine HLE.out.mono ?_
          rintro e w5 ⟨T, rfl, hp, hr⟩
          have HMU := Hd (dmust_any T.1.1 T.1.2 w5)
          have HP := Hd hp
          have HQ := Hd hr
          clear hp hr k0 km hc d4
          go_wp2_with fail
          refine HMU.out.mono ?_
          rintro e w6 ⟨he, rfl⟩
          by_cases r3 : T.1.2 = 0
          case neg =>
            have HFIN := Hd (HP.out r3)
            rw [endD_no r3] at he
            subst he
            clear r3
            go_wp2_with fail
            exact ⟨rfl, HFIN.out⟩
          have HFIN := Hd (HQ.out r3)
          rw [r3, endD_ok] at he
          subst he
          clear r3
          go_wp2_with fail
          go_ret
          exact HFIN.out
        · have HFIN := Hd (show MPost F w p m mt R (.panicked (stopC 170)) w2 from by
            rw [HR0.out, if_neg hn0]
            exact MPost.from HX.out (HM2.out.same (Ext.refl _) rfl (endD_no (show (170 : Int) ≠ 0 by decide) _).symm))
          have hnp : 0 < nr := by omega
          clear hn0 k0 km
          go_wp2_with fail
          exact ⟨rfl, HFIN.out⟩
  have hxf0 : 0 ≤ x.f := by omega
  have hgd : decide (0 ≤ x.f) = true := by simpa using hxf0
  obtain ⟨hhi, hlo, hhl, hll, -⟩ := HKD.out hxf0
  have HTS := Hd (HTB.out hxf0)
  have HUN := Hd (HUP.out.trans (if_neg hxf))
  obtain ⟨ih, hih⟩ : ∃ ih, ih = x.hi.toNat := ⟨_, rfl⟩
  obtain ⟨il, hil⟩ : ∃ il, il = x.lo.toNat := ⟨_, rfl⟩
  rw [← hih] at hhi hhl HUN
  rw [← hil] at hlo hll HUN
  rw [hhi] at d2
  rw [hlo] at d3
  obtain ⟨xf, hxfe⟩ : ∃ xf, xf = x.f := ⟨_, rfl⟩
  obtain ⟨xn, hxne⟩ : ∃ xn, xn = x.n := ⟨_, rfl⟩
  rw [← hxfe, ← hxne] at HUN HTS
  rw [← hxfe] at hxf hxf0 d0 hgd
  rw [← hxne] at d1
  have HHL := Hd (show (ih < k ∧ ih < L.length) ∧ (il < k ∧ il < L.length) from by have := HAB.out; omega)
  have HD := Hd (And.intro d0 (And.intro d1 (And.intro d2 d3)))
  obtain ⟨R1, hR1⟩ : ∃ R1, R1 = notP k L ih := ⟨_, rfl⟩
  obtain ⟨R2, hR2⟩ : ∃ R2, R2 = notP k R1.2 il := ⟨_, rfl⟩
  have hfn1 : Fine L R1 := by rw [hR1]; exact notP_fine HM.out.inv HHL.out.1.2
  have hfn2 : Fine R1.2 R2 := by rw [hR2]; exact notP_fine hfn1.inv (by have := HHL.out.2.2; have := hfn1.pre.length_le; omega)
  have HRR := Hd (show R = (if R1.1.1 = 0 then (if R2.1.1 = 0 then testR R2.2 (xf, xn) R1.1.2 R2.1.2 else R2) else R1) from by
    rw [HUN.out, ← hR1]
    unfold bindR
    dsimp only
    rw [← hR2])
  have HFN1 := Hd hfn1
  have HFN2 := Hd hfn2
  have xzo : Ext w2 w2.drew := Ext.drew _
  have HMo := Hd (HM2.out.ext xzo)
  have HWo := Hd (Went.ofExt (F := F) (mt := mt) xzo)
  have HC1 := Hd (show Calls Tryz.prog 73 #[.pointer (some ⟨m, 0, none⟩), .int .i64 ih] w2.drew (MPost F w2.drew p m mt R1) from by
    rw [hR1]; exact HIH.out F p m mt L D ih w2.drew HHL.out.1.1 HHL.out.1.2 HMo.out)
  have HC2 := Hd (show ∀ F1 D1 W, Mk F1 W p m mt R1.2 D1 → Calls Tryz.prog 73 #[.pointer (some ⟨m, 0, none⟩), .int .i64 il] W (MPost F1 W p m mt R2) from fun F1 D1 W hM => by
    rw [hR2]; exact HIH.out F1 p m mt R1.2 D1 il W HHL.out.2.1 (by have := HHL.out.2.2; have := hfn1.pre.length_le; omega) hM)
  have HSW := Hd (show ∀ (F' : Nat → Prop) (W : World) L' D', Mk F' W p m mt L' D' → Went F mt w2 F' W → ((fun W : World => W.cell? ⟨b0, 0, none⟩ = some (.pointer (some ⟨m, 0, none⟩)) ∧ W.cell? ⟨m, 0, none⟩ = some (.pointer (some ⟨p, 0, none⟩)) ∧ W.cell? ⟨w1.heap.size, 0, none⟩ = some (.int .i8 xf) ∧ W.cell? ⟨w1.heap.size, 1, none⟩ = some (.int .u64 xn) ∧ W.cell? ⟨w1.heap.size, 2, none⟩ = some (.int .i64 ih) ∧ W.cell? ⟨w1.heap.size, 3, none⟩ = some (.int .i64 il))) W from fun F' W L' D' hM hw => by
    have nf : ¬ (F w1.heap.size ∨ w1.heap.size = mt) := by
      have hlt := HM.out.lt
      rintro (e | e)
      · have := hlt.1 _ e; omega
      · have := hlt.2.2; omega
    exact ⟨(HB0.out.keep hw.1 hw.2).c, hM.c0, hw.2.cell HD.out.1 nf, hw.2.cell HD.out.2.1 nf, hw.2.cell HD.out.2.2.1 nf, hw.2.cell HD.out.2.2.2 nf⟩)
  have hS0 := HSW.out F w2.drew L D HMo.out HWo.out
  clear hfn1 hfn2 hR1 hR2 xzo hhi hlo hhl hll hih hil hxfe hxne HUP HKD HLF HTB HRV d4
  go_upto_region 3 with fail
  clear d0 d1 d2 d3
  refine wp_region_held_drew (S := (fun W : World => W.cell? ⟨b0, 0, none⟩ = some (.pointer (some ⟨m, 0, none⟩)) ∧ W.cell? ⟨m, 0, none⟩ = some (.pointer (some ⟨p, 0, none⟩)) ∧ W.cell? ⟨w1.heap.size, 0, none⟩ = some (.int .i8 xf) ∧ W.cell? ⟨w1.heap.size, 1, none⟩ = some (.int .u64 xn) ∧ W.cell? ⟨w1.heap.size, 2, none⟩ = some (.int .i64 ih) ∧ W.cell? ⟨w1.heap.size, 3, none⟩ = some (.int .i64 il))) (by kernel_rfl) (hS0) (fun hHeld => ?_)
  refine tk 0 (.pointer (some ⟨m, 0, none⟩)) ?_
  try simp only [tkN]
  refine tk 1 (.pointer (some ⟨m, 0, none⟩)) ?_
  try simp only [tkN]
  refine tk 2 (.pointer (some ⟨m, 0, none⟩)) ?_
  try simp only [tkN]
  refine tk 3 (.pointer (some ⟨p, 0, none⟩)) ?_
  try simp only [tkN]
  refine tk 4 (.pointer (some ⟨w1.heap.size, 0, none⟩)) ?_
  try simp only [tkN]
  refine tk 5 (.int .i8 xf) ?_
  try simp only [tkN]
  refine tk 6 (.pointer (some ⟨w1.heap.size, 1, none⟩)) ?_
  try simp only [tkN]
  refine tk 7 (.int .u64 xn) ?_
  try simp only [tkN]
  refine tk 8 (.pointer (some ⟨m, 0, none⟩)) ?_
  try simp only [tkN]
  refine tk 9 (.pointer (some ⟨w1.heap.size, 2, none⟩)) ?_
  try simp only [tkN]
  refine tk 10 (.int .i64 ih) ?_
  try simp only [tkN]
  refine tk 12 (.pointer (some ⟨m, 0, none⟩)) ?_
  try simp only [tkN]
  refine tk 13 (.pointer (some ⟨w1.heap.size, 3, none⟩)) ?_
  try simp only [tkN]
  refine tk 14 (.int .i64 il) ?_
  try simp only [tkN]
  refine tk1 11 rfl (AllReadyH.cons rfl (fun K hK => ?_) AllReadyH.nil)
  go_simp
  go_at_call 73
  refine (HC1.out).mono ?_
  rintro e w11 ⟨he, F11, D11, mk11, hs11, hk11⟩
  have we11 : Went F mt w2 F11 w11 := Went.trans HWo.out ⟨hs11, hk11⟩
  have hw := HWX.out.trans we11
  by_cases r11 : R1.1.1 = 0
  case neg =>
    rw [endD_no r11] at he
    subst he
    have HFIN := Hd (show MPost F w p m mt R (.panicked (stopC R1.1.1)) w11 from by
      rw [HRR.out, if_neg r11]
      exact ⟨(endD_no r11 _).symm, F11, D11, mk11, hw.1, hw.2⟩)
    go_wp2_with fail
    exact ⟨rfl, HFIN.out⟩
  rw [r11, endD_ok] at he
  subst he
  clear hw
  refine hK.out _ _ (HSW.out F11 w11 R1.2 D11 mk11 we11) (fun hh11 => ?_)
  clear hK K
  try simp only [tkN]
  refine tk1 15 rfl (AllReadyH.cons rfl (fun K hK => ?_) AllReadyH.nil)
  go_simp
  go_at_call 73
  refine (HC2.out F11 D11 w11 mk11).mono ?_
  rintro e w12 ⟨he, F12, D12, mk12, hs12, hk12⟩
  have we12 : Went F mt w2 F12 w12 := Went.trans we11 ⟨hs12, hk12⟩
  have hw := HWX.out.trans we12
  by_cases r12 : R2.1.1 = 0
  case neg =>
    rw [endD_no r12] at he
    subst he
    have HFIN := Hd (show MPost F w p m mt R (.panicked (stopC R2.1.1)) w12 from by
      rw [HRR.out, if_pos r11, if_neg r12]
      exact ⟨(endD_no r12 _).symm, F12, D12, mk12, hw.1, hw.2⟩)
    go_wp2_with fail
    exact ⟨rfl, HFIN.out⟩
  rw [r12, endD_ok] at he
  subst he
  clear hw
  refine hK.out _ _ (HSW.out F12 w12 R2.2 D12 mk12 we12) (fun hh12 => ?_)
  clear hK K
  try simp only [tkN]
  have hbdE := (Mk.st mk12).inv.2.1
  have hq1 := HFN1.out.lt r11
  have hq2 := HFN2.out.lt r12
  have hq3 := HFN2.out.pre.length_le
  have hts := HTS.out
  unfold TestB at hts
  try dsimp only at hts
  refine tk1 16 rfl (AllReadyH.cons rfl (fun K hK => ?_) AllReadyH.nil)
  go_simp
  go_at_call 43
  refine (testS_any p R2.2 xf xn R1.1.2 R2.1.2 w12 (Mk.st mk12) ⟨by have := hts.1.1; omega, hts.1.2⟩ hts.2 ⟨by omega, by omega⟩ ⟨by omega, by omega⟩).mono ?_
  obtain ⟨T, hT⟩ : ∃ T, T = testP R2.2 xf xn R1.1.2 R2.1.2 := ⟨_, rfl⟩
  have HTR := Hd (show testR R2.2 (xf, xn) R1.1.2 R2.1.2 = ((T.1.2, T.1.1.toNat), T.2) from by rw [hT]; rfl)
  have HTN := Hd (show T.1.2 = 0 → T.1.1 = ((T.1.1.toNat : Nat) : Int) from fun h5 => by rw [hT] at h5 ⊢; exact testP_nn (p := (xf, xn)) h5)
  rw [← hT]
  rintro e w13 ⟨rfl, F13, hto⟩
  have htf := testR_fine HFN2.out.inv (xf, xn) R1.1.2 R2.1.2
  rw [HTR.out] at htf
  have mk13 : Mk F13 w13 p m mt T.2 D12 := Mk.op mk12 hto htf.pre htf.inv
  have we13 : Went F mt w2 F13 w13 := Went.trans we12 (Went.op hto)
  clear hT
  refine hK.out _ _ (HSW.out F13 w13 T.2 D12 mk13 we13) (fun hh13 => ?_)
  clear hK K
  try simp only [tkN]
  refine tk 17 (.int .i64 T.1.1) ?_
  try simp only [tkN]
  refine tk 18 (.int .i64 T.1.2) ?_
  try simp only [tkN]
  refine tk1 19 rfl (AllReadyH.cons rfl (fun K hK => ?_) AllReadyH.nil)
  go_simp
  go_at_call 79
  refine (dmust_any T.1.1 T.1.2 w13).mono ?_
  rintro e w14 ⟨he, rfl⟩
  have hw := HWX.out.trans we13
  by_cases r14 : T.1.2 = 0
  case neg =>
    rw [endD_no r14] at he
    subst he
    have HFIN := Hd (show MPost F w p m mt R (.panicked (stopC T.1.2)) w13 from by
      rw [HRR.out, if_pos r11, if_pos r12, HTR.out]
      exact ⟨(endD_no r14 _).symm, F13, D12, mk13, hw.1, hw.2⟩)
    go_wp2_with fail
    exact ⟨rfl, HFIN.out⟩
  rw [r14, endD_ok] at he
  subst he
  refine hK.out _ _ (HSW.out F13 w13 T.2 D12 mk13 we13) (fun hh14 => ?_)
  clear hK K
  try simp only [tkN]
  refine tk 20 (.int .i64 T.1.1) ?_
  try simp only [tkN]
  refine wpAnyH_done (by kernel_rfl) ?_ _
  have HFIN := Hd (show MPost F w p m mt R (.returned (.int .i64 T.1.1)) w13 from by
    rw [HRR.out, if_pos r11, if_pos r12, HTR.out]
    refine ⟨?_, F13, D12, mk13, hw.1, hw.2⟩
    show _ = endD T.1.2 (.int .i64 (T.1.1.toNat : Nat))
    rw [r14, endD_ok, ← HTN.out r14])
  go_wp2_with fail
  go_ret
  exact HFIN.out

theorem notOk {a : Nat} (ha : (a : Int) ≤ 9223372036854775807) : DkD.ok ⟨3, a, 0, 0, 0⟩ := by
 refine ⟨?_, ?_, ?_, ?_, ?_⟩ <;> dsimp only <;> omega

set_option maxHeartbeats 8000000 in
set_option maxRecDepth 100000 in
theorem dnot_step (k : Nat) (IH : NotOf k) : NotOf (k + 1) := by
 intro F p m mt L D a w hab ha h
 have hbd := h.st.inv.2.1
 obtain ⟨w1, hw1⟩ : ∃ W : World, w.alloc (.cells #[.pointer (some ⟨m, 0, none⟩)] 140) = W := ⟨_, rfl⟩
 have x1 : Ext w w1 := hw1 ▸ Ext.alloc _ _
 have s1 : w1.heap.size = w.heap.size + 1 := by rw [← hw1, World.size_alloc]
 obtain ⟨w2, hw2⟩ : ∃ W : World, w1.alloc (.cells #[.int .i64 a] 3) = W := ⟨_, rfl⟩
 have x2 : Ext w1 w2 := hw2 ▸ Ext.alloc _ _
 have c0 : w2.cell? ⟨w.heap.size, 0, none⟩ = some (.pointer (some ⟨m, 0, none⟩)) := x2.later _ _ (by rw [← hw1]; simp [go_sem])
 have c1 : w2.cell? ⟨w.heap.size + 1, 0, none⟩ = some (.int .i64 a) := by rw [← hw2, ← s1]; simp [go_sem]
 have HX := Hd (x1.trans x2)
 have hnf : ∀ z, w.heap.size ≤ z → ¬ F z ∧ z ≠ mt := fun z hz => ⟨fun hF => by have := h.lt.1 z hF; omega, fun e => by have := h.lt.2.2; omega⟩
 have HB := Hd (show Boxes F mt w2 w.heap.size (.pointer (some ⟨m, 0, none⟩)) ∧ Boxes F mt w2 (w.heap.size + 1) (.int .i64 a) from
  ⟨⟨c0, hnf _ (by omega)⟩, ⟨c1, hnf _ (by omega)⟩⟩)
 have HEQ := Hd (And.intro hw1 hw2)
 have HSZ := Hd s1
 have HM := Hd h
 have HIH := Hd IH
 have HAB := Hd (show a < k + 1 ∧ a < L.length from ⟨hab, ha⟩)
 have hai : (a : Int) ≤ 9223372036854775807 := by omega
 have HOK := Hd (notOk hai)
 clear hw1 hw2 s1 x1 x2 hnf h IH hab ha hbd
 have HON := Hd (donce_any p m mt L D ⟨⟨3, a, 0, 0, 0⟩, HOK.out⟩ 109 #[.pointer (some ⟨w.heap.size, 0, none⟩), .pointer (some ⟨w.heap.size + 1, 0, none⟩)] w2 (HM.out.ext HX.out) (notP (k + 1) L a)
   (enters_of Tryz.func109 (by kernel_rfl) rfl)
   (by
    show notP (k + 1) L a = runD 3 (a : Int).toNat (0 : Int).toNat 0 0 L
    unfold runD
    rw [if_neg (by decide), if_neg (by decide), if_neg (by decide), Int.toNat_natCast]
    exact notP_fuel HM.out.inv HAB.out.2 HAB.out.1 (by omega))
   (fun hr M hM hI => by
    show runD 3 (a : Int).toNat (0 : Int).toNat 0 0 M = _
    unfold runD
    rw [if_neg (by decide), if_neg (by decide), if_neg (by decide), Int.toNat_natCast]
    have e := notP_fuel (k := k + 1) (k' := a + 1) HM.out.inv HAB.out.2 HAB.out.1 (by omega)
    refine notP_again HM.out.inv HAB.out.2 (c := (notP (k + 1) L a).1.2) (L' := (notP (k + 1) L a).2) ?_ hM hI
    rw [← e]
    exact out_eta hr)
   (fun W hW => dnot1_any k HIH.out F p m mt L D a W HAB.out.1 HAB.out.2 (HM.out.ext (HX.out.trans hW)) _ _ (HB.out.1.ext hW) (HB.out.2.ext hW)))
 go_enter Tryz.func73, Tryz.ntmps73
 go_upto_region 1 with fail
 try simp only [HEQ.out.1, HEQ.out.2, HSZ.out]
 go_wp2_with fail
 refine HON.out.mono ?_
 intro e w6 hp
 have HP := Hd (hp.from HX.out)
 obtain ⟨he, -⟩ := hp
 by_cases hr : (notP (k + 1) L a).1.1 = 0
 ·rw [hr, endD_ok] at he
  subst he
  clear hr
  have HFIN := Hd (show MPost F w p m mt (notP (k + 1) L a) (.returned (.int .i64 (notP (k + 1) L a).1.2)) w6 from HP.out)
  generalize notP (k + 1) L a = R at *
  go_wp2_with fail
  go_ret
  exact HFIN.out
 ·rw [endD_no hr] at he
  subst he
  clear hr
  go_wp2_with fail
  exact ⟨rfl, HP.out⟩
theorem dnot_any : ∀ k, NotOf k
 | 0 => fun _ _ _ _ _ _ _ _ hab => absurd hab (Nat.not_lt_zero _)
 | k + 1 => dnot_step k (dnot_any k)
end Go.Proofs.YtjjbdbklbghlhaaGreatDoor
