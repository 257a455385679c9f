/- The maker's pick. -/
import Derived.Test.YtjjbdbklbghlhaaGreatDoorMA
import Derived.Test.YtjjbdbklbghlhaaGreatDoorMI
namespace Go.Proofs.YtjjbdbklbghlhaaGreatDoor
open Go.RowKit Go.Sort Go.Maps Go.Lib
set_option linter.unusedSimpArgs false

def TestB (t : Int × Int) : Prop := (0 ≤ t.1 ∧ t.1 ≤ 127) ∧ (0 ≤ t.2 ∧ t.2 ≤ 18446744073709551615)
def PickOf (k : Nat) : Prop := ∀ (F : Nat → Prop) (p m mt : Nat) (L : List NdD) (D : List (Dk × Nat)) (f n : Int) (a b : Nat) (w : World), a + b < k → a < L.length → b < L.length → TestB (f, n) → Mk F w p m mt L D →
 Calls Tryz.prog 112 #[.pointer (some ⟨m, 0, none⟩), .int .i8 f, .int .u64 n, .int .i64 a, .int .i64 b] w (MPost F w p m mt (pickP k L (f, n) a b))

set_option maxHeartbeats 8000000 in
set_option maxRecDepth 100000 in
theorem dpick1_any (k : Nat) (IH : PickOf k) (F : Nat → Prop) (p m mt : Nat) (L : List NdD) (D : List (Dk × Nat)) (f n : Int) (a b : Nat) (w : World) (hab : a + b < k + 1) (hne : a ≠ b) (ha : a < L.length) (hb : b < L.length) (ht : TestB (f, n)) (h : Mk F w p m mt L D)
  (b0 b1 b2 b3 b4 : Nat) (h0 : Boxes F mt w b0 (.pointer (some ⟨m, 0, none⟩))) (h1 : Boxes F mt w b1 (.int .i64 a)) (h2 : Boxes F mt w b2 (.int .i64 b)) (h3 : Boxes F mt w b3 (.int .i8 f)) (h4 : Boxes F mt w b4 (.int .u64 n)) :
  Calls Tryz.prog 133 #[.pointer (some ⟨b0, 0, none⟩), .pointer (some ⟨b1, 0, none⟩), .pointer (some ⟨b2, 0, none⟩), .pointer (some ⟨b3, 0, none⟩), .pointer (some ⟨b4, 0, none⟩)] w (MPost F w p m mt (pickP (k + 1) L (f, n) a b)) := by
 have HM := Hd h
 have HB := Hd (And.intro h0 (And.intro h1 (And.intro h2 (And.intro h3 h4))))
 have k0 := h0.c
 have k1 := h1.c
 have k2 := h2.c
 have k3 := h3.c
 have k4 := h4.c
 have HFI := Hd (dfirst_any p m mt L D a b w h ha hb)
 obtain ⟨P, hP⟩ : ∃ P, P = firstA L a b := ⟨_, rfl⟩
 have hPB : 0 ≤ P.1 → TestB P := fun h5 => by
  rw [hP] at h5 ⊢
  rcases firstA_root h5 with ⟨r1, r2⟩ | ⟨r1, r2⟩
  ·have := (h.st.inv.2.2 _ (List.mem_of_getElem? (nodeP_some ha))).1
   exact ⟨⟨h5, by rw [← r1]; exact this.1.2⟩, by rw [← r2]; exact this.2.1⟩
  ·have := (h.st.inv.2.2 _ (List.mem_of_getElem? (nodeP_some hb))).1
   exact ⟨⟨h5, by rw [← r1]; exact this.1.2⟩, by rw [← r2]; exact this.2.1⟩
 have HPB := Hd hPB
 have HFL := Hd (fun hc => pick_falls (t := (f, n)) h.inv ha hb hc)
 have HUP := Hd (show pickP (k + 1) L (f, n) a b = (if P.1 < 0 ∨ f < P.1 ∨ (f = P.1 ∧ n ≤ P.2) then testR L (f, n) (hiA L f n a) (loA L f n b)
   else if P.1 = f then bindR (pickP k L (f, n) (loA L P.1 P.2 a) (loA L P.1 P.2 b)) fun y L1 => testR L1 P (hiA L P.1 P.2 b) y
   else bindR (pickP k L (f, n) (hiA L P.1 P.2 a) (hiA L P.1 P.2 b)) fun x L1 => bindR (pickP k L1 (f, n) (loA L1 P.1 P.2 a) (loA L1 P.1 P.2 b)) fun y L2 => testR L2 P x y) from by
  rw [pickP, if_neg hne, hP])
 rw [← hP] at HFI HFL
 have HT := Hd ht
 have HAB := Hd (show a + b < k + 1 ∧ a < L.length ∧ b < L.length from ⟨hab, ha, hb⟩)
 have HIH := Hd IH
 clear hP hPB hne hab ht
 go_enter Tryz.func133, Tryz.ntmps133
 go_wp2_with fail
 refine HFI.out.mono ?_
 rintro e w4 ⟨rfl, hx4⟩
 obtain ⟨gf, gn⟩ := P
 dsimp only at HUP HPB HFL
 have HX4 := Hd hx4
 have hM4 := HM.out.ext hx4
 have HM4 := Hd hM4
 have hB0 := HB.out.1.ext hx4
 have hB1 := HB.out.2.1.ext hx4
 have hB2 := HB.out.2.2.1.ext hx4
 have hB3 := HB.out.2.2.2.1.ext hx4
 have hB4 := HB.out.2.2.2.2.ext hx4
 have HSC := Hd (show ∀ (F' : Nat → Prop) (W : World) L' D', Mk F' W p m mt L' D' → Went F mt w4 F' W → ((fun W : World => W.cell? ⟨b0, 0, none⟩ = some (.pointer (some ⟨m, 0, none⟩)) ∧ W.cell? ⟨b1, 0, none⟩ = some (.int .i64 a) ∧ W.cell? ⟨b2, 0, none⟩ = some (.int .i64 b) ∧ W.cell? ⟨b3, 0, none⟩ = some (.int .i8 f) ∧ W.cell? ⟨b4, 0, none⟩ = some (.int .u64 n) ∧ W.cell? ⟨m, 0, none⟩ = some (.pointer (some ⟨p, 0, none⟩)))) W from fun F' W L' D' hM hw => by
  have a0 := hB0.keep hw.1 hw.2
  have a1 := hB1.keep hw.1 hw.2
  have a2 := hB2.keep hw.1 hw.2
  have a3 := hB3.keep hw.1 hw.2
  have a4 := hB4.keep hw.1 hw.2
  exact ⟨a0.c, a1.c, a2.c, a3.c, a4.c, hM.c0⟩)
 have k0 := hB0.c
 have k1 := hB1.c
 have k2 := hB2.c
 have k3 := hB3.c
 have k4 := hB4.c
 have xz5 : Ext w4 w4.drew := Ext.drew _
 have hS5 := HSC.out F w4.drew L D (HM4.out.ext xz5) (Went.ofExt xz5)
 clear hM4 hB0 hB1 hB2 hB3 hB4 hx4 HFI
 by_cases c1 : gf < 0
 case pos =>
  have HRR := Hd (HUP.out.trans (if_pos (by exact .inl c1)))
  have hla := hiA_le h.inv HT.out.1.1 (n := n) ha
  have hlb := loA_le h.inv HT.out.1.1 (n := n) hb
  have hbd := HM4.out.st.inv.2.1
  
  go_upto_region 3 with fail
  clear k0 k1 k2 k3 k4
  refine wp_region_held_drew (S := (fun W : World => W.cell? ⟨b0, 0, none⟩ = some (.pointer (some ⟨m, 0, none⟩)) ∧ W.cell? ⟨b1, 0, none⟩ = some (.int .i64 a) ∧ W.cell? ⟨b2, 0, none⟩ = some (.int .i64 b) ∧ W.cell? ⟨b3, 0, none⟩ = some (.int .i8 f) ∧ W.cell? ⟨b4, 0, none⟩ = some (.int .u64 n) ∧ W.cell? ⟨m, 0, none⟩ = some (.pointer (some ⟨p, 0, none⟩)))) (by kernel_rfl) (hS5) (fun hHeld => ?_)
  refine tk 0 (.pointer (some ⟨m, 0, none⟩)) ?_
  try simp only [tkN]
  refine tk 1 (.pointer (some ⟨m, 0, none⟩)) ?_
  try simp only [tkN]
  refine tk 2 (.pointer (some ⟨m, 0, none⟩)) ?_
  try simp only [tkN]
  refine tk 3 (.pointer (some ⟨p, 0, none⟩)) ?_
  try simp only [tkN]
  refine tk 4 (.int .i8 f) ?_
  try simp only [tkN]
  refine tk 5 (.int .u64 n) ?_
  try simp only [tkN]
  refine tk 6 (.pointer (some ⟨m, 0, none⟩)) ?_
  try simp only [tkN]
  refine tk 7 (.int .i64 a) ?_
  try simp only [tkN]
  refine tk 8 (.int .i8 f) ?_
  try simp only [tkN]
  refine tk 9 (.int .u64 n) ?_
  try simp only [tkN]
  refine tk 11 (.pointer (some ⟨m, 0, none⟩)) ?_
  try simp only [tkN]
  refine tk 12 (.int .i64 b) ?_
  try simp only [tkN]
  refine tk 13 (.int .i8 f) ?_
  try simp only [tkN]
  refine tk 14 (.int .u64 n) ?_
  try simp only [tkN]
  refine tk1 10 rfl (AllReadyH.cons rfl (fun K hK => ?_) AllReadyH.nil)
  go_simp
  go_at_call 116
  refine (dhi_any p m mt L D a f n w4.drew (HM4.out.ext xz5) (ha) (HT.out.1.1)).mono ?_
  rintro e u1 ⟨rfl, xu1⟩
  have mk1 := Mk.ext (HM4.out.ext xz5) xu1
  have we1 : Went F mt w4 F u1 := Went.trans (Went.ofExt xz5) (Went.ofExt xu1)
  refine hK.out _ _ (HSC.out F u1 L D mk1 we1) (fun hh1 => ?_)
  clear hK K
  try simp only [tkN]
  refine tk1 15 rfl (AllReadyH.cons rfl (fun K hK => ?_) AllReadyH.nil)
  go_simp
  go_at_call 117
  refine (dlo_any p m mt L D b f n u1 mk1 (hb) (HT.out.1.1)).mono ?_
  rintro e u2 ⟨rfl, xu2⟩
  have mk2 := Mk.ext mk1 xu2
  have we2 : Went F mt w4 F u2 := Went.trans we1 (Went.ofExt xu2)
  refine hK.out _ _ (HSC.out F u2 L D mk2 we2) (fun hh2 => ?_)
  clear hK K
  try simp only [tkN]
  have hbdE3 := (Mk.st mk2).inv.2.1
  refine tk1 16 rfl (AllReadyH.cons rfl (fun K hK => ?_) AllReadyH.nil)
  go_simp
  go_at_call 43
  refine (testS_any p L f n (hiA L f n a) (loA L f n b) u2 (Mk.st mk2) ((show (-128 ≤ f ∧ f ≤ 127) ∧ (0 ≤ n ∧ n ≤ 18446744073709551615) from ⟨⟨by have := HT.out.1.1; dsimp only at this; omega, HT.out.1.2⟩, HT.out.2⟩)).1 ((show (-128 ≤ f ∧ f ≤ 127) ∧ (0 ≤ n ∧ n ≤ 18446744073709551615) from ⟨⟨by have := HT.out.1.1; dsimp only at this; omega, HT.out.1.2⟩, HT.out.2⟩)).2 ⟨by omega, by omega⟩ ⟨by omega, by omega⟩).mono ?_
  obtain ⟨T, hT⟩ : ∃ T, T = testP L f n (hiA L f n a) (loA L f n b) := ⟨_, rfl⟩
  have HTR := Hd (show testR L (f, n) ((hiA L f n a)) ((loA L f n b)) = ((T.1.2, T.1.1.toNat), T.2) from by rw [hT]; rfl)
  have HTN := Hd (show T.1.2 = 0 → T.1.1 = ((T.1.1.toNat : Nat) : Int) from fun h5 => by rw [hT] at h5 ⊢; exact testP_nn (p := (f, n)) h5)
  rw [← hT]
  rintro e u3 ⟨rfl, F3, hto⟩
  have htf := testR_fine (h.inv) (f, n) ((hiA L f n a)) ((loA L f n b))
  rw [HTR.out] at htf
  have mk3 : Mk F3 u3 p m mt T.2 D := Mk.op mk2 hto htf.pre htf.inv
  have we3 : Went F mt w4 F3 u3 := Went.trans we2 (Went.op hto)
  clear hT
  refine hK.out _ _ (HSC.out F3 u3 T.2 D mk3 we3) (fun hh3 => ?_)
  clear hK K
  try simp only [tkN]
  refine tk 17 (.int .i64 T.1.1) ?_
  try simp only [tkN]
  refine tk 18 (.int .i64 T.1.2) ?_
  try simp only [tkN]
  refine tk1 19 rfl (AllReadyH.cons rfl (fun K hK => ?_) AllReadyH.nil)
  go_simp
  go_at_call 79
  refine (dmust_any T.1.1 T.1.2 u3).mono ?_
  rintro e u4 ⟨he, rfl⟩
  have hw0 := (Went.ofExt (F := F) (mt := mt) HX4.out).trans we3
  by_cases r4 : T.1.2 = 0
  case neg =>
   rw [endD_no r4] at he
   subst he
   have HFIN := Hd (show MPost F w p m mt (pickP (k + 1) L (f, n) a b) (.panicked (stopC T.1.2)) u3 from by
    rw [HRR.out, HTR.out]
    exact ⟨(endD_no r4 _).symm, F3, D, mk3, hw0.1, hw0.2⟩)
   go_wp2_with fail
   exact ⟨rfl, HFIN.out⟩
  rw [r4, endD_ok] at he
  subst he
  refine hK.out _ _ (HSC.out F3 u3 T.2 D mk3 we3) (fun hh4 => ?_)
  clear hK K
  try simp only [tkN]
  refine tk 20 (.int .i64 T.1.1) ?_
  try simp only [tkN]
  refine wpAnyH_done (by kernel_rfl) ?_ _
  have HFIN := Hd (show MPost F w p m mt (pickP (k + 1) L (f, n) a b) (.returned (.int .i64 T.1.1)) u3 from by
   rw [HRR.out, HTR.out]
   refine ⟨?_, F3, D, mk3, hw0.1, hw0.2⟩
   show _ = endD T.1.2 (.int .i64 (T.1.1.toNat : Nat))
   rw [r4, endD_ok, ← HTN.out r4])
  go_wp2_with fail
  go_ret
  exact HFIN.out
 by_cases c2 : f < gf
 case pos =>
  have HRR := Hd (HUP.out.trans (if_pos (by exact .inr (.inl c2))))
  have hla := hiA_le h.inv HT.out.1.1 (n := n) ha
  have hlb := loA_le h.inv HT.out.1.1 (n := n) hb
  have hbd := HM4.out.st.inv.2.1
  
  go_upto_region 3 with fail
  clear k0 k1 k2 k3 k4
  refine wp_region_held_drew (S := (fun W : World => W.cell? ⟨b0, 0, none⟩ = some (.pointer (some ⟨m, 0, none⟩)) ∧ W.cell? ⟨b1, 0, none⟩ = some (.int .i64 a) ∧ W.cell? ⟨b2, 0, none⟩ = some (.int .i64 b) ∧ W.cell? ⟨b3, 0, none⟩ = some (.int .i8 f) ∧ W.cell? ⟨b4, 0, none⟩ = some (.int .u64 n) ∧ W.cell? ⟨m, 0, none⟩ = some (.pointer (some ⟨p, 0, none⟩)))) (by kernel_rfl) (hS5) (fun hHeld => ?_)
  refine tk 0 (.pointer (some ⟨m, 0, none⟩)) ?_
  try simp only [tkN]
  refine tk 1 (.pointer (some ⟨m, 0, none⟩)) ?_
  try simp only [tkN]
  refine tk 2 (.pointer (some ⟨m, 0, none⟩)) ?_
  try simp only [tkN]
  refine tk 3 (.pointer (some ⟨p, 0, none⟩)) ?_
  try simp only [tkN]
  refine tk 4 (.int .i8 f) ?_
  try simp only [tkN]
  refine tk 5 (.int .u64 n) ?_
  try simp only [tkN]
  refine tk 6 (.pointer (some ⟨m, 0, none⟩)) ?_
  try simp only [tkN]
  refine tk 7 (.int .i64 a) ?_
  try simp only [tkN]
  refine tk 8 (.int .i8 f) ?_
  try simp only [tkN]
  refine tk 9 (.int .u64 n) ?_
  try simp only [tkN]
  refine tk 11 (.pointer (some ⟨m, 0, none⟩)) ?_
  try simp only [tkN]
  refine tk 12 (.int .i64 b) ?_
  try simp only [tkN]
  refine tk 13 (.int .i8 f) ?_
  try simp only [tkN]
  refine tk 14 (.int .u64 n) ?_
  try simp only [tkN]
  refine tk1 10 rfl (AllReadyH.cons rfl (fun K hK => ?_) AllReadyH.nil)
  go_simp
  go_at_call 116
  refine (dhi_any p m mt L D a f n w4.drew (HM4.out.ext xz5) (ha) (HT.out.1.1)).mono ?_
  rintro e u1 ⟨rfl, xu1⟩
  have mk1 := Mk.ext (HM4.out.ext xz5) xu1
  have we1 : Went F mt w4 F u1 := Went.trans (Went.ofExt xz5) (Went.ofExt xu1)
  refine hK.out _ _ (HSC.out F u1 L D mk1 we1) (fun hh1 => ?_)
  clear hK K
  try simp only [tkN]
  refine tk1 15 rfl (AllReadyH.cons rfl (fun K hK => ?_) AllReadyH.nil)
  go_simp
  go_at_call 117
  refine (dlo_any p m mt L D b f n u1 mk1 (hb) (HT.out.1.1)).mono ?_
  rintro e u2 ⟨rfl, xu2⟩
  have mk2 := Mk.ext mk1 xu2
  have we2 : Went F mt w4 F u2 := Went.trans we1 (Went.ofExt xu2)
  refine hK.out _ _ (HSC.out F u2 L D mk2 we2) (fun hh2 => ?_)
  clear hK K
  try simp only [tkN]
  have hbdE3 := (Mk.st mk2).inv.2.1
  refine tk1 16 rfl (AllReadyH.cons rfl (fun K hK => ?_) AllReadyH.nil)
  go_simp
  go_at_call 43
  refine (testS_any p L f n (hiA L f n a) (loA L f n b) u2 (Mk.st mk2) ((show (-128 ≤ f ∧ f ≤ 127) ∧ (0 ≤ n ∧ n ≤ 18446744073709551615) from ⟨⟨by have := HT.out.1.1; dsimp only at this; omega, HT.out.1.2⟩, HT.out.2⟩)).1 ((show (-128 ≤ f ∧ f ≤ 127) ∧ (0 ≤ n ∧ n ≤ 18446744073709551615) from ⟨⟨by have := HT.out.1.1; dsimp only at this; omega, HT.out.1.2⟩, HT.out.2⟩)).2 ⟨by omega, by omega⟩ ⟨by omega, by omega⟩).mono ?_
  obtain ⟨T, hT⟩ : ∃ T, T = testP L f n (hiA L f n a) (loA L f n b) := ⟨_, rfl⟩
  have HTR := Hd (show testR L (f, n) ((hiA L f n a)) ((loA L f n b)) = ((T.1.2, T.1.1.toNat), T.2) from by rw [hT]; rfl)
  have HTN := Hd (show T.1.2 = 0 → T.1.1 = ((T.1.1.toNat : Nat) : Int) from fun h5 => by rw [hT] at h5 ⊢; exact testP_nn (p := (f, n)) h5)
  rw [← hT]
  rintro e u3 ⟨rfl, F3, hto⟩
  have htf := testR_fine (h.inv) (f, n) ((hiA L f n a)) ((loA L f n b))
  rw [HTR.out] at htf
  have mk3 : Mk F3 u3 p m mt T.2 D := Mk.op mk2 hto htf.pre htf.inv
  have we3 : Went F mt w4 F3 u3 := Went.trans we2 (Went.op hto)
  clear hT
  refine hK.out _ _ (HSC.out F3 u3 T.2 D mk3 we3) (fun hh3 => ?_)
  clear hK K
  try simp only [tkN]
  refine tk 17 (.int .i64 T.1.1) ?_
  try simp only [tkN]
  refine tk 18 (.int .i64 T.1.2) ?_
  try simp only [tkN]
  refine tk1 19 rfl (AllReadyH.cons rfl (fun K hK => ?_) AllReadyH.nil)
  go_simp
  go_at_call 79
  refine (dmust_any T.1.1 T.1.2 u3).mono ?_
  rintro e u4 ⟨he, rfl⟩
  have hw0 := (Went.ofExt (F := F) (mt := mt) HX4.out).trans we3
  by_cases r4 : T.1.2 = 0
  case neg =>
   rw [endD_no r4] at he
   subst he
   have HFIN := Hd (show MPost F w p m mt (pickP (k + 1) L (f, n) a b) (.panicked (stopC T.1.2)) u3 from by
    rw [HRR.out, HTR.out]
    exact ⟨(endD_no r4 _).symm, F3, D, mk3, hw0.1, hw0.2⟩)
   go_wp2_with fail
   exact ⟨rfl, HFIN.out⟩
  rw [r4, endD_ok] at he
  subst he
  refine hK.out _ _ (HSC.out F3 u3 T.2 D mk3 we3) (fun hh4 => ?_)
  clear hK K
  try simp only [tkN]
  refine tk 20 (.int .i64 T.1.1) ?_
  try simp only [tkN]
  refine wpAnyH_done (by kernel_rfl) ?_ _
  have HFIN := Hd (show MPost F w p m mt (pickP (k + 1) L (f, n) a b) (.returned (.int .i64 T.1.1)) u3 from by
   rw [HRR.out, HTR.out]
   refine ⟨?_, F3, D, mk3, hw0.1, hw0.2⟩
   show _ = endD T.1.2 (.int .i64 (T.1.1.toNat : Nat))
   rw [r4, endD_ok, ← HTN.out r4])
  go_wp2_with fail
  go_ret
  exact HFIN.out
 by_cases c3 : f = gf
 case neg =>
  have q3 : (f == gf) = false := by rw [beq_eq_false_iff_ne]; exact c3
  have cgf : ¬ gf = f := fun e => c3 e.symm
  have q4 : (gf == f) = false := by rw [beq_eq_false_iff_ne]; exact cgf
  have hcc : ¬ (gf < 0 ∨ f < gf ∨ (f = gf ∧ n ≤ gn)) := by omega
  have hgb := HPB.out (by omega)
  have HGB := Hd (show (-128 ≤ gf ∧ gf ≤ 127) ∧ (0 ≤ gn ∧ gn ≤ 18446744073709551615) from ⟨⟨by have := hgb.1.1; dsimp only at this; omega, hgb.1.2⟩, hgb.2⟩)
  have HUP2 := Hd (HUP.out.trans (if_neg hcc))
  have HFL2 := Hd (HFL.out hcc)
  clear hgb hcc
  have HUP3 := Hd (HUP2.out.trans (if_neg cgf))
  obtain ⟨R1, hR1⟩ : ∃ R1, R1 = pickP k L (f, n) (hiA L gf gn a) (hiA L gf gn b) := ⟨_, rfl⟩
  obtain ⟨R2, hR2⟩ : ∃ R2, R2 = pickP k R1.2 (f, n) (loA R1.2 gf gn a) (loA R1.2 gf gn b) := ⟨_, rfl⟩
  have hfal := HFL2.out
  try dsimp only at hfal
  have hfn1 : Fine L R1 := by rw [hR1]; exact pickP_fine h.inv (by omega) (by omega)
  have hlen1 := hfn1.pre.length_le
  have hla : loA R1.2 gf gn a = loA L gf gn a := loA_pre hfn1.pre ha
  have hlb : loA R1.2 gf gn b = loA L gf gn b := loA_pre hfn1.pre hb
  have hfn2 : Fine R1.2 R2 := by rw [hR2]; exact pickP_fine hfn1.inv (by omega) (by omega)
  have HFNR1 := Hd hfn1
  have HFNR2 := Hd hfn2
  have HRR := Hd (show pickP (k + 1) L (f, n) a b = (if R1.1.1 = 0 then (if R2.1.1 = 0 then testR R2.2 (gf, gn) R1.1.2 R2.1.2 else R2) else R1) from by
   rw [HUP3.out, ← hR1]
   unfold bindR
   dsimp only
   rw [← hR2])
  have HIH1 := Hd (show ∀ W, Mk F W p m mt L D → Calls Tryz.prog 112 #[.pointer (some ⟨m, 0, none⟩), .int .i8 f, .int .u64 n, .int .i64 (hiA L gf gn a), .int .i64 (hiA L gf gn b)] W (MPost F W p m mt R1) from fun W hM => by
   rw [hR1]; exact HIH.out F p m mt L D f n _ _ W (by have := HAB.out.1; omega) (by omega) (by omega) HT.out hM)
  have HIH2 := Hd (show ∀ F1 D1 W, Mk F1 W p m mt R1.2 D1 → Calls Tryz.prog 112 #[.pointer (some ⟨m, 0, none⟩), .int .i8 f, .int .u64 n, .int .i64 (loA R1.2 gf gn a), .int .i64 (loA R1.2 gf gn b)] W (MPost F1 W p m mt R2) from fun F1 D1 W hM => by
   rw [hR2]; exact HIH.out F1 p m mt R1.2 D1 f n _ _ W (by have := HAB.out.1; omega) (by omega) (by omega) HT.out hM)
  have ha1 : a < R1.2.length := by omega
  have hb1 : b < R1.2.length := by omega
  have hg0 := hfal.1
  clear hfal hla hlb hlen1 hfn1 hfn2 hR1 hR2 HUP HUP2 HUP3 HFL HFL2 HPB HIH cgf
  go_upto_region 6 with fail
  clear k0 k1 k2 k3 k4
  refine wp_region_held_drew (S := (fun W : World => W.cell? ⟨b0, 0, none⟩ = some (.pointer (some ⟨m, 0, none⟩)) ∧ W.cell? ⟨b1, 0, none⟩ = some (.int .i64 a) ∧ W.cell? ⟨b2, 0, none⟩ = some (.int .i64 b) ∧ W.cell? ⟨b3, 0, none⟩ = some (.int .i8 f) ∧ W.cell? ⟨b4, 0, none⟩ = some (.int .u64 n) ∧ W.cell? ⟨m, 0, none⟩ = some (.pointer (some ⟨p, 0, none⟩)))) (by kernel_rfl) (hS5) (fun hHeld => ?_)
  refine tk 0 (.pointer (some ⟨m, 0, none⟩)) ?_
  try simp only [tkN]
  refine tk 1 (.pointer (some ⟨m, 0, none⟩)) ?_
  try simp only [tkN]
  refine tk 2 (.pointer (some ⟨m, 0, none⟩)) ?_
  try simp only [tkN]
  refine tk 3 (.pointer (some ⟨p, 0, none⟩)) ?_
  try simp only [tkN]
  refine tk 4 (.int .i8 gf) ?_
  try simp only [tkN]
  refine tk 5 (.int .u64 gn) ?_
  try simp only [tkN]
  refine tk 6 (.pointer (some ⟨m, 0, none⟩)) ?_
  try simp only [tkN]
  refine tk 7 (.int .i8 f) ?_
  try simp only [tkN]
  refine tk 8 (.int .u64 n) ?_
  try simp only [tkN]
  refine tk 9 (.pointer (some ⟨m, 0, none⟩)) ?_
  try simp only [tkN]
  refine tk 10 (.int .i64 a) ?_
  try simp only [tkN]
  refine tk 11 (.int .i8 gf) ?_
  try simp only [tkN]
  refine tk 12 (.int .u64 gn) ?_
  try simp only [tkN]
  refine tk 14 (.pointer (some ⟨m, 0, none⟩)) ?_
  try simp only [tkN]
  refine tk 15 (.int .i64 b) ?_
  try simp only [tkN]
  refine tk 16 (.int .i8 gf) ?_
  try simp only [tkN]
  refine tk 17 (.int .u64 gn) ?_
  try simp only [tkN]
  refine tk 20 (.pointer (some ⟨m, 0, none⟩)) ?_
  try simp only [tkN]
  refine tk 21 (.int .i8 f) ?_
  try simp only [tkN]
  refine tk 22 (.int .u64 n) ?_
  try simp only [tkN]
  refine tk 23 (.pointer (some ⟨m, 0, none⟩)) ?_
  try simp only [tkN]
  refine tk 24 (.int .i64 a) ?_
  try simp only [tkN]
  refine tk 25 (.int .i8 gf) ?_
  try simp only [tkN]
  refine tk 26 (.int .u64 gn) ?_
  try simp only [tkN]
  refine tk 28 (.pointer (some ⟨m, 0, none⟩)) ?_
  try simp only [tkN]
  refine tk 29 (.int .i64 b) ?_
  try simp only [tkN]
  refine tk 30 (.int .i8 gf) ?_
  try simp only [tkN]
  refine tk 31 (.int .u64 gn) ?_
  try simp only [tkN]
  refine tk1 13 rfl (AllReadyH.cons rfl (fun K hK => ?_) AllReadyH.nil)
  go_simp
  go_at_call 116
  refine (dhi_any p m mt L D a gf gn w4.drew (HM4.out.ext xz5) (ha) (hg0)).mono ?_
  rintro e u1 ⟨rfl, xu1⟩
  have mk1 := Mk.ext (HM4.out.ext xz5) xu1
  have we1 : Went F mt w4 F u1 := Went.trans (Went.ofExt xz5) (Went.ofExt xu1)
  refine hK.out _ _ (HSC.out F u1 L D mk1 we1) (fun hh1 => ?_)
  clear hK K
  try simp only [tkN]
  refine tk1 18 rfl (AllReadyH.cons rfl (fun K hK => ?_) AllReadyH.nil)
  go_simp
  go_at_call 116
  refine (dhi_any p m mt L D b gf gn u1 mk1 (hb) (hg0)).mono ?_
  rintro e u2 ⟨rfl, xu2⟩
  have mk2 := Mk.ext mk1 xu2
  have we2 : Went F mt w4 F u2 := Went.trans we1 (Went.ofExt xu2)
  refine hK.out _ _ (HSC.out F u2 L D mk2 we2) (fun hh2 => ?_)
  clear hK K
  try simp only [tkN]
  refine tk1 19 rfl (AllReadyH.cons rfl (fun K hK => ?_) AllReadyH.nil)
  go_simp
  go_at_call 112
  refine (HIH1.out u2 mk2).mono ?_
  rintro e u3 ⟨he, F3, D3, mk3, hs3, hk3⟩
  have we3 : Went F mt w4 F3 u3 := Went.trans we2 ⟨hs3, hk3⟩
  by_cases r3 : R1.1.1 = 0
  case neg =>
   rw [endD_no r3] at he
   subst he
   have hw0 := (Went.ofExt (F := F) (mt := mt) HX4.out).trans we3
   have HFIN := Hd (show MPost F w p m mt (pickP (k + 1) L (f, n) a b) (.panicked (stopC R1.1.1)) u3 from by
    rw [HRR.out, if_neg r3]
    exact ⟨(endD_no r3 _).symm, F3, D3, mk3, hw0.1, hw0.2⟩)
   go_wp2_with fail
   exact ⟨rfl, HFIN.out⟩
  rw [r3, endD_ok] at he
  subst he
  have hlt3 := HFNR1.out.lt r3
  have hpl3 := HFNR1.out.pre.length_le
  refine hK.out _ _ (HSC.out F3 u3 R1.2 D3 mk3 we3) (fun hh3 => ?_)
  clear hK K
  try simp only [tkN]
  refine tk1 27 rfl (AllReadyH.cons rfl (fun K hK => ?_) AllReadyH.nil)
  go_simp
  go_at_call 117
  refine (dlo_any p m mt R1.2 D3 a gf gn u3 mk3 (ha1) (hg0)).mono ?_
  rintro e u4 ⟨rfl, xu4⟩
  have mk4 := Mk.ext mk3 xu4
  have we4 : Went F mt w4 F3 u4 := Went.trans we3 (Went.ofExt xu4)
  refine hK.out _ _ (HSC.out F3 u4 R1.2 D3 mk4 we4) (fun hh4 => ?_)
  clear hK K
  try simp only [tkN]
  refine tk1 32 rfl (AllReadyH.cons rfl (fun K hK => ?_) AllReadyH.nil)
  go_simp
  go_at_call 117
  refine (dlo_any p m mt R1.2 D3 b gf gn u4 mk4 (hb1) (hg0)).mono ?_
  rintro e u5 ⟨rfl, xu5⟩
  have mk5 := Mk.ext mk4 xu5
  have we5 : Went F mt w4 F3 u5 := Went.trans we4 (Went.ofExt xu5)
  refine hK.out _ _ (HSC.out F3 u5 R1.2 D3 mk5 we5) (fun hh5 => ?_)
  clear hK K
  try simp only [tkN]
  refine tk1 33 rfl (AllReadyH.cons rfl (fun K hK => ?_) AllReadyH.nil)
  go_simp
  go_at_call 112
  refine (HIH2.out F3 D3 u5 mk5).mono ?_
  rintro e u6 ⟨he, F6, D6, mk6, hs6, hk6⟩
  have we6 : Went F mt w4 F6 u6 := Went.trans we5 ⟨hs6, hk6⟩
  by_cases r6 : R2.1.1 = 0
  case neg =>
   rw [endD_no r6] at he
   subst he
   have hw0 := (Went.ofExt (F := F) (mt := mt) HX4.out).trans we6
   have HFIN := Hd (show MPost F w p m mt (pickP (k + 1) L (f, n) a b) (.panicked (stopC R2.1.1)) u6 from by
    rw [HRR.out, if_pos r3, if_neg r6]
    exact ⟨(endD_no r6 _).symm, F6, D6, mk6, hw0.1, hw0.2⟩)
   go_wp2_with fail
   exact ⟨rfl, HFIN.out⟩
  rw [r6, endD_ok] at he
  subst he
  have hlt6 := HFNR2.out.lt r6
  have hpl6 := HFNR2.out.pre.length_le
  refine hK.out _ _ (HSC.out F6 u6 R2.2 D6 mk6 we6) (fun hh6 => ?_)
  clear hK K
  try simp only [tkN]
  have hbdE7 := (Mk.st mk6).inv.2.1
  refine tk1 34 rfl (AllReadyH.cons rfl (fun K hK => ?_) AllReadyH.nil)
  go_simp
  go_at_call 43
  refine (testS_any p R2.2 gf gn R1.1.2 R2.1.2 u6 (Mk.st mk6) (HGB.out).1 (HGB.out).2 ⟨by omega, by omega⟩ ⟨by omega, by omega⟩).mono ?_
  obtain ⟨T, hT⟩ : ∃ T, T = testP R2.2 gf gn R1.1.2 R2.1.2 := ⟨_, rfl⟩
  have HTR := Hd (show testR R2.2 (gf, gn) (R1.1.2) (R2.1.2) = ((T.1.2, T.1.1.toNat), T.2) from by rw [hT]; rfl)
  have HTN := Hd (show T.1.2 = 0 → T.1.1 = ((T.1.1.toNat : Nat) : Int) from fun h5 => by rw [hT] at h5 ⊢; exact testP_nn (p := (gf, gn)) h5)
  rw [← hT]
  rintro e u7 ⟨rfl, F7, hto⟩
  have htf := testR_fine (HFNR2.out.inv) (gf, gn) (R1.1.2) (R2.1.2)
  rw [HTR.out] at htf
  have mk7 : Mk F7 u7 p m mt T.2 D6 := Mk.op mk6 hto htf.pre htf.inv
  have we7 : Went F mt w4 F7 u7 := Went.trans we6 (Went.op hto)
  clear hT
  refine hK.out _ _ (HSC.out F7 u7 T.2 D6 mk7 we7) (fun hh7 => ?_)
  clear hK K
  try simp only [tkN]
  refine tk 35 (.int .i64 T.1.1) ?_
  try simp only [tkN]
  refine tk 36 (.int .i64 T.1.2) ?_
  try simp only [tkN]
  refine tk1 37 rfl (AllReadyH.cons rfl (fun K hK => ?_) AllReadyH.nil)
  go_simp
  go_at_call 79
  refine (dmust_any T.1.1 T.1.2 u7).mono ?_
  rintro e u8 ⟨he, rfl⟩
  have hw0 := (Went.ofExt (F := F) (mt := mt) HX4.out).trans we7
  by_cases r8 : T.1.2 = 0
  case neg =>
   rw [endD_no r8] at he
   subst he
   have HFIN := Hd (show MPost F w p m mt (pickP (k + 1) L (f, n) a b) (.panicked (stopC T.1.2)) u7 from by
    rw [HRR.out, if_pos r3, if_pos r6, HTR.out]
    exact ⟨(endD_no r8 _).symm, F7, D6, mk7, hw0.1, hw0.2⟩)
   go_wp2_with fail
   exact ⟨rfl, HFIN.out⟩
  rw [r8, endD_ok] at he
  subst he
  refine hK.out _ _ (HSC.out F7 u7 T.2 D6 mk7 we7) (fun hh8 => ?_)
  clear hK K
  try simp only [tkN]
  refine tk 38 (.int .i64 T.1.1) ?_
  try simp only [tkN]
  refine wpAnyH_done (by kernel_rfl) ?_ _
  have HFIN := Hd (show MPost F w p m mt (pickP (k + 1) L (f, n) a b) (.returned (.int .i64 T.1.1)) u7 from by
   rw [HRR.out, if_pos r3, if_pos r6, HTR.out]
   refine ⟨?_, F7, D6, mk7, hw0.1, hw0.2⟩
   show _ = endD T.1.2 (.int .i64 (T.1.1.toNat : Nat))
   rw [r8, endD_ok, ← HTN.out r8])
  go_wp2_with fail
  go_ret
  exact HFIN.out
 have q3 : (f == gf) = true := by rw [beq_iff_eq]; exact c3
 have q4 : (gf == f) = true := by rw [beq_iff_eq]; exact c3.symm
 by_cases c4 : n ≤ gn
 case pos =>
  clear q4
  have HRR := Hd (HUP.out.trans (if_pos (by exact .inr (.inr ⟨c3, c4⟩))))
  have hla := hiA_le h.inv HT.out.1.1 (n := n) ha
  have hlb := loA_le h.inv HT.out.1.1 (n := n) hb
  have hbd := HM4.out.st.inv.2.1
  clear c3
  go_upto_region 3 with fail
  clear k0 k1 k2 k3 k4
  refine wp_region_held_drew (S := (fun W : World => W.cell? ⟨b0, 0, none⟩ = some (.pointer (some ⟨m, 0, none⟩)) ∧ W.cell? ⟨b1, 0, none⟩ = some (.int .i64 a) ∧ W.cell? ⟨b2, 0, none⟩ = some (.int .i64 b) ∧ W.cell? ⟨b3, 0, none⟩ = some (.int .i8 f) ∧ W.cell? ⟨b4, 0, none⟩ = some (.int .u64 n) ∧ W.cell? ⟨m, 0, none⟩ = some (.pointer (some ⟨p, 0, none⟩)))) (by kernel_rfl) (hS5) (fun hHeld => ?_)
  refine tk 0 (.pointer (some ⟨m, 0, none⟩)) ?_
  try simp only [tkN]
  refine tk 1 (.pointer (some ⟨m, 0, none⟩)) ?_
  try simp only [tkN]
  refine tk 2 (.pointer (some ⟨m, 0, none⟩)) ?_
  try simp only [tkN]
  refine tk 3 (.pointer (some ⟨p, 0, none⟩)) ?_
  try simp only [tkN]
  refine tk 4 (.int .i8 f) ?_
  try simp only [tkN]
  refine tk 5 (.int .u64 n) ?_
  try simp only [tkN]
  refine tk 6 (.pointer (some ⟨m, 0, none⟩)) ?_
  try simp only [tkN]
  refine tk 7 (.int .i64 a) ?_
  try simp only [tkN]
  refine tk 8 (.int .i8 f) ?_
  try simp only [tkN]
  refine tk 9 (.int .u64 n) ?_
  try simp only [tkN]
  refine tk 11 (.pointer (some ⟨m, 0, none⟩)) ?_
  try simp only [tkN]
  refine tk 12 (.int .i64 b) ?_
  try simp only [tkN]
  refine tk 13 (.int .i8 f) ?_
  try simp only [tkN]
  refine tk 14 (.int .u64 n) ?_
  try simp only [tkN]
  refine tk1 10 rfl (AllReadyH.cons rfl (fun K hK => ?_) AllReadyH.nil)
  go_simp
  go_at_call 116
  refine (dhi_any p m mt L D a f n w4.drew (HM4.out.ext xz5) (ha) (HT.out.1.1)).mono ?_
  rintro e u1 ⟨rfl, xu1⟩
  have mk1 := Mk.ext (HM4.out.ext xz5) xu1
  have we1 : Went F mt w4 F u1 := Went.trans (Went.ofExt xz5) (Went.ofExt xu1)
  refine hK.out _ _ (HSC.out F u1 L D mk1 we1) (fun hh1 => ?_)
  clear hK K
  try simp only [tkN]
  refine tk1 15 rfl (AllReadyH.cons rfl (fun K hK => ?_) AllReadyH.nil)
  go_simp
  go_at_call 117
  refine (dlo_any p m mt L D b f n u1 mk1 (hb) (HT.out.1.1)).mono ?_
  rintro e u2 ⟨rfl, xu2⟩
  have mk2 := Mk.ext mk1 xu2
  have we2 : Went F mt w4 F u2 := Went.trans we1 (Went.ofExt xu2)
  refine hK.out _ _ (HSC.out F u2 L D mk2 we2) (fun hh2 => ?_)
  clear hK K
  try simp only [tkN]
  have hbdE3 := (Mk.st mk2).inv.2.1
  refine tk1 16 rfl (AllReadyH.cons rfl (fun K hK => ?_) AllReadyH.nil)
  go_simp
  go_at_call 43
  refine (testS_any p L f n (hiA L f n a) (loA L f n b) u2 (Mk.st mk2) ((show (-128 ≤ f ∧ f ≤ 127) ∧ (0 ≤ n ∧ n ≤ 18446744073709551615) from ⟨⟨by have := HT.out.1.1; dsimp only at this; omega, HT.out.1.2⟩, HT.out.2⟩)).1 ((show (-128 ≤ f ∧ f ≤ 127) ∧ (0 ≤ n ∧ n ≤ 18446744073709551615) from ⟨⟨by have := HT.out.1.1; dsimp only at this; omega, HT.out.1.2⟩, HT.out.2⟩)).2 ⟨by omega, by omega⟩ ⟨by omega, by omega⟩).mono ?_
  obtain ⟨T, hT⟩ : ∃ T, T = testP L f n (hiA L f n a) (loA L f n b) := ⟨_, rfl⟩
  have HTR := Hd (show testR L (f, n) ((hiA L f n a)) ((loA L f n b)) = ((T.1.2, T.1.1.toNat), T.2) from by rw [hT]; rfl)
  have HTN := Hd (show T.1.2 = 0 → T.1.1 = ((T.1.1.toNat : Nat) : Int) from fun h5 => by rw [hT] at h5 ⊢; exact testP_nn (p := (f, n)) h5)
  rw [← hT]
  rintro e u3 ⟨rfl, F3, hto⟩
  have htf := testR_fine (h.inv) (f, n) ((hiA L f n a)) ((loA L f n b))
  rw [HTR.out] at htf
  have mk3 : Mk F3 u3 p m mt T.2 D := Mk.op mk2 hto htf.pre htf.inv
  have we3 : Went F mt w4 F3 u3 := Went.trans we2 (Went.op hto)
  clear hT
  refine hK.out _ _ (HSC.out F3 u3 T.2 D mk3 we3) (fun hh3 => ?_)
  clear hK K
  try simp only [tkN]
  refine tk 17 (.int .i64 T.1.1) ?_
  try simp only [tkN]
  refine tk 18 (.int .i64 T.1.2) ?_
  try simp only [tkN]
  refine tk1 19 rfl (AllReadyH.cons rfl (fun K hK => ?_) AllReadyH.nil)
  go_simp
  go_at_call 79
  refine (dmust_any T.1.1 T.1.2 u3).mono ?_
  rintro e u4 ⟨he, rfl⟩
  have hw0 := (Went.ofExt (F := F) (mt := mt) HX4.out).trans we3
  by_cases r4 : T.1.2 = 0
  case neg =>
   rw [endD_no r4] at he
   subst he
   have HFIN := Hd (show MPost F w p m mt (pickP (k + 1) L (f, n) a b) (.panicked (stopC T.1.2)) u3 from by
    rw [HRR.out, HTR.out]
    exact ⟨(endD_no r4 _).symm, F3, D, mk3, hw0.1, hw0.2⟩)
   go_wp2_with fail
   exact ⟨rfl, HFIN.out⟩
  rw [r4, endD_ok] at he
  subst he
  refine hK.out _ _ (HSC.out F3 u3 T.2 D mk3 we3) (fun hh4 => ?_)
  clear hK K
  try simp only [tkN]
  refine tk 20 (.int .i64 T.1.1) ?_
  try simp only [tkN]
  refine wpAnyH_done (by kernel_rfl) ?_ _
  have HFIN := Hd (show MPost F w p m mt (pickP (k + 1) L (f, n) a b) (.returned (.int .i64 T.1.1)) u3 from by
   rw [HRR.out, HTR.out]
   refine ⟨?_, F3, D, mk3, hw0.1, hw0.2⟩
   show _ = endD T.1.2 (.int .i64 (T.1.1.toNat : Nat))
   rw [r4, endD_ok, ← HTN.out r4])
  go_wp2_with fail
  go_ret
  exact HFIN.out
 have cgf : gf = f := c3.symm
 have hcc : ¬ (gf < 0 ∨ f < gf ∨ (f = gf ∧ n ≤ gn)) := by omega
 have hgb := HPB.out (by omega)
 have HGB := Hd (show (-128 ≤ gf ∧ gf ≤ 127) ∧ (0 ≤ gn ∧ gn ≤ 18446744073709551615) from ⟨⟨by have := hgb.1.1; dsimp only at this; omega, hgb.1.2⟩, hgb.2⟩)
 have HUP2 := Hd (HUP.out.trans (if_neg hcc))
 have HFL2 := Hd (HFL.out hcc)
 clear hgb hcc
 clear c3
 have HUP3 := Hd (HUP2.out.trans (if_pos cgf))
 obtain ⟨R1, hR1⟩ : ∃ R1, R1 = pickP k L (f, n) (loA L gf gn a) (loA L gf gn b) := ⟨_, rfl⟩
 have hfal := HFL2.out
 try dsimp only at hfal
 have hfn1 : Fine L R1 := by rw [hR1]; exact pickP_fine h.inv (by omega) (by omega)
 have HFNR1 := Hd hfn1
 have HRR := Hd (show pickP (k + 1) L (f, n) a b = (if R1.1.1 = 0 then testR R1.2 (gf, gn) (hiA L gf gn b) R1.1.2 else R1) from by
  rw [HUP3.out, ← hR1]
  unfold bindR
  dsimp only)
 have HIH1 := Hd (show ∀ W, Mk F W p m mt L D → Calls Tryz.prog 112 #[.pointer (some ⟨m, 0, none⟩), .int .i8 f, .int .u64 n, .int .i64 (loA L gf gn a), .int .i64 (loA L gf gn b)] W (MPost F W p m mt R1) from fun W hM => by
  rw [hR1]; exact HIH.out F p m mt L D f n _ _ W (by have := HAB.out.1; omega) (by omega) (by omega) HT.out hM)
 have hbd := HM4.out.st.inv.2.1
 have h5len : R1.2.length ≤ 65536 → hiA L gf gn b ≤ 65536 := fun _ => by omega
 have hg0 := hfal.1
 have hbl := hfal.2.2.1
 clear hfal hfn1 hR1 HUP HUP2 HUP3 HFL HFL2 HPB HIH cgf
 go_upto_region 5 with fail
 clear k0 k1 k2 k3 k4
 refine wp_region_held_drew (S := (fun W : World => W.cell? ⟨b0, 0, none⟩ = some (.pointer (some ⟨m, 0, none⟩)) ∧ W.cell? ⟨b1, 0, none⟩ = some (.int .i64 a) ∧ W.cell? ⟨b2, 0, none⟩ = some (.int .i64 b) ∧ W.cell? ⟨b3, 0, none⟩ = some (.int .i8 f) ∧ W.cell? ⟨b4, 0, none⟩ = some (.int .u64 n) ∧ W.cell? ⟨m, 0, none⟩ = some (.pointer (some ⟨p, 0, none⟩)))) (by kernel_rfl) (hS5) (fun hHeld => ?_)
 refine tk 0 (.pointer (some ⟨m, 0, none⟩)) ?_
 try simp only [tkN]
 refine tk 1 (.pointer (some ⟨m, 0, none⟩)) ?_
 try simp only [tkN]
 refine tk 2 (.pointer (some ⟨m, 0, none⟩)) ?_
 try simp only [tkN]
 refine tk 3 (.pointer (some ⟨p, 0, none⟩)) ?_
 try simp only [tkN]
 refine tk 4 (.int .i8 gf) ?_
 try simp only [tkN]
 refine tk 5 (.int .u64 gn) ?_
 try simp only [tkN]
 refine tk 6 (.pointer (some ⟨m, 0, none⟩)) ?_
 try simp only [tkN]
 refine tk 7 (.int .i64 b) ?_
 try simp only [tkN]
 refine tk 8 (.int .i8 gf) ?_
 try simp only [tkN]
 refine tk 9 (.int .u64 gn) ?_
 try simp only [tkN]
 refine tk 11 (.pointer (some ⟨m, 0, none⟩)) ?_
 try simp only [tkN]
 refine tk 12 (.int .i8 f) ?_
 try simp only [tkN]
 refine tk 13 (.int .u64 n) ?_
 try simp only [tkN]
 refine tk 14 (.pointer (some ⟨m, 0, none⟩)) ?_
 try simp only [tkN]
 refine tk 15 (.int .i64 a) ?_
 try simp only [tkN]
 refine tk 16 (.int .i8 gf) ?_
 try simp only [tkN]
 refine tk 17 (.int .u64 gn) ?_
 try simp only [tkN]
 refine tk 19 (.pointer (some ⟨m, 0, none⟩)) ?_
 try simp only [tkN]
 refine tk 20 (.int .i64 b) ?_
 try simp only [tkN]
 refine tk 21 (.int .i8 gf) ?_
 try simp only [tkN]
 refine tk 22 (.int .u64 gn) ?_
 try simp only [tkN]
 refine tk1 10 rfl (AllReadyH.cons rfl (fun K hK => ?_) AllReadyH.nil)
 go_simp
 go_at_call 116
 refine (dhi_any p m mt L D b gf gn w4.drew (HM4.out.ext xz5) (hb) (hg0)).mono ?_
 rintro e u1 ⟨rfl, xu1⟩
 have mk1 := Mk.ext (HM4.out.ext xz5) xu1
 have we1 : Went F mt w4 F u1 := Went.trans (Went.ofExt xz5) (Went.ofExt xu1)
 refine hK.out _ _ (HSC.out F u1 L D mk1 we1) (fun hh1 => ?_)
 clear hK K
 try simp only [tkN]
 refine tk1 18 rfl (AllReadyH.cons rfl (fun K hK => ?_) AllReadyH.nil)
 go_simp
 go_at_call 117
 refine (dlo_any p m mt L D a gf gn u1 mk1 (ha) (hg0)).mono ?_
 rintro e u2 ⟨rfl, xu2⟩
 have mk2 := Mk.ext mk1 xu2
 have we2 : Went F mt w4 F u2 := Went.trans we1 (Went.ofExt xu2)
 refine hK.out _ _ (HSC.out F u2 L D mk2 we2) (fun hh2 => ?_)
 clear hK K
 try simp only [tkN]
 refine tk1 23 rfl (AllReadyH.cons rfl (fun K hK => ?_) AllReadyH.nil)
 go_simp
 go_at_call 117
 refine (dlo_any p m mt L D b gf gn u2 mk2 (hb) (hg0)).mono ?_
 rintro e u3 ⟨rfl, xu3⟩
 have mk3 := Mk.ext mk2 xu3
 have we3 : Went F mt w4 F u3 := Went.trans we2 (Went.ofExt xu3)
 refine hK.out _ _ (HSC.out F u3 L D mk3 we3) (fun hh3 => ?_)
 clear hK K
 try simp only [tkN]
 refine tk1 24 rfl (AllReadyH.cons rfl (fun K hK => ?_) AllReadyH.nil)
 go_simp
 go_at_call 112
 refine (HIH1.out u3 mk3).mono ?_
 rintro e u4 ⟨he, F4, D4, mk4, hs4, hk4⟩
 have we4 : Went F mt w4 F4 u4 := Went.trans we3 ⟨hs4, hk4⟩
 by_cases r4 : R1.1.1 = 0
 case neg =>
  rw [endD_no r4] at he
  subst he
  have hw0 := (Went.ofExt (F := F) (mt := mt) HX4.out).trans we4
  have HFIN := Hd (show MPost F w p m mt (pickP (k + 1) L (f, n) a b) (.panicked (stopC R1.1.1)) u4 from by
   rw [HRR.out, if_neg r4]
   exact ⟨(endD_no r4 _).symm, F4, D4, mk4, hw0.1, hw0.2⟩)
  go_wp2_with fail
  exact ⟨rfl, HFIN.out⟩
 rw [r4, endD_ok] at he
 subst he
 have hlt4 := HFNR1.out.lt r4
 have hpl4 := HFNR1.out.pre.length_le
 refine hK.out _ _ (HSC.out F4 u4 R1.2 D4 mk4 we4) (fun hh4 => ?_)
 clear hK K
 try simp only [tkN]
 have hbdE5 := (Mk.st mk4).inv.2.1
 refine tk1 25 rfl (AllReadyH.cons rfl (fun K hK => ?_) AllReadyH.nil)
 go_simp
 go_at_call 43
 refine (testS_any p R1.2 gf gn (hiA L gf gn b) R1.1.2 u4 (Mk.st mk4) (HGB.out).1 (HGB.out).2 ⟨by omega, by omega⟩ ⟨by omega, by omega⟩).mono ?_
 obtain ⟨T, hT⟩ : ∃ T, T = testP R1.2 gf gn (hiA L gf gn b) R1.1.2 := ⟨_, rfl⟩
 have HTR := Hd (show testR R1.2 (gf, gn) ((hiA L gf gn b)) (R1.1.2) = ((T.1.2, T.1.1.toNat), T.2) from by rw [hT]; rfl)
 have HTN := Hd (show T.1.2 = 0 → T.1.1 = ((T.1.1.toNat : Nat) : Int) from fun h5 => by rw [hT] at h5 ⊢; exact testP_nn (p := (gf, gn)) h5)
 rw [← hT]
 rintro e u5 ⟨rfl, F5, hto⟩
 have htf := testR_fine (HFNR1.out.inv) (gf, gn) ((hiA L gf gn b)) (R1.1.2)
 rw [HTR.out] at htf
 have mk5 : Mk F5 u5 p m mt T.2 D4 := Mk.op mk4 hto htf.pre htf.inv
 have we5 : Went F mt w4 F5 u5 := Went.trans we4 (Went.op hto)
 clear hT
 refine hK.out _ _ (HSC.out F5 u5 T.2 D4 mk5 we5) (fun hh5 => ?_)
 clear hK K
 try simp only [tkN]
 refine tk 26 (.int .i64 T.1.1) ?_
 try simp only [tkN]
 refine tk 27 (.int .i64 T.1.2) ?_
 try simp only [tkN]
 refine tk1 28 rfl (AllReadyH.cons rfl (fun K hK => ?_) AllReadyH.nil)
 go_simp
 go_at_call 79
 refine (dmust_any T.1.1 T.1.2 u5).mono ?_
 rintro e u6 ⟨he, rfl⟩
 have hw0 := (Went.ofExt (F := F) (mt := mt) HX4.out).trans we5
 by_cases r6 : T.1.2 = 0
 case neg =>
  rw [endD_no r6] at he
  subst he
  have HFIN := Hd (show MPost F w p m mt (pickP (k + 1) L (f, n) a b) (.panicked (stopC T.1.2)) u5 from by
   rw [HRR.out, if_pos r4, HTR.out]
   exact ⟨(endD_no r6 _).symm, F5, D4, mk5, hw0.1, hw0.2⟩)
  go_wp2_with fail
  exact ⟨rfl, HFIN.out⟩
 rw [r6, endD_ok] at he
 subst he
 refine hK.out _ _ (HSC.out F5 u5 T.2 D4 mk5 we5) (fun hh6 => ?_)
 clear hK K
 try simp only [tkN]
 refine tk 29 (.int .i64 T.1.1) ?_
 try simp only [tkN]
 refine wpAnyH_done (by kernel_rfl) ?_ _
 have HFIN := Hd (show MPost F w p m mt (pickP (k + 1) L (f, n) a b) (.returned (.int .i64 T.1.1)) u5 from by
  rw [HRR.out, if_pos r4, HTR.out]
  refine ⟨?_, F5, D4, mk5, hw0.1, hw0.2⟩
  show _ = endD T.1.2 (.int .i64 (T.1.1.toNat : Nat))
  rw [r6, endD_ok, ← HTN.out r6])
 go_wp2_with fail
 go_ret
 exact HFIN.out
end Go.Proofs.YtjjbdbklbghlhaaGreatDoor
