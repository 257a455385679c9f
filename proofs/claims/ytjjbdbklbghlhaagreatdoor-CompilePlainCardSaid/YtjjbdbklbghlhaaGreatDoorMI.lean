/- The maker's union, by induction on the fuel. -/
import Derived.Test.YtjjbdbklbghlhaaGreatDoorMH
import Derived.Test.YtjjbdbklbghlhaaGreatDoorMG
namespace Go.Proofs.YtjjbdbklbghlhaaGreatDoor
open Go.RowKit Go.Sort Go.Maps Go.Lib
set_option linter.unusedSimpArgs false

theorem unionOk {a b : Nat} (ha : (a : Int) ≤ 9223372036854775807) (hb : (b : Int) ≤ 9223372036854775807) : DkD.ok ⟨0, a, b, 0, 0⟩ := by
 refine ⟨?_, ?_, ?_, ?_, ?_⟩ <;> dsimp only <;> omega

set_option maxHeartbeats 8000000 in
set_option maxRecDepth 100000 in
theorem dunion_step (k : Nat) (IH : UnionOf k) : UnionOf (k + 1) := by
 intro F p m mt L D a b w hab ha hb h
 have hbd := h.st.inv.2.1
 obtain ⟨w1, hw1⟩ : ∃ W : World, w.alloc (.cells #[.pointer (some ⟨m, 0, none⟩)] 140) = W := ⟨_, rfl⟩
 have x1 : Ext w w1 := hw1 ▸ Ext.alloc _ _
 have s1 : w1.heap.size = w.heap.size + 1 := by rw [← hw1, World.size_alloc]
 obtain ⟨w2, hw2⟩ : ∃ W : World, w1.alloc (.cells #[.int .i64 a] 3) = W := ⟨_, rfl⟩
 have x2 : Ext w1 w2 := hw2 ▸ Ext.alloc _ _
 have s2 : w2.heap.size = w.heap.size + 1 + 1 := by rw [← hw2, World.size_alloc, s1]
 obtain ⟨w3, hw3⟩ : ∃ W : World, w2.alloc (.cells #[.int .i64 b] 3) = W := ⟨_, rfl⟩
 have x3 : Ext w2 w3 := hw3 ▸ Ext.alloc _ _
 have c0 : w3.cell? ⟨w.heap.size, 0, none⟩ = some (.pointer (some ⟨m, 0, none⟩)) := (x2.trans x3).later _ _ (by rw [← hw1]; simp [go_sem])
 have c1 : w3.cell? ⟨w.heap.size + 1, 0, none⟩ = some (.int .i64 a) := x3.later _ _ (by rw [← hw2, ← s1]; simp [go_sem])
 have c2 : w3.cell? ⟨w.heap.size + 1 + 1, 0, none⟩ = some (.int .i64 b) := by rw [← hw3, ← s2]; simp [go_sem]
 have HX := Hd (x1.trans (x2.trans x3))
 have hnf : ∀ z, w.heap.size ≤ z → ¬ F z ∧ z ≠ mt := fun z hz => ⟨fun hF => by have := h.lt.1 z hF; omega, fun e => by have := h.lt.2.2; omega⟩
 have HB := Hd (show Boxes F mt w3 w.heap.size (.pointer (some ⟨m, 0, none⟩)) ∧ Boxes F mt w3 (w.heap.size + 1) (.int .i64 a) ∧ Boxes F mt w3 (w.heap.size + 1 + 1) (.int .i64 b) from
  ⟨⟨c0, hnf _ (by omega)⟩, ⟨c1, hnf _ (by omega)⟩, ⟨c2, hnf _ (by omega)⟩⟩)
 have HEQ := Hd (And.intro hw1 (And.intro hw2 hw3))
 have HSZ := Hd (And.intro s1 s2)
 have HM := Hd h
 have HIH := Hd IH
 have HAB := Hd (show a + b < k + 1 ∧ a < L.length ∧ b < L.length from ⟨hab, ha, hb⟩)
 have hai : (a : Int) ≤ 9223372036854775807 := by omega
 have hbi : (b : Int) ≤ 9223372036854775807 := by omega
 have HOK := Hd (unionOk hai hbi)
 clear hw1 hw2 hw3 s1 s2 x1 x2 x3 hnf h IH hab ha hb hbd
 go_enter Tryz.func77, Tryz.ntmps77
 go_upto_region 1 with fail
 try simp only [HEQ.out.1, HEQ.out.2.1, HSZ.out.1, HSZ.out.2, HEQ.out.2.2]
 by_cases hne : a = b
 ·have HF := Hd (show unionP (k + 1) L a b = ((0, a), L) from by rw [unionP, if_pos hne])
  have hq : ((a : Int) == (b : Int)) = true := by rw [beq_iff_eq]; omega
  clear hne
  go_wp2_with fail
  go_ret
  exact HM.out.same HX.out (by rw [HF.out]) (by rw [HF.out]; exact (endD_ok _).symm)
 ·have hq : ((a : Int) == (b : Int)) = false := by rw [beq_eq_false_iff_ne]; omega
  have HON := Hd (donce_any p m mt L D ⟨⟨0, a, b, 0, 0⟩, HOK.out⟩ 114 #[.pointer (some ⟨w.heap.size, 0, none⟩), .pointer (some ⟨w.heap.size + 1, 0, none⟩), .pointer (some ⟨w.heap.size + 1 + 1, 0, none⟩)] w3 (HM.out.ext HX.out) (unionP (k + 1) L a b)
   (enters_of Tryz.func114 (by kernel_rfl) rfl)
   (by
    show unionP (k + 1) L a b = runD 0 (a : Int).toNat (b : Int).toNat 0 0 L
    unfold runD
    rw [if_pos rfl, Int.toNat_natCast, Int.toNat_natCast]
    exact unionP_fuel HM.out.inv HAB.out.2.1 HAB.out.2.2 HAB.out.1 (by omega))
   (fun hr M hM hI => by
    show runD 0 (a : Int).toNat (b : Int).toNat 0 0 M = _
    unfold runD
    rw [if_pos rfl, Int.toNat_natCast, Int.toNat_natCast]
    have e := unionP_fuel (k := k + 1) (k' := a + b + 1) HM.out.inv HAB.out.2.1 HAB.out.2.2 HAB.out.1 (by omega)
    refine unionP_again HM.out.inv HAB.out.2.1 HAB.out.2.2 (c := (unionP (k + 1) L a b).1.2) (L' := (unionP (k + 1) L a b).2) ?_ hM hI
    rw [← e]
    exact Prod.ext (Prod.ext hr rfl) rfl)
   (fun W hW => dunion1_any k HIH.out F p m mt L D a b W HAB.out.1 hne HAB.out.2.1 HAB.out.2.2 (HM.out.ext (HX.out.trans hW)) _ _ _ (HB.out.1.ext hW) (HB.out.2.1.ext hW) (HB.out.2.2.ext hW)))
  clear hne
  go_wp2_with fail
  refine HON.out.mono ?_
  intro e w4 hp
  have HP := Hd (hp.from HX.out)
  obtain ⟨he, -⟩ := hp
  by_cases hr : (unionP (k + 1) L a b).1.1 = 0
  ·rw [hr, endD_ok] at he
   subst he
   have HQ := Hd hr
   clear hr
   have HFIN := Hd (show MPost F w p m mt (unionP (k + 1) L a b) (.returned (.int .i64 (unionP (k + 1) L a b).1.2)) w4 from HP.out)
   generalize unionP (k + 1) L a b = R at *
   go_wp2_with fail
   go_ret
   exact HFIN.out
  ·rw [endD_no hr] at he
   subst he
   clear hr
   go_wp2_with fail
   exact ⟨rfl, HP.out⟩
theorem dunion_any : ∀ k, UnionOf k
 | 0 => fun _ _ _ _ _ _ _ _ _ hab => absurd hab (Nat.not_lt_zero _)
 | k + 1 => dunion_step k (dunion_any k)
end Go.Proofs.YtjjbdbklbghlhaaGreatDoor
/- Diagrams in plain words: what pick keeps. -/
namespace Go.Proofs.YtjjbdbklbghlhaaGreatDoor
open Go.RowKit Go.Sort Go.Maps Go.Lib
set_option linter.unusedSimpArgs false

/-- where pick goes down -/
theorem pick_falls {L : List NdD} (h : InvO L) {t : Int × Int} {a b : Nat} (ha : a < L.length) (hb : b < L.length) (hc : ¬ ((firstA L a b).1 < 0 ∨ t.1 < (firstA L a b).1 ∨ (t.1 = (firstA L a b).1 ∧ t.2 ≤ (firstA L a b).2))) :
  0 ≤ (firstA L a b).1 ∧ hiA L (firstA L a b).1 (firstA L a b).2 a ≤ a ∧ hiA L (firstA L a b).1 (firstA L a b).2 b ≤ b ∧ loA L (firstA L a b).1 (firstA L a b).2 a ≤ a ∧ loA L (firstA L a b).1 (firstA L a b).2 b ≤ b ∧
  hiA L (firstA L a b).1 (firstA L a b).2 a + hiA L (firstA L a b).1 (firstA L a b).2 b < a + b ∧ loA L (firstA L a b).1 (firstA L a b).2 a + loA L (firstA L a b).1 (firstA L a b).2 b < a + b :=
 first_falls h ha hb fun hn => hc (.inl (firstA_neg.2 hn))
theorem pickP_fine : ∀ {k : Nat} {L : List NdD} {t : Int × Int} {a b : Nat}, InvO L → a < L.length → b < L.length → Fine L (pickP k L t a b)
 | 0, L, t, a, b, h, _, _ => ⟨List.prefix_refl _, h, fun e => absurd e (by show ¬ (1 : Int) = 0; decide)⟩
 | k + 1, L, t, a, b, h, ha, hb => by
  rw [pickP]
  split
  ·exact ⟨List.prefix_refl _, h, fun _ => ha⟩
  ·dsimp only
   split
   ·exact testR_fine h _ _ _
   ·rename_i hc
    obtain ⟨h0, h1, h2, h3, h4, -⟩ := pick_falls h ha hb hc
    split
    ·exact bindR_fine (pickP_fine h (by omega) (by omega)) fun _ => testR_fine (pickP_fine h (by omega) (by omega)).inv _ _ _
    ·have hu := pickP_fine (k := k) (t := t) (a := hiA L (firstA L a b).1 (firstA L a b).2 a) (b := hiA L (firstA L a b).1 (firstA L a b).2 b) h (by omega) (by omega)
     refine bindR_fine hu fun _ => ?_
     have hl := hu.pre.length_le
     rw [loA_pre hu.pre ha, loA_pre hu.pre hb]
     exact bindR_fine (pickP_fine hu.inv (by omega) (by omega)) fun _ => testR_fine (pickP_fine hu.inv (by omega) (by omega)).inv _ _ _
theorem pickP_fuel : ∀ {k k' : Nat} {L : List NdD} {t : Int × Int} {a b : Nat}, InvO L → a < L.length → b < L.length → a + b < k → a + b < k' → pickP k L t a b = pickP k' L t a b
 | 0, _, _, _, _, _, _, _, _, h, _ => absurd h (Nat.not_lt_zero _)
 | _, 0, _, _, _, _, _, _, _, _, h => absurd h (Nat.not_lt_zero _)
 | k + 1, k' + 1, L, t, a, b, h, ha, hb, hk, hk' => by
  rw [pickP, pickP]
  split
  ·rfl
  ·dsimp only
   split
   ·rfl
   ·rename_i hc
    obtain ⟨h0, h1, h2, h3, h4, h5, h6⟩ := pick_falls h ha hb hc
    split
    ·rw [pickP_fuel (k := k) (k' := k') h (by omega) (by omega) (by omega) (by omega)]
    ·rw [pickP_fuel (k := k) (k' := k') (a := hiA L (firstA L a b).1 (firstA L a b).2 a) h (by omega) (by omega) (by omega) (by omega)]
     have hu := pickP_fine (k := k') (t := t) (a := hiA L (firstA L a b).1 (firstA L a b).2 a) (b := hiA L (firstA L a b).1 (firstA L a b).2 b) h (by omega) (by omega)
     have hl := hu.pre.length_le
     unfold bindR
     split
     ·dsimp only
      rw [loA_pre hu.pre ha, loA_pre hu.pre hb, pickP_fuel (k := k) (k' := k') hu.inv (by omega) (by omega) (by omega) (by omega)]
     ·rfl
theorem bindR_ok {R : Out} {k : Nat → List NdD → Out} {c : Nat} {L' : List NdD} (h : bindR R k = ((0, c), L')) : R.1.1 = 0 ∧ k R.1.2 R.2 = ((0, c), L') := by
 unfold bindR at h
 split at h
 ·rename_i he
  exact ⟨he, h⟩
 ·rename_i he
  rw [h] at he
  exact absurd rfl he
theorem Fine.preOf {L : List NdD} {R : Out} {c : Nat} {L' : List NdD} (h : Fine L R) (e : R = ((0, c), L')) : L <+: L' := by
 have := h.pre
 rw [e] at this
 exact this
theorem out_eta {R : Out} (h : R.1.1 = 0) : R = ((0, R.1.2), R.2) := Prod.ext (Prod.ext h rfl) rfl
theorem pickP_again : ∀ {k : Nat} {L L' M : List NdD} {t : Int × Int} {a b c : Nat}, InvO L → 0 ≤ t.1 → a < L.length → b < L.length → pickP k L t a b = ((0, c), L') → L' <+: M → InvO M → pickP k M t a b = ((0, c), M)
 | 0, L, L', M, t, a, b, c, _, _, _, _, h, _, _ => by
  rw [pickP] at h
  exact absurd (Prod.mk.inj (Prod.mk.inj h).1).1 (by decide)
 | k + 1, L, L', M, t, a, b, c, hi, ht, ha, hb, h, hp, hM => by
  have hLM : L <+: M := ((pickP_fine (k := k + 1) hi ha hb).preOf h).trans hp
  rw [pickP] at h ⊢
  split at h
  ·rename_i he
   rw [if_pos he, ← (Prod.mk.inj (Prod.mk.inj h).1).2]
  ·rename_i he
   rw [if_neg he]
   dsimp only at h ⊢
   rw [firstA_pre hLM ha hb]
   split at h
   ·rename_i hc
    rw [if_pos hc, hiA_pre hi hLM ht ha, loA_pre hLM hb]
    exact testR_again h hp
   ·rename_i hc
    obtain ⟨h0, h1, h2, h3, h4, h5, h6⟩ := pick_falls hi ha hb hc
    rw [if_neg hc, loA_pre hLM ha, loA_pre hLM hb, hiA_pre hi hLM h0 ha, hiA_pre hi hLM h0 hb]
    split at h
    ·rename_i hf
     rw [if_pos hf]
     obtain ⟨r1, r2⟩ := bindR_ok h
     have hu := pickP_fine (k := k) (t := t) (a := loA L (firstA L a b).1 (firstA L a b).2 a) (b := loA L (firstA L a b).1 (firstA L a b).2 b) hi (by omega) (by omega)
     have e2 := (testR_fine hu.inv _ _ _).preOf r2
     rw [pickP_again hi ht (by omega) (by omega) (out_eta r1) (e2.trans hp) hM]
     unfold bindR
     rw [if_pos rfl]
     exact testR_again r2 hp
    ·rename_i hf
     rw [if_neg hf]
     obtain ⟨r1, r2⟩ := bindR_ok h
     have hu := pickP_fine (k := k) (t := t) (a := hiA L (firstA L a b).1 (firstA L a b).2 a) (b := hiA L (firstA L a b).1 (firstA L a b).2 b) hi (by omega) (by omega)
     have hl := hu.pre.length_le
     rw [loA_pre hu.pre ha, loA_pre hu.pre hb] at r2
     obtain ⟨s1, s2⟩ := bindR_ok r2
     have hv := pickP_fine (k := k) (t := t) (a := loA L (firstA L a b).1 (firstA L a b).2 a) (b := loA L (firstA L a b).1 (firstA L a b).2 b) hu.inv (by omega) (by omega)
     have e3 := (testR_fine hv.inv _ _ _).preOf s2
     rw [pickP_again hi ht (by omega) (by omega) (out_eta r1) ((hv.pre.trans e3).trans hp) hM]
     unfold bindR
     rw [if_pos rfl]
     dsimp only
     rw [loA_pre hLM ha, loA_pre hLM hb, pickP_again hu.inv ht (by omega) (by omega) (out_eta s1) (e3.trans hp) hM]
     rw [if_pos rfl]
     exact testR_again s2 hp
end Go.Proofs.YtjjbdbklbghlhaaGreatDoor
/- Diagrams in plain words: what behind, then, not keep. -/
namespace Go.Proofs.YtjjbdbklbghlhaaGreatDoor
open Go.RowKit Go.Sort Go.Maps Go.Lib
set_option linter.unusedSimpArgs false

theorem behindP_fine : ∀ {k : Nat} {L : List NdD} {row : RowD} {b : Nat}, InvO L → b < L.length → Fine L (behindP k L row b)
 | 0, L, row, b, h, _ => ⟨List.prefix_refl _, h, fun e => absurd e (by show ¬ (1 : Int) = 0; decide)⟩
 | k + 1, L, row, b, h, hb => by
  rw [behindP]
  split
  ·exact leafR_fine h _
  ·rename_i hf
   have hk := h.kids hb (by omega)
   split
   ·split
    ·exact behindP_fine h (by omega)
    ·exact behindP_fine h (by omega)
   ·have hu := behindP_fine (k := k) (row := row) (b := (nodeP L b).hi.toNat) h (by omega)
    refine bindR_fine hu fun e1 => ?_
    have hl := hu.pre.length_le
    have hv := behindP_fine (k := k) (row := row) (b := (nodeP L b).lo.toNat) hu.inv (by omega)
    refine bindR_fine hv fun e2 => ?_
    have h1 := hu.lt e1
    have h2 := hv.lt e2
    have h3 := hv.pre.length_le
    exact pickP_fine hv.inv (by omega) (by omega)
theorem behindP_again : ∀ {k : Nat} {L L' M : List NdD} {row : RowD} {b c : Nat}, InvO L → b < L.length → behindP k L row b = ((0, c), L') → L' <+: M → InvO M → behindP k M row b = ((0, c), M)
 | 0, L, L', M, row, b, c, _, _, h, _, _ => by
  rw [behindP] at h
  exact absurd (Prod.mk.inj (Prod.mk.inj h).1).1 (by decide)
 | k + 1, L, L', M, row, b, c, hi, hb, h, hp, hM => by
  have hLM : L <+: M := ((behindP_fine (k := k + 1) hi hb).preOf h).trans hp
  rw [behindP] at h ⊢
  rw [nodeP_pre hLM hb]
  split at h
  ·rename_i hf
   rw [if_pos hf]
   exact leafR_again h hp
  ·rename_i hf
   rw [if_neg hf]
   have hk := hi.kids hb (by omega)
   split at h
   ·rename_i a hr
    split at h
    ·rename_i hn
     rw [if_pos hn]
     exact behindP_again hi (by omega) h hp hM
    ·rename_i hn
     rw [if_neg hn]
     exact behindP_again hi (by omega) h hp hM
   ·rename_i hr
    obtain ⟨r1, r2⟩ := bindR_ok h
    have hu := behindP_fine (k := k) (row := row) (b := (nodeP L b).hi.toNat) hi (by omega)
    have hl := hu.pre.length_le
    obtain ⟨s1, s2⟩ := bindR_ok r2
    have hv := behindP_fine (k := k) (row := row) (b := (nodeP L b).lo.toNat) hu.inv (by omega)
    have h1 := hu.lt r1
    have h2 := hv.lt s1
    have h3 := hv.pre.length_le
    have e3 := (pickP_fine hv.inv (by omega) (by omega)).preOf s2
    rw [behindP_again hi (by omega) (out_eta r1) ((hv.pre.trans e3).trans hp) hM]
    unfold bindR
    rw [if_pos rfl]
    dsimp only
    rw [behindP_again hu.inv (by omega) (out_eta s1) (e3.trans hp) hM]
    rw [if_pos rfl]
    exact pickP_again hv.inv (by dsimp only; omega) (by omega) (by omega) s2 hp hM
/-- one row more -/
def rowStep (b : Nat) (R : Out) (r : RowD) : Out := bindR R fun o L => bindR (behindP (b + 1) L r b) fun c L1 => unionP (o + c + 1) L1 o c
theorem rowsThen_eq (b : Nat) : ∀ (rs : List RowD) (R : Out), rowsThen b rs R = rs.foldl (rowStep b) R
 | [], _ => rfl
 | r :: rs, R => by rw [rowsThen, List.foldl_cons]; exact rowsThen_eq b rs _
theorem rowStep_err {b : Nat} {R : Out} {r : RowD} (h : R.1.1 ≠ 0) : rowStep b R r = R := by
 unfold rowStep bindR
 rw [if_neg h]
theorem rowStep_fine {b : Nat} {L0 : List NdD} {R : Out} {r : RowD} (h : Fine L0 R) (hb : b < L0.length) : Fine L0 (rowStep b R r) := by
 refine bindR_fine h fun e1 => ?_
 have h1 := h.lt e1
 have h2 := h.pre.length_le
 have hu := behindP_fine (k := b + 1) (row := r) (b := b) h.inv (by omega)
 refine bindR_fine hu fun e2 => ?_
 have h3 := hu.lt e2
 have h4 := hu.pre.length_le
 exact unionP_fine hu.inv (by omega) (by omega)
theorem rowsThen_fine {b : Nat} {L0 : List NdD} : ∀ {rs : List RowD} {R : Out}, Fine L0 R → b < L0.length → Fine L0 (rowsThen b rs R)
 | [], R, h, _ => h
 | r :: rs, R, h, hb => by rw [rowsThen]; exact rowsThen_fine (rowStep_fine h hb) hb
theorem rowsThen_err {b : Nat} : ∀ {rs : List RowD} {R : Out}, R.1.1 ≠ 0 → rowsThen b rs R = R
 | [], R, _ => rfl
 | r :: rs, R, h => by
  rw [rowsThen]
  have e := rowStep_err (b := b) (r := r) h
  unfold rowStep at e
  rw [e]
  exact rowsThen_err h
theorem rowsThen_pre {b : Nat} : ∀ {rs : List RowD} {R : Out} {L0 : List NdD}, Fine L0 R → b < L0.length → R.2 <+: (rowsThen b rs R).2
 | [], R, _, _, _ => List.prefix_refl _
 | r :: rs, R, L0, h, hb => by
  rw [rowsThen]
  have h1 : R.2 <+: (rowStep b R r).2 := by
   unfold rowStep bindR
   split
   ·rename_i e1
    have h2 := h.lt e1
    have h3 := h.pre.length_le
    have hu := behindP_fine (k := b + 1) (row := r) (b := b) h.inv (by omega)
    have h4 := hu.pre.length_le
    show R.2 <+: (bindR (behindP (b + 1) R.2 r b) fun c L1 => unionP (R.1.2 + c + 1) L1 R.1.2 c).2
    refine (bindR_fine hu fun e2 => ?_).pre
    have h5 := hu.lt e2
    exact unionP_fine hu.inv (by omega) (by omega)
   ·exact List.prefix_refl _
  exact h1.trans (rowsThen_pre (rs := rs) (rowStep_fine (r := r) h hb) hb)
theorem rowsThen_again {b : Nat} : ∀ {rs : List RowD} {R : Out} {L0 L' M : List NdD} {c : Nat}, Fine L0 R → b < L0.length → rowsThen b rs R = ((0, c), L') → L' <+: M → InvO M → rowsThen b rs ((0, R.1.2), M) = ((0, c), M) ∧ R.1.1 = 0
 | [], R, L0, L', M, c, h, hb, e, hp, hM => by
  have e : R = ((0, c), L') := e
  subst e
  exact ⟨rfl, rfl⟩
 | r :: rs, R, L0, L', M, c, h, hb, e, hp, hM => by
  have hr : R.1.1 = 0 := by
   by_cases hr : R.1.1 = 0
   ·exact hr
   ·rw [rowsThen_err hr] at e
    rw [e] at hr
    exact absurd rfl hr
  rw [rowsThen] at e ⊢
  have hf := rowStep_fine (r := r) h hb
  obtain ⟨i1, i2⟩ := rowsThen_again (rs := rs) (R := rowStep b R r) hf hb e hp hM
  have hpre := rowsThen_pre (rs := rs) (R := rowStep b R r) hf hb
  have e' : (rowsThen b rs (rowStep b R r)) = ((0, c), L') := e
  rw [e'] at hpre
  refine ⟨?_, hr⟩
  have hs : rowStep b ((0, R.1.2), M) r = ((0, (rowStep b R r).1.2), M) := by
   have hq := out_eta i2
   have h2 := h.lt hr
   have h3 := h.pre.length_le
   unfold rowStep at hq hpre i2 ⊢
   obtain ⟨r1, r2⟩ := bindR_ok hq
   obtain ⟨s1, s2⟩ := bindR_ok r2
   have hu := behindP_fine (k := b + 1) (row := r) (b := b) h.inv (by omega)
   have h4 := hu.pre.length_le
   have h5 := hu.lt s1
   have hv := unionP_fine (k := R.1.2 + (behindP (b + 1) R.2 r b).1.2 + 1) (a := R.1.2) (b := (behindP (b + 1) R.2 r b).1.2) hu.inv (by omega) h5
   have e3 := hv.preOf s2
   have e4 := e3.trans (hpre.trans hp)
   rw [bindR, if_pos rfl]
   dsimp only
   rw [behindP_again h.inv (by omega) (out_eta s1) e4 hM]
   rw [bindR, if_pos rfl]
   exact unionP_again hu.inv (by omega) h5 s2 (hpre.trans hp) hM
  unfold rowStep at hs i1
  rw [hs]
  exact i1
end Go.Proofs.YtjjbdbklbghlhaaGreatDoor
/- Diagrams in plain words: what then, not keep. -/
namespace Go.Proofs.YtjjbdbklbghlhaaGreatDoor
open Go.RowKit Go.Sort Go.Maps Go.Lib
set_option linter.unusedSimpArgs false

theorem thenP_fine : ∀ {k : Nat} {L : List NdD} {a b : Nat}, InvO L → a < L.length → b < L.length → Fine L (thenP k L a b)
 | 0, L, a, b, h, _, _ => ⟨List.prefix_refl _, h, fun e => absurd e (by show ¬ (1 : Int) = 0; decide)⟩
 | k + 1, L, a, b, h, ha, hb => by
  rw [thenP]
  split
  ·exact rowsThen_fine (leafR_fine h _) hb
  ·rename_i hf
   have hk := h.kids ha (by omega)
   have hu := thenP_fine (k := k) (a := (nodeP L a).hi.toNat) (b := b) h (by omega) hb
   refine bindR_fine hu fun e1 => ?_
   have hl := hu.pre.length_le
   have hv := thenP_fine (k := k) (a := (nodeP L a).lo.toNat) (b := b) hu.inv (by omega) (by omega)
   refine bindR_fine hv fun e2 => ?_
   have h1 := hu.lt e1
   have h2 := hv.lt e2
   have h3 := hv.pre.length_le
   exact pickP_fine hv.inv (by omega) (by omega)
theorem thenP_fuel : ∀ {k k' : Nat} {L : List NdD} {a b : Nat}, InvO L → a < L.length → b < L.length → a < k → a < k' → thenP k L a b = thenP k' L a b
 | 0, _, _, _, _, _, _, _, h, _ => absurd h (Nat.not_lt_zero _)
 | _, 0, _, _, _, _, _, _, _, h => absurd h (Nat.not_lt_zero _)
 | k + 1, k' + 1, L, a, b, h, ha, hb, hk, hk' => by
  rw [thenP, thenP]
  split
  ·rfl
  ·rename_i hf
   have hkk := h.kids ha (by omega)
   rw [thenP_fuel (k := k) (k' := k') (a := (nodeP L a).hi.toNat) h (by omega) hb (by omega) (by omega)]
   have hu := thenP_fine (k := k') (a := (nodeP L a).hi.toNat) (b := b) h (by omega) hb
   have hl := hu.pre.length_le
   unfold bindR
   split
   ·dsimp only
    rw [thenP_fuel (k := k) (k' := k') (a := (nodeP L a).lo.toNat) hu.inv (by omega) (by omega) (by omega) (by omega)]
   ·rfl
theorem thenP_again : ∀ {k : Nat} {L L' M : List NdD} {a b c : Nat}, InvO L → a < L.length → b < L.length → thenP k L a b = ((0, c), L') → L' <+: M → InvO M → thenP k M a b = ((0, c), M)
 | 0, L, L', M, a, b, c, _, _, _, h, _, _ => by
  rw [thenP] at h
  exact absurd (Prod.mk.inj (Prod.mk.inj h).1).1 (by decide)
 | k + 1, L, L', M, a, b, c, hi, ha, hb, h, hp, hM => by
  have hLM : L <+: M := ((thenP_fine (k := k + 1) hi ha hb).preOf h).trans hp
  rw [thenP] at h ⊢
  rw [nodeP_pre hLM ha]
  split at h
  ·rename_i hf
   rw [if_pos hf]
   obtain ⟨i1, i2⟩ := rowsThen_again (leafR_fine hi []) hb h hp hM
   have hpre := rowsThen_pre (b := b) (rs := (nodeP L a).leaf) (leafR_fine hi []) hb
   rw [h] at hpre
   rw [leafR_again (out_eta i2) (hpre.trans hp)]
   exact i1
  ·rename_i hf
   rw [if_neg hf]
   have hk := hi.kids ha (by omega)
   obtain ⟨r1, r2⟩ := bindR_ok h
   have hu := thenP_fine (k := k) (a := (nodeP L a).hi.toNat) (b := b) hi (by omega) hb
   have hl := hu.pre.length_le
   obtain ⟨s1, s2⟩ := bindR_ok r2
   have hv := thenP_fine (k := k) (a := (nodeP L a).lo.toNat) (b := b) hu.inv (by omega) (by omega)
   have h1 := hu.lt r1
   have h2 := hv.lt s1
   have h3 := hv.pre.length_le
   have e3 := (pickP_fine hv.inv (by omega) (by omega)).preOf s2
   rw [thenP_again hi (by omega) hb (out_eta r1) ((hv.pre.trans e3).trans hp) hM]
   unfold bindR
   rw [if_pos rfl]
   dsimp only
   rw [thenP_again hu.inv (by omega) (by omega) (out_eta s1) (e3.trans hp) hM]
   rw [if_pos rfl]
   exact pickP_again hv.inv (by dsimp only; omega) (by omega) (by omega) s2 hp hM
theorem notP_fine : ∀ {k : Nat} {L : List NdD} {a : Nat}, InvO L → a < L.length → Fine L (notP k L a)
 | 0, L, a, h, _ => ⟨List.prefix_refl _, h, fun e => absurd e (by show ¬ (1 : Int) = 0; decide)⟩
 | k + 1, L, a, h, ha => by
  rw [notP]
  split
  ·split
   ·exact leafR_fine h _
   ·exact leafR_fine h _
   ·exact ⟨List.prefix_refl _, h, fun e => absurd e (by show ¬ (170 : Int) = 0; decide)⟩
  ·rename_i hf
   have hk := h.kids ha (by omega)
   have hu := notP_fine (k := k) (a := (nodeP L a).hi.toNat) h (by omega)
   refine bindR_fine hu fun e1 => ?_
   have hl := hu.pre.length_le
   have hv := notP_fine (k := k) (a := (nodeP L a).lo.toNat) hu.inv (by omega)
   exact bindR_fine hv fun e2 => testR_fine hv.inv _ _ _
theorem notP_fuel : ∀ {k k' : Nat} {L : List NdD} {a : Nat}, InvO L → a < L.length → a < k → a < k' → notP k L a = notP k' L a
 | 0, _, _, _, _, _, h, _ => absurd h (Nat.not_lt_zero _)
 | _, 0, _, _, _, _, _, h => absurd h (Nat.not_lt_zero _)
 | k + 1, k' + 1, L, a, h, ha, hk, hk' => by
  rw [notP, notP]
  split
  ·rfl
  ·rename_i hf
   have hkk := h.kids ha (by omega)
   rw [notP_fuel (k := k) (k' := k') (a := (nodeP L a).hi.toNat) h (by omega) (by omega) (by omega)]
   have hu := notP_fine (k := k') (a := (nodeP L a).hi.toNat) h (by omega)
   have hl := hu.pre.length_le
   unfold bindR
   split
   ·dsimp only
    rw [notP_fuel (k := k) (k' := k') (a := (nodeP L a).lo.toNat) hu.inv (by omega) (by omega) (by omega)]
   ·rfl
theorem notP_again : ∀ {k : Nat} {L L' M : List NdD} {a c : Nat}, InvO L → a < L.length → notP k L a = ((0, c), L') → L' <+: M → InvO M → notP k M a = ((0, c), M)
 | 0, L, L', M, a, c, _, _, h, _, _ => by
  rw [notP] at h
  exact absurd (Prod.mk.inj (Prod.mk.inj h).1).1 (by decide)
 | k + 1, L, L', M, a, c, hi, ha, h, hp, hM => by
  have hLM : L <+: M := ((notP_fine (k := k + 1) hi ha).preOf h).trans hp
  rw [notP] at h ⊢
  rw [nodeP_pre hLM ha]
  split at h
  ·rename_i hf
   rw [if_pos hf]
   split at h
   ·exact leafR_again h hp
   ·exact leafR_again h hp
   ·exact absurd (Prod.mk.inj (Prod.mk.inj h).1).1 (by decide)
  ·rename_i hf
   rw [if_neg hf]
   have hk := hi.kids ha (by omega)
   obtain ⟨r1, r2⟩ := bindR_ok h
   have hu := notP_fine (k := k) (a := (nodeP L a).hi.toNat) hi (by omega)
   have hl := hu.pre.length_le
   obtain ⟨s1, s2⟩ := bindR_ok r2
   have hv := notP_fine (k := k) (a := (nodeP L a).lo.toNat) hu.inv (by omega)
   have e3 := (testR_fine hv.inv _ _ _).preOf s2
   rw [notP_again hi (by omega) (out_eta r1) ((hv.pre.trans e3).trans hp) hM]
   unfold bindR
   rw [if_pos rfl]
   dsimp only
   rw [notP_again hu.inv (by omega) (out_eta s1) (e3.trans hp) hM]
   rw [if_pos rfl]
   exact testR_again s2 hp
end Go.Proofs.YtjjbdbklbghlhaaGreatDoor
/- What the package diagram tells, in plain words: Union, Then, Not, Star. -/
namespace Go.Proofs.YtjjbdbklbghlhaaGreatDoor
open Go.RowKit Go.Sort Go.Maps Go.Lib
set_option linter.unusedSimpArgs false

def outD (R : Out) : (Int × Int) × List NdD := ((if R.1.1 = 0 then (R.1.2 : Int) else 0, R.1.1), R.2)
def okIds (L : List NdD) (l : List Int) : Bool := l.all fun a => (getP L a).isSome
def runIds (L : List NdD) (l : List Int) (R : Out) : (Int × Int) × List NdD := if okIds L l then outD R else ((0, 5), L)

theorem getP_bd {L : List NdD} {a : Int} (h : (getP L a).isSome = true) : 0 ≤ a ∧ a.toNat < L.length := by
 unfold getP at h
 split at h
 ·rename_i h1; omega
 ·cases h
def unionT (L : List NdD) (a b : Int) : (Int × Int) × List NdD := runIds L [a, b] (unionP (a.toNat + b.toNat + 1) L a.toNat b.toNat)
def thenT (L : List NdD) (a b : Int) : (Int × Int) × List NdD := runIds L [a, b] (thenP (a.toNat + 1) L a.toNat b.toNat)
def notT (L : List NdD) (a : Int) : (Int × Int) × List NdD := runIds L [a] (notP (a.toNat + 1) L a.toNat)
theorem okIds_two {L : List NdD} {a b : Int} (h : okIds L [a, b] = true) : (a = (a.toNat : Int) ∧ a.toNat < L.length) ∧ (b = (b.toNat : Int) ∧ b.toNat < L.length) := by
 unfold okIds at h
 simp at h
 have h1 := getP_bd h.1
 have h2 := getP_bd h.2
 omega
theorem okIds_one {L : List NdD} {a : Int} (h : okIds L [a] = true) : a = (a.toNat : Int) ∧ a.toNat < L.length := by
 unfold okIds at h
 simp at h
 have h1 := getP_bd h
 omega
/-- one round more -/
def starR (L : List NdD) (id a out : Nat) : Out := bindR (thenP (out + 1) L out a) fun t L1 => unionP (id + t + 1) L1 id t
def starLoop : Nat → List NdD → Nat → Nat → Nat → Out
 | 0, L, _, _, _ => ((200, 0), L)
 | k + 1, L, id, a, out => bindR (starR L id a out) fun nx L2 => if nx = out then ((0, out), L2) else starLoop k L2 id a nx
def starP (L : List NdD) (a : Nat) : Out := bindR (leafR L [[]]) fun id L1 => starLoop 64 L1 id a id
theorem starR_fine {L : List NdD} {id a out : Nat} (h : InvO L) (hi : id < L.length) (ha : a < L.length) (ho : out < L.length) : Fine L (starR L id a out) := by
 unfold starR
 have hf := thenP_fine (k := out + 1) (a := out) (b := a) h ho ha
 refine bindR_fine hf fun e => ?_
 have h1 := hf.lt e
 have h2 := hf.pre.length_le
 exact unionP_fine hf.inv (by omega) h1

def starT (L : List NdD) (a : Int) : (Int × Int) × List NdD := runIds L [a] (starP L a.toNat)
end Go.Proofs.YtjjbdbklbghlhaaGreatDoor
