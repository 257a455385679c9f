/- The order of rows, walked. -/
import Derived.Test.YtehdddilcakmlaaDoorNCmp
namespace Go.Proofs.YtehdddilcakmlaaDoor
open Go.RowKit Go.Sort
set_option linter.unusedSimpArgs false

theorem ndrop_get {α : Type} {l : List α} {j : Nat} (h : j < l.length) : l.drop j = l[j] :: l.drop (j + 1) := by rw [List.drop_eq_getElem_cons h]
/-- the three cells of a row's setting -/
theorem acAt {w : World} {b o : Nat} {r : RowD} (h : w.rangeAt b o (flatA r)) (i : Nat) (hi : i < r.length) :
    w.cell? ⟨b, o + i * 3, none⟩ = some (.int .i8 (r[i]).d) ∧ w.cell? ⟨b, o + i * 3 + 1, none⟩ = some (.int .i8 (r[i]).f) ∧ w.cell? ⟨b, o + i * 3 + 2, none⟩ = some (.int .u64 (r[i]).n) := by
  have key : ∀ (l : RowD) (i k : Nat) (hi : i < l.length), k < 3 → (flatA l)[i * 3 + k]? = ((l[i]).cs)[k]? := by
    intro l
    induction l with
    | nil => intro i k hi; simp at hi
    | cons x xs ih =>
      intro i k hi hk
      cases i with
      | zero =>
        simp only [flatA, List.flatMap_cons, List.getElem_cons_zero, Nat.zero_mul, Nat.zero_add]
        rw [List.getElem?_append_left (by rw [AcD.len_cs]; exact hk)]
      | succ i =>
        have := ih i k (by simpa using hi) hk
        simp only [flatA, List.flatMap_cons, List.getElem_cons_succ] at *
        rw [List.getElem?_append_right (by rw [AcD.len_cs]; omega), AcD.len_cs, show (i + 1) * 3 + k - 3 = i * 3 + k from by omega]
        exact this
  have g : ∀ k (v : Value), ((r[i]).cs)[k]? = some v → k < 3 → w.cell? ⟨b, o + i * 3 + k, none⟩ = some v := fun k v hv hk => by
    rw [Nat.add_assoc]
    exact h (i * 3 + k) v (by rw [key r i k hi hk]; exact hv)
  exact ⟨by simpa using g 0 _ rfl (by omega), g 1 _ rfl (by omega), g 2 _ rfl (by omega)⟩

set_option maxHeartbeats 4000000 in
set_option maxRecDepth 100000 in
theorem compareF_any {B C : Nat → Prop} (r s : RowD) (rv sv : Value) (w : World) (hr : RowOn B w r rv) (hs : RowOn C w s sv) :
    Calls Tryd.prog 51 #[rv, sv, .func (.func 52) #[] #[]] w fun e w' => e = .returned (.int .i64 (cmpR r s)) ∧ Grown w w' := by
  have HR := Lib.hid hr
  have HS := Lib.hid hs
  obtain ⟨p, len, cap, rfl, hlen, hlc, hcm, -, hrr⟩ := hr
  obtain ⟨p2, len2, cap2, rfl, hlen2, hlc2, hcm2, -, hrs⟩ := hs
  have HL := Lib.hid hlen
  have HL2 := Lib.hid hlen2
  have HRR := Lib.hid (show r = [] ∨ ∃ b o, p = some ⟨b, o, none⟩ ∧ ∀ W, Grown w W → W.rangeAt b o (flatA r) from
    hrr.imp id fun ⟨b, o, hp, _, _, h⟩ => ⟨b, o, hp, fun W hW => World.rangeAt.later hW.ext.later h⟩)
  have HRS := Lib.hid (show s = [] ∨ ∃ b o, p2 = some ⟨b, o, none⟩ ∧ ∀ W, Grown w W → W.rangeAt b o (flatA s) from
    hrs.imp id fun ⟨b, o, hp, _, _, h⟩ => ⟨b, o, hp, fun W hW => World.rangeAt.later hW.ext.later h⟩)
  clear hlen hlen2 hrr hrs
  go_enter Tryd.func51, Tryd.ntmps51
  go_wp2_with fail
  go_loopw [13] (fun i wr => ∃ j : Nat, j ≤ len ∧ j ≤ len2 ∧ i = .int .i64 j ∧ Hid (cmpR (r.drop j) (s.drop j) = cmpR r s) ∧ Hid (Grown w wr)) (fun i _ => len - (intOf i).toNat)
  case atStart => exact ⟨0, Nat.zero_le _, Nat.zero_le _, rfl, rfl, Grown.refl _⟩
  case round =>
    obtain ⟨wn, rfl⟩ : ∃ wn : World, wn = wr := ⟨_, rfl⟩
    obtain ⟨j, hj, hj2, rfl, hT, hx⟩ := hrel
    by_cases hlt : j < len
    · have hjl : j < r.length := by rw [← HL.out]; exact hlt
      rcases HRR.out with h | ⟨b, o, rfl, hrr⟩
      · exfalso; subst h; simp at hjl
      have hT2 := hT.out
      rw [ndrop_get hjl] at hT2
      obtain ⟨c0, c1, c2⟩ := acAt (hrr wn hx.out) j hjl
      generalize r[j] = x at *
      obtain ⟨wS, hS⟩ : ∃ W : World, wn.alloc (.cells #[.int .i8 x.d, .int .i8 x.f, .int .u64 x.n] 54) = W := ⟨_, rfl⟩
      have xS : Grown wn wS := hS ▸ (Grown.refl wn).alloc _
      have sS : wS.heap.size = wn.heap.size + 1 := by rw [← hS, World.size_alloc]
      have e0 : wS.cell? ⟨wn.heap.size, 0, none⟩ = some (.int .i8 x.d) := by rw [← hS]; simp [go_sem]
      have e1 : wS.cell? ⟨wn.heap.size, 1, none⟩ = some (.int .i8 x.f) := by rw [← hS]; simp [go_sem]
      have e2 : wS.cell? ⟨wn.heap.size, 2, none⟩ = some (.int .u64 x.n) := by rw [← hS]; simp [go_sem]
      have HEQ := Lib.hid hS
      have HXS := Lib.hid (hx.out.trans xS)
      have HT2 := Lib.hid hT2
      have HE := Lib.hid (And.intro e0 (And.intro e1 e2))
      clear hT hT2 hS xS e0 e1 e2 hrr sS
      go_upto_region 4 with (first | (refine wpList_store_new rfl 54 _ _ rfl _ #[.int .i8 x.d, .int .i8 x.f, .int .u64 x.n] rfl rfl (by kernel_rfl) rfl (by rfl) ?_))
      rw [HEQ.out]
      try simp only [Act.put]
      clear c0 c1 c2 HEQ
      by_cases hlt2 : j < len2
      · have hjl2 : j < s.length := by rw [← HL2.out]; exact hlt2
        rcases HRS.out with h | ⟨b', o', rfl, hrs⟩
        · exfalso; subst h; simp at hjl2
        have hT3 := HT2.out
        rw [ndrop_get hjl2, cmpR] at hT3
        obtain ⟨c0, c1, c2⟩ := acAt (hrs wS HXS.out) j hjl2
        generalize s[j] = y at *
        obtain ⟨wT, hT⟩ : ∃ W : World, wS.alloc (.cells #[.int .i8 y.d, .int .i8 y.f, .int .u64 y.n] 54) = W := ⟨_, rfl⟩
        have xT : Grown wS wT := hT ▸ (Grown.refl wS).alloc _
        have e0 : wT.cell? ⟨wS.heap.size, 0, none⟩ = some (.int .i8 y.d) := by rw [← hT]; simp [go_sem]
        have e1 : wT.cell? ⟨wS.heap.size, 1, none⟩ = some (.int .i8 y.f) := by rw [← hT]; simp [go_sem]
        have e2 : wT.cell? ⟨wS.heap.size, 2, none⟩ = some (.int .u64 y.n) := by rw [← hT]; simp [go_sem]
        have g0 := xT.ext.later _ _ HE.out.1
        have g1 := xT.ext.later _ _ HE.out.2.1
        have g2 := xT.ext.later _ _ HE.out.2.2
        have HEQ := Lib.hid hT
        have HXT := Lib.hid (HXS.out.trans xT)
        have HT3 := Lib.hid hT3
        have HO := Lib.hid (order1_any x y wT)
        clear hT hT3 xT hrs HT2
        go_upto_region 7 with (first | (refine wpList_store_new rfl 54 _ _ rfl _ #[.int .i8 y.d, .int .i8 y.f, .int .u64 y.n] rfl rfl (by kernel_rfl) rfl (by rfl) ?_))
        rw [HEQ.out]
        try simp only [Act.put]
        clear c0 c1 c2 HEQ
        go_wp2_with fail
        refine HO.out.mono ?_
        rintro e w4 ⟨rfl, hx4⟩
        have HX4 := Lib.hid (HXT.out.trans hx4)
        clear e0 e1 e2 g0 g1 g2 hx4
        by_cases hc : cmpA x y = 0
        · have HT4 := Lib.hid (show cmpR (r.drop (j + 1)) (s.drop (j + 1)) = cmpR r s from by rw [← HT3.out, if_pos hc])
          rw [hc]
          clear hc HT3
          go_wp2_with fail
          go_roundw
          case rel => exact ⟨j + 1, by omega, by omega, by go_num, HT4.out, HX4.out⟩
          case measure => simp [intOf]; omega
        · have HF := Lib.hid (show cmpR r s = cmpA x y from by rw [← HT3.out, if_neg hc])
          have hcb : (cmpA x y != 0) = true := by simpa using hc
          generalize cmpA x y = c at *
          go_wp2_with fail
          go_ret
          exact ⟨by rw [HF.out]; rfl, HX4.out⟩
      · have HF := Lib.hid (show cmpR r s = 1 from by
          rw [← HT2.out, List.drop_of_length_le (l := s) (by have := HL2.out; omega), cmpR])
        clear HT2
        go_wp2_with fail
        go_ret
        exact ⟨by rw [HF.out]; rfl, HXS.out⟩
    · by_cases hlt2 : j < len2
      · have HF := Lib.hid (show cmpR r s = -1 from by
          have hjl2 : j < s.length := by rw [← HL2.out]; exact hlt2
          rw [← hT.out, List.drop_of_length_le (l := r) (by have := HL.out; omega), ndrop_get hjl2, cmpR])
        have hll : len < len2 := by omega
        clear hT
        go_wp2_with fail
        go_ret
        exact ⟨by rw [HF.out]; rfl, hx.out⟩
      · have HF := Lib.hid (show cmpR r s = 0 from by
          rw [← hT.out, List.drop_of_length_le (l := s) (by have := HL2.out; omega), List.drop_of_length_le (l := r) (by have := HL.out; omega), cmpR])
        have hll : ¬ len < len2 := by omega
        clear hT
        go_wp2_with fail
        go_ret
        exact ⟨by rw [HF.out]; rfl, hx.out⟩

theorem order_any {B C : Nat → Prop} (r s : RowD) (rv sv : Value) (w : World) (hr : RowOn B w r rv) (hs : RowOn C w s sv) :
    Calls Tryd.prog 36 #[rv, sv] w fun e w' => e = .returned (.int .i64 (cmpR r s)) ∧ Grown w w' := by
  have HC := Lib.hid (compareF_any r s rv sv w hr hs)
  obtain ⟨p, cap, rfl, -⟩ := hr.form
  obtain ⟨p2, cap2, rfl, -⟩ := hs.form
  generalize cmpR r s = c at *
  go_enter Tryd.func36, Tryd.ntmps36
  go_wp2_with fail
  refine HC.out.mono ?_
  rintro e w1 ⟨rfl, hx⟩
  go_wp2_with fail
  go_ret
  exact ⟨rfl, hx⟩
theorem rows2_any {B C : Nat → Prop} (r s : RowD) (rv sv : Value) (w : World) (hr : RowOn B w r rv) (hs : RowOn C w s sv) :
    Calls Tryd.prog 38 #[rv, sv] w fun e w' => e = .returned (.bool (cmpR r s == 0)) ∧ Grown w w' := by
  have HC := Lib.hid (order_any r s rv sv w hr hs)
  obtain ⟨p, cap, rfl, -⟩ := hr.form
  obtain ⟨p2, cap2, rfl, -⟩ := hs.form
  generalize cmpR r s = c at *
  go_enter Tryd.func38, Tryd.ntmps38
  go_wp2_with fail
  refine HC.out.mono ?_
  rintro e w1 ⟨rfl, hx⟩
  go_wp2_with fail
  go_ret
  exact ⟨rfl, hx⟩
end Go.Proofs.YtehdddilcakmlaaDoor
