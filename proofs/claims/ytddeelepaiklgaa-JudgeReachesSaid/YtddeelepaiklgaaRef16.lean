/- The document's Size, Deep, Big. -/
import Derived.Test.YtddeelepaiklgaaBig
import Derived.Test.YtddeelepaiklgaaHolds
namespace Go.Proofs.Ytddeelepaiklgaa
open Go.RowKit

set_option maxHeartbeats 1000000 in
set_option maxRecDepth 100000 in
theorem refSize_aux (m : Nat) : ∀ (t : Tm) (v : Value) (w : World) (most : Int), t.sz ≤ m → 0 ≤ most → most ≤ 4096 → t.Val w v →
    Calls Try.prog 61 #[v, .int .i64 most] w fun e w' => e = .returned (.int .i64 (min (t.sz : Int) (most + 1))) ∧ Ext w w' := by
  induction m with
  | zero => intro t v w most hm; have := t.sz_pos; omega
  | succ m ih =>
    intro t v w most hm hm0 hm1 hv
    cases t with | mk op f n ks =>
    have HM := Lib.hid (fun i (h : i < ks.length) => Tm.sz_kid hm i h)
    obtain ⟨cs, rfl, s, rfl, -, -, -, p, len, cap, rfl, hlen, hlc, hcm, hks⟩ := hv
    have HL := Lib.hid (show len = ks.length from hlen)
    have HK := Lib.hid (show ks = [] ∨ ∃ b' o', p = some ⟨b', o', none⟩ ∧ Tm.AllAt w ks b' o' from hks)
    have HS := Lib.hid (show (Tm.mk op f n ks).sz = 1 + Tm.szAll ks from by simp [Tm.sz]; omega)
    generalize (Tm.mk op f n ks).sz = S at *
    simp only [Tm.op, Tm.fld, Tm.n] at *
    clear hlen hks hm
    go_enter Try.func61, Try.ntmps61
    go_wp2_with fail
    go_loopw [5, 6] (fun a i wr => ∃ (j : Nat) (q : Int), j ≤ len ∧ i = .int .i64 j ∧ a = .int .i64 q ∧ 1 ≤ q ∧ q ≤ most + 1 ∧ Hid (q = min (1 + (Tm.szAll (ks.take j) : Int)) (most + 1)) ∧ Ext w wr ∧ wr.cell? ⟨w.heap.size, 3, none⟩ = some (.slice p len cap)) (fun _ i _ => len - (intOf i).toNat)
    case atStart => exact ⟨0, 1, Nat.zero_le _, rfl, rfl, by omega, by omega, by simp [Hid, Tm.szAll]; omega, Ext.alloc _ _, by simp [go_sem]⟩
    case round =>
      obtain ⟨wo, rfl⟩ : ∃ wo : World, wo = wr := ⟨_, rfl⟩
      obtain ⟨j, q, hj, rfl, rfl, hq1, hq2, hq, hx, h3⟩ := hrel
      by_cases hlt : j < len
      · by_cases hle : q ≤ most
        · have hjl : j < ks.length := by rw [← HL.out]; exact hlt
          rcases HK.out with hk | ⟨b', o', rfl, hall⟩
          · exfalso; subst hk; simp at hjl
          have hat := (Tm.AllAt_get hall j hjl).later hx.later
          have HT := Lib.hid hat
          have HI := Lib.hid (fun cs (h : (ks[j]).Val wo (.agg cs)) => ih (ks[j]) (.agg cs) wo (most - q) (HM.out j hjl) (by omega) (by omega) h)
          have HTk := Lib.hid (Tm.szAll_take ks j hjl)
          have hsp := (ks[j]).sz_pos
          generalize ks[j] = y at *
          clear hat hall
          go_wp2_with (first | (refine wpList_load_T rfl _ rfl b' (o' + j * 4) rfl y HT.out ?_; intro cs hcs _ _))
          refine (HI.out cs hcs).mono ?_
          rintro e w1 ⟨rfl, hx1⟩
          have h3' := hx1.later _ _ h3
          have HN := Lib.hid (show q + min (y.sz : Int) (most - q + 1) = min (1 + (Tm.szAll (ks.take (j + 1)) : Int)) (most + 1) from by have := hq.out; have := HTk.out; omega)
          have hb1 : 1 ≤ min (y.sz : Int) (most - q + 1) := by omega
          have hb2 : min (y.sz : Int) (most - q + 1) ≤ most - q + 1 := by omega
          generalize min (y.sz : Int) (most - q + 1) = d at *
          clear hcs
          go_wp2_with fail
          go_roundw
          case rel => exact ⟨j + 1, q + d, by omega, by go_num, rfl, by omega, by omega, HN.out, hx.trans hx1, h3'⟩
          case measure => simp [intOf]; omega
        · have HF := Lib.hid (show q = min (S : Int) (most + 1) from by have := hq.out; have := HS.out; have := Tm.szAll_take_le ks j; omega)
          go_wp2_with fail
          go_ret
          exact ⟨by rw [← HF.out]; rfl, hx⟩
      · have HF := Lib.hid (show q = min (S : Int) (most + 1) from by have := HS.out; have := hq.out; rw [List.take_of_length_le (by have := HL.out; omega)] at this; omega)
        go_wp2_with fail
        go_ret
        exact ⟨by rw [← HF.out]; rfl, hx⟩
theorem refSize_any (t : Tm) (v : Value) (w : World) (most : Int) (hm0 : 0 ≤ most) (hm1 : most ≤ 4096) (hv : t.Val w v) :
    Calls Try.prog 61 #[v, .int .i64 most] w fun e w' => e = .returned (.int .i64 (min (t.sz : Int) (most + 1))) ∧ Ext w w' := refSize_aux t.sz t v w most (Nat.le_refl _) hm0 hm1 hv

mutual
def Tm.dp : Tm → Nat → Nat
  | _, 0 => 1
  | .mk _ _ _ ks, k + 1 => Tm.dpAll ks k + 1
def Tm.dpAll : List Tm → Nat → Nat
  | [], _ => 0
  | t :: ts, k => max (t.dp k) (Tm.dpAll ts k)
end
mutual
theorem Tm.dp_le : ∀ (t : Tm) (k : Nat), 1 ≤ t.dp k ∧ t.dp k ≤ k + 1
  | .mk _ _ _ _, 0 => by simp [Tm.dp]
  | .mk _ _ _ ks, k + 1 => by
    have := Tm.dpAll_le ks k
    simp only [Tm.dp]
    omega
theorem Tm.dpAll_le : ∀ (ks : List Tm) (k : Nat), Tm.dpAll ks k ≤ k + 1
  | [], k => by simp [Tm.dpAll]
  | t :: ts, k => by
    have := Tm.dp_le t k
    have := Tm.dpAll_le ts k
    simp only [Tm.dpAll]
    omega
end
mutual
theorem Tm.dp_deep : ∀ (t : Tm) (k : Nat), decide (k < t.dp k) = t.deep k
  | .mk _ _ _ _, 0 => by simp [Tm.dp, Tm.deep]
  | .mk _ _ _ ks, k + 1 => by
    have := Tm.dpAll_deep ks k
    simp only [Tm.dp, Tm.deep, ← this]
    congr 1
    simp
theorem Tm.dpAll_deep : ∀ (ks : List Tm) (k : Nat), decide (k < Tm.dpAll ks k) = Tm.deepAny ks k
  | [], k => by simp [Tm.dpAll, Tm.deepAny]
  | t :: ts, k => by
    have h1 := Tm.dp_deep t k
    have h2 := Tm.dpAll_deep ts k
    have h3 : (k < max (t.dp k) (Tm.dpAll ts k)) ↔ (k < t.dp k ∨ k < Tm.dpAll ts k) := by omega
    rw [Tm.dpAll, Tm.deepAny, ← h1, ← h2, decide_eq_decide.2 h3, Bool.decide_or]
end
theorem Tm.dpAll_append (t : Tm) (k : Nat) : ∀ (ks : List Tm), Tm.dpAll (ks ++ [t]) k = max (Tm.dpAll ks k) (t.dp k)
  | [] => by simp [Tm.dpAll]
  | u :: us => by
    have := Tm.dpAll_append t k us
    simp only [List.cons_append, Tm.dpAll, this]
    omega
theorem Tm.dpAll_take (ks : List Tm) (k j : Nat) (h : j < ks.length) : Tm.dpAll (ks.take (j + 1)) k = max (Tm.dpAll (ks.take j) k) ((ks[j]).dp k) := by
  rw [List.take_succ_eq_append_getElem h, Tm.dpAll_append]

set_option maxHeartbeats 1000000 in
set_option maxRecDepth 100000 in
theorem refDeep_aux (m : Nat) : ∀ (t : Tm) (v : Value) (w : World) (most : Nat), t.sz ≤ m → most ≤ 128 → t.Val w v →
    Calls Try.prog 62 #[v, .int .i64 most] w fun e w' => e = .returned (.int .i64 (t.dp most : Nat)) ∧ Ext w w' := by
  induction m with
  | zero => intro t v w most hm; have := t.sz_pos; omega
  | succ m ih =>
    intro t v w most hm hm1 hv
    cases t with | mk op f n ks =>
    have HM := Lib.hid (fun i (h : i < ks.length) => Tm.sz_kid hm i h)
    obtain ⟨cs, rfl, s, rfl, -, -, -, p, len, cap, rfl, hlen, hlc, hcm, hks⟩ := hv
    have HL := Lib.hid (show len = ks.length from hlen)
    have HK := Lib.hid (show ks = [] ∨ ∃ b' o', p = some ⟨b', o', none⟩ ∧ Tm.AllAt w ks b' o' from hks)
    simp only [Tm.op, Tm.fld, Tm.n] at *
    clear hlen hks hm
    cases most with
    | zero =>
      have HS := Lib.hid (show (Tm.mk op f n ks).dp 0 = 1 from by simp [Tm.dp])
      go_enter Try.func62, Try.ntmps62
      go_wp2_with fail
      go_ret
      exact ⟨by rw [HS.out]; rfl, Ext.alloc _ _⟩
    | succ most =>
      have HS := Lib.hid (show (Tm.mk op f n ks).dp (most + 1) = Tm.dpAll ks most + 1 from by simp [Tm.dp])
      have hle := Tm.dpAll_le ks most
      generalize (Tm.mk op f n ks).dp (most + 1) = S at *
      go_enter Try.func62, Try.ntmps62
      go_wp2_with fail
      go_loopw [5, 6] (fun a i wr => ∃ (j : Nat), j ≤ len ∧ i = .int .i64 j ∧ a = .int .i64 (Tm.dpAll (ks.take j) most : Nat) ∧ Ext w wr ∧ wr.cell? ⟨w.heap.size, 3, none⟩ = some (.slice p len cap)) (fun _ i _ => len - (intOf i).toNat)
      case atStart => exact ⟨0, Nat.zero_le _, rfl, rfl, Ext.alloc _ _, by simp [go_sem]⟩
      case round =>
        obtain ⟨wo, rfl⟩ : ∃ wo : World, wo = wr := ⟨_, rfl⟩
        obtain ⟨j, hj, rfl, rfl, hx, h3⟩ := hrel
        by_cases hlt : j < len
        · have hjl : j < ks.length := by rw [← HL.out]; exact hlt
          rcases HK.out with hk | ⟨b', o', rfl, hall⟩
          · exfalso; subst hk; simp at hjl
          have hat := (Tm.AllAt_get hall j hjl).later hx.later
          have HT := Lib.hid hat
          have HI := Lib.hid (fun cs (h : (ks[j]).Val wo (.agg cs)) => ih (ks[j]) (.agg cs) wo most (HM.out j hjl) (by omega) h)
          have HTk := Lib.hid (Tm.dpAll_take ks most j hjl)
          have hb1 := Tm.dpAll_le (ks.take j) most
          have hb2 := (ks[j]).dp_le most
          generalize ks[j] = y at *
          generalize hq : Tm.dpAll (ks.take j) most = q at *
          clear hat hall hq
          go_wp2_with (first | (refine wpList_load_T rfl _ rfl b' (o' + j * 4) rfl y HT.out ?_; intro cs hcs _ _))
          refine (HI.out cs hcs).mono ?_
          rintro e w1 ⟨rfl, hx1⟩
          have h3' := hx1.later _ _ h3
          generalize y.dp most = d at *
          clear hcs
          go_wp2_with fail
          all_goals exact ⟨⟨j + 1, by omega, by omega, by rw [HTk.out, Nat.max_def]; split <;> omega, hx.trans hx1⟩, by simp [intOf]; omega⟩
        · have HF := Lib.hid (show Tm.dpAll (ks.take j) most = Tm.dpAll ks most from by rw [List.take_of_length_le (by have := HL.out; omega)])
          rw [HF.out]
          generalize Tm.dpAll ks most = d at *
          go_wp2_with fail
          go_ret
          exact ⟨by rw [HS.out]; rfl, hx⟩
theorem refDeep_any (t : Tm) (v : Value) (w : World) (most : Nat) (hm1 : most ≤ 128) (hv : t.Val w v) :
    Calls Try.prog 62 #[v, .int .i64 most] w fun e w' => e = .returned (.int .i64 (t.dp most : Nat)) ∧ Ext w w' := refDeep_aux t.sz t v w most (Nat.le_refl _) hm1 hv

theorem bigB_one (t : Tm) : bigB [t] = (decide (4096 < t.sz) || decide (128 < t.dp 128)) := by
  have := Tm.downAll_eq [t] 4096 (by omega)
  simp only [Tm.szAll] at this
  rw [bigB, this, Tm.dp_deep]
  simp only [Tm.deepAny, Bool.or_false]
  congr 1
  rw [Bool.eq_iff_iff]
  simp
  omega
end Go.Proofs.Ytddeelepaiklgaa
