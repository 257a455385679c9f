/- policy.right: whether a term is a predicate, or a policy. -/
import Derived.Test.YtddeelepaiklgaaTable
import Derived.Deep.RegionHeld3
import Derived.Deep.DeepCutAuto
namespace Go.Proofs.Ytddeelepaiklgaa
open Go.RowKit

mutual
/-- is a term a predicate (or a policy)? -/
def Tm.right : Tm → Bool → Bool
  | .mk op f n ks, pred =>
    if op < 0 ∨ 10 < op then false else
    if (wantsOf op.toNat).pred != pred then false else
    if (ks.length : Int) < (wantsOf op.toNat).least then false else
    if 0 ≤ (wantsOf op.toNat).most ∧ (wantsOf op.toNat).most < (ks.length : Int) then false else
    if (wantsOf op.toNat).field then fieldB op f n else
    if f ≠ 0 ∨ n ≠ 0 then false else Tm.rightAll ks (wantsOf op.toNat).preds
def Tm.rightAll : List Tm → Bool → Bool
  | [], _ => true
  | t :: ts, pred => t.right pred && Tm.rightAll ts pred
end
theorem Tm.rightAll_true {p : Bool} : ∀ {ks : List Tm}, (∀ m (h : m < ks.length), (ks[m]).right p = true) → Tm.rightAll ks p = true
  | [], _ => rfl
  | t :: ts, hv => by
    have h0 := hv 0 (by simp)
    have h1 := Tm.rightAll_true (p := p) (ks := ts) (fun m h => by have := hv (m + 1) (by simpa using h); rwa [List.getElem_cons_succ] at this)
    rw [List.getElem_cons_zero] at h0
    simp only [Tm.rightAll, h0, h1, Bool.and_self]
theorem Tm.rightAll_false {p : Bool} : ∀ {ks : List Tm} (j : Nat) (h : j < ks.length), (ks[j]).right p = false → Tm.rightAll ks p = false
  | t :: ts, 0, _, hv => by rw [List.getElem_cons_zero] at hv; simp [Tm.rightAll, hv]
  | t :: ts, j + 1, h, hv => by rw [List.getElem_cons_succ] at hv; simp [Tm.rightAll, Tm.rightAll_false j (by simpa using h) hv]

theorem tab_idx (k : Nat) (hk : k < 11) (w : World) : (Instr.index 109 (.agg tabA) (.int .i8 k)).run Try.prog w = .ok (.agg (wantsOf k).cs) w := by
  have h0 : (Instr.index 109 (.agg tabA) (.int .i8 (0 : Nat))).run Try.prog w = .ok (.agg (wantsOf 0).cs) w := by kernel_rfl
  have h1 : (Instr.index 109 (.agg tabA) (.int .i8 (1 : Nat))).run Try.prog w = .ok (.agg (wantsOf 1).cs) w := by kernel_rfl
  have h2 : (Instr.index 109 (.agg tabA) (.int .i8 (2 : Nat))).run Try.prog w = .ok (.agg (wantsOf 2).cs) w := by kernel_rfl
  have h3 : (Instr.index 109 (.agg tabA) (.int .i8 (3 : Nat))).run Try.prog w = .ok (.agg (wantsOf 3).cs) w := by kernel_rfl
  have h4 : (Instr.index 109 (.agg tabA) (.int .i8 (4 : Nat))).run Try.prog w = .ok (.agg (wantsOf 4).cs) w := by kernel_rfl
  have h5 : (Instr.index 109 (.agg tabA) (.int .i8 (5 : Nat))).run Try.prog w = .ok (.agg (wantsOf 5).cs) w := by kernel_rfl
  have h6 : (Instr.index 109 (.agg tabA) (.int .i8 (6 : Nat))).run Try.prog w = .ok (.agg (wantsOf 6).cs) w := by kernel_rfl
  have h7 : (Instr.index 109 (.agg tabA) (.int .i8 (7 : Nat))).run Try.prog w = .ok (.agg (wantsOf 7).cs) w := by kernel_rfl
  have h8 : (Instr.index 109 (.agg tabA) (.int .i8 (8 : Nat))).run Try.prog w = .ok (.agg (wantsOf 8).cs) w := by kernel_rfl
  have h9 : (Instr.index 109 (.agg tabA) (.int .i8 (9 : Nat))).run Try.prog w = .ok (.agg (wantsOf 9).cs) w := by kernel_rfl
  have h10 : (Instr.index 109 (.agg tabA) (.int .i8 (10 : Nat))).run Try.prog w = .ok (.agg (wantsOf 10).cs) w := by kernel_rfl
  match k, hk with
  | 0, _ => exact h0
  | 1, _ => exact h1
  | 2, _ => exact h2
  | 3, _ => exact h3
  | 4, _ => exact h4
  | 5, _ => exact h5
  | 6, _ => exact h6
  | 7, _ => exact h7
  | 8, _ => exact h8
  | 9, _ => exact h9
  | 10, _ => exact h10

set_option maxHeartbeats 1000000 in
set_option maxRecDepth 100000 in
theorem right_aux (m : Nat) : ∀ (t : Tm) (pred : Bool) (b o : Nat) (w : World), t.sz ≤ m → t.At w b o →
    Calls Try.prog 38 #[.pointer (some ⟨b, o, none⟩), .bool pred] w fun e w' => e = .returned (.bool (t.right pred)) ∧ Ext w w' := by
  induction m with
  | zero => intro t _ _ _ _ hm; have := t.sz_pos; omega
  | succ m ih =>
    intro t pred b o w hm h
    cases t with | mk op f n ks =>
    have IH := Lib.hid ih
    have HM := Lib.hid (fun i h => Tm.sz_kid hm i h)
    clear ih hm
    obtain ⟨hop, hf, hn, c0, c1, c2, p, len, cap, c3, hlen, hlc, hcm, hks⟩ := h
    by_cases hlo : op < 0
    · have HF : Hid ((Tm.mk op f n ks).right pred = false) := by simp only [Hid, Tm.right]; rw [if_pos (.inl hlo)]
      clear hlen hks
      go_enter Try.func38, Try.ntmps38
      go_wp2_with fail
      go_ret
      exact ⟨by rw [HF.out]; rfl, Ext.refl _⟩
    by_cases hhi : 10 < op
    · have HF : Hid ((Tm.mk op f n ks).right pred = false) := by simp only [Hid, Tm.right]; rw [if_pos (.inr hhi)]
      clear hlen hks
      go_enter Try.func38, Try.ntmps38
      go_wp2_with fail
      go_ret
      exact ⟨by rw [HF.out]; rfl, Ext.refl _⟩
    obtain ⟨k, rfl⟩ := Int.eq_ofNat_of_zero_le (Int.not_lt.1 hlo)
    have hk : k < 11 := by omega
    have hidx := tab_idx k hk
    have HU := Lib.hid (show (Tm.mk k f n ks).right pred = _ from by rw [Tm.right, if_neg (by omega), Int.toNat_natCast])
    have hmost : (wantsOf k).most = -1 ∨ ∃ M : Nat, (wantsOf k).most = M := by
      match k, hk with
      | 0, _ | 1, _ | 2, _ | 7, _ => exact .inr ⟨0, rfl⟩
      | 3, _ | 6, _ | 10, _ => exact .inr ⟨1, rfl⟩
      | 4, _ | 5, _ | 8, _ | 9, _ => exact .inl rfl
    generalize wantsOf k = W at hidx HU hmost
    cases W with | mk least most preds pr fd =>
    simp only [Wants.cs] at hidx HU
    have HL := Lib.hid hlen
    clear hlen
    have hb := World.block_lt_of_cell? w _ c0
    go_enter Try.func38, Try.ntmps38
    go_upto_region 3 with fail
    go_cut [5] (fun s5 wx => ∃ g : Nat, s5 = .pointer (some ⟨g, 0, none⟩) ∧ wx.cell? ⟨g, 0, none⟩ = some (.int .i64 least) ∧ wx.cell? ⟨g, 1, none⟩ = some (.int .i64 most) ∧ wx.cell? ⟨g, 2, none⟩ = some (.bool preds) ∧ wx.cell? ⟨g, 3, none⟩ = some (.bool pr) ∧ wx.cell? ⟨g, 4, none⟩ = some (.bool fd) ∧ Ext w wx)
    case first =>
      go_region_held3 (fun w' => w'.cell? ⟨b, o, none⟩ = some (.int .i8 k)) (first | go_keep | (rw [World.cell?_alloc_lt _ _ _ (by simp; omega)]; assumption)) (first | (go_at_call 58; refine (table_any _).mono ?_; rintro e w' ⟨rfl, rfl⟩))
      all_goals (go_wp2_with fail; go_meet; exact ⟨_, rfl, by simp [go_sem], by simp [go_sem], by simp [go_sem], by simp [go_sem], by simp [go_sem], ((Ext.refl _).andAlloc _).andAlloc _ |>.andDrew⟩)
    case rest =>
      obtain ⟨g, rfl, e0, e1, e2, e3, e4, hx⟩ := hcut
      have d0 := hx.later _ _ c0
      have d1 := hx.later _ _ c1
      have d2 := hx.later _ _ c2
      have d3 := hx.later _ _ c3
      clear c0 c1 c2 c3
      have HX := Lib.hid hx
      rw [← HL.out] at HU
      by_cases h1 : pr = pred
      case neg =>
        have HF := Lib.hid (HU.out.trans (if_pos (by simpa using h1)))
        cases pr <;> cases pred <;> first | exact absurd rfl h1 | skip
        all_goals
          clear h1
          go_wp2_with fail
          go_ret
          exact ⟨by rw [HF.out]; rfl, hx⟩
      have HU1 := Lib.hid (HU.out.trans (if_neg (by simpa using h1)))
      subst h1
      clear HU
      by_cases h2 : (len : Int) < least
      · have HF := Lib.hid (HU1.out.trans (if_pos h2))
        go_wp2_with fail
        go_ret
        exact ⟨by rw [HF.out]; rfl, hx⟩
      have HU2 := Lib.hid (HU1.out.trans (if_neg h2))
      have h2' : least ≤ (len : Int) := by omega
      clear HU1
      by_cases h3 : 0 ≤ most ∧ most < (len : Int)
      · have HF := Lib.hid (HU2.out.trans (if_pos h3))
        obtain ⟨h31, h32⟩ := h3
        go_wp2_with fail
        go_ret
        exact ⟨by rw [HF.out]; rfl, hx⟩
      have HU3 := Lib.hid (HU2.out.trans (if_neg h3))
      clear HU2
      by_cases h4 : fd = true
      · have HF := Lib.hid (HU3.out.trans (if_pos h4))
        have HC := Lib.hid (field_any k f n b o wc hf hn d0 d1 d2)
        subst h4
        rcases hmost with hmost | ⟨M, hmost⟩
        · simp only at hmost
          subst hmost
          clear h3
          go_wp2_with fail
          refine HC.out.mono ?_
          rintro e w' ⟨rfl, hx'⟩
          go_wp2_with fail
          go_ret
          exact ⟨by rw [HF.out]; rfl, hx.trans hx'⟩
        · simp only at hmost
          subst hmost
          have hM : len ≤ M := by omega
          clear h3
          go_wp2_with fail
          refine HC.out.mono ?_
          rintro e w' ⟨rfl, hx'⟩
          go_wp2_with fail
          go_ret
          exact ⟨by rw [HF.out]; rfl, hx.trans hx'⟩
      have HU4 := Lib.hid (HU3.out.trans (if_neg h4))
      obtain rfl : fd = false := by simpa using h4
      clear HU3 h4
      rcases hmost with hmost | ⟨M, hmost⟩
      case' inl => simp only at hmost; subst hmost; clear h3
      case' inr => simp only at hmost; subst hmost; have hM : len ≤ M := by omega
      case' inr => clear h3
      all_goals
        by_cases h5 : f = 0
        case neg =>
          have HF := Lib.hid (HU4.out.trans (if_pos (.inl h5)))
          have h5' : (f != 0) = true := by simpa using h5
          clear h5
          go_wp2_with fail
          go_ret
          exact ⟨by rw [HF.out]; rfl, hx⟩
        by_cases h6 : n = 0
        case neg =>
          have HF := Lib.hid (HU4.out.trans (if_pos (.inr h6)))
          have h6' : (n != 0) = true := by simpa using h6
          subst h5
          clear h6
          go_wp2_with fail
          go_ret
          exact ⟨by rw [HF.out]; rfl, hx⟩
        have HU5 := Lib.hid (HU4.out.trans (if_neg (by simp [h5, h6])))
        subst h5 h6
        clear HU4
        go_wp2_with fail
        go_loopw [72] (fun i wr => ∃ j : Nat, j ≤ len ∧ i = .int .i64 j ∧ Hid (∀ m (h : m < ks.length), m < j → (ks[m]).right preds = true) ∧ Ext wc wr) (fun i _ => len - (intOf i).toNat)
        case atStart => exact ⟨0, Nat.zero_le _, rfl, fun m h hm => by omega, Ext.refl _⟩
        case round =>
          obtain ⟨j, hj, rfl, hd, hxr⟩ := hrel
          have f3 := hxr.later _ _ d3
          have f4 := hxr.later _ _ e2
          by_cases hlt : j < len
          · rcases hks with hks | ⟨b', o', rfl, hall⟩
            · exfalso; have := HL.out; subst hks; simp at this; omega
            have hjl : j < ks.length := by rw [← HL.out]; exact hlt
            have IHj := Lib.hid (fun W (hW : Ext wc W) => IH.out (ks[j]) preds b' (o' + j * 4) W (HM.out j hjl) ((Tm.AllAt_get hall j hjl).later (HX.out.trans hW).later))
            go_upto_region 16 with fail
            go_cut [84] (fun s84 wx => s84 = .bool (!(ks[j]).right preds) ∧ Ext wc wx)
            case first =>
              go_region_held3 (fun w' => w'.cell? ⟨b, o + 3, none⟩ = some (.slice (some ⟨b', o', none⟩) len cap) ∧ w'.cell? ⟨g, 2, none⟩ = some (.bool preds)) (first | go_keep | exact ⟨hx'.later _ _ f3, hx'.later _ _ f4⟩) (first | (go_at_call 38; refine (IHj.out _ hxr.andDrew).mono ?_; rintro e w' ⟨rfl, hx'⟩))
              all_goals (go_wp2_with fail; go_meet; exact ⟨rfl, hxr.andDrew.trans hx'⟩)
            case rest =>
              obtain ⟨rfl, hx'⟩ := hcut
              cases hv : (ks[j]).right preds with
              | true =>
                have HF := Lib.hid hv
                clear hv
                go_wp2_with fail
                go_roundw
                case rel => exact ⟨j + 1, by omega, by go_num, fun m h hm => by
                  rcases Nat.lt_succ_iff_lt_or_eq.1 hm with h1 | rfl
                  · exact hd.out m h h1
                  · exact HF.out, hx'⟩
                case measure => simp [intOf]; omega
              | false =>
                have HF := Lib.hid (HU5.out.trans (Tm.rightAll_false j hjl hv))
                clear hv
                go_wp2_with fail
                go_ret
                exact ⟨by rw [HF.out]; rfl, HX.out.trans hx'⟩
          · have HF := Lib.hid (HU5.out.trans (Tm.rightAll_true (fun m h => hd.out m h (by have := HL.out; omega))))
            go_wp2_with fail
            go_ret
            exact ⟨by rw [HF.out]; rfl, HX.out.trans hxr⟩
theorem right_any (t : Tm) (pred : Bool) (b o : Nat) (w : World) (h : t.At w b o) :
    Calls Try.prog 38 #[.pointer (some ⟨b, o, none⟩), .bool pred] w fun e w' => e = .returned (.bool (t.right pred)) ∧ Ext w w' := right_aux t.sz t pred b o w (Nat.le_refl _) h
end Go.Proofs.Ytddeelepaiklgaa
