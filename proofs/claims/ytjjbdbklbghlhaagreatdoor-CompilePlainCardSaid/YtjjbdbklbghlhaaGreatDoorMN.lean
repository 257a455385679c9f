/- policy.table: what each Op wants. -/
import Derived.Test.YtjjbdbklbghlhaaGreatDoorMA
import Derived.StillTailTactics
import Derived.Deep.RegionWith
import Derived.Deep.RegionHeld3
import Derived.Deep.DeepCutAuto
import Derived.Test.YtjjbdbklbghlhaaGreatDoorMD
import Derived.Test.YtjjbdbklbghlhaaGreatDoorMC
import Derived.Laws.PanicsMore
import Derived.ChangeMaps5
import Derived.Maps.RangeWalk
import Derived.Defers
import Derived.Recover
import Derived.Laws.EntriesVeiled
import Derived.Laws.StructEq
import Derived.DeepKeys
import Derived.BigQuiet
import Derived.Deep.Upon
import Derived.Test.YtjjbdbklbghlhaaGreatDoorMI
import Derived.Test.YtjjbdbklbghlhaaGreatDoorMB
namespace Go.Proofs.YtjjbdbklbghlhaaGreatDoor
open Go.RowKit
set_option linter.unusedSimpArgs false

/-- what an Op wants: least, most, predicates as kids, a predicate itself, a field -/
structure Wants where
 least : Int
 most : Int
 preds : Bool
 pred : Bool
 field : Bool
def wantsOf (op : Nat) : Wants :=
 match op with
 | 0 | 1 => ⟨0, 0, false, true, false⟩
 | 2 => ⟨0, 0, false, true, true⟩
 | 3 => ⟨1, 1, true, true, false⟩
 | 4 | 5 => ⟨1, -1, true, true, false⟩
 | 6 => ⟨1, 1, true, false, false⟩
 | 7 => ⟨0, 0, false, false, true⟩
 | 8 | 9 => ⟨1, -1, false, false, false⟩
 | _ => ⟨1, 1, false, false, false⟩
def Wants.cs (x : Wants) : Array Value := #[.int .i64 x.least, .int .i64 x.most, .bool x.preds, .bool x.pred, .bool x.field]
def tabA : Array Value := #[.int .i64 0, .int .i64 (0), .bool false, .bool true, .bool false, .int .i64 0, .int .i64 (0), .bool false, .bool true, .bool false, .int .i64 0, .int .i64 (0), .bool false, .bool true, .bool true, .int .i64 1, .int .i64 (1), .bool true, .bool true, .bool false, .int .i64 1, .int .i64 (-1), .bool true, .bool true, .bool false, .int .i64 1, .int .i64 (-1), .bool true, .bool true, .bool false, .int .i64 1, .int .i64 (1), .bool true, .bool false, .bool false, .int .i64 0, .int .i64 (0), .bool false, .bool false, .bool true, .int .i64 1, .int .i64 (-1), .bool false, .bool false, .bool false, .int .i64 1, .int .i64 (-1), .bool false, .bool false, .bool false, .int .i64 1, .int .i64 (1), .bool false, .bool false, .bool false]
theorem table_build (w : World) : (Instr.build 112 #[(0, .agg (tabA.extract 0 5)), (1, .agg (tabA.extract 5 10)), (2, .agg (tabA.extract 10 15)), (3, .agg (tabA.extract 15 20)), (4, .agg (tabA.extract 20 25)), (5, .agg (tabA.extract 25 30)), (6, .agg (tabA.extract 30 35)), (7, .agg (tabA.extract 35 40)), (8, .agg (tabA.extract 40 45)), (9, .agg (tabA.extract 45 50)), (10, .agg (tabA.extract 50 55))]).run Tryz.prog w = .ok (.agg tabA) w := by kernel_rfl
set_option maxHeartbeats 1000000 in
set_option maxRecDepth 100000 in
theorem table_any (w : World) : Calls Tryz.prog 53 #[] w fun e w' => e = .returned (.agg tabA) ∧ w.alloc (.cells tabA 112) = w' := by
 go_enter Tryz.func53, Tryz.ntmps53
 go_wp2_with (first | (refine wpList_by rfl (.build 112 _) rfl (.agg tabA) _ (table_build _) ?_) | (refine wpList_store_new rfl 112 _ _ rfl _ tabA rfl rfl (by kernel_rfl) (by kernel_rfl) (by kernel_rfl) ?_))
 exact bodyPost_ret (v := .agg tabA) (results_cell_row rfl _ _ w.heap.size 112 tabA (0, 0) _ rfl (heap_alloc_last w _) Tryz.underlying112 rfl (by kernel_rfl)) rfl ⟨rfl, rfl⟩

end Go.Proofs.YtjjbdbklbghlhaaGreatDoor
/- policy.right: whether a term is a predicate, or a policy. -/
namespace Go.Proofs.YtjjbdbklbghlhaaGreatDoor
open Go.RowKit
set_option linter.unusedSimpArgs false

mutual
/-- is a term a predicate (or a policy)? -/
def Tm.right : Tm → Bool → Bool
 | .mk op f n ks, pred =>
  if op < 0 ∨ 10 < op then false else
  if (wantsOf op.toNat).pred != pred then false else
  if (ks.length : Int) < (wantsOf op.toNat).least then false else
  if 0 ≤ (wantsOf op.toNat).most ∧ (wantsOf op.toNat).most < (ks.length : Int) then false else
  if (wantsOf op.toNat).field then fieldB op f n else
  if f ≠ 0 ∨ n ≠ 0 then false else Tm.rightAll ks (wantsOf op.toNat).preds
def Tm.rightAll : List Tm → Bool → Bool
 | [], _ => true
 | t :: ts, pred => t.right pred && Tm.rightAll ts pred
end
theorem Tm.rightAll_true {p : Bool} : ∀ {ks : List Tm}, (∀ m (h : m < ks.length), (ks[m]).right p = true) → Tm.rightAll ks p = true
 | [], _ => rfl
 | t :: ts, hv => by
  have h0 := hv 0 (by simp)
  have h1 := Tm.rightAll_true (p := p) (ks := ts) (fun m h => by have := hv (m + 1) (by simpa using h); rwa [List.getElem_cons_succ] at this)
  rw [List.getElem_cons_zero] at h0
  simp only [Tm.rightAll, h0, h1, Bool.and_self]
theorem Tm.rightAll_false {p : Bool} : ∀ {ks : List Tm} (j : Nat) (h : j < ks.length), (ks[j]).right p = false → Tm.rightAll ks p = false
 | t :: ts, 0, _, hv => by rw [List.getElem_cons_zero] at hv; simp [Tm.rightAll, hv]
 | t :: ts, j + 1, h, hv => by rw [List.getElem_cons_succ] at hv; simp [Tm.rightAll, Tm.rightAll_false j (by simpa using h) hv]

theorem tab_idx (k : Nat) (hk : k < 11) (w : World) : (Instr.index 112 (.agg tabA) (.int .i8 k)).run Tryz.prog w = .ok (.agg (wantsOf k).cs) w := by
 have h0 : (Instr.index 112 (.agg tabA) (.int .i8 (0 : Nat))).run Tryz.prog w = .ok (.agg (wantsOf 0).cs) w := by kernel_rfl
 have h1 : (Instr.index 112 (.agg tabA) (.int .i8 (1 : Nat))).run Tryz.prog w = .ok (.agg (wantsOf 1).cs) w := by kernel_rfl
 have h2 : (Instr.index 112 (.agg tabA) (.int .i8 (2 : Nat))).run Tryz.prog w = .ok (.agg (wantsOf 2).cs) w := by kernel_rfl
 have h3 : (Instr.index 112 (.agg tabA) (.int .i8 (3 : Nat))).run Tryz.prog w = .ok (.agg (wantsOf 3).cs) w := by kernel_rfl
 have h4 : (Instr.index 112 (.agg tabA) (.int .i8 (4 : Nat))).run Tryz.prog w = .ok (.agg (wantsOf 4).cs) w := by kernel_rfl
 have h5 : (Instr.index 112 (.agg tabA) (.int .i8 (5 : Nat))).run Tryz.prog w = .ok (.agg (wantsOf 5).cs) w := by kernel_rfl
 have h6 : (Instr.index 112 (.agg tabA) (.int .i8 (6 : Nat))).run Tryz.prog w = .ok (.agg (wantsOf 6).cs) w := by kernel_rfl
 have h7 : (Instr.index 112 (.agg tabA) (.int .i8 (7 : Nat))).run Tryz.prog w = .ok (.agg (wantsOf 7).cs) w := by kernel_rfl
 have h8 : (Instr.index 112 (.agg tabA) (.int .i8 (8 : Nat))).run Tryz.prog w = .ok (.agg (wantsOf 8).cs) w := by kernel_rfl
 have h9 : (Instr.index 112 (.agg tabA) (.int .i8 (9 : Nat))).run Tryz.prog w = .ok (.agg (wantsOf 9).cs) w := by kernel_rfl
 have h10 : (Instr.index 112 (.agg tabA) (.int .i8 (10 : Nat))).run Tryz.prog w = .ok (.agg (wantsOf 10).cs) w := by kernel_rfl
 match k, hk with
 | 0, _ => exact h0
 | 1, _ => exact h1
 | 2, _ => exact h2
 | 3, _ => exact h3
 | 4, _ => exact h4
 | 5, _ => exact h5
 | 6, _ => exact h6
 | 7, _ => exact h7
 | 8, _ => exact h8
 | 9, _ => exact h9
 | 10, _ => exact h10

set_option maxHeartbeats 1000000 in
set_option maxRecDepth 100000 in
theorem right_aux (m : Nat) : ∀ (t : Tm) (pred : Bool) (b o : Nat) (w : World), t.sz ≤ m → t.At w b o →
  Calls Tryz.prog 35 #[.pointer (some ⟨b, o, none⟩), .bool pred] w fun e w' => e = .returned (.bool (t.right pred)) ∧ Ext w w' := by
 induction m with
 | zero => intro t _ _ _ _ hm; have := t.sz_pos; omega
 | succ m ih =>
  intro t pred b o w hm h
  cases t with | mk op f n ks =>
  have IH := Hd ih
  have HM := Hd (fun i h => Tm.sz_kid hm i h)
  clear ih hm
  obtain ⟨hop, hf, hn, c0, c1, c2, p, len, cap, c3, hlen, hlc, hcm, hks⟩ := h
  by_cases hlo : op < 0
  ·have HF : Hid ((Tm.mk op f n ks).right pred = false) := by simp only [Hid, Tm.right]; rw [if_pos (.inl hlo)]
   clear hlen hks
   go_enter Tryz.func35, Tryz.ntmps35
   go_wp2_with fail
   go_ret
   exact ⟨by rw [HF.out]; rfl, Ext.refl _⟩
  by_cases hhi : 10 < op
  ·have HF : Hid ((Tm.mk op f n ks).right pred = false) := by simp only [Hid, Tm.right]; rw [if_pos (.inr hhi)]
   clear hlen hks
   go_enter Tryz.func35, Tryz.ntmps35
   go_wp2_with fail
   go_ret
   exact ⟨by rw [HF.out]; rfl, Ext.refl _⟩
  obtain ⟨k, rfl⟩ := Int.eq_ofNat_of_zero_le (Int.not_lt.1 hlo)
  have hk : k < 11 := by omega
  have hidx := tab_idx k hk
  have HU := Hd (show (Tm.mk k f n ks).right pred = _ from by rw [Tm.right, if_neg (by omega), Int.toNat_natCast])
  have hmost : (wantsOf k).most = -1 ∨ ∃ M : Nat, (wantsOf k).most = M := by
   match k, hk with
   | 0, _ | 1, _ | 2, _ | 7, _ => exact .inr ⟨0, rfl⟩
   | 3, _ | 6, _ | 10, _ => exact .inr ⟨1, rfl⟩
   | 4, _ | 5, _ | 8, _ | 9, _ => exact .inl rfl
  generalize wantsOf k = W at hidx HU hmost
  cases W with | mk least most preds pr fd =>
  simp only [Wants.cs] at hidx HU
  have HL := Hd hlen
  clear hlen
  have hb := World.block_lt_of_cell? w _ c0
  go_enter Tryz.func35, Tryz.ntmps35
  go_upto_region 3 with fail
  go_cut [5] (fun s5 wx => ∃ g : Nat, s5 = .pointer (some ⟨g, 0, none⟩) ∧ wx.cell? ⟨g, 0, none⟩ = some (.int .i64 least) ∧ wx.cell? ⟨g, 1, none⟩ = some (.int .i64 most) ∧ wx.cell? ⟨g, 2, none⟩ = some (.bool preds) ∧ wx.cell? ⟨g, 3, none⟩ = some (.bool pr) ∧ wx.cell? ⟨g, 4, none⟩ = some (.bool fd) ∧ Ext w wx)
  case first =>
   go_region_held3 (fun w' => w'.cell? ⟨b, o, none⟩ = some (.int .i8 k)) (first | go_keep | (rw [World.cell?_alloc_lt _ _ _ (by simp; omega)]; assumption)) (first | (go_at_call 53; refine (table_any _).mono ?_; rintro e w' ⟨rfl, rfl⟩))
   all_goals (go_wp2_with fail; go_meet; exact ⟨_, rfl, by simp [go_sem], by simp [go_sem], by simp [go_sem], by simp [go_sem], by simp [go_sem], ((Ext.refl _).andAlloc _).andAlloc _ |>.andDrew⟩)
  case rest =>
   obtain ⟨g, rfl, e0, e1, e2, e3, e4, hx⟩ := hcut
   have d0 := hx.later _ _ c0
   have d1 := hx.later _ _ c1
   have d2 := hx.later _ _ c2
   have d3 := hx.later _ _ c3
   clear c0 c1 c2 c3
   have HX := Hd hx
   rw [← HL.out] at HU
   by_cases h1 : pr = pred
   case neg =>
    have HF := Hd (HU.out.trans (if_pos (by simpa using h1)))
    cases pr <;> cases pred <;> first | exact absurd rfl h1 | skip
    all_goals
     clear h1
     go_wp2_with fail
     go_ret
     exact ⟨by rw [HF.out]; rfl, hx⟩
   have HU1 := Hd (HU.out.trans (if_neg (by simpa using h1)))
   subst h1
   clear HU
   by_cases h2 : (len : Int) < least
   ·have HF := Hd (HU1.out.trans (if_pos h2))
    go_wp2_with fail
    go_ret
    exact ⟨by rw [HF.out]; rfl, hx⟩
   have HU2 := Hd (HU1.out.trans (if_neg h2))
   have h2' : least ≤ (len : Int) := by omega
   clear HU1
   by_cases h3 : 0 ≤ most ∧ most < (len : Int)
   ·have HF := Hd (HU2.out.trans (if_pos h3))
    obtain ⟨h31, h32⟩ := h3
    go_wp2_with fail
    go_ret
    exact ⟨by rw [HF.out]; rfl, hx⟩
   have HU3 := Hd (HU2.out.trans (if_neg h3))
   clear HU2
   by_cases h4 : fd = true
   ·have HF := Hd (HU3.out.trans (if_pos h4))
    have HC := Hd (field_any k f n b o wc hf hn d0 d1 d2)
    subst h4
    rcases hmost with hmost | ⟨M, hmost⟩
    ·simp only at hmost
     subst hmost
     clear h3
     go_wp2_with fail
     refine HC.out.mono ?_
     rintro e w' ⟨rfl, hx'⟩
     go_wp2_with fail
     go_ret
     exact ⟨by rw [HF.out]; rfl, hx.trans hx'⟩
    ·simp only at hmost
     subst hmost
     have hM : len ≤ M := by omega
     clear h3
     go_wp2_with fail
     refine HC.out.mono ?_
     rintro e w' ⟨rfl, hx'⟩
     go_wp2_with fail
     go_ret
     exact ⟨by rw [HF.out]; rfl, hx.trans hx'⟩
   have HU4 := Hd (HU3.out.trans (if_neg h4))
   obtain rfl : fd = false := by simpa using h4
   clear HU3 h4
   rcases hmost with hmost | ⟨M, hmost⟩
   case' inl => simp only at hmost; subst hmost; clear h3
   case' inr => simp only at hmost; subst hmost; have hM : len ≤ M := by omega
   case' inr => clear h3
   all_goals
    by_cases h5 : f = 0
    case neg =>
     have HF := Hd (HU4.out.trans (if_pos (.inl h5)))
     have h5' : (f != 0) = true := by simpa using h5
     clear h5
     go_wp2_with fail
     go_ret
     exact ⟨by rw [HF.out]; rfl, hx⟩
    by_cases h6 : n = 0
    case neg =>
     have HF := Hd (HU4.out.trans (if_pos (.inr h6)))
     have h6' : (n != 0) = true := by simpa using h6
     subst h5
     clear h6
     go_wp2_with fail
     go_ret
     exact ⟨by rw [HF.out]; rfl, hx⟩
    have HU5 := Hd (HU4.out.trans (if_neg (by simp [h5, h6])))
    subst h5 h6
    clear HU4
    go_wp2_with fail
    go_loopw [72] (fun i wr => ∃ j : Nat, j ≤ len ∧ i = .int .i64 j ∧ Hid (∀ m (h : m < ks.length), m < j → (ks[m]).right preds = true) ∧ Ext wc wr) (fun i _ => len - (intOf i).toNat)
    case atStart => exact ⟨0, Nat.zero_le _, rfl, fun m h hm => by omega, Ext.refl _⟩
    case round =>
     obtain ⟨j, hj, rfl, hd, hxr⟩ := hrel
     have f3 := hxr.later _ _ d3
     have f4 := hxr.later _ _ e2
     by_cases hlt : j < len
     ·rcases hks with hks | ⟨b', o', rfl, hall⟩
      ·exfalso; have := HL.out; subst hks; simp at this; omega
      have hjl : j < ks.length := by rw [← HL.out]; exact hlt
      have IHj := Hd (fun W (hW : Ext wc W) => IH.out (ks[j]) preds b' (o' + j * 4) W (HM.out j hjl) ((Tm.AllAt_get hall j hjl).later (HX.out.trans hW).later))
      go_upto_region 16 with fail
      go_cut [84] (fun s84 wx => s84 = .bool (!(ks[j]).right preds) ∧ Ext wc wx)
      case first =>
       go_region_held3 (fun w' => w'.cell? ⟨b, o + 3, none⟩ = some (.slice (some ⟨b', o', none⟩) len cap) ∧ w'.cell? ⟨g, 2, none⟩ = some (.bool preds)) (first | go_keep | exact ⟨hx'.later _ _ f3, hx'.later _ _ f4⟩) (first | (go_at_call 35; refine (IHj.out _ hxr.andDrew).mono ?_; rintro e w' ⟨rfl, hx'⟩))
       all_goals (go_wp2_with fail; go_meet; exact ⟨rfl, hxr.andDrew.trans hx'⟩)
      case rest =>
       obtain ⟨rfl, hx'⟩ := hcut
       cases hv : (ks[j]).right preds with
       | true =>
        have HF := Hd hv
        clear hv
        go_wp2_with fail
        go_roundw
        case rel => exact ⟨j + 1, by omega, by go_num, fun m h hm => by
         rcases Nat.lt_succ_iff_lt_or_eq.1 hm with h1 | rfl
         ·exact hd.out m h h1
         ·exact HF.out, hx'⟩
        case measure => simp [intOf]; omega
       | false =>
        have HF := Hd (HU5.out.trans (Tm.rightAll_false j hjl hv))
        clear hv
        go_wp2_with fail
        go_ret
        exact ⟨by rw [HF.out]; rfl, HX.out.trans hx'⟩
     ·have HF := Hd (HU5.out.trans (Tm.rightAll_true (fun m h => hd.out m h (by have := HL.out; omega))))
      go_wp2_with fail
      go_ret
      exact ⟨by rw [HF.out]; rfl, HX.out.trans hxr⟩
theorem right_any (t : Tm) (pred : Bool) (b o : Nat) (w : World) (h : t.At w b o) :
  Calls Tryz.prog 35 #[.pointer (some ⟨b, o, none⟩), .bool pred] w fun e w' => e = .returned (.bool (t.right pred)) ∧ Ext w w' := right_aux t.sz t pred b o w (Nat.le_refl _) h
end Go.Proofs.YtjjbdbklbghlhaaGreatDoor
/- policy.deep, size, big, Pred: whether terms are too many or too deep. -/
namespace Go.Proofs.YtjjbdbklbghlhaaGreatDoor
open Go.RowKit
set_option linter.unusedSimpArgs false

mutual
def Tm.deep : Tm → Nat → Bool
 | _, 0 => true
 | .mk _ _ _ ks, k + 1 => Tm.deepAny ks k
def Tm.deepAny : List Tm → Nat → Bool
 | [], _ => false
 | t :: ts, k => t.deep k || Tm.deepAny ts k
end

theorem Tm.deepAny_true {k : Nat} : ∀ {ks : List Tm} (j : Nat) (h : j < ks.length), (ks[j]).deep k = true → Tm.deepAny ks k = true
 | t :: ts, 0, _, hv => by simp at hv; simp [Tm.deepAny, hv]
 | t :: ts, j + 1, h, hv => by simp [Tm.deepAny, Tm.deepAny_true j (by simpa using h) (by simpa using hv)]
theorem Tm.deepAny_false {k : Nat} : ∀ {ks : List Tm}, (∀ m (h : m < ks.length), (ks[m]).deep k = false) → Tm.deepAny ks k = false
 | [], _ => rfl
 | t :: ts, hv => by
  have h0 := hv 0 (by simp)
  have h1 := Tm.deepAny_false (k := k) (ks := ts) (fun m h => by have := hv (m + 1) (by simpa using h); rwa [List.getElem_cons_succ] at this)
  simp only [Tm.deepAny, h1, Bool.or_false]
  exact h0

set_option maxHeartbeats 400000 in
theorem deep_any (k : Nat) : ∀ (t : Tm) (w : World) (b o : Nat), k ≤ 128 → t.At w b o →
  Calls Tryz.prog 52 #[.pointer (some ⟨b, o, none⟩), .int .i64 k] w fun e w' => e = .returned (.bool (t.deep k)) ∧ w = w' := by
 induction k with
 | zero =>
  intro t w b o _ h
  go_enter Tryz.func52, Tryz.ntmps52
  go_wp2_with fail
  go_ret
  exact ⟨by simp [Tm.deep], rfl⟩
 | succ k ih =>
  intro t w b o hk h
  cases t with | mk op f n ks =>
  obtain ⟨_, _, _, _, _, _, p, len, cap, hc, hlen, hlc, hcm, hks⟩ := h
  obtain ⟨l, hl⟩ : ∃ l : Int, ((k + 1 : Nat) : Int) = l := ⟨_, rfl⟩
  rw [hl]
  have hl1 : 1 ≤ l := by omega
  have hl2 : l ≤ 128 := by omega
  have hz : (l == 0) = false := by simp; omega
  have Hl := Hd hl
  clear hl
  have HL := Hd hlen
  clear hlen
  go_enter Tryz.func52, Tryz.ntmps52
  go_wp2_with fail
  go_loop [13] (fun i => ∃ j : Nat, j ≤ len ∧ i = .int .i64 j ∧ Hid (∀ m (h : m < ks.length), m < j → (ks[m]).deep k = false)) (fun i => len - (intOf i).toNat)
  case atStart => exact ⟨0, Nat.zero_le _, rfl, fun m h hm => by omega⟩
  case round =>
   obtain ⟨j, hj, rfl, hd⟩ := hrel
   by_cases hlt : j < len
   ·rcases hks with hks | ⟨b', o', rfl, hall⟩
    ·exfalso; have := HL.out; subst hks; simp at this; omega
    have hjl : j < ks.length := by rw [← HL.out]; exact hlt
    have hat := Tm.AllAt_get hall j hjl
    have IH := Hd (ih (ks[j]) w b' (o' + j * 4) (by omega) hat)
    rw [show ((k : Nat) : Int) = l - 1 from by have := Hl.out; omega] at IH
    go_wp2_with fail
    refine IH.out.mono ?_
    rintro e w' ⟨rfl, rfl⟩
    cases hv : (ks[j]).deep k with
    | true =>
     have HF := Hd (Tm.deepAny_true j hjl hv)
     clear hv
     go_wp2_with fail
     go_ret
     exact ⟨by simp [Tm.deep, HF.out], rfl⟩
    | false =>
     have HF := Hd hv
     clear hv
     go_wp2_with fail
     go_round
     case rel => exact ⟨j + 1, by omega, by go_num, fun m h hm => by
      rcases Nat.lt_succ_iff_lt_or_eq.1 hm with h1 | rfl
      ·exact hd.out m h h1
      ·exact HF.out⟩
     case measure => simp [intOf]; omega
   ·have HF := Hd (Tm.deepAny_false (fun m h => hd.out m h (by have := HL.out; omega)))
    go_wp2_with fail
    go_ret
    exact ⟨by simp [Tm.deep, HF.out], rfl⟩

mutual
def Tm.down : Tm → Int → Int
 | .mk _ _ _ ks, l => Tm.downAll ks (l - 1)
def Tm.downAll : List Tm → Int → Int
 | [], l => l
 | t :: ts, l => if l < 0 then l else Tm.downAll ts (t.down l)
end
mutual
theorem Tm.down_eq : ∀ (t : Tm) (l : Int), 0 ≤ l → t.down l = max (l - t.sz) (-1)
 | .mk op f n ks, l, hl => by
  rw [Tm.down, Tm.downAll_eq ks (l - 1) (by omega)]
  simp only [Tm.sz, Int.natCast_add]
  omega
theorem Tm.downAll_eq : ∀ (ks : List Tm) (l : Int), -1 ≤ l → Tm.downAll ks l = max (l - Tm.szAll ks) (-1)
 | [], l, hl => by
  simp only [Tm.downAll, Tm.szAll]
  omega
 | t :: ts, l, hl => by
  have hp := t.sz_pos
  simp only [Tm.szAll, Int.natCast_add]
  by_cases h : l < 0
  ·rw [Tm.downAll, if_pos h]
   omega
  ·rw [Tm.downAll, if_neg h, Tm.down_eq t l (by omega), Tm.downAll_eq ts _ (by omega)]
   omega
end
theorem Tm.downAll_take : ∀ (ks : List Tm) (l : Int) (j : Nat) (h : j < ks.length), 0 ≤ Tm.downAll (ks.take j) l → Tm.downAll (ks.take (j + 1)) l = (ks[j]).down (Tm.downAll (ks.take j) l)
 | t :: ts, l, 0, _, h0 => by
  rw [List.getElem_cons_zero]
  simp only [List.take_zero, Tm.downAll] at h0
  simp only [List.take_succ_cons, List.take_zero, Tm.downAll]
  rw [if_neg (by omega)]
 | t :: ts, l, j + 1, hj, h0 => by
  rw [List.getElem_cons_succ]
  simp only [List.take_succ_cons, Tm.downAll] at h0 ⊢
  split
  ·rename_i hl; rw [if_pos hl] at h0; omega
  ·rename_i hl; rw [if_neg hl] at h0
   exact Tm.downAll_take ts _ j (by simpa using hj) h0
theorem Tm.downAll_stop : ∀ (ks : List Tm) (l : Int) (j : Nat), Tm.downAll (ks.take j) l < 0 → Tm.downAll ks l = Tm.downAll (ks.take j) l
 | [], l, j, _ => by simp
 | t :: ts, l, 0, h => by simp only [List.take_zero, Tm.downAll] at h ⊢; rw [if_pos h]
 | t :: ts, l, j + 1, h => by
  simp only [List.take_succ_cons, Tm.downAll] at h ⊢
  split
  ·rfl
  ·rename_i hl; rw [if_neg hl] at h
   exact Tm.downAll_stop ts _ j h
theorem Tm.downAll_le (ks : List Tm) (l : Int) (hl : -1 ≤ l) : -1 ≤ Tm.downAll ks l ∧ Tm.downAll ks l ≤ l := by
 rw [Tm.downAll_eq ks l hl]
 omega

set_option maxHeartbeats 1000000 in
theorem down_aux (m : Nat) : ∀ (t : Tm) (l : Int) (b o lb db : Nat) (w0 w : World), t.sz ≤ m → 0 ≤ l → l ≤ 4096 → t.At w0 b o → Ext w0 w → w0.heap.size ≤ lb → w0.heap.size ≤ db → lb ≠ db →
  w.cell? ⟨lb, 0, none⟩ = some (.int .i64 l) → w.frozen? ⟨lb, 0, none⟩ = false → w.cell? ⟨db, 0, none⟩ = some (.func (.func 90) #[] #[.pointer (some ⟨lb, 0, none⟩), .pointer (some ⟨db, 0, none⟩)]) →
  Calls Tryz.prog 90 #[.pointer (some ⟨b, o, none⟩), .pointer (some ⟨lb, 0, none⟩), .pointer (some ⟨db, 0, none⟩)] w fun e w' => e = .returned (.tuple #[]) ∧ Ext w0 w' ∧
   w'.cell? ⟨lb, 0, none⟩ = some (.int .i64 (t.down l)) ∧ w'.frozen? ⟨lb, 0, none⟩ = false ∧ w'.cell? ⟨db, 0, none⟩ = some (.func (.func 90) #[] #[.pointer (some ⟨lb, 0, none⟩), .pointer (some ⟨db, 0, none⟩)]) := by
 induction m with
 | zero => intro t _ _ _ _ _ _ _ hm; have := t.sz_pos; omega
 | succ m ih =>
  intro t l b o lb db w0 w hm hl0 hl1 h hx hlb hdb hne cl fl cd
  cases t with | mk op f n ks =>
  have IH := Hd ih
  have HM := Hd (fun i h => Tm.sz_kid hm i h)
  clear ih hm
  obtain ⟨_, _, _, _, _, _, p, len, cap, c3, hlen, hlc, hcm, hks⟩ := h
  have HL := Hd hlen
  clear hlen
  have hb := World.block_lt_of_cell? w0 _ c3
  have hbn : b ≠ lb := by simp at hb; omega
  have C3 := Hd c3
  have d3 := hx.later _ _ c3
  have HX := Hd hx
  go_enter Tryz.func90, Tryz.ntmps90
  go_wp2_with fail
  go_loopw [12] (fun i wr => ∃ j : Nat, j ≤ len ∧ i = .int .i64 j ∧ Ext w0 wr ∧ wr.cell? ⟨lb, 0, none⟩ = some (.int .i64 (Tm.downAll (ks.take j) (l - 1))) ∧ wr.frozen? ⟨lb, 0, none⟩ = false ∧
    wr.cell? ⟨db, 0, none⟩ = some (.func (.func 90) #[] #[.pointer (some ⟨lb, 0, none⟩), .pointer (some ⟨db, 0, none⟩)])) (fun i _ => len - (intOf i).toNat)
  case atStart => exact ⟨0, Nat.zero_le _, rfl, HX.out.andSet hlb _, by simp [Tm.downAll, World.cell?_setCell_same _ _ _ cl], by simpa using fl, by rw [World.cell?_setCell_other _ _ _ _ (by simp)]; exact cd⟩
  case round =>
   obtain ⟨j, hj, rfl, hxr, el, fl', ed⟩ := hrel
   have e3 := hxr.later _ _ C3.out
   have hle := Tm.downAll_le (ks.take j) (l - 1) (by omega)
   by_cases hlt : j < len
   ·have hjl : j < ks.length := by rw [← HL.out]; exact hlt
    by_cases hneg : Tm.downAll (ks.take j) (l - 1) < 0
    ·have HF := Hd ((show (Tm.mk op f n ks).down l = _ from by rw [Tm.down]).trans (Tm.downAll_stop ks (l - 1) j hneg))
     generalize Tm.downAll (ks.take j) (l - 1) = x at *
     go_wp2_with fail
     refine bodyPost_ret (results_none rfl _ _ _) rfl ?_
     exact ⟨rfl, hxr, by rw [HF.out]; exact el, fl', ed⟩
    ·have HT := Hd (Tm.downAll_take ks (l - 1) j hjl (by omega))
     rcases hks with hks | ⟨b', o', rfl, hall⟩
     ·exfalso; subst hks; simp at hjl
     have IHj := Hd (IH.out (ks[j]) (Tm.downAll (ks.take j) (l - 1)) b' (o' + j * 4) lb db w0 wr.drew (HM.out j hjl) (by omega) (by omega) (Tm.AllAt_get hall j hjl) hxr.andDrew hlb hdb hne el fl' ed)
     generalize Tm.downAll (ks.take j) (l - 1) = x at *
     generalize (ks[j]).down x = y at *
     go_wp2_with fail
     go_region_held3 (fun w' => w'.cell? ⟨b, o + 3, none⟩ = some (.slice (some ⟨b', o', none⟩) len cap) ∧ w'.cell? ⟨db, 0, none⟩ = some (.func (.func 90) #[] #[.pointer (some ⟨lb, 0, none⟩), .pointer (some ⟨db, 0, none⟩)])) (first | exact ⟨hx'.later _ _ C3.out, ed'⟩ | go_keep) (first | (go_at_call 90; refine IHj.out.mono ?_; rintro e w' ⟨rfl, hx', el', fl'', ed'⟩))
     all_goals
      go_wp2_with fail
      go_roundw
      case rel => exact ⟨j + 1, by omega, by go_num, hx', by rw [HT.out]; exact el', fl'', ed'⟩
      case measure => simp [intOf]; omega
   ·have HF := Hd (show (Tm.mk op f n ks).down l = Tm.downAll (ks.take j) (l - 1) from by rw [Tm.down, List.take_of_length_le (by have := HL.out; omega)])
    go_wp2_with fail
    go_end0
    exact ⟨rfl, hxr, by rw [HF.out]; exact el, fl', ed⟩

theorem Tm.downAll_take' (ks : List Tm) (l : Int) (j : Nat) (h : j < ks.length) : Tm.downAll (ks.take (j + 1)) l = if 0 ≤ Tm.downAll (ks.take j) l then (ks[j]).down (Tm.downAll (ks.take j) l) else Tm.downAll (ks.take j) l := by
 split
 ·exact Tm.downAll_take ks l j h (by assumption)
 ·rename_i hn
  rw [← Tm.downAll_stop ks l j (by omega)]
  have : Tm.downAll ((ks.take (j + 1)).take j) l < 0 := by rw [List.take_take, Nat.min_eq_left (by omega)]; omega
  rw [Tm.downAll_stop (ks.take (j + 1)) l j this, List.take_take, Nat.min_eq_left (by omega), ← Tm.downAll_stop ks l j (by omega)]

set_option maxHeartbeats 1000000 in
theorem size_any (ks : List Tm) (v : Value) (w : World) (hv : Tms w ks v) :
    Calls Tryz.prog 51 #[.int .i64 4096, v] w fun e w' => e = .returned (.int .i64 (Tm.downAll ks 4096)) ∧ Ext w w' := by
  obtain ⟨p, len, cap, rfl, hlen, hlc, hcm, hks⟩ := hv
  have HL := Hd hlen
  clear hlen
  go_enter Tryz.func51, Tryz.ntmps51
  go_wp2_with fail
  go_loopw [10] (fun i wr => ∃ j : Nat, j ≤ len ∧ i = .int .i64 j ∧ Ext w wr ∧ wr.cell? ⟨w.heap.size, 0, none⟩ = some (.int .i64 (Tm.downAll (ks.take j) 4096)) ∧ wr.frozen? ⟨w.heap.size, 0, none⟩ = false ∧
        wr.cell? ⟨w.heap.size + 1, 0, none⟩ = some (.func (.func 90) #[] #[.pointer (some ⟨w.heap.size, 0, none⟩), .pointer (some ⟨w.heap.size + 1, 0, none⟩)])) (fun i _ => len - (intOf i).toNat)
  case atStart => exact ⟨0, Nat.zero_le _, rfl, (Ext.alloc _ _).andAlloc _, by simp [Tm.downAll, go_sem], by simp [go_sem], by simp [go_sem]⟩
  case round =>
    obtain ⟨j, hj, rfl, hxr, el, fl, ed⟩ := hrel
    have hle := Tm.downAll_le (ks.take j) 4096 (by omega)
    by_cases hlt : j < len
    · have hjl : j < ks.length := by rw [← HL.out]; exact hlt
      rcases hks with hks | ⟨b', o', rfl, hall⟩
      · exfalso; subst hks; simp at hjl
      have HT := Hd (Tm.downAll_take' ks 4096 j hjl)
      by_cases hneg : Tm.downAll (ks.take j) 4096 < 0
      · have HF := Hd (HT.out.trans (if_neg (by omega)))
        generalize Tm.downAll (ks.take j) 4096 = x at *
        go_wp2_with fail
        go_roundw
        case rel => exact ⟨j + 1, by omega, by go_num, hxr, by rw [HF.out]; exact el, fl, ed⟩
        case measure => simp [intOf]; omega
      · have HF := Hd (HT.out.trans (if_pos (by omega)))
        have IHj := Hd (down_aux (ks[j]).sz (ks[j]) (Tm.downAll (ks.take j) 4096) b' (o' + j * 4) w.heap.size (w.heap.size + 1) w wr.drew (Nat.le_refl _) (by omega) (by omega) (Tm.AllAt_get hall j hjl) hxr.andDrew (Nat.le_refl _) (by omega) (by omega) el fl ed)
        generalize Tm.downAll (ks.take j) 4096 = x at *
        generalize (ks[j]).down x = y at *
        go_wp2_with fail
        go_region_held3 (fun w' => w'.cell? ⟨w.heap.size + 1, 0, none⟩ = some (.func (.func 90) #[] #[.pointer (some ⟨w.heap.size, 0, none⟩), .pointer (some ⟨w.heap.size + 1, 0, none⟩)])) (first | exact ed' | go_keep) (first | (go_at_call 90; refine IHj.out.mono ?_; rintro e w' ⟨rfl, hx', el', fl'', ed'⟩))
        all_goals
          go_wp2_with fail
          go_roundw
          case rel => exact ⟨j + 1, by omega, by go_num, hx', by rw [HF.out]; exact el', fl'', ed'⟩
          case measure => simp [intOf]; omega
    · have HF := Hd (show Tm.downAll ks 4096 = Tm.downAll (ks.take j) 4096 from by rw [List.take_of_length_le (by have := HL.out; omega)])
      go_wp2_with fail
      go_ret
      exact ⟨by rw [HF.out]; rfl, hxr⟩

/-- are terms too many, or too deep? -/
def bigB (ks : List Tm) : Bool := decide (Tm.downAll ks 4096 < 0) || Tm.deepAny ks 128
theorem bigB_deep {ks : List Tm} (h : ¬ Tm.downAll ks 4096 < 0) : bigB ks = Tm.deepAny ks 128 := by simp [bigB, h]

set_option maxHeartbeats 1000000 in
theorem big_any (ks : List Tm) (v : Value) (w : World) (hv : Tms w ks v) :
  Calls Tryz.prog 34 #[v] w fun e w' => e = .returned (.bool (bigB ks)) ∧ Ext w w' := by
 have HS := Hd (size_any ks v w hv)
 obtain ⟨p, len, cap, rfl, hlen, hlc, hcm, hks⟩ := hv
 have HL := Hd hlen
 clear hlen
 go_enter Tryz.func34, Tryz.ntmps34
 go_wp2_with fail
 refine HS.out.mono ?_
 rintro e w1 ⟨rfl, hx⟩
 by_cases hneg : Tm.downAll ks 4096 < 0
 ·have HF := Hd (show bigB ks = true from by simp [bigB, hneg])
  generalize Tm.downAll ks 4096 = x at *
  go_wp2_with fail
  go_ret
  exact ⟨by rw [HF.out]; rfl, hx⟩
 have HB := Hd (bigB_deep hneg)
 generalize Tm.downAll ks 4096 = x at *
 go_wp2_with fail
 go_loop [9] (fun i => ∃ j : Nat, j ≤ len ∧ i = .int .i64 j ∧ Hid (∀ m (h : m < ks.length), m < j → (ks[m]).deep 128 = false)) (fun i => len - (intOf i).toNat)
 case atStart => exact ⟨0, Nat.zero_le _, rfl, fun m h hm => by omega⟩
 case round =>
  obtain ⟨j, hj, rfl, hd⟩ := hrel
  by_cases hlt : j < len
  ·have hjl : j < ks.length := by rw [← HL.out]; exact hlt
   rcases hks with hks | ⟨b', o', rfl, hall⟩
   ·exfalso; subst hks; simp at hjl
   have IH := Hd (deep_any 128 (ks[j]) w1 b' (o' + j * 4) (by omega) ((Tm.AllAt_get hall j hjl).later hx.later))
   go_wp2_with fail
   refine IH.out.mono ?_
   rintro e w' ⟨rfl, rfl⟩
   cases hv : (ks[j]).deep 128 with
   | true =>
    have HF := Hd (HB.out.trans (Tm.deepAny_true j hjl hv))
    clear hv
    go_wp2_with fail
    go_ret
    exact ⟨by rw [HF.out]; rfl, hx⟩
   | false =>
    have HF := Hd hv
    clear hv
    go_wp2_with fail
    go_round
    case rel => exact ⟨j + 1, by omega, by go_num, fun m h hm => by
     rcases Nat.lt_succ_iff_lt_or_eq.1 hm with h1 | rfl
     ·exact hd.out m h h1
     ·exact HF.out⟩
    case measure => simp [intOf]; omega
  ·have HF := Hd (HB.out.trans (Tm.deepAny_false (fun m h => hd.out m h (by have := HL.out; omega))))
   go_wp2_with fail
   go_ret
   exact ⟨by rw [HF.out]; rfl, hx⟩
end Go.Proofs.YtjjbdbklbghlhaaGreatDoor
/- policy.Pred and policy.Check where there are no queries. -/
namespace Go.Proofs.YtjjbdbklbghlhaaGreatDoor
open Go.RowKit
set_option linter.unusedSimpArgs false

def predT (t : Tm) : Int := if bigB [t] then 200 else if t.right true then 0 else 170
def checkT (t : Tm) : Int := if bigB [t] then 200 else if t.right false then 0 else 170

set_option maxHeartbeats 1000000 in
theorem pred_any (t : Tm) (v : Value) (w : World) (hv : t.Val w v) :
  Calls Tryz.prog 19 #[v] w fun e w' => e = .returned (.int .i64 (predT t)) ∧ Ext w w' := by
 have HV := Hd hv
 obtain ⟨cs, rfl, s, rfl, -, -, -, p, len, cap, rfl, -⟩ := hv
 go_enter Tryz.func19, Tryz.ntmps19
 go_wp2_with fail
 have hx1 : Ext w (w.alloc (.cells #[.int .i8 t.op, .int .i8 t.fld, .int .u64 t.n, .slice p len cap] 26)) := Ext.alloc _ _
 have hx2 : Ext w ((w.alloc (.cells #[.int .i8 t.op, .int .i8 t.fld, .int .u64 t.n, .slice p len cap] 26)).alloc (.cells #[.int .i8 t.op, .int .i8 t.fld, .int .u64 t.n, .slice p len cap] 26)) := hx1.andAlloc _
 have hat1 := (HV.out.later hx2.later).at (World.rangeAt.later (Ext.alloc _ _).later (rangeAt_new w _ _))
 have hat2 := (HV.out.later hx2.later).at (by have := rangeAt_new (w.alloc (.cells #[.int .i8 t.op, .int .i8 t.fld, .int .u64 t.n, .slice p len cap] 26)) #[.int .i8 t.op, .int .i8 t.fld, .int .u64 t.n, .slice p len cap] 26; rwa [World.size_alloc] at this)
 refine (big_any [t] _ _ ⟨_, _, _, rfl, rfl, Nat.le_refl _, by simp, .inr ⟨_, _, rfl, hat2, trivial⟩⟩).mono ?_
 rintro e w1 ⟨rfl, hx⟩
 have HR := Hd (right_any t true w.heap.size 0 w1 (hat1.later hx.later))
 have HX := Hd (hx2.trans hx)
 clear hat1 hat2 hx1 hx2 hx
 by_cases h : bigB [t] = true
 ·have HF := Hd (show predT t = 200 from by simp [predT, h])
  rw [h]
  clear h
  go_wp2_with fail
  go_ret
  exact ⟨by rw [HF.out]; rfl, HX.out⟩
 have HP := Hd (show predT t = if t.right true then 0 else 170 from by simp [predT, h])
 rw [show bigB [t] = false from by simpa using h]
 clear h
 go_wp2_with fail
 refine HR.out.mono ?_
 rintro e w2 ⟨rfl, hx⟩
 by_cases h : t.right true = true
 ·have HF := Hd (HP.out.trans (if_pos h))
  rw [h]
  clear h
  go_wp2_with fail
  go_ret
  exact ⟨by rw [HF.out]; rfl, HX.out.trans hx⟩
 ·have HF := Hd (HP.out.trans (if_neg h))
  rw [show t.right true = false from by simpa using h]
  clear h
  go_wp2_with fail
  go_ret
  exact ⟨by rw [HF.out]; rfl, HX.out.trans hx⟩

theorem rangeAt_take {w : World} {b o n : Nat} {cs : List Value} (h : w.rangeAt b o cs) : w.rangeAt b o (cs.take n) := fun j v hv => h j v (by
 rw [List.getElem?_take] at hv
 split at hv
 ·exact hv
 ·cases hv)

set_option maxHeartbeats 1000000 in
theorem check_any (t : Tm) (op f n s : Value) (w : World) (hv : t.Val w (.agg #[op, f, n, s])) :
  Calls Tryz.prog 24 #[.agg #[op, f, n, s, .slice none 0 0]] w fun e w' => e = .returned (.int .i64 (checkT t)) ∧ Ext w w' := by
 have HV := Hd hv
 obtain ⟨cs, hcs, s', rfl, -, -, -, p, len, cap, rfl, -⟩ := hv
 simp only [Value.agg.injEq, Array.mk.injEq, List.cons.injEq, and_true] at hcs
 obtain ⟨rfl, rfl, rfl, rfl⟩ := hcs
 go_enter Tryz.func24, Tryz.ntmps24
 go_wp2_with fail
 refine wp_loop_rounds 1 ?_
 rw [rounds_succ]
 go_wp2_with fail
 have hx1 : Ext w (w.alloc (.cells #[.int .i8 t.op, .int .i8 t.fld, .int .u64 t.n, .slice p len cap, .slice none 0 0] 59)) := Ext.alloc _ _
 have hx2 : Ext w ((w.alloc (.cells #[.int .i8 t.op, .int .i8 t.fld, .int .u64 t.n, .slice p len cap, .slice none 0 0] 59)).alloc (.cells #[.int .i8 t.op, .int .i8 t.fld, .int .u64 t.n, .slice p len cap] 26)) := hx1.andAlloc _
 have hat1 := (HV.out.later hx2.later).at (World.rangeAt.later (Ext.alloc _ _).later (rangeAt_take (n := 4) (rangeAt_new w #[.int .i8 t.op, .int .i8 t.fld, .int .u64 t.n, .slice p len cap, .slice none 0 0] 59)))
 have hat2 := (HV.out.later hx2.later).at (by have := rangeAt_new (w.alloc (.cells #[.int .i8 t.op, .int .i8 t.fld, .int .u64 t.n, .slice p len cap, .slice none 0 0] 59)) #[.int .i8 t.op, .int .i8 t.fld, .int .u64 t.n, .slice p len cap] 26; rwa [World.size_alloc] at this)
 refine (big_any [t] _ _ ⟨_, _, _, rfl, rfl, Nat.le_refl _, by simp, .inr ⟨_, _, rfl, hat2, trivial⟩⟩).mono ?_
 rintro e w1 ⟨rfl, hx⟩
 have HR := Hd (right_any t false w.heap.size 0 w1 (hat1.later hx.later))
 have HX := Hd (hx2.trans hx)
 have h4 : w1.cell? ⟨w.heap.size, 4, none⟩ = some (.slice none 0 0) := hx.later _ _ (by simp [go_sem])
 clear hat1 hat2 hx1 hx2 hx
 by_cases h : bigB [t] = true
 ·have HF := Hd (show checkT t = 200 from by simp [checkT, h])
  rw [h]
  clear h
  go_wp2_with fail
  go_ret
  exact ⟨by rw [HF.out]; rfl, HX.out⟩
 have HP := Hd (show checkT t = if t.right false then 0 else 170 from by simp [checkT, h])
 rw [show bigB [t] = false from by simpa using h]
 clear h
 go_wp2_with fail
 refine HR.out.mono ?_
 rintro e w2 ⟨rfl, hx⟩
 have h5 := hx.later _ _ h4
 have hlt2 : w.heap.size < w2.heap.size := World.block_lt_of_cell? w2 _ h5
 by_cases h : t.right false = true
 ·have HF := Hd (HP.out.trans (if_pos h))
  have hmm := @run_makeMap Tryz.prog
  rw [h]
  clear h
  go_wp2_with fail
  refine wp_loop_rounds 1 ?_
  rw [rounds_succ]
  go_wp2_with fail
  go_ret
  exact ⟨by rw [HF.out]; rfl, (HX.out.trans hx).andAlloc _⟩
 ·have HF := Hd (HP.out.trans (if_neg h))
  rw [show t.right false = false from by simpa using h]
  clear h
  go_wp2_with fail
  go_ret
  exact ⟨by rw [HF.out]; rfl, HX.out.trans hx⟩
end Go.Proofs.YtjjbdbklbghlhaaGreatDoor
/- meaning.holds: whether a right predicate holds of a header; slices.ContainsFunc at terms. -/
namespace Go.Proofs.YtjjbdbklbghlhaaGreatDoor
open Go.RowKit
set_option linter.unusedSimpArgs false

/-- a term out of the place where it lies -/
theorem wpList_load_T {ops : Array Oper} {rest : List Oper} {op : Oper} {a : Act} {w : World} {Q : Exit → Act → World → Prop} (hgd : op.guard = none) (x : Operand) (ho : op.op = .load 26 x)
  (b o : Nat) (hx : a.eval x = .pointer (some ⟨b, o, none⟩)) (t : Tm) (h : t.At w b o)
  (hK : ∀ cs : Array Value, t.Val w (.agg cs) → w.rangeAt b o cs.toList → cs.size = 4 → wpList Tryz.prog ops Q rest (a.put op.dst (.agg cs)) w) : wpList Tryz.prog ops Q (op :: rest) a w := by
 obtain ⟨cs, h1, h2, h3⟩ := h.val
 exact wpList_load_mid hgd 26 x ho b o hx cs.toList _ h2 Tryz.underlying26 rfl (by rw [Array.length_toList, h3]; kernel_rfl) (by rw [Array.toArray_toList]; exact hK cs h1 h2 h3)

def Idx (n : Nat) (q : Nat → Bool) (e : Ending) : Prop := (∃ j : Nat, j < n ∧ q j = true ∧ e = .returned (.int .i64 j)) ∨ ((∀ j, j < n → q j = false) ∧ e = .returned (.int .i64 (-1)))

set_option maxHeartbeats 1000000 in
set_option maxRecDepth 100000 in
theorem indexFunc_any (g : Nat) (c : Value) (eg : ∀ args w, (callFunc g args).run Tryz.prog w = .ok (.enter g args) w) (ks : List Tm) (q : Nat → Bool) (v : Value) (w : World) (hv : Tms w ks v)
  (hcall : ∀ (i : Nat) (h : i < ks.length) (cs : Array Value) (W : World), cs.size = 4 → (ks[i]).Val W (.agg cs) → Ext w W → Calls Tryz.prog g #[.agg cs, c] W fun e w' => e = .returned (.bool (q i)) ∧ Ext W w') :
  Calls Tryz.prog 124 #[v, .func (.func g) #[] #[c]] w fun e w' => Idx ks.length q e ∧ Ext w w' := by
 obtain ⟨p, len, cap, rfl, hlen, hlc, hcm, hks⟩ := hv
 have HL := Hd hlen
 have HC := Hd hcall
 clear hlen hcall
 go_enter Tryz.func124, Tryz.ntmps124
 go_wp2_with fail
 go_loopw [8] (fun i wr => ∃ j : Nat, j ≤ len ∧ i = .int .i64 j ∧ Hid (∀ m, m < j → q m = false) ∧ Hid (Ext w wr)) (fun i _ => len - (intOf i).toNat)
 case atStart => exact ⟨0, Nat.zero_le _, rfl, fun m hm => by omega, Ext.refl _⟩
 case round =>
  rename_i wr
  obtain ⟨j, hj, rfl, hd, hx⟩ := hrel
  by_cases hlt : j < len
  ·rcases hks with hks | ⟨b', o', rfl, hall⟩
   ·exfalso; have := HL.out; subst hks; simp at this; omega
   have hjl : j < ks.length := by rw [← HL.out]; exact hlt
   have HA := Hd ((Tm.AllAt_get hall j hjl).later hx.out.later)
   have HCj := Hd (fun cs W h0 h1 h2 => HC.out j hjl cs W h0 h1 h2)
   clear hall
   go_wp2_with (refine wpList_load_T rfl _ rfl b' (o' + j * 4) rfl _ HA.out ?_; intro cs hv hr hsz)
   refine (HCj.out cs wr hsz hv hx.out).mono ?_
   rintro e w1 ⟨rfl, hx1⟩
   cases hq : q j with
   | true =>
    have HF := Hd hq
    clear hq
    go_wp2_with fail
    go_ret
    exact ⟨.inl ⟨j, by rw [← HL.out]; exact hlt, HF.out, rfl⟩, hx.out.trans hx1⟩
   | false =>
    have HF := Hd hq
    clear hq
    go_wp2_with fail
    go_roundw
    case rel => exact ⟨j + 1, by omega, by go_num, fun m hm => by
     rcases Nat.lt_succ_iff_lt_or_eq.1 hm with h1 | rfl
     ·exact hd.out m h1
     ·exact HF.out, hx.out.trans hx1⟩
    case measure => simp [intOf]; omega
  ·go_wp2_with fail
   go_ret
   exact ⟨.inr ⟨fun m hm => hd.out m (by have := HL.out; omega), rfl⟩, hx.out⟩

set_option maxHeartbeats 1000000 in
theorem containsFunc_any (g : Nat) (c : Value) (eg : ∀ args w, (callFunc g args).run Tryz.prog w = .ok (.enter g args) w) (ks : List Tm) (q : Nat → Bool) (v : Value) (w : World) (hv : Tms w ks v)
  (hcall : ∀ (i : Nat) (h : i < ks.length) (cs : Array Value) (W : World), cs.size = 4 → (ks[i]).Val W (.agg cs) → Ext w W → Calls Tryz.prog g #[.agg cs, c] W fun e w' => e = .returned (.bool (q i)) ∧ Ext W w')
  (r : Bool) (h1 : (∃ j, j < ks.length ∧ q j = true) → r = true) (h2 : (∀ j, j < ks.length → q j = false) → r = false) :
  Calls Tryz.prog 97 #[v, .func (.func g) #[] #[c]] w fun e w' => e = .returned (.bool r) ∧ Ext w w' := by
 have HC := Hd (indexFunc_any g c eg ks q v w hv hcall)
 have H1 := Hd h1
 have H2 := Hd h2
 clear hcall hv h1 h2
 go_enter Tryz.func97, Tryz.ntmps97
 go_wp2_with fail
 refine HC.out.mono ?_
 rintro e w1 ⟨⟨j, hj, hq, rfl⟩ | ⟨hq, rfl⟩, hx⟩
 ·have HF := Hd (H1.out ⟨j, hj, hq⟩)
  clear hq
  go_wp2_with fail
  go_ret
  exact ⟨by rw [HF.out]; rfl, hx⟩
 ·have HF := Hd (H2.out hq)
  clear hq
  go_wp2_with fail
  go_ret
  exact ⟨by rw [HF.out]; rfl, hx⟩
end Go.Proofs.YtjjbdbklbghlhaaGreatDoor
/- 'for k, v := range m' over a map that the round does not write. -/
namespace Go.Proofs.YtjjbdbklbghlhaaGreatDoor
open Go.RowKit Go.Maps
set_option linter.unusedSimpArgs false

/-- block r is an iterator over block b, a map that holds m; done has come out, in this order -/
def Ranging (w : World) (r b : Nat) (m done : List (Value × Value)) : Prop :=
 ∃ es clock seen, w.heap[r]? = some (.mapIter (some b) clock seen clock) ∧ w.heap[b]? = some (.map es clock) ∧ es.toList.map (fun e => (e.key, e.val)) = m ∧
  (∀ e ∈ es.toList, e.born < clock) ∧ (es.toList.map (·.born)).Nodup ∧ (done ++ ((leftOf es seen).toList.map fun e => (e.key, e.val))).Perm m ∧ (∀ x ∈ seen.toList, x ∈ es.toList.map (·.born))

theorem nodup_of_map {α β : Type} {f : α → β} {l : List α} (h : (l.map f).Nodup) : l.Nodup := (List.pairwise_map.1 h).imp (fun hne he => hne (by rw [he]))
theorem inj_of_nodup_map {α β : Type} {f : α → β} : ∀ {l : List α}, (l.map f).Nodup → ∀ {x y : α}, x ∈ l → y ∈ l → f x = f y → x = y
 | a :: r, h, x, y, hx, hy, he => by
  rw [List.map_cons, List.nodup_cons] at h
  rcases List.mem_cons.1 hx with hxa | hxr
  ·rcases List.mem_cons.1 hy with hya | hyr
   ·rw [hxa, hya]
   ·exact absurd (List.mem_map.2 ⟨y, hyr, by rw [← he, hxa]⟩) h.1
  ·rcases List.mem_cons.1 hy with hya | hyr
   ·exact absurd (List.mem_map.2 ⟨x, hxr, by rw [he, hya]⟩) h.1
   ·exact inj_of_nodup_map h.2 hxr hyr he
theorem leftOf_toList (es : Array MapEntry) (seen : Array Nat) : (leftOf es seen).toList = es.toList.filter fun e => !seen.contains e.born := by simp [leftOf]

theorem Ranging.map {w : World} {r b : Nat} {m done : List (Value × Value)} (h : Ranging w r b m done) : MapRaw w b m := by
 obtain ⟨es, clock, seen, -, hb, hm, hbo, hn, -⟩ := h
 exact ⟨es, clock, hb, hm, hbo, hn⟩
theorem Ranging.lt {w : World} {r b : Nat} {m done : List (Value × Value)} (h : Ranging w r b m done) : r < w.heap.size := by
 obtain ⟨es, clock, seen, hr, _⟩ := h
 exact (Array.getElem?_eq_some_iff.1 hr).1
theorem Ranging.kept {w w' : World} {r b : Nat} {m done : List (Value × Value)} (h : Ranging w r b m done) (hr : w'.heap[r]? = w.heap[r]?) (hb : w'.heap[b]? = w.heap[b]?) : Ranging w' r b m done := by
 obtain ⟨es, clock, seen, h1, h2, rest⟩ := h
 exact ⟨es, clock, seen, hr.trans h1, hb.trans h2, rest⟩
theorem Ranging.ext {w w' : World} {r b : Nat} {m done : List (Value × Value)} (h : Ranging w r b m done) (hx : Ext w w') : Ranging w' r b m done := h.kept (Below.block hx r h.lt) (Below.block hx b h.map.lt)

theorem run_range_of {P : Program} {t k e : TypeId} (ht : P.underlying t = some (.map k e)) {w : World} {b : Nat} {m : List (Value × Value)} (h : MapRaw w b m) :
  ∃ w', (Instr.range t (.map (some b))).run P w = .ok (.pointer (some ⟨w.heap.size, 0, none⟩)) w' ∧ Ranging w' w.heap.size b m [] ∧ Ext w w' := by
 obtain ⟨es, clock, hb, hm, hbo, hn⟩ := h
 have hbl : b < w.heap.size := (Array.getElem?_eq_some_iff.1 hb).1
 refine ⟨w.alloc (.mapIter (some b) clock #[] clock), ?_, ⟨es, clock, #[], heap_alloc_new w _, ((Below.block (Ext.alloc w (.mapIter (some b) clock #[] clock)) b hbl)).trans hb, hm, hbo, hn, ?_, by simp⟩, Ext.alloc _ _⟩
 ·simp only [Instr.range, Sem.run_bind, run_underlying ht, getObj, Sem.run, hb, Result.andThen, Sem.run_pure]
  rfl
 ·rw [List.nil_append, leftOf_toList, ← hm]
  have : es.toList.filter (fun e => !(#[] : Array Nat).contains e.born) = es.toList := List.filter_eq_self.2 (fun _ _ => by simp)
  rw [this]

theorem run_next_of {P : Program} {w : World} {r b : Nat} {m done : List (Value × Value)} (h : Ranging w r b m done) (ty : TypeId) :
  (done.Perm m ∧ (Instr.next (.pointer (some ⟨r, 0, none⟩)) false ty).run P w = .ok (.tuple #[.bool false]) w) ∨
  ∃ p w', done.length < m.length ∧ (Instr.next (.pointer (some ⟨r, 0, none⟩)) false ty).run P w = .ok (.tuple #[.bool true, p.1, p.2]) w' ∧ Ranging w' r b m (done ++ [p]) ∧ w.grownBy w' (some r) ∧
   (∀ W : World, W.heap[r]? = w'.heap[r]? → W.heap[b]? = w'.heap[b]? → (Instr.entry (.pointer (some ⟨r, 0, none⟩))).run P W = .ok (.tuple #[p.1, p.2]) W) := by
 obtain ⟨es, clock, seen, hr, hb, hm, hbo, hn, hp, hs⟩ := h
 rcases run_next_at (P := P) w ty r b clock clock seen es clock hr hb hbo (Nat.le_refl _) with ⟨h0, hrun⟩ | ⟨e, he, w1, hw1, hrun⟩
 ·refine .inl ⟨?_, hrun⟩
  have : leftOf es seen = #[] := Array.eq_empty_of_size_eq_zero h0
  rw [this] at hp
  simpa using hp
 ·have hee : e ∈ es.toList := by unfold leftOf at he; simp at he ⊢; exact he.1
  have hrb : r ≠ b := fun e => by rw [e, hb] at hr; cases hr
  have hr1 : w1.heap[r]? = some (.mapIter (some b) clock seen clock) := by rcases hw1 with rfl | rfl <;> exact hr
  have hb1 : w1.heap[b]? = some (.map es clock) := by rcases hw1 with rfl | rfl <;> exact hb
  have hrl : r < w1.heap.size := (Array.getElem?_eq_some_iff.1 hr1).1
  have hset : (ChangeMaps.setBlock w1 r (.mapIter (some b) clock (seen.push e.born) clock)).heap[r]? = some (.mapIter (some b) clock (seen.push e.born) clock) := by simp [ChangeMaps.setBlock, hrl]
  have hsetb : (ChangeMaps.setBlock w1 r (.mapIter (some b) clock (seen.push e.born) clock)).heap[b]? = some (.map es clock) := by simp [ChangeMaps.setBlock, hrb, hb1]
  have hleft : ((leftOf es seen).toList).Perm (e :: (leftOf es (seen.push e.born)).toList) := by
   have hnl : ((leftOf es seen).toList).Nodup := by
    rw [leftOf_toList]
    exact List.Pairwise.filter _ (nodup_of_map hn)
   rw [List.perm_ext_iff_of_nodup hnl ?_]
   ·intro x
    rw [leftOf_toList, leftOf_toList]
    simp only [List.mem_filter, List.mem_cons, Array.contains_push]
    constructor
    ·rintro ⟨hx, hc⟩
     by_cases hxe : x = e
     ·exact .inl hxe
     ·refine .inr ⟨hx, ?_⟩
      have hb' : x.born ≠ e.born := fun hbe => hxe (inj_of_nodup_map hn hx hee hbe)
      simp only [Bool.not_eq_true', Bool.or_eq_false_iff] at hc ⊢
      exact ⟨hc, by simpa using hb'⟩
    ·rintro (rfl | ⟨hx, hc⟩)
     ·rw [leftOf_toList, List.mem_filter] at he
      exact he
     ·simp only [Bool.not_eq_true', Bool.or_eq_false_iff] at hc ⊢
      exact ⟨hx, hc.1⟩
   ·refine List.nodup_cons.2 ⟨?_, ?_⟩
    ·unfold leftOf
     simp
    ·rw [leftOf_toList]
     exact List.Pairwise.filter _ (nodup_of_map hn)
  have hlen : done.length < m.length := by
   have := hp.length_eq
   have h2 := hleft.length_eq
   simp at this h2
   omega
  refine .inr ⟨(e.key, e.val), _, hlen, hrun, ⟨es, clock, seen.push e.born, hset, hsetb, hm, hbo, hn, ?_, ?_⟩, ?_, ?_⟩
  ·refine List.Perm.trans ?_ hp
   rw [List.append_assoc]
   refine List.Perm.append_left done ?_
   exact (hleft.map (fun e => (e.key, e.val))).symm
  ·intro x hx
   simp at hx
   rcases hx with hx | rfl
   ·exact hs x (by simpa using hx)
   ·exact List.mem_map_of_mem hee
  ·have h0 : w1.os = w.os ∧ w1.tape = w.tape ∧ w1.output = w.output ∧ w1.heap = w.heap := by rcases hw1 with rfl | rfl <;> exact ⟨rfl, rfl, rfl, rfl⟩
   refine ⟨h0.1, h0.2.1, h0.2.2.1, by simp [ChangeMaps.setBlock, h0.2.2.2], fun i hi hne => ?_⟩
   have hri : r ≠ i := fun e => hne (by rw [e])
   simp [ChangeMaps.setBlock, hri, h0.2.2.2]
  ·intro W hWr hWb
   exact run_entry_at W r b clock seen es clock e (hWr.trans hset) (hWb.trans hsetb) hee hn

section
variable {P : Program} {ops : Array Oper} {rest : List Oper} {o : Oper} {a : Act} {w : World} {Q : Exit → Act → World → Prop}
theorem wpList_range_run (hgd : o.guard = none) (t : TypeId) (x : Operand) (ho : o.op = .range t x) (vx v : Value) (w' : World) (hx : a.eval x = vx)
  (hrun : (Instr.range t vx).run P w = .ok v w') (h : wpList P ops Q rest (a.put o.dst v) w') : wpList P ops Q (o :: rest) a w :=
 wpList_plain hgd fun _ hK => by
  unfold Oper.wp execOp
  simp only [ho, hx, Sem.run_bind, hrun, Result.andThen_ok]
  exact hK _ _ h
theorem wpList_next_run (hgd : o.guard = none) (x : Operand) (s : Bool) (ho : o.op = .next x s) (vx v : Value) (w' : World) (hx : a.eval x = vx)
  (hrun : (Instr.next vx s o.type).run P w = .ok v w') (h : wpList P ops Q rest (a.put o.dst v) w') : wpList P ops Q (o :: rest) a w :=
 wpList_plain hgd fun _ hK => by
  unfold Oper.wp execOp
  simp only [ho, hx, Sem.run_bind, hrun, Result.andThen_ok]
  exact hK _ _ h
theorem wpList_entry_run (hgd : o.guard = none) (x : Operand) (ho : o.op = .entry x) (vx v : Value) (w' : World) (hx : a.eval x = vx)
  (hrun : (Instr.entry vx).run P w = .ok v w') (h : wpList P ops Q rest (a.put o.dst v) w') : wpList P ops Q (o :: rest) a w :=
 wpList_plain hgd fun _ hK => by
  unfold Oper.wp execOp
  simp only [ho, hx, Sem.run_bind, hrun, Result.andThen_ok]
  exact hK _ _ h
end
end Go.Proofs.YtjjbdbklbghlhaaGreatDoor
/- Sorted rows of headers, in plain words. -/
namespace Go.Proofs.YtjjbdbklbghlhaaGreatDoor
set_option linter.unusedSimpArgs false

theorem leH_trans (a b c : Hdr) (h : (!ltH b a) = true) (h' : (!ltH c b) = true) : (!ltH c a) = true := by
 simp only [Bool.not_eq_true'] at *
 exact swoH.ntrans c b a h' h
theorem leH_total (a b : Hdr) : ((!ltH b a) || (!ltH a b)) = true := by
 cases h : ltH a b with
 | false => simp
 | true => simp [ltH_asymm h]
theorem leH_anti {a b : Hdr} (h : (!ltH b a) = true) (h' : (!ltH a b) = true) : a = b := by
 simp only [Bool.not_eq_true'] at *
 exact ltH_conn h' h
theorem sortH_perm (l : List Hdr) : (sortH l).Perm l := List.mergeSort_perm _ _
theorem sortH_sorted (l : List Hdr) : (sortH l).Pairwise fun a b => (!ltH b a) = true := List.pairwise_mergeSort leH_trans leH_total l
theorem eq_of_sorted {l m : List Hdr} (h : l.Pairwise fun a b => (!ltH b a) = true) (h' : m.Pairwise fun a b => (!ltH b a) = true) (hp : l.Perm m) : l = m :=
 List.Perm.eq_of_pairwise (fun _ _ _ _ h h' => leH_anti h h') h h' hp
theorem sortH_congr {l m : List Hdr} (h : l.Perm m) : sortH l = sortH m :=
 eq_of_sorted (sortH_sorted l) (sortH_sorted m) ((sortH_perm l).trans (h.trans (sortH_perm m).symm))
theorem length_sortH (l : List Hdr) : (sortH l).length = l.length := List.length_mergeSort _
/-- in strict order -/
def Asc (l : List Hdr) : Prop := l.Pairwise fun a b => ltH a b = true
theorem Asc.le {l : List Hdr} (h : Asc l) : l.Pairwise fun a b => (!ltH b a) = true := h.imp (fun h => by simp [ltH_asymm h])
theorem Asc.nodup {l : List Hdr} (h : Asc l) : l.Nodup := h.imp (fun {a b} h e => by subst e; rw [ltH_irrefl] at h; cases h)
theorem Asc.of_nodup {l : List Hdr} (hs : l.Pairwise fun a b => (!ltH b a) = true) (hn : l.Nodup) : Asc l :=
 (hs.and hn).imp (fun {a b} h => by
  cases hab : ltH a b with
  | true => rfl
  | false => exact absurd (ltH_conn hab (by simpa using h.1)) h.2)
theorem asc_sortH {l : List Hdr} (h : l.Nodup) : Asc (sortH l) := Asc.of_nodup (sortH_sorted l) ((sortH_perm l).nodup_iff.2 h)
theorem Asc.ext {l m : List Hdr} (hl : Asc l) (hm : Asc m) (h : ∀ x, x ∈ l ↔ x ∈ m) : l = m :=
 eq_of_sorted hl.le hm.le ((List.perm_ext_iff_of_nodup hl.nodup hm.nodup).2 h)

theorem perm_of_map {α β : Type} {f : α → β} (hf : ∀ {x y}, f x = f y → x = y) {l m : List α} (h : (l.map f).Perm (m.map f)) : l.Perm m := by
 cases l with
 | nil => have := h.length_eq; simp at this; rw [List.length_eq_zero_iff.1 this.symm]
 | cons a r =>
  let g : β → α := fun b => @Classical.epsilon α ⟨a⟩ (fun x => f x = b)
  have hg : ∀ x, g (f x) = x := fun x => hf (@Classical.epsilon_spec α (fun y => f y = f x) ⟨x, rfl⟩)
  have := h.map g
  rw [List.map_map, List.map_map] at this
  have e : ∀ l : List α, l.map (g ∘ f) = l := fun l => by
   have : (g ∘ f) = id := funext hg
   rw [this, List.map_id]
  rwa [e, e] at this
end Go.Proofs.YtjjbdbklbghlhaaGreatDoor
/- meaning.set: add and list. -/
namespace Go.Proofs.YtjjbdbklbghlhaaGreatDoor
open Go.RowKit Go.Maps
set_option linter.unusedSimpArgs false

theorem mapM_some {α β : Type} {f : α → Option β} : ∀ (l : List α), (∀ x ∈ l, ∃ y, f x = some y) → ∃ ys, l.mapM f = some ys
 | [], _ => ⟨[], rfl⟩
 | x :: r, h => by
  obtain ⟨y, hy⟩ := h x List.mem_cons_self
  obtain ⟨ys, hys⟩ := mapM_some r (fun z hz => h z (List.mem_cons_of_mem _ hz))
  exact ⟨y :: ys, by simp [List.mapM_cons, hy, hys]⟩

theorem arrH : WideMaps.ArrKey Tryz.prog 49 23 11 := ⟨Tryz.underlying49, by kernel_rfl, by kernel_rfl, by kernel_rfl⟩
theorem typesS : ∃ m, Tryz.prog.types.size = m + 1 := ⟨_, rfl⟩
theorem keyH (h : Hdr) : ∃ l, keyOf Tryz.prog 49 (.agg h.cs) = some l := by
 have hkt := arrH.keyType typesS
 obtain ⟨m, hm⟩ := typesS
 unfold keyOf
 simp only [arrH.hu]
 rw [if_pos (by simp [hkt, Value.formed, arrH.hu, arrH.size, h.size_cs]), hm]
 unfold Program.keyLits
 simp only [arrH.hu, Value.cells]
 rw [if_pos (by rw [arrH.size]; simpa using h.size_cs)]
 obtain ⟨ys, hys⟩ := mapM_some (f := fun i => Tryz.prog.keyLits (m + 1) 23 ((h.cs.toList.drop (i * Tryz.prog.cellsOf 23)).take (Tryz.prog.cellsOf 23))) (List.range 11) (fun i hi => by
  have hi' : i < 11 := by simpa using hi
  have hc := h.cell i hi'
  have e1 : (h.cs.toList.drop (i * Tryz.prog.cellsOf 23)).take (Tryz.prog.cellsOf 23) = [.int .u64 (h.f i)] := by
   rw [arrH.one, Nat.mul_one, List.drop_eq_getElem_cons (by simp [h.size_cs]; exact hi')]
   have : h.cs.toList[i]'(by simp [h.size_cs]; exact hi') = .int .u64 (h.f i) := by
    have := hc
    rw [Array.getElem?_eq_getElem (by rw [h.size_cs]; exact hi')] at this
    simpa using this
   rw [this]
   rfl
  refine ⟨[.int .u64 (h.f i)], ?_⟩
  rw [e1]
  have hb := h.f_bd i
  have wf : (Lit.int .u64 (h.f i)).wf = true := by
   simp [Lit.wf, IntKind.min, IntKind.max, IntKind.bits, IntKind.signed]
   omega
  unfold Program.keyLits
  simp [Tryz.underlying23, wf])
 rw [hys]
 exact ⟨_, rfl⟩

def kvH (h : Hdr) : Value := .agg h.cs
theorem codedH : Coded Tryz.prog 49 kvH where
 keyed := Keyed.of_law arrH.law
 key := keyH
 inj := fun h => Hdr.cs_inj (by simpa [kvH] using h)

/-- block b is the set l -/
def SetIs (w : World) (b : Nat) (l : List Hdr) : Prop := MapOf w kvH (fun _ : Unit => Value.agg #[.bool true]) b (l.map fun h => (h, ())) ∧ l.Nodup
theorem SetIs.ext {w w' : World} {b : Nat} {l : List Hdr} (h : SetIs w b l) (hx : Ext w w') : SetIs w' b l := ⟨MapRaw.ext h.1 hx, h.2⟩
theorem SetIs.keep {S : Nat → Prop} {w w' : World} {b : Nat} {l : List Hdr} (h : SetIs w b l) (hx : Keep S w w') (hs : ¬ S b) : SetIs w' b l := ⟨MapRaw.kept h.1 (hx.block b (MapRaw.lt h.1) hs), h.2⟩
theorem SetIs.lt {w : World} {b : Nat} {l : List Hdr} (h : SetIs w b l) : b < w.heap.size := MapRaw.lt h.1
theorem SetIs.nd {w : World} {b : Nat} {l : List Hdr} (h : SetIs w b l) : ((l.map fun h => (h, ())).map (·.1)).Nodup := by
 rw [List.map_map]
 exact (by simpa using h.2 : (l.map fun h => h).Nodup)
theorem SetIs.made (w : World) : SetIs (w.alloc (.map #[] 0)) w.heap.size [] := ⟨MapRaw.made w, List.nodup_nil⟩
theorem look_set (x : Hdr) (l : List Hdr) : look x (l.map fun h => (h, ())) = if x ∈ l then some () else none := by
 induction l with
 | nil => rfl
 | cons y r ih =>
  simp only [List.map_cons, look, ih, List.mem_cons]
  by_cases h : y = x
  ·simp [h]
  ·have : ¬ x = y := fun e => h e.symm
   simp [h, this]
theorem store_set {x : Hdr} {l : List Hdr} (h : x ∉ l) : store x () (l.map fun h => (h, ())) = (l ++ [x]).map fun h => (h, ()) := by
 rw [store_new (by intro p hp; obtain ⟨y, hy, rfl⟩ := List.mem_map.1 hp; exact fun e => h (by rw [← e]; exact hy))]
 simp
theorem zeroS (w : World) : (zeroValue 121).run Tryz.prog w = .ok (.agg #[.bool false]) w := by kernel_rfl

theorem SetIs.look {w : World} {b : Nat} {l : List Hdr} (h : SetIs w b l) (x : Hdr) : (Instr.lookup 123 (.map (some b)) (.agg x.cs) false).run Tryz.prog w = .ok (.agg #[.bool (decide (x ∈ l))]) w := by
 have := run_lookup_of codedH Tryz.underlying123 h.1 h.nd x _ (zeroS w) false
 rw [look_set] at this
 by_cases hx : x ∈ l
 ·rw [if_pos hx] at this
  rw [decide_eq_true hx]
  exact this
 ·rw [if_neg hx] at this
  rw [decide_eq_false hx]
  exact this
theorem SetIs.put {w : World} {b : Nat} {l : List Hdr} (h : SetIs w b l) {x : Hdr} (hx : x ∉ l) : ∃ w', (Instr.mapUpdate 123 (.map (some b)) (.agg x.cs) (.agg #[.bool true])).run Tryz.prog w = .ok () w' ∧ SetIs w' b (l ++ [x]) ∧ Keep (· = b) w w' := by
  obtain ⟨w', h1, h2, h3⟩ := run_update_of codedH Tryz.underlying123 h.1 h.nd x ()
  rw [store_set hx] at h2
  exact ⟨w', h1, ⟨h2, by rw [List.nodup_append]; exact ⟨h.2, by simp, fun a ha b hb => by simp at hb; subst hb; exact fun e => hx (by rw [← e]; exact ha)⟩⟩, Keep.grown h3⟩
theorem SetIs.len {w : World} {b : Nat} {l : List Hdr} (h : SetIs w b l) (ty : TypeId) : (Builtin.len_ #[123] ty #[.map (some b)]).run Tryz.prog w = .ok (.int .i64 l.length) w := by
 obtain ⟨es, clock, hb, hm, -⟩ := h.1
 have e1 : es.size = l.length := by
  have := congrArg List.length hm
  simpa using this
 simp [Builtin.len_, run_underlying Tryz.underlying123, MapKept.run_getObj_map hb, goInt, Result.andThen, e1]
theorem wpList_len_set {ops : Array Oper} {rest : List Oper} {o : Oper} {a : Act} {w : World} {Q : Exit → Act → World → Prop} (hg : o.guard = none) (m : Operand) (hop : o.op = Op.call { callee := Callee.builtin Builtin.len, args := #[m], argTypes := #[123] })
  (b : Nat) (l : List Hdr) (hm : a.eval m = .map (some b)) (h : SetIs w b l) (hK : wpList Tryz.prog ops Q rest (a.put o.dst (.int .i64 l.length)) w) : wpList Tryz.prog ops Q (o :: rest) a w := by
 refine wpList_plain hg fun K' hK' => ?_
 unfold Oper.wp
 simp [execOp, hop, resolve, invoke, builtin, hm, h.len o.type, Result.andThen]
 exact hK' _ _ hK

/-- a header out of the block that holds just it -/
theorem wpList_load_H {ops : Array Oper} {rest : List Oper} {op : Oper} {a : Act} {w : World} {Q : Exit → Act → World → Prop} (hgd : op.guard = none) (x : Operand) (ho : op.op = .load 49 x)
  (b o : Nat) (hx : a.eval x = .pointer (some ⟨b, o, none⟩)) (y : Hdr) (hc : w.rangeAt b o y.cs.toList)
  (h : wpList Tryz.prog ops Q rest (a.put op.dst (.agg y.cs)) w) : wpList Tryz.prog ops Q (op :: rest) a w :=
 wpList_load_mid hgd 49 x ho b o hx y.cs.toList _ hc Tryz.underlying49 rfl (by rw [y.len_cs]; kernel_rfl) (by rwa [Array.toArray_toList])

theorem fieldS (c : Bool) (w : World) : (Instr.field 121 (.agg #[.bool c]) 0).run Tryz.prog w = .ok (.bool c) w := by kernel_rfl
def tooBig : List PanicEntry := [{ v := .iface 90 (.agg #[]), recovered := false }]

set_option maxHeartbeats 1000000 in
set_option maxRecDepth 100000 in
theorem add_there (l : List Hdr) (x : Hdr) (b : Nat) (w : World) (h : SetIs w b l) (hx : x ∈ l) :
  Calls Tryz.prog 59 #[.map (some b), .agg x.cs] w fun e w' => e = .returned (.bool false) ∧ Ext w w' := by
 have h1 := h.ext (Ext.alloc w (.cells x.cs 49))
 have hr := rangeAt_new w x.cs 49
 have hl := h1.look x
 rw [show decide (x ∈ l) = true from by simpa using hx] at hl
 have hfs := fieldS
 have HR := Hd hr
 clear hr
 go_enter Tryz.func59, Tryz.ntmps59
 go_wp2_with (first | (refine wpList_load_H rfl _ rfl _ _ rfl x HR.out ?_) | (refine wpList_lookup_run rfl 123 _ _ false rfl _ _ _ rfl rfl hl ?_))
 go_ret
 exact ⟨rfl, Ext.alloc _ _⟩

set_option maxHeartbeats 1000000 in
set_option maxRecDepth 100000 in
theorem add_new (l : List Hdr) (x : Hdr) (b : Nat) (w : World) (h : SetIs w b l) (hx : x ∉ l) :
    Calls Tryz.prog 59 #[.map (some b), .agg x.cs] w fun e w' => Keep (· = b) w w' ∧
      ((l.length < 64 ∧ e = .returned (.bool true) ∧ SetIs w' b (l ++ [x])) ∨ (64 ≤ l.length ∧ e = .panicked tooBig)) := by
  have h1 := h.ext (Ext.alloc w (.cells x.cs 49))
  have hr := rangeAt_new w x.cs 49
  have hl := h1.look x
  rw [show decide (x ∈ l) = false from by simpa using hx] at hl
  obtain ⟨w2, hu, h2, hk⟩ := h1.put hx
  have hfs := fieldS
  have HR := Hd hr
  have HK := Hd (((Ext.alloc w (.cells x.cs 49)).keep (· = b)).trans hk)
  have hlen : (l ++ [x]).length = l.length + 1 := by simp
  have HU := Hd hu
  have HL := Hd hl
  have H2 := Hd h2
  clear hr hk hu hl h2
  by_cases hlt : l.length < 64
  · have hd : decide (64 < (l ++ [x]).length) = false := by simp; omega
    go_enter Tryz.func59, Tryz.ntmps59
    go_wp2_with (first | (refine wpList_load_H rfl _ rfl _ _ rfl x HR.out ?_) | (refine wpList_lookup_run rfl 123 _ _ false rfl _ _ _ rfl rfl HL.out ?_) | (refine wpList_update_run rfl 123 _ _ _ (.inl rfl) _ _ _ _ rfl rfl rfl HU.out ?_) | (refine wpList_len_set rfl _ rfl b _ rfl H2.out ?_))
    go_ret
    exact ⟨HK.out, .inl ⟨hlt, rfl, H2.out⟩⟩
  · have hge : 64 ≤ l.length := by omega
    have hd : decide (64 < (l ++ [x]).length) = true := by simp; omega
    go_enter Tryz.func59, Tryz.ntmps59
    go_wp2_with (first | (refine wpList_load_H rfl _ rfl _ _ rfl x HR.out ?_) | (refine wpList_lookup_run rfl 123 _ _ false rfl _ _ _ rfl rfl HL.out ?_) | (refine wpList_update_run rfl 123 _ _ _ (.inl rfl) _ _ _ _ rfl rfl rfl HU.out ?_) | (refine wpList_len_set rfl _ rfl b _ rfl H2.out ?_))
    exact ⟨rfl, HK.out, .inr ⟨hge, rfl⟩⟩

theorem sizeH (w : World) : (Go.sizeOf 49).run Tryz.prog w = .ok 11 w := by kernel_rfl
theorem zeroH (w : World) : (zeroValue 49).run Tryz.prog w = .ok (.agg (Array.replicate 11 (.int .u64 0))) w := by kernel_rfl
/-- []Header{y} -/
theorem wpList_one_H {ops : Array Oper} {rest : List Oper} {o : Oper} {a : Act} {w : World} {Q : Exit → Act → World → Prop} (hgd : o.guard = none) (x : Operand) (ho : o.op = .buildSlice 36 1 #[(0, x)]) (y : Hdr) (hx : a.eval x = .agg y.cs)
  (h : wpList Tryz.prog ops Q rest (a.put o.dst (.slice (some ⟨w.heap.size, 0, none⟩) 1 1)) (w.alloc (.cells y.cs 49))) : wpList Tryz.prog ops Q (o :: rest) a w :=
 wpList_buildSlice_run hgd 36 1 x ho _ _ _ hx (run_buildSlice_one Tryz.underlying36 sizeH zeroH (by omega) (by omega) y.size_cs w) h
theorem infoH : (Tryz.prog.info? 49).map (fun i => (i.zero, i.size, i.bytes)) = some (some (.agg (Array.replicate 11 (.int .u64 0))), 11, 88) := by kernel_rfl

/-- append(l, y) of headers, to a slice that the call owns -/
theorem wpList_append_H {ops : Array Oper} {rest : List Oper} {o : Oper} {a : Act} {w : World} {Q : Exit → Act → World → Prop} (hgd : o.guard = none) (s x : Operand)
  (ho : o.op = .call { callee := .builtin .append, args := #[s, x], argTypes := #[36, 36] }) (base : Nat) (v : Value) (l : List Hdr) (hs : a.eval s = v) (hown : w.ownsRow base 49 11 v l.length (flatH l))
  (b : Nat) (y : Hdr) (hx : a.eval x = .slice (some ⟨b, 0, none⟩) 1 1) (hc : w.rangeAt b 0 y.cs.toList) (hlen : l.length < 1000000000) (hbase : base ≤ w.heap.size)
  (hK : ∀ v' w', w'.ownsRow base 49 11 v' (l ++ [y]).length (flatH (l ++ [y])) → w.grownBy w' v.ownBlock → wpList Tryz.prog ops Q rest (a.put o.dst v') w') : wpList Tryz.prog ops Q (o :: rest) a w := by
 obtain ⟨i0, hi0, hz0, hz1, hz2⟩ := info_parts infoH
 refine wpList_append_own w hgd s x 36 ho base 49 i0 _ 11 88 Tryz.underlying36 hi0 hz0 hz1 hz2 rfl (by omega) v l.length (flatH l) hs hown ⟨b, 0, none⟩ 1 1 y.cs.toList hx (by rw [y.len_cs])
  (fun j u hu => by rw [Addr.add_mid]; exact hc j u hu) y.one (by unfold maxLen; omega) (by omega) hbase ?_
 intro v' w' hown' hg _
 refine hK v' w' ?_ hg
 have e : flatH (l ++ [y]) = flatH l ++ y.cs.toList := by simp [flatH]
 rw [e, List.length_append]
 exact hown'

theorem pairs_in {l : List Hdr} {p : Value × Value} (h : p ∈ l.map fun h => (kvH h, Value.agg #[.bool true])) : ∃ x ∈ l, p = (.agg x.cs, .agg #[.bool true]) := by
 obtain ⟨x, hx, rfl⟩ := List.mem_map.1 h
 exact ⟨x, hx, rfl⟩

def lenOf : Value → Nat
 | .slice _ n _ => n
 | _ => 0
theorem lenOf_owns {w : World} {base : Nat} {e : TypeId} {size : Nat} {v : Value} {n : Nat} {xs : List Value} (h : w.ownsRow base e size v n xs) : lenOf v = n := by
 rcases h.2 with ⟨rfl, rfl⟩ | ⟨g, cap, cur, rfl, _⟩ <;> rfl

set_option maxHeartbeats 2000000 in
set_option maxRecDepth 100000 in
theorem list_any (l : List Hdr) (b : Nat) (w : World) (h : SetIs w b l) (hlen : l.length ≤ 100) :
  Calls Tryz.prog 60 #[.map (some b)] w fun e w' => Ext w w' ∧ ∃ v, e = .returned v ∧ w'.ownsRow w.heap.size 49 11 v l.length (flatH (sortH l)) := by
 obtain ⟨w1, hr, hrg, hx1⟩ := run_range_of Tryz.underlying123 h.1
 have HR := Hd hr
 have H1 := Hd (show Ranging w1 w.heap.size b (l.map fun h => (kvH h, Value.agg #[.bool true])) [] from by have := hrg; rw [List.map_map] at this; exact this)
 have HX := Hd hx1
 clear hr hrg hx1
 go_enter Tryz.func60, Tryz.ntmps60
 go_wp2_with (refine wpList_range_run rfl 123 _ rfl _ _ _ rfl HR.out ?_)
 go_frame
 go_loopw [3] (fun v wr => ∃ done : List Hdr, wr.ownsRow w.heap.size 49 11 v done.length (flatH done) ∧ Hid (Ranging wr w.heap.size b (l.map fun h => (kvH h, Value.agg #[.bool true])) (done.map fun h => (kvH h, Value.agg #[.bool true]))) ∧ Hid (Ext w wr)) (fun v _ => l.length - lenOf v)
 case atStart => exact ⟨[], World.ownsRow_nil _ _ _ _, H1.out, HX.out⟩
 case round =>
  rename_i v wr
  obtain ⟨done, hown, hrg, hxr⟩ := hrel
  rcases run_next_of (P := Tryz.prog) hrg.out 0 with ⟨hp, hrun⟩ | ⟨p, w2, hlt, hrun, hrg2, hg2, hent⟩
  ·have hpl : done.Perm l := perm_of_map (fun {x y} h => codedH.inj (by simpa using congrArg Prod.fst h)) hp
   have hlen2 : done.length ≤ 100 := by have := hpl.length_eq; omega
   have HS := Hd (sort_any done u3 w.heap.size wr hown (by omega))
   have HF := Hd (show sortH done = sortH l from sortH_congr hpl)
   have HN := Hd hpl.length_eq
   have HB := Hd (fun i (hi : u3.ownBlock = some i) => (hown.lt i hi).1)
   clear hp hpl hown hrg
   go_wp2_with (refine wpList_next_run rfl _ _ rfl _ _ _ rfl hrun ?_)
   refine HS.out.mono ?_
   rintro e w2 ⟨rfl, hown2, hg2⟩
   go_wp2_with fail
   go_ret
   refine ⟨?_, u3, rfl, by rw [← HN.out, ← HF.out]; exact hown2⟩
   exact hxr.out.trans' ⟨hg2.os, hg2.tape, hg2.output, hg2.size, fun i hi => hg2.block i (Nat.lt_of_lt_of_le hi hxr.out.size) (fun e => by have := HB.out i e.symm; omega)⟩
  ·obtain ⟨x, hx, hpx⟩ := pairs_in (show p ∈ l.map fun h => (kvH h, Value.agg #[.bool true]) from by
    obtain ⟨es, clock, seen, -, -, -, -, -, hperm, -⟩ := hrg2
    exact hperm.mem_iff.1 (by simp))
   subst hpx
   have hlen2 : done.length < l.length := by simpa using hlt
   have hxr2 : Ext w w2 := hxr.out.andKeep (Keep.grown hg2) (fun i hi => by rw [hi]; exact Nat.le_refl _)
   have hne : u3.ownBlock ≠ some w.heap.size := fun e => by
    rcases hown.2 with ⟨rfl, _⟩ | ⟨g, cap, cur, rfl, _, hgc, _⟩
    ·cases e
    ·obtain ⟨es, clock, seen, hr, _⟩ := hrg.out
     have : g = w.heap.size := by simpa [Value.ownBlock] using e
     rw [← this, hgc] at hr
     cases hr
   have hown2 := hown.kept hg2 (.inr hne)
   have hr0 := rangeAt_new w2 x.cs 49
   have HR0 := Hd hr0
   have hx2 := Hd hxr2
   have HO := Hd ((hown2.alloc (.cells x.cs 49)).alloc (.cells x.cs 49))
   have hsz : w.heap.size ≤ w2.heap.size := hxr2.size
   have HRG := Hd hrg2
   have HBL := Hd (fun i (hi : u3.ownBlock = some i) => (hown.lt i hi).1)
   have HLV := Hd (lenOf_owns hown)
   have HZ := Hd zeroH
   have hent' := Hd (hent w2 rfl rfl)
   clear hrg hrg2 hg2 hent hr0 hlt hown2 hown hxr2
   go_wp2_with (first
    | (refine wpList_next_run rfl _ _ rfl _ _ _ rfl hrun ?_)
    | (refine wpList_entry_run rfl _ rfl _ _ _ rfl hent'.out ?_)
    | (refine wpList_store_new rfl 49 _ _ rfl _ x.cs rfl rfl (by rw [x.size_cs]; kernel_rfl) (by rw [x.size_cs]; rfl) (all_oneCell_toArray x.one) ?_)
    | (refine wpList_load_H rfl _ rfl _ _ rfl x HR0.out ?_)
    | (refine wpList_one_H rfl _ rfl x rfl ?_)
    | (at_builtin; refine wpList_append_H rfl _ _ rfl w.heap.size u3 done rfl HO.out _ x rfl (rangeAt_new _ _ _) (by omega) (by simp; omega) ?_; intro v' w4 hown4 hg4))
   have hxa : Ext w2 ((w2.alloc (.cells x.cs 49)).alloc (.cells x.cs 49)) := (Ext.alloc _ _).andAlloc _
   have hb := h.lt
   have hrl := HRG.out.lt
   have hrg4 : Ranging w4 w.heap.size b (l.map fun h => (kvH h, Value.agg #[.bool true])) ((done ++ [x]).map fun h => (kvH h, Value.agg #[.bool true])) := by
    rw [List.map_append]
    refine HRG.out.kept ?_ ?_
    ·exact (hg4.block _ (by simp; omega) (fun e => hne e.symm)).trans (Below.block hxa _ hrl)
    ·exact (hg4.block _ (by simp; omega) (fun e => by have := HBL.out b e.symm; omega)).trans (Below.block hxa _ (by omega))
   refine ⟨⟨done ++ [x], hown4, hrg4, ?_⟩, ?_⟩
   ·exact (hx2.out.trans hxa).trans' ⟨hg4.os, hg4.tape, hg4.output, hg4.size, fun i hi => hg4.block i (by simp; omega) (fun e => by have := HBL.out i e.symm; omega)⟩
   ·rw [lenOf_owns hown4, HLV.out]
    simp
    omega
end Go.Proofs.YtjjbdbklbghlhaaGreatDoor
/- meaning.holds: whether a right predicate holds of a header. -/
namespace Go.Proofs.YtjjbdbklbghlhaaGreatDoor
open Go.RowKit
set_option linter.unusedSimpArgs false

mutual
/-- does a right predicate hold of a header? -/
def Tm.holds : Tm → Hdr → Bool
 | .mk op f n ks, h => if op = 1 then true else if op = 2 then h.f f.toNat == n else if op = 3 then !(Tm.holdsHead ks h) else if op = 4 then Tm.holdsAll ks h else if op = 5 then Tm.holdsAny ks h else false
def Tm.holdsHead : List Tm → Hdr → Bool
 | [], _ => false
 | t :: _, h => t.holds h
def Tm.holdsAll : List Tm → Hdr → Bool
 | [], _ => true
 | t :: ts, h => t.holds h && Tm.holdsAll ts h
def Tm.holdsAny : List Tm → Hdr → Bool
 | [], _ => false
 | t :: ts, h => t.holds h || Tm.holdsAny ts h
end
theorem Tm.holdsAll_true {x : Hdr} : ∀ {ks : List Tm}, (∀ m (h : m < ks.length), (ks[m]).holds x = true) → Tm.holdsAll ks x = true
 | [], _ => rfl
 | t :: ts, hv => by
  have h0 := hv 0 (by simp)
  have h1 := Tm.holdsAll_true (x := x) (ks := ts) (fun m h => by have := hv (m + 1) (by simpa using h); rwa [List.getElem_cons_succ] at this)
  rw [List.getElem_cons_zero] at h0
  simp only [Tm.holdsAll, h0, h1, Bool.and_self]
theorem Tm.holdsAll_false {x : Hdr} : ∀ {ks : List Tm} (j : Nat) (h : j < ks.length), (ks[j]).holds x = false → Tm.holdsAll ks x = false
 | t :: ts, 0, _, hv => by rw [List.getElem_cons_zero] at hv; simp [Tm.holdsAll, hv]
 | t :: ts, j + 1, h, hv => by rw [List.getElem_cons_succ] at hv; simp [Tm.holdsAll, Tm.holdsAll_false j (by simpa using h) hv]
theorem Tm.holdsAny_false {x : Hdr} : ∀ {ks : List Tm}, (∀ m (h : m < ks.length), (ks[m]).holds x = false) → Tm.holdsAny ks x = false
 | [], _ => rfl
 | t :: ts, hv => by
  have h0 := hv 0 (by simp)
  have h1 := Tm.holdsAny_false (x := x) (ks := ts) (fun m h => by have := hv (m + 1) (by simpa using h); rwa [List.getElem_cons_succ] at this)
  rw [List.getElem_cons_zero] at h0
  simp only [Tm.holdsAny, h0, h1, Bool.or_self]
theorem Tm.holdsAny_true {x : Hdr} : ∀ {ks : List Tm} (j : Nat) (h : j < ks.length), (ks[j]).holds x = true → Tm.holdsAny ks x = true
 | t :: ts, 0, _, hv => by rw [List.getElem_cons_zero] at hv; simp [Tm.holdsAny, hv]
 | t :: ts, j + 1, h, hv => by rw [List.getElem_cons_succ] at hv; simp [Tm.holdsAny, Tm.holdsAny_true j (by simpa using h) hv]

theorem Tm.rightAll_get {p : Bool} : ∀ {ks : List Tm}, Tm.rightAll ks p = true → ∀ i (h : i < ks.length), (ks[i]).right p = true
 | t :: ts, hr, 0, _ => by
  simp only [Tm.rightAll, Bool.and_eq_true] at hr
  rw [List.getElem_cons_zero]; exact hr.1
 | t :: ts, hr, i + 1, h => by
  simp only [Tm.rightAll, Bool.and_eq_true] at hr
  rw [List.getElem_cons_succ]; exact Tm.rightAll_get hr.2 i (by simpa using h)

/-- what a right predicate looks like -/
theorem Tm.right_pred {op f n : Int} {ks : List Tm} (h : (Tm.mk op f n ks).right true = true) :
  (op = 0 ∨ op = 1) ∨ (op = 2 ∧ 0 ≤ f ∧ f ≤ 10) ∨ ((op = 3 ∨ op = 4 ∨ op = 5) ∧ 1 ≤ ks.length ∧ Tm.rightAll ks true = true) := by
 rw [Tm.right] at h
 by_cases h0 : op < 0 ∨ 10 < op
 ·rw [if_pos h0] at h; cases h
 rw [if_neg h0] at h
 obtain ⟨k, rfl⟩ := Int.eq_ofNat_of_zero_le (a := op) (by omega)
 rw [Int.toNat_natCast] at h
 have hk : k < 11 := by omega
 match k, hk with
 | 0, _ => exact .inl (.inl rfl)
 | 1, _ => exact .inl (.inr rfl)
 | 2, _ =>
  refine .inr (.inl ⟨rfl, ?_⟩)
  simp only [wantsOf, bne_self_eq_false, Bool.false_eq_true, if_false, if_true] at h
  split at h
  ·cases h
  split at h
  ·cases h
  have hw : widthI f ≠ 0 := fun e => by
   rw [fieldB, e] at h
   simp [fieldK] at h
  unfold widthI at hw
  constructor
  ·rcases Int.lt_or_le f 0 with hl | hl
   ·exfalso; revert hw; repeat rw [if_neg (by omega)]
    simp
   ·exact hl
  ·rcases Int.lt_or_le 10 f with hl | hl
   ·exfalso; revert hw; repeat rw [if_neg (by omega)]
    simp
   ·exact hl
 | 3, _ | 4, _ | 5, _ =>
  refine .inr (.inr ⟨by omega, ?_⟩)
  simp only [wantsOf, bne_self_eq_false, Bool.false_eq_true, if_false] at h
  split at h
  ·cases h
  rename_i h1
  split at h
  ·cases h
  split at h
  ·cases h
  exact ⟨by omega, h⟩
 | 6, _ | 7, _ | 8, _ | 9, _ | 10, _ => simp [wantsOf] at h

def kindF : Nat → Nat
 | 0 => 92
 | 1 => 93
 | 2 => 94
 | 3 => 95
 | 4 => 96
 | _ => 99

set_option maxHeartbeats 2000000 in
set_option maxRecDepth 100000 in
theorem kinds_any (k : Nat) (hk : k < 6) (w : World) : Calls Tryz.prog 55 #[.int .i8 k] w fun e w' => e = .returned (.agg #[.func (.func (kindF k)) #[] #[]]) ∧ Ext w w' := by
 match k, hk with
 | 0, _ | 1, _ | 2, _ | 3, _ | 4, _ | 5, _ =>
  go_enter Tryz.func55, Tryz.ntmps55
  go_wp2_with fail
  exact bodyPost_ret (v := .agg #[.func (.func _) #[] #[]]) (by simp [results, Tryz.results55, go_sem]; rfl) rfl ⟨rfl, (Ext.alloc _ _).andAlloc _⟩
end Go.Proofs.YtjjbdbklbghlhaaGreatDoor
/- What a policy makes of a header, in plain words: with the bounds on sets, rounds and work. -/
namespace Go.Proofs.YtjjbdbklbghlhaaGreatDoor
set_option linter.unusedSimpArgs false

/-- one header more; none: too many -/
def putM (l : List Hdr) (x : Hdr) : Option (List Hdr) := if x ∈ l then some l else if l.length < 64 then some (l ++ [x]) else none
def putAll : List Hdr → List Hdr → Option (List Hdr)
 | l, [] => some l
 | l, x :: xs => (putM l x).bind fun l' => putAll l' xs
/-- what F makes of many headers, gathered -/
def gather (F : Hdr → Int → Option (List Hdr × Int)) : List Hdr → List Hdr → Int → Option (List Hdr × Int)
 | [], S, c => some (S, c)
 | x :: xs, S, c => (F x c).bind fun r => (putAll S r.1).bind fun S' => gather F xs S' r.2
def allF (F : Hdr → Int → Option (List Hdr × Int)) (l : List Hdr) (c : Int) : Option (List Hdr × Int) := (gather F l [] c).map fun r => (sortH r.1, r.2)
/-- a round's new ones -/
def starPut : List Hdr → List Hdr → List Hdr → Option (List Hdr × List Hdr)
 | S, nx, [] => some (S, nx)
 | S, nx, x :: xs => if x ∈ S then starPut S nx xs else if S.length < 64 then starPut (S ++ [x]) (nx ++ [x]) xs else none
def starF (F : Hdr → Int → Option (List Hdr × Int)) : Nat → List Hdr → List Hdr → Int → Option (List Hdr × Int)
 | 0, _, _, _ => none
 | r + 1, S, fresh, c => (allF F fresh c).bind fun a => (starPut S [] a.1).bind fun p => if p.2 = [] then some (sortH p.1, a.2) else starF F r p.1 p.2 a.2
def askM (c k : Int) : Option Int := if c + k ≤ 65536 then some (c + k) else none

mutual
def Tm.ofT : Tm → Hdr → Int → Option (List Hdr × Int)
 | .mk op f n ks, x, c =>
  if op = 6 then (askM c (Tm.szAll ks + 1 : Nat)).bind fun c' => some (if Tm.holdsHead ks x then [x] else [], c')
  else if op = 7 then (askM c 1).bind fun c' => some ([x.put f.toNat n], c')
  else if op = 9 then Tm.thenT ks [x] c
  else if op = 10 then Tm.starT ks x c
  else (Tm.unionT ks x [] c).map fun r => (sortH r.1, r.2)
def Tm.thenT : List Tm → List Hdr → Int → Option (List Hdr × Int)
 | [], l, c => some (l, c)
 | t :: ts, l, c => (allF (fun x c => t.ofT x c) l c).bind fun r => Tm.thenT ts r.1 r.2
def Tm.starT : List Tm → Hdr → Int → Option (List Hdr × Int)
 | [], _, _ => none
 | t :: _, x, c => starF (fun x c => t.ofT x c) 64 [x] [x] c
def Tm.unionT : List Tm → Hdr → List Hdr → Int → Option (List Hdr × Int)
 | [], _, S, c => some (S, c)
 | t :: ts, x, S, c => (t.ofT x c).bind fun r => (putAll S r.1).bind fun S' => Tm.unionT ts x S' r.2
end

/-- what a right policy looks like -/
theorem Tm.right_pol {op f n : Int} {ks : List Tm} (h : (Tm.mk op f n ks).right false = true) :
  (op = 6 ∧ ks.length = 1 ∧ Tm.rightAll ks true = true) ∨ (op = 7 ∧ 0 ≤ f ∧ f ≤ 10) ∨ (op = 10 ∧ ks.length = 1 ∧ Tm.rightAll ks false = true) ∨ ((op = 8 ∨ op = 9) ∧ 1 ≤ ks.length ∧ Tm.rightAll ks false = true) := by
 rw [Tm.right] at h
 by_cases h0 : op < 0 ∨ 10 < op
 ·rw [if_pos h0] at h; cases h
 rw [if_neg h0] at h
 obtain ⟨k, rfl⟩ := Int.eq_ofNat_of_zero_le (a := op) (by omega)
 rw [Int.toNat_natCast] at h
 have hk : k < 11 := by omega
 match k, hk with
 | 0, _ | 1, _ | 2, _ | 3, _ | 4, _ | 5, _ => simp [wantsOf] at h
 | 6, _ =>
  refine .inl ⟨rfl, ?_⟩
  simp only [wantsOf, bne_self_eq_false, Bool.false_eq_true, if_false] at h
  split at h
  ·cases h
  rename_i h1
  split at h
  ·cases h
  rename_i h2
  split at h
  ·cases h
  exact ⟨by omega, h⟩
 | 7, _ =>
  refine .inr (.inl ⟨rfl, ?_⟩)
  simp only [wantsOf, bne_self_eq_false, Bool.false_eq_true, if_false, if_true] at h
  split at h
  ·cases h
  split at h
  ·cases h
  have hw : widthI f ≠ 0 := fun e => by
   rw [fieldB, e] at h
   simp [fieldK] at h
  unfold widthI at hw
  constructor
  ·rcases Int.lt_or_le f 0 with hl | hl
   ·exfalso; revert hw; repeat rw [if_neg (by omega)]
    simp
   ·exact hl
  ·rcases Int.lt_or_le 10 f with hl | hl
   ·exfalso; revert hw; repeat rw [if_neg (by omega)]
    simp
   ·exact hl
 | 8, _ | 9, _ =>
  refine .inr (.inr (.inr ⟨by omega, ?_⟩))
  simp only [wantsOf, bne_self_eq_false, Bool.false_eq_true, if_false] at h
  split at h
  ·cases h
  rename_i h1
  split at h
  ·cases h
  split at h
  ·cases h
  exact ⟨by omega, h⟩
 | 10, _ =>
  refine .inr (.inr (.inl ⟨rfl, ?_⟩))
  simp only [wantsOf, bne_self_eq_false, Bool.false_eq_true, if_false] at h
  split at h
  ·cases h
  rename_i h1
  split at h
  ·cases h
  rename_i h2
  split at h
  ·cases h
  exact ⟨by omega, h⟩
end Go.Proofs.YtjjbdbklbghlhaaGreatDoor
/- meaning.holds: the walk. -/
namespace Go.Proofs.YtjjbdbklbghlhaaGreatDoor
open Go.RowKit
set_option linter.unusedSimpArgs false

/-- what holds says of a term in any world in which it lies -/
def HoldsOf (t : Tm) : Prop := ∀ (x : Hdr) (b o hb ho : Nat) (w : World), t.right true = true → t.At w b o → w.rangeAt hb ho x.cs.toList →
  Calls Tryz.prog 36 #[.pointer (some ⟨b, o, none⟩), .pointer (some ⟨hb, ho, none⟩)] w fun e w' => e = .returned (.bool (t.holds x)) ∧ Ext w w'

set_option maxHeartbeats 1000000 in
theorem not_any (ks : List Tm) (t : Tm) (x : Hdr) (op f n : Int) (b o hb ho : Nat) (w : World) (ih : HoldsOf t) (hr : t.right true = true) (h : (Tm.mk op f n (t :: ks)).At w b o) (hx : w.rangeAt hb ho x.cs.toList) :
  Calls Tryz.prog 95 #[.pointer (some ⟨b, o, none⟩), .pointer (some ⟨hb, ho, none⟩)] w fun e w' => e = .returned (.bool (!t.holds x)) ∧ Ext w w' := by
 obtain ⟨_, _, _, _, _, _, p, len, cap, c3, hlen, hlc, hcm, hks⟩ := h
 rcases hks with hks | ⟨b', o', rfl, hall⟩
 ·cases hks
 have IH := Hd (ih x b' o' hb ho w hr hall.1 hx)
 have hl1 : 0 < len := by rw [hlen]; simp
 clear hlen
 go_enter Tryz.func95, Tryz.ntmps95
 go_wp2_with fail
 refine IH.out.mono ?_
 rintro e w1 ⟨rfl, hx1⟩
 go_wp2_with fail
 go_ret
 exact ⟨rfl, hx1⟩

set_option maxHeartbeats 1000000 in
theorem notkid_any (t : Tm) (x : Hdr) (cs : Array Value) (c hb ho : Nat) (w : World) (ih : HoldsOf t) (hr : t.right true = true) (_h4 : cs.size = 4) (h : t.Val w (.agg cs)) (hx : w.rangeAt hb ho x.cs.toList) (hc : w.cell? ⟨c, 0, none⟩ = some (.pointer (some ⟨hb, ho, none⟩))) :
  Calls Tryz.prog 98 #[.agg cs, .pointer (some ⟨c, 0, none⟩)] w fun e w' => e = .returned (.bool (!t.holds x)) ∧ Ext w w' := by
 have hxa := Ext.alloc w (.cells cs 26)
 have IH := Hd (ih x w.heap.size 0 hb ho (w.alloc (.cells cs 26)) hr ((h.later hxa.later).at (rangeAt_new w cs _)) (World.rangeAt.later hxa.later hx))
 have HX := Hd hxa
 have hcl := World.block_lt_of_cell? w _ hc
 clear h hx hxa
 go_enter Tryz.func98, Tryz.ntmps98
 go_wp2_with fail
 refine IH.out.mono ?_
 rintro e w1 ⟨rfl, hx1⟩
 go_wp2_with fail
 go_ret
 exact ⟨rfl, HX.out.trans hx1⟩

set_option maxHeartbeats 1000000 in
theorem iskid_any (t : Tm) (x : Hdr) (cs : Array Value) (c hb ho : Nat) (w : World) (ih : HoldsOf t) (hr : t.right true = true) (_h4 : cs.size = 4) (h : t.Val w (.agg cs)) (hx : w.rangeAt hb ho x.cs.toList) (hc : w.cell? ⟨c, 0, none⟩ = some (.pointer (some ⟨hb, ho, none⟩))) :
  Calls Tryz.prog 100 #[.agg cs, .pointer (some ⟨c, 0, none⟩)] w fun e w' => e = .returned (.bool (t.holds x)) ∧ Ext w w' := by
 have hxa := Ext.alloc w (.cells cs 26)
 have IH := Hd (ih x w.heap.size 0 hb ho (w.alloc (.cells cs 26)) hr ((h.later hxa.later).at (rangeAt_new w cs _)) (World.rangeAt.later hxa.later hx))
 have HX := Hd hxa
 have hcl := World.block_lt_of_cell? w _ hc
 clear h hx hxa
 go_enter Tryz.func100, Tryz.ntmps100
 go_wp2_with fail
 refine IH.out.mono ?_
 rintro e w1 ⟨rfl, hx1⟩
 go_wp2_with fail
 go_ret
 exact ⟨rfl, HX.out.trans hx1⟩

theorem eg_not : ∀ args w, (callFunc 98 args).run Tryz.prog w = .ok (.enter 98 args) w := enters_of Tryz.func98 (by kernel_rfl) rfl
theorem eg_is : ∀ args w, (callFunc 100 args).run Tryz.prog w = .ok (.enter 100 args) w := enters_of Tryz.func100 (by kernel_rfl) rfl

set_option maxHeartbeats 1000000 in
theorem and_any (ks : List Tm) (x : Hdr) (op f n : Int) (b o hb ho : Nat) (w : World) (ih : ∀ i (h : i < ks.length), HoldsOf (ks[i])) (hr : Tm.rightAll ks true = true) (h : (Tm.mk op f n ks).At w b o) (hx : w.rangeAt hb ho x.cs.toList) :
  Calls Tryz.prog 96 #[.pointer (some ⟨b, o, none⟩), .pointer (some ⟨hb, ho, none⟩)] w fun e w' => e = .returned (.bool (Tm.holdsAll ks x)) ∧ Ext w w' := by
 obtain ⟨_, _, _, _, _, _, p, len, cap, c3, hlen, hlc, hcm, hks⟩ := h
 have hxa := Ext.alloc w (.cells #[.pointer (some ⟨hb, ho, none⟩)] 88)
 have hbl := World.block_lt_of_cell? w _ c3
 have hcell : (w.alloc (.cells #[.pointer (some ⟨hb, ho, none⟩)] 88)).cell? ⟨w.heap.size, 0, none⟩ = some (.pointer (some ⟨hb, ho, none⟩)) := by simp [go_sem]
 have HC := Hd (containsFunc_any 98 (.pointer (some ⟨w.heap.size, 0, none⟩)) eg_not ks (fun i => if h : i < ks.length then !(ks[i]).holds x else false) (.slice p len cap) (w.alloc (.cells #[.pointer (some ⟨hb, ho, none⟩)] 88))
  ⟨p, len, cap, rfl, hlen, hlc, hcm, hks.imp id fun ⟨b', o', hp, hall⟩ => ⟨b', o', hp, Tm.AllAt.later hxa.later hall⟩⟩
  (fun i hi cs W h4 hv hW => by
   rw [dif_pos hi]
   exact notkid_any (ks[i]) x cs _ hb ho W (ih i hi) (Tm.rightAll_get hr i hi) h4 hv (World.rangeAt.later (hxa.trans hW).later hx) (hW.later _ _ hcell))
  (!Tm.holdsAll ks x)
  (fun ⟨j, hj, hq⟩ => by
   rw [dif_pos hj] at hq
   rw [Tm.holdsAll_false j hj (by simpa using hq)]; rfl)
  (fun hq => by
   rw [Tm.holdsAll_true (fun m hm => by have := hq m hm; rw [dif_pos hm] at this; simpa using this)]; rfl))
 have HX := Hd hxa
 clear hlen hks hx hr ih hxa hcell
 go_enter Tryz.func96, Tryz.ntmps96
 go_wp2_with fail
 refine HC.out.mono ?_
 rintro e w1 ⟨rfl, hx1⟩
 go_wp2_with fail
 go_ret
 exact ⟨by simp, HX.out.trans hx1⟩

set_option maxHeartbeats 1000000 in
theorem hor_any (ks : List Tm) (x : Hdr) (op f n : Int) (b o hb ho : Nat) (w : World) (ih : ∀ i (h : i < ks.length), HoldsOf (ks[i])) (hr : Tm.rightAll ks true = true) (h : (Tm.mk op f n ks).At w b o) (hx : w.rangeAt hb ho x.cs.toList) :
  Calls Tryz.prog 99 #[.pointer (some ⟨b, o, none⟩), .pointer (some ⟨hb, ho, none⟩)] w fun e w' => e = .returned (.bool (Tm.holdsAny ks x)) ∧ Ext w w' := by
 obtain ⟨_, _, _, _, _, _, p, len, cap, c3, hlen, hlc, hcm, hks⟩ := h
 have hxa := Ext.alloc w (.cells #[.pointer (some ⟨hb, ho, none⟩)] 88)
 have hbl := World.block_lt_of_cell? w _ c3
 have hcell : (w.alloc (.cells #[.pointer (some ⟨hb, ho, none⟩)] 88)).cell? ⟨w.heap.size, 0, none⟩ = some (.pointer (some ⟨hb, ho, none⟩)) := by simp [go_sem]
 have HC := Hd (containsFunc_any 100 (.pointer (some ⟨w.heap.size, 0, none⟩)) eg_is ks (fun i => if h : i < ks.length then (ks[i]).holds x else false) (.slice p len cap) (w.alloc (.cells #[.pointer (some ⟨hb, ho, none⟩)] 88))
  ⟨p, len, cap, rfl, hlen, hlc, hcm, hks.imp id fun ⟨b', o', hp, hall⟩ => ⟨b', o', hp, Tm.AllAt.later hxa.later hall⟩⟩
  (fun i hi cs W h4 hv hW => by
   rw [dif_pos hi]
   exact iskid_any (ks[i]) x cs _ hb ho W (ih i hi) (Tm.rightAll_get hr i hi) h4 hv (World.rangeAt.later (hxa.trans hW).later hx) (hW.later _ _ hcell))
  (Tm.holdsAny ks x)
  (fun ⟨j, hj, hq⟩ => by
   rw [dif_pos hj] at hq
   exact Tm.holdsAny_true j hj hq)
  (fun hq => Tm.holdsAny_false (fun m hm => by have := hq m hm; rw [dif_pos hm] at this; exact this)))
 have HX := Hd hxa
 clear hlen hks hx hr ih hxa hcell
 go_enter Tryz.func99, Tryz.ntmps99
 go_wp2_with fail
 refine HC.out.mono ?_
 rintro e w1 ⟨rfl, hx1⟩
 go_wp2_with fail
 go_ret
 exact ⟨rfl, HX.out.trans hx1⟩

set_option maxHeartbeats 1000000 in
theorem is_any (f n : Nat) (op : Int) (ks : List Tm) (x : Hdr) (b o hb ho : Nat) (w : World) (hf : f < 11) (h : (Tm.mk op f n ks).At w b o) (hx : w.rangeAt hb ho x.cs.toList) :
  Calls Tryz.prog 94 #[.pointer (some ⟨b, o, none⟩), .pointer (some ⟨hb, ho, none⟩)] w fun e w' => e = .returned (.bool (x.f f == n)) ∧ Ext w w' := by
 obtain ⟨_, _, _, _, c1, c2, -⟩ := h
 have hc := hx f _ (show x.cs.toList[f]? = some _ from by rw [Array.getElem?_toList]; exact x.cell f hf)
 clear hx
 go_enter Tryz.func94, Tryz.ntmps94
 go_wp2_with fail
 go_quiet (fail)
 go_wp2_with fail
 go_ret
 exact ⟨rfl, Ext.drewN _ _⟩

set_option maxHeartbeats 1000000 in
theorem no_any (p q : Value) (w : World) : Calls Tryz.prog 92 #[p, q] w fun e w' => e = .returned (.bool false) ∧ w = w' := by
 go_enter Tryz.func92, Tryz.ntmps92
 go_wp2_with fail
 go_ret
 exact ⟨rfl, rfl⟩
set_option maxHeartbeats 1000000 in
theorem yes_any (p q : Value) (w : World) : Calls Tryz.prog 93 #[p, q] w fun e w' => e = .returned (.bool true) ∧ w = w' := by
 go_enter Tryz.func93, Tryz.ntmps93
 go_wp2_with fail
 go_ret
 exact ⟨rfl, rfl⟩
end Go.Proofs.YtjjbdbklbghlhaaGreatDoor
/- meaning.holds and meaning.Holds; meaning.terms; work.ask. -/
namespace Go.Proofs.YtjjbdbklbghlhaaGreatDoor
open Go.RowKit
set_option linter.unusedSimpArgs false

theorem fieldA (g : Nat) (w : World) : (Instr.field 116 (.agg #[.func (.func g) #[] #[]]) 0).run Tryz.prog w = .ok (.func (.func g) #[] #[]) w := by kernel_rfl
theorem kinds_at (k : Nat) (hk : k < 6) (op : Int) (h : op = k) (w : World) : Calls Tryz.prog 55 #[.int .i8 op] w fun e w' => e = .returned (.agg #[.func (.func (kindF k)) #[] #[]]) ∧ Ext w w' := by
 rw [h]
 exact kinds_any k hk w

set_option maxHeartbeats 2000000 in
set_option maxRecDepth 100000 in
theorem holds_aux (m : Nat) : ∀ t : Tm, t.sz ≤ m → HoldsOf t := by
 induction m with
 | zero => intro t hm; have := t.sz_pos; omega
 | succ m ih =>
  intro t hm x b o hb ho w hr h hx
  cases t with | mk op f n ks =>
  have IH := Hd (fun i (hi : i < ks.length) => ih (ks[i]) (Tm.sz_kid hm i hi))
  clear ih hm
  have hfa := fieldA
  have HA := Hd h
  have HXR := Hd hx
  have c0 : w.cell? ⟨b, o, none⟩ = some (.int .i8 op) := h.2.2.2.1
  have hfb : 0 ≤ n ∧ n ≤ 18446744073709551615 := h.2.2.1
  rcases Tm.right_pred hr with (rfl | rfl) | ⟨rfl, hf1, hf2⟩ | ⟨h345, hlen, hra⟩
  ·have HK := Hd (kinds_at 0 (by omega) 0 (by rfl) w)
   clear h hx hr
   go_enter Tryz.func36, Tryz.ntmps36
   go_wp2_with fail
   refine HK.out.mono ?_
   rintro e w1 ⟨rfl, hx1⟩
   simp only [kindF]
   go_wp2_with fail
   refine (no_any _ _ _).mono ?_
   rintro e w2 ⟨rfl, rfl⟩
   go_wp2_with fail
   go_ret
   exact ⟨rfl, hx1⟩
  ·have HK := Hd (kinds_at 1 (by omega) 1 (by rfl) w)
   clear h hx hr
   go_enter Tryz.func36, Tryz.ntmps36
   go_wp2_with fail
   refine HK.out.mono ?_
   rintro e w1 ⟨rfl, hx1⟩
   simp only [kindF]
   go_wp2_with fail
   refine (yes_any _ _ _).mono ?_
   rintro e w2 ⟨rfl, rfl⟩
   go_wp2_with fail
   go_ret
   exact ⟨rfl, hx1⟩
  ·have HK := Hd (kinds_at 2 (by omega) 2 (by rfl) w)
   obtain ⟨fk, rfl⟩ := Int.eq_ofNat_of_zero_le hf1
   obtain ⟨nk, rfl⟩ := Int.eq_ofNat_of_zero_le hfb.1
   have hfk : fk < 11 := by omega
   have HF := Hd (show (Tm.mk 2 fk nk ks).holds x = (x.f fk == nk) from by rw [Tm.holds, if_neg (by omega), if_pos rfl, Int.toNat_natCast])
   clear h hx hr
   go_enter Tryz.func36, Tryz.ntmps36
   go_wp2_with fail
   refine HK.out.mono ?_
   rintro e w1 ⟨rfl, hx1⟩
   simp only [kindF]
   go_wp2_with fail
   refine (is_any fk nk 2 ks x b o hb ho w1 hfk (HA.out.later hx1.later) (World.rangeAt.later hx1.later HXR.out)).mono ?_
   rintro e w2 ⟨rfl, hx2⟩
   go_wp2_with fail
   go_ret
   exact ⟨by rw [HF.out]; rfl, hx1.trans hx2⟩
  ·rcases h345 with rfl | rfl | rfl
   ·have HK := Hd (kinds_at 3 (by omega) 3 (by rfl) w)
    cases ks with
    | nil => simp at hlen
    | cons t r =>
     have hr0 : t.right true = true := by simp only [Tm.rightAll, Bool.and_eq_true] at hra; exact hra.1
     have HT := Hd (show HoldsOf t from by have := IH.out 0 (by simp); rwa [List.getElem_cons_zero] at this)
     have HF := Hd (show (Tm.mk 3 f n (t :: r)).holds x = !(t.holds x) from by rw [Tm.holds, if_neg (by omega), if_neg (by omega), if_pos rfl, Tm.holdsHead])
     clear h hx hr hra
     go_enter Tryz.func36, Tryz.ntmps36
     go_wp2_with fail
     refine HK.out.mono ?_
     rintro e w1 ⟨rfl, hx1⟩
     simp only [kindF]
     go_wp2_with fail
     refine (not_any r t x 3 f n b o hb ho w1 HT.out hr0 (HA.out.later hx1.later) (World.rangeAt.later hx1.later HXR.out)).mono ?_
     rintro e w2 ⟨rfl, hx2⟩
     go_wp2_with fail
     go_ret
     exact ⟨by rw [HF.out]; rfl, hx1.trans hx2⟩
   ·have HK := Hd (kinds_at 4 (by omega) 4 (by rfl) w)
    have HF := Hd (show (Tm.mk 4 f n ks).holds x = Tm.holdsAll ks x from by rw [Tm.holds, if_neg (by omega), if_neg (by omega), if_neg (by omega), if_pos rfl])
    have HRA := Hd hra
    clear h hx hr hra
    go_enter Tryz.func36, Tryz.ntmps36
    go_wp2_with fail
    refine HK.out.mono ?_
    rintro e w1 ⟨rfl, hx1⟩
    simp only [kindF]
    go_wp2_with fail
    refine (and_any ks x 4 f n b o hb ho w1 IH.out HRA.out (HA.out.later hx1.later) (World.rangeAt.later hx1.later HXR.out)).mono ?_
    rintro e w2 ⟨rfl, hx2⟩
    go_wp2_with fail
    go_ret
    exact ⟨by rw [HF.out]; rfl, hx1.trans hx2⟩
   ·have HK := Hd (kinds_at 5 (by omega) 5 (by rfl) w)
    have HF := Hd (show (Tm.mk 5 f n ks).holds x = Tm.holdsAny ks x from by rw [Tm.holds, if_neg (by omega), if_neg (by omega), if_neg (by omega), if_neg (by omega), if_pos rfl])
    have HRA := Hd hra
    clear h hx hr hra
    go_enter Tryz.func36, Tryz.ntmps36
    go_wp2_with fail
    refine HK.out.mono ?_
    rintro e w1 ⟨rfl, hx1⟩
    simp only [kindF]
    go_wp2_with fail
    refine (hor_any ks x 5 f n b o hb ho w1 IH.out HRA.out (HA.out.later hx1.later) (World.rangeAt.later hx1.later HXR.out)).mono ?_
    rintro e w2 ⟨rfl, hx2⟩
    go_wp2_with fail
    go_ret
    exact ⟨by rw [HF.out]; rfl, hx1.trans hx2⟩

theorem holds_any (t : Tm) : HoldsOf t := holds_aux t.sz t (Nat.le_refl _)

set_option maxHeartbeats 1000000 in
theorem terms_aux (m : Nat) : ∀ (t : Tm) (b o : Nat) (w : World), t.sz ≤ m → t.sz ≤ 4096 → t.At w b o →
  Calls Tryz.prog 57 #[.pointer (some ⟨b, o, none⟩)] w fun e w' => e = .returned (.int .i64 t.sz) ∧ w = w' := by
 induction m with
 | zero => intro t _ _ _ hm; have := t.sz_pos; omega
 | succ m ih =>
  intro t b o w hm h4 h
  cases t with | mk op f n ks =>
  have IH := Hd (fun i (hi : i < ks.length) => fun b o w (h4 : (ks[i]).sz ≤ 4096) => ih (ks[i]) b o w (Tm.sz_kid hm i hi) h4)
  have hsz : (Tm.mk op f n ks).sz = Tm.szAll ks + 1 := by simp only [Tm.sz]
  have HS := Hd hsz
  have h4' : Tm.szAll ks ≤ 4095 := by omega
  clear ih hm hsz
  obtain ⟨_, _, _, _, _, _, p, len, cap, c3, hlen, hlc, hcm, hks⟩ := h
  have HL := Hd hlen
  clear hlen
  go_enter Tryz.func57, Tryz.ntmps57
  go_wp2_with fail
  go_loop [3, 10] (fun n i => ∃ j : Nat, j ≤ len ∧ i = .int .i64 j ∧ n = .int .i64 (1 + Tm.szAll (ks.take j) : Nat)) (fun _ i => len - (intOf i).toNat)
  case atStart => exact ⟨0, Nat.zero_le _, rfl, by simp [Tm.szAll]⟩
  case round =>
   obtain ⟨j, hj, rfl, rfl⟩ := hrel
   by_cases hlt : j < len
   ·rcases hks with hks | ⟨b', o', rfl, hall⟩
    ·exfalso; have := HL.out; subst hks; simp at this; omega
    have hjl : j < ks.length := by rw [← HL.out]; exact hlt
    have HT := Hd (Tm.szAll_take ks j hjl)
    have hle := Tm.szAll_take_le ks (j + 1)
    have hle0 := Tm.sz_get j hjl
    have hsum : Tm.szAll (ks.take j) + (ks[j]).sz ≤ 4095 := by have := HT.out; omega
    have IHj := Hd (IH.out j hjl b' (o' + j * 4) w (by omega) (Tm.AllAt_get hall j hjl))
    generalize Tm.szAll (ks.take j) = x at *
    generalize (ks[j]).sz = y at *
    clear hle hle0
    go_wp2_with fail
    refine IHj.out.mono ?_
    rintro e w' ⟨rfl, rfl⟩
    go_wp2_with fail
    go_round
    case rel => exact ⟨j + 1, by omega, by go_num, by rw [HT.out]; congr 1; omega⟩
    case measure => simp [intOf]; omega
   ·have HF := Hd (show (Tm.mk op f n ks).sz = 1 + Tm.szAll (ks.take j) from by rw [HS.out, List.take_of_length_le (by have := HL.out; omega)]; omega)
    go_wp2_with fail
    go_ret
    exact ⟨by rw [HF.out]; rfl, rfl⟩

theorem terms_any (t : Tm) (b o : Nat) (w : World) (h4 : t.sz ≤ 4096) (h : t.At w b o) :
  Calls Tryz.prog 57 #[.pointer (some ⟨b, o, none⟩)] w fun e w' => e = .returned (.int .i64 t.sz) ∧ w = w' := terms_aux t.sz t b o w (Nat.le_refl _) h4 h

set_option maxHeartbeats 1000000 in
set_option maxRecDepth 100000 in
theorem ask_any (n k : Int) (b : Nat) (w : World) (hn : 0 ≤ n ∧ n ≤ 65536) (hk : 0 ≤ k ∧ k ≤ 4096) (hc : w.cell? ⟨b, 0, none⟩ = some (.int .i64 n)) (hf : w.frozen? ⟨b, 0, none⟩ = false) :
    Calls Tryz.prog 56 #[.pointer (some ⟨b, 0, none⟩), .int .i64 k] w fun e w' => Keep (· = b) w w' ∧ w'.cell? ⟨b, 0, none⟩ = some (.int .i64 (n + k)) ∧ w'.frozen? ⟨b, 0, none⟩ = false ∧
      ((n + k ≤ 65536 ∧ e = .returned (.tuple #[])) ∨ (65536 < n + k ∧ e = .panicked tooBig)) := by
  have hs := World.cell?_setCell_same w ⟨b, 0, none⟩ (.int .i64 (n + k)) hc
  have HK := Hd (Keep.set (S := (· = b)) w ⟨b, 0, none⟩ (.int .i64 (n + k)) rfl)
  by_cases h : n + k ≤ 65536
  · go_enter Tryz.func56, Tryz.ntmps56
    go_wp2_with fail
    go_end0
    exact ⟨HK.out, hs, by simpa using hf, .inl ⟨h, rfl⟩⟩
  · have h' : 65536 < n + k := by omega
    go_enter Tryz.func56, Tryz.ntmps56
    go_wp2_with fail
    exact ⟨rfl, HK.out, hs, by simpa using hf, by first | exact .inr ⟨h', rfl⟩ | exact .inr rfl⟩
end Go.Proofs.YtjjbdbklbghlhaaGreatDoor
/- work.all, from what work.of does. -/
namespace Go.Proofs.YtjjbdbklbghlhaaGreatDoor
open Go.RowKit
set_option linter.unusedSimpArgs false

/-- a slice of headers whose memory lies from block lo on -/
def HSl (w : World) (lo : Nat) (l : List Hdr) (v : Value) : Prop :=
 ∃ p len cap, v = .slice p len cap ∧ len = l.length ∧ (l = [] ∨ ∃ b o, p = some ⟨b, o, none⟩ ∧ lo ≤ b ∧ w.rangeAt b o (flatH l))
theorem HSl.of_owns {w : World} {base : Nat} {l : List Hdr} {v : Value} (h : w.ownsRow base 49 11 v l.length (flatH l)) : HSl w base l v := by
 rcases h.2 with ⟨rfl, h0⟩ | ⟨g, cap, cur, rfl, hb, _⟩
 ·exact ⟨none, 0, 0, rfl, h0.symm, .inl (List.length_eq_zero_iff.1 h0)⟩
 ·exact ⟨_, _, _, rfl, rfl, .inr ⟨g, 0, rfl, hb, ownsRow_range h⟩⟩
theorem HSl.keep {S : Nat → Prop} {w w' : World} {lo : Nat} {l : List Hdr} {v : Value} (h : HSl w lo l v) (hk : Keep S w w') (hs : ∀ b, lo ≤ b → ¬ S b) : HSl w' lo l v := by
 obtain ⟨p, len, cap, rfl, hlen, hl⟩ := h
 exact ⟨p, len, cap, rfl, hlen, hl.imp id fun ⟨b, o, hp, hb, hr⟩ => ⟨b, o, hp, hb, hk.range hr (hs b hb)⟩⟩
theorem HSl.ext {w w' : World} {lo : Nat} {l : List Hdr} {v : Value} (h : HSl w lo l v) (hx : Ext w w') : HSl w' lo l v := h.keep (hx.keep fun _ => False) (fun _ _ h => h)
theorem HSl.mono {w : World} {lo lo' : Nat} {l : List Hdr} {v : Value} (h : HSl w lo l v) (hl : lo' ≤ lo) : HSl w lo' l v := by
 obtain ⟨p, len, cap, rfl, hlen, hh⟩ := h
 exact ⟨p, len, cap, rfl, hlen, hh.imp id fun ⟨b, o, hp, hb, hr⟩ => ⟨b, o, hp, by omega, hr⟩⟩

/-- how of and all end: the counter lies in block wb -/
def OfPost (wb : Nat) (r : Option (List Hdr × Int)) (w : World) (e : Ending) (w' : World) : Prop :=
  Keep (· = wb) w w' ∧ match r with
    | some (l, c) => (∃ v, e = .returned v ∧ w'.ownsRow w.heap.size 49 11 v l.length (flatH l)) ∧ l.length ≤ 64 ∧ (0 ≤ c ∧ c ≤ 65536) ∧ w'.cell? ⟨wb, 0, none⟩ = some (.int .i64 c) ∧ w'.frozen? ⟨wb, 0, none⟩ = false
    | none => e = .panicked tooBig
/-- the terms lie below, the counter lies above them -/
structure OfPre (t : Tm) (wb : Nat) (c : Int) (b o : Nat) (w0 w : World) : Prop where
 right : t.right false = true
 size : t.sz ≤ 4096
 at_ : t.At w0 b o
 ext : Ext w0 w
 above : w0.heap.size ≤ wb
 bd : 0 ≤ c ∧ c ≤ 65536
 cell : w.cell? ⟨wb, 0, none⟩ = some (.int .i64 c)
 fr : w.frozen? ⟨wb, 0, none⟩ = false
def OfOf (t : Tm) : Prop := ∀ (x : Hdr) (wb : Nat) (c : Int) (b o : Nat) (w0 w : World), OfPre t wb c b o w0 w →
 Calls Tryz.prog 38 #[.pointer (some ⟨wb, 0, none⟩), .pointer (some ⟨b, o, none⟩), .agg x.cs] w (OfPost wb (t.ofT x c) w)
def AllOf (t : Tm) : Prop := ∀ (l : List Hdr) (v : Value) (wb : Nat) (c : Int) (b o : Nat) (w0 w : World), OfPre t wb c b o w0 w → HSl w (wb + 1) l v → l.length ≤ 64 →
 Calls Tryz.prog 58 #[.pointer (some ⟨wb, 0, none⟩), .pointer (some ⟨b, o, none⟩), v] w (OfPost wb (allF (fun x c => t.ofT x c) l c) w)

theorem OfPre.later {t : Tm} {wb : Nat} {c c' : Int} {b o : Nat} {w0 w w' : World} (h : OfPre t wb c b o w0 w) (hk : Keep (· = wb) w w') (hb : 0 ≤ c' ∧ c' ≤ 65536) (hc : w'.cell? ⟨wb, 0, none⟩ = some (.int .i64 c')) (hf : w'.frozen? ⟨wb, 0, none⟩ = false) : OfPre t wb c' b o w0 w' :=
  ⟨h.right, h.size, h.at_, h.ext.andKeep hk (fun i hi => by rw [hi]; exact h.above), h.above, hb, hc, hf⟩

/-- what is done to new blocks alone is kept, too -/
theorem Keep.trans' {S T : Nat → Prop} {a b c : World} (h : Keep S a b) (k : Keep T b c) (ht : ∀ i, T i → a.heap.size ≤ i) : Keep S a c :=
 ⟨k.os.trans h.os, k.tape.trans h.tape, k.output.trans h.output, Nat.le_trans h.size k.size, fun i hi hs => (k.block i (Nat.lt_of_lt_of_le hi h.size) (fun hti => by have := ht i hti; omega)).trans (h.block i hi hs)⟩
theorem ownsRow_base {w : World} {base base' : Nat} {e : TypeId} {size : Nat} {v : Value} {n : Nat} {xs : List Value} (h : w.ownsRow base e size v n xs) (hb : base' ≤ base) : w.ownsRow base' e size v n xs :=
 ⟨h.1, h.2.imp id fun ⟨g, cap, cur, hv, hg, rest⟩ => ⟨g, cap, cur, hv, Nat.le_trans hb hg, rest⟩⟩
theorem drop_get {α : Type} {l : List α} {j : Nat} (h : j < l.length) : l.drop j = l[j] :: l.drop (j + 1) := List.drop_eq_getElem_cons h

set_option maxHeartbeats 4000000 in
set_option maxRecDepth 100000 in
theorem all_of (t : Tm) (hof : OfOf t) : AllOf t := by
  intro l v wb c b o w0 w hpre hv hl64
  obtain ⟨p, len, cap, rfl, hlen, hvl⟩ := hv
  have HL := Hd hlen
  have HP := Hd hpre
  have HO := Hd hof
  have hwb := World.block_lt_of_cell? w _ hpre.cell
  have hmm := @run_makeMap Tryz.prog
  have HZ := Hd zeroH
  clear hlen hpre hof
  go_enter Tryz.func58, Tryz.ntmps58
  go_wp2_with fail
  go_loopw [15] (fun i wr => ∃ (j : Nat) (S : List Hdr) (c1 : Int), j ≤ len ∧ i = .int .i64 j ∧ Hid (SetIs wr w.heap.size S) ∧ S.length ≤ 64 ∧ Hid ((gather (fun x c => t.ofT x c) (l.drop j) S c1).map (fun r => (sortH r.1, r.2)) = allF (fun x c => t.ofT x c) l c) ∧ Hid (OfPre t wb c1 b o w0 wr) ∧ Hid (Keep (· = wb) w wr)) (fun i _ => len - (intOf i).toNat)
  case atStart => exact ⟨0, [], c, Nat.zero_le _, rfl, SetIs.made w, by simp, rfl, HP.out.later ((Ext.alloc _ _).keep _) HP.out.bd ((Ext.alloc w _).later _ _ HP.out.cell) (by rw [Below.frozen (Ext.alloc w (.map #[] 0)) hwb]; exact HP.out.fr), (Ext.alloc _ _).keep _⟩
  case round =>
    obtain ⟨wo, rfl⟩ : ∃ wo : World, wo = wr := ⟨_, rfl⟩
    obtain ⟨j, S, c1, hj, rfl, hS, hS64, hR, hpr, hk⟩ := hrel
    by_cases hlt : j < len
    · have hjl : j < l.length := by rw [← HL.out]; exact hlt
      rcases hvl with hvl | ⟨b', o', rfl, hb', hr⟩
      · exfalso; subst hvl; simp at hjl
      have hre := Hd (hk.out.range (rangeAt_get Hdr.len_cs hr j hjl) (by omega))
      have hxa : Ext wo (wo.alloc (.cells (l[j]).cs 49)) := Ext.alloc _ _
      have hpa : OfPre t wb c1 b o w0 (wo.alloc (.cells (l[j]).cs 49)) := hpr.out.later (hxa.keep _) hpr.out.bd (hxa.later _ _ hpr.out.cell) (by rw [Below.frozen hxa (World.block_lt_of_cell? wo _ hpr.out.cell)]; exact hpr.out.fr)
      have HOx := Hd (HO.out (l[j]) wb c1 b o w0 _ hpa)
      have HKa := Hd (hk.out.trans (hxa.keep _))
      have HSa := Hd (hS.out.ext hxa)
      have hR' := Hd (show ((((t.ofT (l[j]) c1).bind fun r => (putAll S r.1).bind fun S' => gather (fun x c => t.ofT x c) (l.drop (j + 1)) S' r.2)).map fun r => (sortH r.1, r.2)) = allF (fun x c => t.ofT x c) l c from by
        have := hR.out
        rw [drop_get hjl] at this
        exact this)
      have hszr : w.heap.size ≤ wo.heap.size := hk.out.size
      have hsr : w.heap.size < wo.heap.size := hS.out.lt
      have HPa := Hd hpa
      have HX1 := Hd (rangeAt_new wo (l[j]).cs 49)
      generalize hxj : l[j] = x at *
      clear hxj hpa hxa hR hS hpr hk hr
      go_wp2_with (first
        | (refine wpList_store_new rfl 49 _ _ rfl _ x.cs rfl rfl (by rw [x.size_cs]; kernel_rfl) (by rw [x.size_cs]; rfl) (all_oneCell_toArray x.one) ?_)
        | (refine wpList_load_H rfl _ rfl b' (o' + j * 11) rfl x hre.out ?_)
        | (refine wpList_load_H rfl _ rfl _ _ rfl x HX1.out ?_))
      refine HOx.out.mono ?_
      rintro e w2 ⟨hk2, hm2⟩
      cases hv : t.ofT x c1 with
      | none =>
        rw [hv] at hm2 hR'
        subst hm2
        have HF := Hd hR'.out
        clear hv hR'
        go_wp2_with fail
        exact ⟨rfl, HKa.out.trans hk2, by rw [← HF.out]; rfl⟩
      | some r =>
        rw [hv] at hm2 hR'
        obtain ⟨xs, c2⟩ := r
        obtain ⟨⟨v2, rfl, hown2⟩, hx64, hbd2, hc2, hf2⟩ := hm2
        obtain ⟨p2, len2, cap2, rfl, hlen2, hxl⟩ := HSl.of_owns hown2
        have HL2 := Hd hlen2
        have HP2 := Hd (HPa.out.later hk2 hbd2 hc2 hf2)
        have HK2 := Hd (HKa.out.trans hk2)
        have hwbr : wb < wo.heap.size := by omega
        have HS2 := Hd (HSa.out.keep hk2 (by show ¬ w.heap.size = wb; omega))
        have HR2 := Hd (show (((putAll S (xs.drop 0)).bind fun S' => gather (fun x c => t.ofT x c) (l.drop (j + 1)) S' c2).map fun r => (sortH r.1, r.2)) = allF (fun x c => t.ofT x c) l c from hR'.out)
        clear hv hR' hown2 hlen2 hbd2 hc2 hf2 hk2
        go_wp2_with fail
        go_loopw [24] (fun i wr => ∃ (k : Nat) (S' : List Hdr), k ≤ len2 ∧ i = .int .i64 k ∧ Hid (SetIs wr w.heap.size S') ∧ S'.length ≤ 64 ∧ Hid ((((putAll S' (xs.drop k)).bind fun S'' => gather (fun x c => t.ofT x c) (l.drop (j + 1)) S'' c2).map fun r => (sortH r.1, r.2)) = allF (fun x c => t.ofT x c) l c) ∧ Hid (OfPre t wb c2 b o w0 wr) ∧ Hid (Keep (· = wb) w wr) ∧
            Hid (xs = [] ∨ ∃ b o, p2 = some ⟨b, o, none⟩ ∧ w.heap.size < b ∧ wr.rangeAt b o (flatH xs))) (fun i _ => len2 - (intOf i).toNat)
        case atStart => exact ⟨0, S, Nat.zero_le _, rfl, HS2.out, hS64, HR2.out, HP2.out, HK2.out, hxl.imp id fun ⟨b, o, hp, hb, hr⟩ => ⟨b, o, hp, by simp at hb; omega, hr⟩⟩
        case round =>
          obtain ⟨k, S', hkl, rfl, hS2, hS264, hR3, hp3, hk3, hxl3⟩ := hrel
          by_cases hlt2 : k < len2
          · have hkx : k < xs.length := by rw [← HL2.out]; exact hlt2
            rcases hxl3.out with hxl3 | ⟨bx, ox, rfl, hbx, hrx⟩
            · exfalso; subst hxl3; simp at hkx
            have hrk := Hd (rangeAt_get Hdr.len_cs hrx k hkx)
            have hxb : Ext wr (wr.alloc (.cells (xs[k]).cs 49)) := Ext.alloc _ _
            have HSb := Hd (hS2.out.ext hxb)
            have HPb := Hd (show OfPre t wb c2 b o w0 (wr.alloc (.cells (xs[k]).cs 49)) from hp3.out.later (hxb.keep _) hp3.out.bd (hxb.later _ _ hp3.out.cell) (by rw [Below.frozen hxb (World.block_lt_of_cell? wr _ hp3.out.cell)]; exact hp3.out.fr))
            have HKb := Hd (hk3.out.trans (hxb.keep _))
            have HXk := Hd (rangeAt_new wr (xs[k]).cs 49)
            have HRb := Hd (show ((((putM S' (xs[k])).bind fun S' => putAll S' (xs.drop (k + 1))).bind fun S'' => gather (fun x c => t.ofT x c) (l.drop (j + 1)) S'' c2).map fun r => (sortH r.1, r.2)) = allF (fun x c => t.ofT x c) l c from by
              have := hR3.out
              rw [drop_get hkx] at this
              exact this)
            have HXb := Hd (World.rangeAt.later hxb.later hrx)
            have hszr2 : w.heap.size < wr.heap.size := hS2.out.lt
            generalize hyk : xs[k] = y at *
            clear hyk hS2 hR3 hp3 hk3 hxl3 hrx hxb
            go_wp2_with (first
              | (refine wpList_store_new rfl 49 _ _ rfl _ y.cs rfl rfl (by rw [y.size_cs]; kernel_rfl) (by rw [y.size_cs]; rfl) (all_oneCell_toArray y.one) ?_)
              | (refine wpList_load_H rfl _ rfl bx (ox + k * 11) rfl y hrk.out ?_)
              | (refine wpList_load_H rfl _ rfl _ _ rfl y HXk.out ?_))
            by_cases hin : y ∈ S'
            · refine (add_there S' y w.heap.size _ HSb.out hin).mono ?_
              rintro e w3 ⟨rfl, hx3⟩
              have HRc := Hd (show (((putAll S' (xs.drop (k + 1))).bind fun S'' => gather (fun x c => t.ofT x c) (l.drop (j + 1)) S'' c2).map fun r => (sortH r.1, r.2)) = allF (fun x c => t.ofT x c) l c from by
                have := HRb.out
                rw [putM, if_pos hin] at this
                exact this)
              have HP3 := Hd (HPb.out.later (hx3.keep _) HPb.out.bd (hx3.later _ _ HPb.out.cell) (by rw [Below.frozen hx3 (World.block_lt_of_cell? _ _ HPb.out.cell)]; exact HPb.out.fr))
              clear hin
              go_wp2_with fail
              go_roundw
              case rel => exact ⟨k + 1, S', by omega, by go_num, HSb.out.ext hx3, hS264, HRc.out, HP3.out, HKb.out.trans (hx3.keep _), .inr ⟨bx, ox, rfl, hbx, World.rangeAt.later hx3.later HXb.out⟩⟩
              case measure => simp [intOf]; omega
            · refine (add_new S' y w.heap.size _ HSb.out hin).mono ?_
              rintro e w3 ⟨hk3, ⟨hl3, rfl, hs3⟩ | ⟨hl3, rfl⟩⟩
              · have HRc := Hd (show (((putAll (S' ++ [y]) (xs.drop (k + 1))).bind fun S'' => gather (fun x c => t.ofT x c) (l.drop (j + 1)) S'' c2).map fun r => (sortH r.1, r.2)) = allF (fun x c => t.ofT x c) l c from by
                  have := HRb.out
                  rw [putM, if_neg hin, if_pos hl3] at this
                  exact this)
                have hK3 : Keep (· = wb) w w3 := HKb.out.trans' hk3 (fun i hi => by rw [hi]; exact Nat.le_refl _)
                have HP3 := Hd (show OfPre t wb c2 b o w0 w3 from ⟨HPb.out.right, HPb.out.size, HPb.out.at_, HPb.out.ext.andKeep hk3 (fun i hi => by rw [hi]; have := HP.out.ext.size; omega), HPb.out.above, HPb.out.bd, hk3.cell HPb.out.cell (by show ¬ wb = w.heap.size; omega), by rw [World.frozen?_of_block (hk3.block wb (World.block_lt_of_cell? _ _ HPb.out.cell) (by show ¬ wb = w.heap.size; omega))]; exact HPb.out.fr⟩)
                have HX3 := Hd (hk3.range HXb.out (by show ¬ bx = w.heap.size; omega))
                clear hin
                go_wp2_with fail
                go_roundw
                case rel => exact ⟨k + 1, S' ++ [y], by omega, by go_num, hs3, by simp only [List.length_append, List.length_cons, List.length_nil]; omega, HRc.out, HP3.out, hK3, .inr ⟨bx, ox, rfl, hbx, HX3.out⟩⟩
                case measure => simp [intOf]; omega
              · have HRc := Hd (show none = allF (fun x c => t.ofT x c) l c from by
                  have := HRb.out
                  rw [putM, if_neg hin, if_neg (by omega)] at this
                  exact this)
                have hK3 : Keep (· = wb) w w3 := HKb.out.trans' hk3 (fun i hi => by rw [hi]; exact Nat.le_refl _)
                clear hin
                go_wp2_with fail
                exact ⟨rfl, hK3, by rw [← HRc.out]⟩
          · have HRc := Hd (show ((gather (fun x c => t.ofT x c) (l.drop (j + 1)) S' c2).map fun r => (sortH r.1, r.2)) = allF (fun x c => t.ofT x c) l c from by
              have := hR3.out
              rw [List.drop_of_length_le (by have := HL2.out; omega)] at this
              exact this)
            clear hR3 hxl3
            go_wp2_with fail
            go_roundw
            case rel => exact ⟨j + 1, S', c2, by omega, by go_num, hS2.out, hS264, HRc.out, hp3.out, hk3.out⟩
            case measure => simp [intOf]; omega
    · have HRc := Hd (show some (sortH S, c1) = allF (fun x c => t.ofT x c) l c from by
        have := hR.out
        rw [List.drop_of_length_le (by have := HL.out; omega)] at this
        exact this)
      have HLi := Hd (list_any S w.heap.size wo hS.out (by omega))
      clear hR
      go_wp2_with fail
      refine HLi.out.mono ?_
      rintro e w2 ⟨hx2, v2, rfl, hown2⟩
      have HO2 := Hd hown2
      clear hown2
      go_wp2_with fail
      go_ret
      refine ⟨hk.out.trans (hx2.keep _), ?_⟩
      rw [← HRc.out]
      refine ⟨⟨v2, rfl, ?_⟩, by rw [length_sortH]; exact hS64, hpr.out.bd, hx2.later _ _ hpr.out.cell, by rw [Below.frozen hx2 (World.block_lt_of_cell? _ _ hpr.out.cell)]; exact hpr.out.fr⟩
      rw [length_sortH]
      exact ownsRow_base HO2.out hk.out.size
end Go.Proofs.YtjjbdbklbghlhaaGreatDoor
/- work.of: filters and settings. -/
namespace Go.Proofs.YtjjbdbklbghlhaaGreatDoor
open Go.RowKit
set_option linter.unusedSimpArgs false

theorem Tm.ofT_filter (f n : Int) (ks : List Tm) (x : Hdr) (c : Int) : (Tm.mk 6 f n ks).ofT x c = (askM c (Tm.szAll ks + 1 : Nat)).bind fun c' => some (if Tm.holdsHead ks x then [x] else [], c') := by
 rw [Tm.ofT, if_pos rfl]
theorem Tm.ofT_set (f n : Int) (ks : List Tm) (x : Hdr) (c : Int) : (Tm.mk 7 f n ks).ofT x c = (askM c 1).bind fun c' => some ([x.put f.toNat n], c') := by
 rw [Tm.ofT, if_neg (by omega), if_pos rfl]
theorem Tm.ofT_then (f n : Int) (ks : List Tm) (x : Hdr) (c : Int) : (Tm.mk 9 f n ks).ofT x c = Tm.thenT ks [x] c := by
 rw [Tm.ofT, if_neg (by omega), if_neg (by omega), if_pos rfl]
theorem Tm.ofT_star (f n : Int) (ks : List Tm) (x : Hdr) (c : Int) : (Tm.mk 10 f n ks).ofT x c = Tm.starT ks x c := by
 rw [Tm.ofT, if_neg (by omega), if_neg (by omega), if_neg (by omega), if_pos rfl]
theorem Tm.ofT_union (f n : Int) (ks : List Tm) (x : Hdr) (c : Int) : (Tm.mk 8 f n ks).ofT x c = (Tm.unionT ks x [] c).map fun r => (sortH r.1, r.2) := by
 rw [Tm.ofT, if_neg (by omega), if_neg (by omega), if_neg (by omega), if_neg (by omega)]

/-- a list of one header, made anew -/
theorem owns_one {w w' : World} {x : Hdr} (hb : w'.heap.size ≤ w.heap.size) : (w.alloc (.cells x.cs 49)).ownsRow w'.heap.size 49 11 (.slice (some ⟨w.heap.size, 0, none⟩) 1 1) [x].length (flatH [x]) := by
 have := World.ownsRow_lit (base := w'.heap.size) (e := 49) (size := 11) w x.cs 1 hb (by unfold maxLen; omega) (by rw [x.size_cs])
 simpa [flatH] using this

set_option maxHeartbeats 4000000 in
set_option maxRecDepth 100000 in
theorem of_filter (f n : Int) (ks : List Tm) : OfOf (.mk 6 f n ks) := by
  intro x wb c b o w0 w hpre
  have HP := Hd hpre
  have hat := hpre.at_
  have hwb := World.block_lt_of_cell? w _ hpre.cell
  have hbd := hpre.bd
  rcases Tm.right_pol hpre.right with ⟨-, hlen, hra⟩ | ⟨h, -⟩ | ⟨h, -⟩ | ⟨h, -⟩ <;> try omega
  match ks, hlen with
  | [t], _ =>
    have hrt : t.right true = true := by simp only [Tm.rightAll, Bool.and_eq_true] at hra; exact hra.1
    have HE := Hd (Tm.ofT_filter f n [t] x c)
    have hsz : (Tm.mk 6 f n [t]).sz ≤ 4096 := hpre.size
    obtain ⟨_, _, _, c0, _, _, p, len, cap, c3, hlen, hlc, hcm, hks⟩ := hat
    rcases hks with hks | ⟨b', o', rfl, hall⟩
    · cases hks
    have hlen1 : 0 < len := by rw [hlen]; simp
    clear hlen
    have hxa : Ext w (w.alloc (.cells x.cs 49)) := Ext.alloc _ _
    have d0 := (hpre.ext.trans hxa).later _ _ c0
    have d3 := (hpre.ext.trans hxa).later _ _ c3
    have HT := Hd (terms_any (Tm.mk 6 f n [t]) b o (w.alloc (.cells x.cs 49)) hsz (hpre.at_.later (hpre.ext.trans hxa).later))
    have HS := Hd (show (Tm.mk 6 f n [t]).sz = Tm.szAll [t] + 1 from by simp only [Tm.sz])
    have HA := Hd (ask_any c ((Tm.mk 6 f n [t]).sz : Nat) wb (w.alloc (.cells x.cs 49)) hbd ⟨by omega, by omega⟩ (hxa.later _ _ hpre.cell) (by rw [Below.frozen hxa hwb]; exact hpre.fr))
    have hext0 := hpre.ext
    have HALL := Hd hall.1
    have HXR := Hd (rangeAt_new w x.cs 49)
    have HX := Hd hxa
    have hab := hpre.above
    have hb := World.block_lt_of_cell? w0 _ c0
    generalize (Tm.mk 6 f n [t]).sz = y at *
    clear hpre hxa hall hra c0 c3
    go_enter Tryz.func38, Tryz.ntmps38
    go_wp2_with fail
    refine HT.out.mono ?_
    rintro e w' ⟨rfl, rfl⟩
    go_wp2_with fail
    refine HA.out.mono ?_
    rintro e w2 ⟨hk2, hc2, hf2, ⟨hle, rfl⟩ | ⟨hgt, rfl⟩⟩
    · have e3 := hk2.cell d3 (by show ¬ b = wb; have : b < w0.heap.size := hb; omega)
      have HX2 := Hd (show w2.rangeAt w.heap.size 0 x.cs.toList from hk2.range HXR.out (by show ¬ w.heap.size = wb; omega))
      have hext2 : Ext w0 w2 := (hext0.trans HX.out).andKeep hk2 (fun i hi => by rw [hi]; exact hab)
      have HH := Hd (holds_any t x b' o' w.heap.size 0 w2 hrt (HALL.out.later hext2.later) HX2.out)
      have HE2 := Hd (show (Tm.mk 6 f n [t]).ofT x c = some (if t.holds x then [x] else [], c + y) from by
        rw [HE.out, ← HS.out, askM, if_pos hle]; rfl)
      have HK2 := Hd ((HX.out.keep (· = wb)).trans hk2)
      clear hext2 hk2
      go_wp2_with fail
      refine HH.out.mono ?_
      rintro e w3 ⟨rfl, hx3⟩
      have HX3 := Hd (World.rangeAt.later hx3.later HX2.out)
      have hc3 := hx3.later _ _ hc2
      have hf3 : w3.frozen? ⟨wb, 0, none⟩ = false := by rw [Below.frozen hx3 (World.block_lt_of_cell? _ _ hc2)]; exact hf2
      have hK3 : Keep (· = wb) w w3 := HK2.out.trans (hx3.keep _)
      by_cases hh : t.holds x = true
      · have HF := Hd (HE2.out.trans (by rw [if_pos hh]))
        rw [hh]
        clear hh
        have HC3 := Hd hc3
        have HF3 := Hd hf3
        clear hc3 hf3 hc2 hf2 e3 d3 d0
        go_wp2_with (first | (refine wpList_load_H rfl _ rfl _ _ rfl x HX3.out ?_) | (refine wpList_one_H rfl _ rfl x rfl ?_))
        go_ret
        refine ⟨hK3.trans ((Ext.alloc _ _).keep _), ?_⟩
        rw [HF.out]
        exact ⟨⟨_, rfl, owns_one hK3.size⟩, by simp, ⟨by omega, hle⟩, (Ext.alloc _ _).later _ _ HC3.out, by rw [Below.frozen (Ext.alloc _ _) (World.block_lt_of_cell? _ _ HC3.out)]; exact HF3.out⟩
      · have HF := Hd (HE2.out.trans (by rw [if_neg hh]))
        rw [show t.holds x = false from by simpa using hh]
        clear hh
        have HC3 := Hd hc3
        have HF3 := Hd hf3
        clear hc3 hf3 hc2 hf2 e3 d3 d0
        go_wp2_with fail
        go_ret
        refine ⟨hK3, ?_⟩
        rw [HF.out]
        exact ⟨⟨_, rfl, World.ownsRow_nil _ _ _ _⟩, by simp, ⟨by omega, hle⟩, HC3.out, HF3.out⟩
    · have HF := Hd (show none = (Tm.mk 6 f n [t]).ofT x c from by
        rw [HE.out, ← HS.out, askM, if_neg (by omega)]; rfl)
      have HK2 := Hd ((HX.out.keep (· = wb)).trans hk2)
      clear hk2
      go_wp2_with fail
      exact ⟨rfl, HK2.out, by rw [← HF.out]⟩

theorem rangeAt_set {w : World} {b f : Nat} {cs : Array Value} (h : w.rangeAt b 0 cs.toList) (hf : f < cs.size) (u : Value) : (w.setCell ⟨b, f, none⟩ u).rangeAt b 0 (cs.setIfInBounds f u).toList := fun j v hv => by
 rw [Nat.zero_add]
 rw [Array.getElem?_toList, Array.getElem?_setIfInBounds] at hv
 by_cases hj : f = j
 ·subst hj
  rw [if_pos rfl, if_pos hf] at hv
  cases hv
  have h0 := h f (cs[f]) (by rw [Array.getElem?_toList]; exact Array.getElem?_eq_getElem hf)
  rw [Nat.zero_add] at h0
  exact World.cell?_setCell_same w ⟨b, f, none⟩ _ h0
 ·rw [if_neg hj] at hv
  rw [World.cell?_setCell_other _ _ _ _ (fun e => hj (by injection e))]
  have := h j v (by rw [Array.getElem?_toList]; exact hv)
  rwa [Nat.zero_add] at this

set_option maxHeartbeats 4000000 in
set_option maxRecDepth 100000 in
theorem of_set (f n : Int) (ks : List Tm) : OfOf (.mk 7 f n ks) := by
  intro x wb c b o w0 w hpre
  have hwb := World.block_lt_of_cell? w _ hpre.cell
  have hbd := hpre.bd
  rcases Tm.right_pol hpre.right with ⟨h, -⟩ | ⟨-, hf0, hf10⟩ | ⟨h, -⟩ | ⟨h, -⟩ <;> try omega
  obtain ⟨fk, rfl⟩ := Int.eq_ofNat_of_zero_le hf0
  have hfk : fk < 11 := by omega
  have HE := Hd (Tm.ofT_set fk n ks x c)
  obtain ⟨_, _, hn, c0, c1, c2, -⟩ := hpre.at_
  obtain ⟨nk, rfl⟩ := Int.eq_ofNat_of_zero_le hn.1
  have hxa : Ext w (w.alloc (.cells x.cs 49)) := Ext.alloc _ _
  have d0 := (hpre.ext.trans hxa).later _ _ c0
  have d1 := (hpre.ext.trans hxa).later _ _ c1
  have d2 := (hpre.ext.trans hxa).later _ _ c2
  have HA := Hd (ask_any c 1 wb (w.alloc (.cells x.cs 49)) hbd ⟨by omega, by omega⟩ (hxa.later _ _ hpre.cell) (by rw [Below.frozen hxa hwb]; exact hpre.fr))
  have HXR := Hd (rangeAt_new w x.cs 49)
  have HX := Hd hxa
  have hab := hpre.above
  have hszw : w0.heap.size ≤ w.heap.size := hpre.ext.size
  have hb := World.block_lt_of_cell? w0 _ c0
  have hff : (w.alloc (.cells x.cs 49)).frozen? ⟨w.heap.size, fk, none⟩ = false := by simp [go_sem]
  clear hpre hxa c0 c1 c2
  go_enter Tryz.func38, Tryz.ntmps38
  go_wp2_with fail
  refine HA.out.mono ?_
  rintro e w2 ⟨hk2, hc2, hf2, ⟨hle, rfl⟩ | ⟨hgt, rfl⟩⟩
  · have e1 := hk2.cell d1 (by show ¬ b = wb; have : b < w0.heap.size := hb; omega)
    have e2 := hk2.cell d2 (by show ¬ b = wb; have : b < w0.heap.size := hb; omega)
    have hx2 : w2.rangeAt w.heap.size 0 x.cs.toList := hk2.range HXR.out (by show ¬ w.heap.size = wb; omega)
    have ec := hx2 fk _ (show x.cs.toList[fk]? = some _ from by rw [Array.getElem?_toList]; exact x.cell fk hfk)
    rw [Nat.zero_add] at ec
    have ef : w2.frozen? ⟨w.heap.size, fk, none⟩ = false := by
      rw [World.frozen?_of_block (hk2.block w.heap.size (by simp) (by show ¬ w.heap.size = wb; omega))]; exact hff
    have HX2 := Hd (show (w2.setCell ⟨w.heap.size, fk, none⟩ (.int .u64 nk)).rangeAt w.heap.size 0 (x.put fk nk).cs.toList from by
      rw [x.cs_put fk nk hn]
      exact rangeAt_set hx2 (by rw [x.size_cs]; exact hfk) _)
    have HE2 := Hd (show (Tm.mk 7 fk nk ks).ofT x c = some ([x.put fk nk], c + 1) from by
      rw [HE.out, askM, if_pos hle, Int.toNat_natCast]; rfl)
    have HK2 := Hd ((HX.out.keep (· = wb)).trans hk2)
    have HC2 := Hd hc2
    have HF2 := Hd hf2
    clear hk2 hx2 hff d0 d1 d2 hc2 hf2
    go_wp2_with fail
    go_upto_region 9 with fail
    go_cut [] (fun wx => wx = (w2.setCell ⟨w.heap.size, fk, none⟩ (.int .u64 nk)).drew)
    case first =>
      go_region
      all_goals (go_wp2_with fail; go_meet; rfl)
    case rest =>
      subst hcut
      have hK3 : Keep (· = wb) w (w2.setCell ⟨w.heap.size, fk, none⟩ (.int .u64 nk)) := HK2.out.trans' (Keep.set (S := (· = w.heap.size)) w2 ⟨w.heap.size, fk, none⟩ (.int .u64 nk) rfl) (fun i hi => by rw [hi]; exact Nat.le_refl _)
      have hC3 : (w2.setCell ⟨w.heap.size, fk, none⟩ (.int .u64 nk)).cell? ⟨wb, 0, none⟩ = some (.int .i64 (c + 1)) := by
        rw [World.cell?_setCell_other _ _ _ _ (fun e => by injection e with e1; omega)]; exact HC2.out
      have hF3 : (w2.setCell ⟨w.heap.size, fk, none⟩ (.int .u64 nk)).frozen? ⟨wb, 0, none⟩ = false := by rw [World.frozen?_setCell]; exact HF2.out
      have HF := Hd HE2.out
      generalize (w2.setCell ⟨w.heap.size, fk, none⟩ (.int .u64 nk)) = w3 at *
      have HK3 := Hd hK3
      have HC3 := Hd hC3
      have HF3 := Hd hF3
      clear e1 e2 ec ef hC3 hF3 hK3
      go_wp2_with (first | (refine wpList_load_H rfl _ rfl _ _ rfl _ HX2.out ?_) | (refine wpList_one_H rfl _ rfl _ rfl ?_))
      go_ret
      refine ⟨(HK3.out.trans ((Ext.drew _).keep _)).trans ((Ext.alloc _ _).keep _), ?_⟩
      rw [HF.out]
      exact ⟨⟨_, rfl, owns_one HK3.out.size⟩, by simp, ⟨by omega, hle⟩, (Ext.alloc _ _).later _ _ HC3.out, by rw [World.frozen?_drew, Below.frozen (Ext.alloc _ _) (World.block_lt_of_cell? _ _ HC3.out)]; exact HF3.out⟩
  · have HF := Hd (show none = (Tm.mk 7 fk nk ks).ofT x c from by
      rw [HE.out, askM, if_neg (by omega)]; rfl)
    have HK2 := Hd ((HX.out.keep (· = wb)).trans hk2)
    clear hk2
    go_wp2_with fail
    exact ⟨rfl, HK2.out, by rw [← HF.out]⟩
end Go.Proofs.YtjjbdbklbghlhaaGreatDoor
/- work.of: sequences and unions. -/
namespace Go.Proofs.YtjjbdbklbghlhaaGreatDoor
open Go.RowKit
set_option linter.unusedSimpArgs false

theorem OfPre.kid {op f n : Int} {ks : List Tm} {wb : Nat} {c : Int} {b o : Nat} {w0 w : World} (h : OfPre (.mk op f n ks) wb c b o w0 w) (hra : Tm.rightAll ks false = true) (i : Nat) (hi : i < ks.length) {b' o' : Nat} (hall : Tm.AllAt w0 ks b' o') :
  OfPre (ks[i]) wb c b' (o' + i * 4) w0 w :=
 ⟨Tm.rightAll_get hra i hi, by have := h.size; have := Tm.sz_get i hi; simp only [Tm.sz] at *; omega, Tm.AllAt_get hall i hi, h.ext, h.above, h.bd, h.cell, h.fr⟩

theorem HSl.owned {w : World} {base lo : Nat} {l : List Hdr} {v : Value} (h : w.ownsRow base 49 11 v l.length (flatH l)) (hb : lo ≤ base) : HSl w lo l v := (HSl.of_owns h).mono hb

theorem Keep.owns {S : Nat → Prop} {w w' : World} {base : Nat} {e : TypeId} {size : Nat} {v : Value} {n : Nat} {xs : List Value} (hk : Keep S w w') (h : w.ownsRow base e size v n xs) (hs : ∀ i, base ≤ i → ¬ S i) : w'.ownsRow base e size v n xs :=
 ⟨h.1, h.2.imp id fun ⟨g, cap, cur, hv, hg, hc, rest⟩ => ⟨g, cap, cur, hv, hg, (hk.block g (Array.getElem?_eq_some_iff.1 hc).1 (hs g hg)).trans hc, rest⟩⟩

set_option maxHeartbeats 4000000 in
set_option maxRecDepth 100000 in
theorem of_then (f n : Int) (ks : List Tm) (ih : ∀ i (h : i < ks.length), AllOf (ks[i])) : OfOf (.mk 9 f n ks) := by
  intro x wb c b o w0 w hpre
  have IH := Hd ih
  have hwb := World.block_lt_of_cell? w _ hpre.cell
  rcases Tm.right_pol hpre.right with ⟨h, -⟩ | ⟨h, -⟩ | ⟨h, -⟩ | ⟨-, hlen1, hra⟩ <;> try omega
  have HE := Hd (Tm.ofT_then f n ks x c)
  obtain ⟨_, _, _, c0, _, _, p, len, cap, c3, hlen, hlc, hcm, hks⟩ := hpre.at_
  have HL := Hd hlen
  have HC0 := Hd c0
  have HC3 := Hd c3
  have HRA := Hd hra
  have hxa : Ext w (w.alloc (.cells x.cs 49)) := Ext.alloc _ _
  have d0 := (hpre.ext.trans hxa).later _ _ c0
  have hxb : Ext w ((w.alloc (.cells x.cs 49)).alloc (.cells x.cs 49)) := hxa.andAlloc _
  have HXR := Hd (rangeAt_new w x.cs 49)
  have HP := Hd (show OfPre (.mk 9 f n ks) wb c b o w0 ((w.alloc (.cells x.cs 49)).alloc (.cells x.cs 49)) from hpre.later (hxb.keep _) hpre.bd (hxb.later _ _ hpre.cell) (by rw [Below.frozen hxb hwb]; exact hpre.fr))
  have HX := Hd hxb
  have hb := World.block_lt_of_cell? w0 _ c0
  have e3 := (hpre.ext.trans hxb).later _ _ c3
  have HO := Hd (show ((w.alloc (.cells x.cs 49)).alloc (.cells x.cs 49)).ownsRow w.heap.size 49 11 (.slice (some ⟨w.heap.size + 1, 0, none⟩) 1 1) [x].length (flatH [x]) from by
    have := owns_one (w := w.alloc (.cells x.cs 49)) (w' := w) (x := x) (by simp)
    rwa [World.size_alloc] at this)
  clear hpre hxa hxb hlen hra ih c0 c3
  go_enter Tryz.func38, Tryz.ntmps38
  go_wp2_with (first | (refine wpList_load_H rfl _ rfl _ _ rfl x HXR.out ?_) | (refine wpList_one_H rfl _ rfl x rfl ?_))
  clear d0 e3
  go_loopw [7, 60] (fun v i wr => ∃ (j : Nat) (l : List Hdr) (c1 : Int), j ≤ len ∧ i = .int .i64 j ∧ Hid (wr.ownsRow w.heap.size 49 11 v l.length (flatH l)) ∧ l.length ≤ 64 ∧ Hid (Tm.thenT (ks.drop j) l c1 = (Tm.mk 9 f n ks).ofT x c) ∧ Hid (OfPre (.mk 9 f n ks) wb c1 b o w0 wr) ∧ Hid (Keep (· = wb) w wr)) (fun _ i _ => len - (intOf i).toNat)
  case atStart => exact ⟨0, [x], c, Nat.zero_le _, rfl, HO.out, by simp, HE.out.symm, HP.out, HX.out.keep _⟩
  case round =>
    obtain ⟨j, l, c1, hj, rfl, hO, hl64, hR, hp, hk⟩ := hrel
    by_cases hlt : j < len
    · rcases hks with hks | ⟨b', o', rfl, hall⟩
      · exfalso; have := HL.out; subst hks; simp at this; omega
      have hjl : j < ks.length := by rw [← HL.out]; exact hlt
      have e3 := hp.out.ext.later _ _ HC3.out
      have HAj := Hd (IH.out j hjl l u7 wb c1 b' (o' + j * 4) w0 wr (hp.out.kid HRA.out j hjl hall) (HSl.owned hO.out (by omega)) hl64)
      have HR' := Hd (show ((allF (fun x c => (ks[j]).ofT x c) l c1).bind fun r => Tm.thenT (ks.drop (j + 1)) r.1 r.2) = (Tm.mk 9 f n ks).ofT x c from by
        have := hR.out
        rw [drop_get hjl] at this
        exact this)
      have hszr : w.heap.size ≤ wr.heap.size := hk.out.size
      generalize hF : allF (fun x c => (ks[j]).ofT x c) l c1 = R at *
      clear hF hall hR hO
      go_wp2_with fail
      refine HAj.out.mono ?_
      rintro e w2 ⟨hk2, hm2⟩
      cases R with
      | none =>
        have hm2' : e = .panicked tooBig := hm2
        subst hm2'
        clear hm2 e3
        go_wp2_with fail
        exact ⟨rfl, hk.out.trans hk2, by rw [← HR'.out]; rfl⟩
      | some r =>
        obtain ⟨l2, c2⟩ := r
        obtain ⟨⟨v2, rfl, hown2⟩, hx64, hbd2, hc2, hf2⟩ := hm2
        have HO2 := Hd (ownsRow_base hown2 hszr)
        have HP2 := Hd (hp.out.later hk2 hbd2 hc2 hf2)
        have HK2 := Hd (hk.out.trans hk2)
        clear hown2 hbd2 hc2 hf2 hk2 e3
        go_wp2_with fail
        go_roundw
        case rel => exact ⟨j + 1, l2, c2, by omega, by go_num, HO2.out, hx64, HR'.out, HP2.out, HK2.out⟩
        case measure => simp [intOf]; omega
    · have HRc := Hd (show some (l, c1) = (Tm.mk 9 f n ks).ofT x c from by
        have := hR.out
        rw [List.drop_of_length_le (by have := HL.out; omega)] at this
        exact this)
      clear hR
      go_wp2_with fail
      go_ret
      refine ⟨hk.out, ?_⟩
      rw [← HRc.out]
      exact ⟨⟨u7, rfl, hO.out⟩, hl64, hp.out.bd, hp.out.cell, hp.out.fr⟩
end Go.Proofs.YtjjbdbklbghlhaaGreatDoor
/- work.of: unions. -/
namespace Go.Proofs.YtjjbdbklbghlhaaGreatDoor
open Go.RowKit
set_option linter.unusedSimpArgs false

theorem Hdr.cs_eq (x : Hdr) : x.cs = #[.int .u64 (x.f 0), .int .u64 (x.f 1), .int .u64 (x.f 2), .int .u64 (x.f 3), .int .u64 (x.f 4), .int .u64 (x.f 5), .int .u64 (x.f 6), .int .u64 (x.f 7), .int .u64 (x.f 8), .int .u64 (x.f 9), .int .u64 (x.f 10)] := by
 apply Array.ext_getElem?
 intro i
 by_cases h : i < 11
 ·rw [x.cell i h]
  match i, h with
  | 0, _ | 1, _ | 2, _ | 3, _ | 4, _ | 5, _ | 6, _ | 7, _ | 8, _ | 9, _ | 10, _ => rfl
 ·rw [Array.getElem?_eq_none (by rw [x.size_cs]; omega), Array.getElem?_eq_none (by simp; omega)]
theorem loadH {W : World} {b o : Nat} {x : Hdr} (h : W.rangeAt b o x.cs.toList) : (Instr.loadAt 49 (.pointer (some ⟨b, o, none⟩))).run Tryz.prog W = .ok (.agg x.cs) W := by
 have := run_loadAt_mid (P := Tryz.prog) W b o 49 x.cs.toList _ h Tryz.underlying49 rfl (by rw [x.len_cs]; kernel_rfl)
 rwa [Array.toArray_toList] at this

theorem execLoadH {a : Act} {o : Oper} {x : Operand} {b f : Nat} {y : Hdr} {W : World} (ho : o.op = .load 49 x) (hx : a.eval x = .pointer (some ⟨b, f, none⟩)) (h : W.rangeAt b f y.cs.toList) : (execOp a.eval o).run Tryz.prog W = .ok (.value (.agg y.cs)) W := by
 have := loadH h
 unfold execOp
 simp only [ho, hx, Sem.run_bind, this, Result.andThen_ok]
 rfl

set_option maxHeartbeats 4000000 in
set_option maxRecDepth 100000 in
theorem of_union (f n : Int) (ks : List Tm) (ih : ∀ i (h : i < ks.length), OfOf (ks[i])) : OfOf (.mk 8 f n ks) := by
  intro x wb c b o w0 w hpre
  have IH := Hd ih
  have hwb := World.block_lt_of_cell? w _ hpre.cell
  rcases Tm.right_pol hpre.right with ⟨h, -⟩ | ⟨h, -⟩ | ⟨h, -⟩ | ⟨-, hlen1, hra⟩ <;> try omega
  have HE := Hd (Tm.ofT_union f n ks x c)
  obtain ⟨_, _, _, c0, _, _, p, len, cap, c3, hlen, hlc, hcm, hks⟩ := hpre.at_
  have HL := Hd hlen
  have HC0 := Hd c0
  have HC3 := Hd c3
  have HRA := Hd hra
  have hmm := @run_makeMap Tryz.prog
  have HZ := Hd zeroH
  have hxa : Ext w (w.alloc (.cells x.cs 49)) := Ext.alloc _ _
  have d0 := (hpre.ext.trans hxa).later _ _ c0
  have hxb : Ext w ((w.alloc (.cells x.cs 49)).alloc (.map #[] 0)) := hxa.andAlloc _
  have HXR := Hd (World.rangeAt.later (Ext.alloc _ (.map #[] 0)).later (rangeAt_new w x.cs 49))
  have HS0 := Hd (show SetIs ((w.alloc (.cells x.cs 49)).alloc (.map #[] 0)) (w.heap.size + 1) [] from by
    have := SetIs.made (w.alloc (.cells x.cs 49))
    rwa [World.size_alloc] at this)
  have HP := Hd (show OfPre (.mk 8 f n ks) wb c b o w0 ((w.alloc (.cells x.cs 49)).alloc (.map #[] 0)) from hpre.later (hxb.keep _) hpre.bd (hxb.later _ _ hpre.cell) (by rw [Below.frozen hxb hwb]; exact hpre.fr))
  have HX := Hd hxb
  have hb := World.block_lt_of_cell? w0 _ c0
  have hbw : b < w.heap.size := Nat.lt_of_lt_of_le hb hpre.ext.size
  have e3 := (hpre.ext.trans hxb).later _ _ c3
  clear hpre hxa hxb hlen hra ih c0 c3
  go_enter Tryz.func38, Tryz.ntmps38
  go_wp2_with fail
  clear d0 e3
  go_loopw [120] (fun i wr => ∃ (j : Nat) (S : List Hdr) (c1 : Int), j ≤ len ∧ i = .int .i64 j ∧ Hid (SetIs wr (w.heap.size + 1) S) ∧ S.length ≤ 64 ∧ Hid ((Tm.unionT (ks.drop j) x S c1).map (fun r => (sortH r.1, r.2)) = (Tm.mk 8 f n ks).ofT x c) ∧ Hid (OfPre (.mk 8 f n ks) wb c1 b o w0 wr) ∧ Hid (Keep (· = wb) w wr) ∧ Hid (wr.rangeAt w.heap.size 0 x.cs.toList)) (fun i _ => len - (intOf i).toNat)
  case atStart => exact ⟨0, [], c, Nat.zero_le _, rfl, HS0.out, by simp, HE.out.symm, HP.out, HX.out.keep _, HXR.out⟩
  case round =>
    obtain ⟨wo, rfl⟩ : ∃ wo : World, wo = wr := ⟨_, rfl⟩
    obtain ⟨j, S, c1, hj, rfl, hS, hS64, hR, hpr, hk, hxr⟩ := hrel
    by_cases hlt : j < len
    · rcases hks with hks | ⟨b', o', rfl, hall⟩
      · exfalso; have := HL.out; subst hks; simp at this; omega
      have hjl : j < ks.length := by rw [← HL.out]; exact hlt
      have f3 := hpr.out.ext.later _ _ HC3.out
      have hxd : Ext wo wo.drew := Ext.drew _
      have HOj := Hd (IH.out j hjl x wb c1 b' (o' + j * 4) w0 wo.drew ((hpr.out.later (hxd.keep _) hpr.out.bd hpr.out.cell hpr.out.fr).kid HRA.out j hjl hall))
      have HR' := Hd (show (((((ks[j]).ofT x c1).bind fun r => (putAll S r.1).bind fun S' => Tm.unionT (ks.drop (j + 1)) x S' r.2)).map fun r => (sortH r.1, r.2)) = (Tm.mk 8 f n ks).ofT x c from by
        have := hR.out
        rw [drop_get hjl] at this
        exact this)
      have hszr : w.heap.size ≤ wo.heap.size := hk.out.size
      generalize hF : (ks[j]).ofT x c1 = R at *
      clear hF hall hR
      have hu28 : Tryz.prog.underlying 49 = some (.array 11 23) := Tryz.underlying49
      have hi28 : (Tryz.prog.info? 49).map (·.size) = some x.cs.toList.length := by rw [x.len_cs]; kernel_rfl
      have habw : w0.heap.size ≤ wb := hpr.out.above
      have hbw0 : b < w0.heap.size := hb
      cases R with
      | none =>
        have HOn := Hd (show Calls Tryz.prog 38 #[.pointer (some ⟨wb, 0, none⟩), .pointer (some ⟨b', o' + j * 4, none⟩), .agg x.cs] wo.drew (fun e w' => e = .panicked tooBig ∧ Keep (· = wb) wo.drew w') from HOj.out.mono fun e w' h => ⟨h.2, h.1⟩)
        clear HOj
        go_wp2_with fail
        refine wp_region_held_drew (S := fun W => W.cell? ⟨b, o + 3, none⟩ = some (.slice (some ⟨b', o', none⟩) len cap) ∧ W.rangeAt w.heap.size 0 x.cs.toList) (by kernel_rfl) ⟨f3, hxr.out⟩ (fun hSW => ?_)
        refine wpAnyH_take (i := 7) (v := ?_) rfl (by kernel_rfl) (by kernel_rfl) (by kernel_rfl) (fun _ _ _ h => h) (Or.inl ⟨by rfl, ?_⟩) hSW ?_
        case' refine_2 => (intro W hW; refine execLoadH (x := .tmp 5) ?_ ?_ hW.2; rfl; rfl)
        refine wpAnyH_take (i := 0) (v := ?_) rfl (by kernel_rfl) (by kernel_rfl) (by kernel_rfl) (fun _ _ _ h => h) (Or.inl ⟨by rfl, ?_⟩) hSW ?_
        case' refine_2 => (intro W hW; obtain ⟨hW1, hW2⟩ := hW; go_simp; try with_reducible rfl)
        refine wpAnyH_take (i := 1) (v := ?_) rfl (by kernel_rfl) (by kernel_rfl) (by kernel_rfl) (fun _ _ _ h => h) (Or.inl ⟨by rfl, ?_⟩) hSW ?_
        case' refine_2 => (intro W hW; obtain ⟨hW1, hW2⟩ := hW; go_simp; try with_reducible rfl)
        refine wpAnyH_take (i := 2) (v := ?_) rfl (by kernel_rfl) (by kernel_rfl) (by kernel_rfl) (fun _ _ _ h => h) (Or.inl ⟨by rfl, ?_⟩) hSW ?_
        case' refine_2 => (intro W hW; obtain ⟨hW1, hW2⟩ := hW; go_simp; try with_reducible rfl)
        refine wpAnyH_take (i := 3) (v := ?_) rfl (by kernel_rfl) (by kernel_rfl) (by kernel_rfl) (fun _ _ _ h => h) (Or.inl ⟨by rfl, ?_⟩) hSW ?_
        case' refine_2 => (intro W hW; obtain ⟨hW1, hW2⟩ := hW; go_simp; try with_reducible rfl)
        refine wpAnyH_take (i := 4) (v := ?_) rfl (by kernel_rfl) (by kernel_rfl) (by kernel_rfl) (fun _ _ _ h => h) (Or.inl ⟨by rfl, ?_⟩) hSW ?_
        case' refine_2 => (intro W hW; obtain ⟨hW1, hW2⟩ := hW; go_simp; try with_reducible rfl)
        refine wpAnyH_take (i := 5) (v := ?_) rfl (by kernel_rfl) (by kernel_rfl) (by kernel_rfl) (fun _ _ _ h => h) (Or.inl ⟨by rfl, ?_⟩) hSW ?_
        case' refine_2 => (intro W hW; obtain ⟨hW1, hW2⟩ := hW; go_simp; try with_reducible rfl)
        refine wpAnyH_take (i := 6) (v := ?_) rfl (by kernel_rfl) (by kernel_rfl) (by kernel_rfl) (fun _ _ _ h => h) (Or.inl ⟨by rfl, ?_⟩) hSW ?_
        case' refine_2 => (intro W hW; obtain ⟨hW1, hW2⟩ := hW; go_simp; try with_reducible rfl)
        refine wpAnyH_take (i := 10) (v := ?_) rfl (by kernel_rfl) (by kernel_rfl) (by kernel_rfl) (fun _ _ _ h => h) (Or.inl ⟨by rfl, ?_⟩) hSW ?_
        case' refine_2 => (intro W hW; obtain ⟨hW1, hW2⟩ := hW; go_simp; try with_reducible rfl)
        refine wpAnyH_ready (rs := [8]) (by kernel_rfl) (by simp) (AllReadyH.cons rfl (fun K hK => ?_) AllReadyH.nil)
        go_simp
        go_wp2_with (first | (go_at_call 38; refine HOn.out.mono ?_; rintro e w2 ⟨rfl, hk2⟩))
        exact ⟨rfl, hk.out.trans ((hxd.keep _).trans hk2), by rw [← HR'.out]; rfl⟩
      | some r =>
        obtain ⟨l2, c2⟩ := r
        have HOs := Hd (show Calls Tryz.prog 38 #[.pointer (some ⟨wb, 0, none⟩), .pointer (some ⟨b', o' + j * 4, none⟩), .agg x.cs] wo.drew (fun e w' => ∃ p2 cap2, e = .returned (.slice p2 l2.length cap2) ∧ Keep (· = wb) wo.drew w' ∧ Hid (w'.ownsRow wo.heap.size 49 11 (.slice p2 l2.length cap2) l2.length (flatH l2)) ∧ l2.length ≤ 64 ∧ (0 ≤ c2 ∧ c2 ≤ 65536) ∧ Hid (w'.cell? ⟨wb, 0, none⟩ = some (.int .i64 c2)) ∧ Hid (w'.frozen? ⟨wb, 0, none⟩ = false)) from HOj.out.mono fun e w' h => by
          obtain ⟨hk2, ⟨v2, rfl, hown2⟩, h64, hbd, hc, hf⟩ := h
          rcases hown2.2 with ⟨rfl, h0⟩ | ⟨g, cap, cur, rfl, _⟩
          · exact ⟨none, 0, by rw [h0], hk2, by rw [Hid, h0]; rw [h0] at hown2; exact hown2, h64, hbd, hc, hf⟩
          · exact ⟨_, _, rfl, hk2, hown2, h64, hbd, hc, hf⟩)
        clear HOj
        go_upto_region 40 with fail
        go_cut [131, 132, 133] (fun s131 s132 s133 wx => ∃ (p2 : Option Addr) (cap2 : Nat), s131 = .slice p2 l2.length cap2 ∧ s132 = .int .i64 l2.length ∧ s133 = .int .i64 0 ∧ Keep (· = wb) wo wx ∧ Hid (wx.ownsRow wo.heap.size 49 11 (.slice p2 l2.length cap2) l2.length (flatH l2)) ∧ l2.length ≤ 64 ∧ (0 ≤ c2 ∧ c2 ≤ 65536) ∧ Hid (wx.cell? ⟨wb, 0, none⟩ = some (.int .i64 c2)) ∧ Hid (wx.frozen? ⟨wb, 0, none⟩ = false))
        case first =>
          go_region_held3 (fun W => W.cell? ⟨b, o + 3, none⟩ = some (.slice (some ⟨b', o', none⟩) len cap) ∧ W.rangeAt w.heap.size 0 x.cs.toList) (first | exact ⟨f3, hxr.out⟩ | exact ⟨hk2.cell (w := wo.drew) f3 (by show ¬ b = wb; omega), hk2.range (w := wo.drew) hxr.out (by show ¬ w.heap.size = wb; omega)⟩) (first | (go_at_call 38; refine HOs.out.mono ?_; rintro e w2 ⟨p2, cap2, rfl, hk2, hown2, h64, hbd2, hc2, hf2⟩))
          all_goals (go_wp2_with fail; go_meet; exact ⟨p2, cap2, rfl, rfl, rfl, (hxd.keep _).trans hk2, hown2, h64, hbd2, hc2, hf2⟩)
        case rest =>
          obtain ⟨p2, cap2, rfl, rfl, rfl, hk2, hown2, hx64, hbd2, hc2, hf2⟩ := hcut
          have hpr2 := hpr.out.later hk2 hbd2 hc2.out hf2.out
          have HP2 := Hd hpr2
          have HK2 := Hd (hk.out.trans hk2)
          have hwbr : wb < wo.heap.size := by omega
          have HS2 := Hd (hS.out.keep hk2 (by show ¬ w.heap.size + 1 = wb; omega))
          have HXR2 := Hd (hk2.range hxr.out (by show ¬ w.heap.size = wb; omega))
          have HR2 := Hd (show ((putAll S (l2.drop 0)).bind fun S'' => Tm.unionT (ks.drop (j + 1)) x S'' c2).map (fun r : List Hdr × Int => (sortH r.1, r.2)) = (Tm.mk 8 f n ks).ofT x c from HR'.out)
          have hxl := (HSl.of_owns hown2.out)
          have HXL := Hd (show l2 = [] ∨ ∃ b o, p2 = some ⟨b, o, none⟩ ∧ wo.heap.size ≤ b ∧ wc.rangeAt b o (flatH l2) from by
            obtain ⟨p3, len3, cap3, he, -, h3⟩ := hxl
            injection he with e1 e2 e3
            rw [e1]; exact h3)
          have hsb : w.heap.size + 1 < wo.heap.size := hS.out.lt
          clear hpr2 hk2 hown2 hxl HR' hS hxr hpr hk hc2 hf2 f3
          go_wp2_with fail
          go_loopw [133] (fun i wr => ∃ (k : Nat) (S' : List Hdr), k ≤ l2.length ∧ i = .int .i64 k ∧ Hid (SetIs wr (w.heap.size + 1) S') ∧ S'.length ≤ 64 ∧ Hid (((putAll S' (l2.drop k)).bind fun S'' => Tm.unionT (ks.drop (j + 1)) x S'' c2).map (fun r : List Hdr × Int => (sortH r.1, r.2)) = (Tm.mk 8 f n ks).ofT x c) ∧ Hid (OfPre (.mk 8 f n ks) wb c2 b o w0 wr) ∧ Hid (Keep (· = wb) w wr) ∧
              Hid (l2 = [] ∨ ∃ b o, p2 = some ⟨b, o, none⟩ ∧ wo.heap.size ≤ b ∧ wr.rangeAt b o (flatH l2)) ∧ Hid (wr.rangeAt w.heap.size 0 x.cs.toList)) (fun i _ => l2.length - (intOf i).toNat)
          case atStart => exact ⟨0, S, Nat.zero_le _, rfl, HS2.out, hS64, HR2.out, HP2.out, HK2.out, HXL.out, HXR2.out⟩
          case round =>
            obtain ⟨k, S', hkl, rfl, hS2, hS264, hR3, hp3, hk3, hxl3, hxr3⟩ := hrel
            by_cases hlt2 : k < l2.length
            · rcases hxl3.out with hxl3 | ⟨bx, ox, rfl, hbx, hrx⟩
              · exfalso; subst hxl3; simp at hlt2
              have hrk := Hd (rangeAt_get Hdr.len_cs hrx k hlt2)
              have hxb : Ext wr (wr.alloc (.cells (l2[k]).cs 49)) := Ext.alloc _ _
              have HSb := Hd (hS2.out.ext hxb)
              have HPb := Hd (show OfPre (.mk 8 f n ks) wb c2 b o w0 (wr.alloc (.cells (l2[k]).cs 49)) from hp3.out.later (hxb.keep _) hp3.out.bd (hxb.later _ _ hp3.out.cell) (by rw [Below.frozen hxb (World.block_lt_of_cell? wr _ hp3.out.cell)]; exact hp3.out.fr))
              have HKb := Hd (hk3.out.trans (hxb.keep _))
              have HXk := Hd (rangeAt_new wr (l2[k]).cs 49)
              have HRb := Hd (show (((putM S' (l2[k])).bind fun S' => putAll S' (l2.drop (k + 1))).bind fun S'' => Tm.unionT (ks.drop (j + 1)) x S'' c2).map (fun r : List Hdr × Int => (sortH r.1, r.2)) = (Tm.mk 8 f n ks).ofT x c from by
                have := hR3.out
                rw [drop_get hlt2] at this
                exact this)
              have HXb := Hd (World.rangeAt.later hxb.later hrx)
              have HXRb := Hd (World.rangeAt.later hxb.later hxr3.out)
              have hszr2 : w.heap.size + 1 < wr.heap.size := hS2.out.lt
              generalize hyk : l2[k] = y at *
              clear hyk hS2 hR3 hp3 hk3 hxl3 hrx hxb hxr3
              go_wp2_with (first
                | (refine wpList_store_new rfl 49 _ _ rfl _ y.cs rfl rfl (by rw [y.size_cs]; kernel_rfl) (by rw [y.size_cs]; rfl) (all_oneCell_toArray y.one) ?_)
                | (refine wpList_load_H rfl _ rfl bx (ox + k * 11) rfl y hrk.out ?_)
                | (refine wpList_load_H rfl _ rfl _ _ rfl y HXk.out ?_))
              by_cases hin : y ∈ S'
              · refine (add_there S' y (w.heap.size + 1) _ HSb.out hin).mono ?_
                rintro e w3 ⟨rfl, hx3⟩
                have HRc := Hd (show ((putAll S' (l2.drop (k + 1))).bind fun S'' => Tm.unionT (ks.drop (j + 1)) x S'' c2).map (fun r : List Hdr × Int => (sortH r.1, r.2)) = (Tm.mk 8 f n ks).ofT x c from by
                  have := HRb.out
                  rw [putM, if_pos hin] at this
                  exact this)
                have HP3 := Hd (HPb.out.later (hx3.keep _) HPb.out.bd (hx3.later _ _ HPb.out.cell) (by rw [Below.frozen hx3 (World.block_lt_of_cell? _ _ HPb.out.cell)]; exact HPb.out.fr))
                clear hin
                go_wp2_with fail
                go_roundw
                case rel => exact ⟨k + 1, S', by omega, by go_num, HSb.out.ext hx3, hS264, HRc.out, HP3.out, HKb.out.trans (hx3.keep _), .inr ⟨bx, ox, rfl, hbx, World.rangeAt.later hx3.later HXb.out⟩, World.rangeAt.later hx3.later HXRb.out⟩
                case measure => simp [intOf]; omega
              · refine (add_new S' y (w.heap.size + 1) _ HSb.out hin).mono ?_
                rintro e w3 ⟨hk3, ⟨hl3, rfl, hs3⟩ | ⟨hl3, rfl⟩⟩
                · have HRc := Hd (show ((putAll (S' ++ [y]) (l2.drop (k + 1))).bind fun S'' => Tm.unionT (ks.drop (j + 1)) x S'' c2).map (fun r : List Hdr × Int => (sortH r.1, r.2)) = (Tm.mk 8 f n ks).ofT x c from by
                    have := HRb.out
                    rw [putM, if_neg hin, if_pos hl3] at this
                    exact this)
                  have hK3 : Keep (· = wb) w w3 := HKb.out.trans' hk3 (fun i hi => by rw [hi]; omega)
                  have HP3 := Hd (show OfPre (.mk 8 f n ks) wb c2 b o w0 w3 from ⟨HPb.out.right, HPb.out.size, HPb.out.at_, HPb.out.ext.andKeep hk3 (fun i hi => by rw [hi]; have := HP.out.above; omega), HPb.out.above, HPb.out.bd, hk3.cell HPb.out.cell (by show ¬ wb = w.heap.size + 1; omega), by rw [World.frozen?_of_block (hk3.block wb (World.block_lt_of_cell? _ _ HPb.out.cell) (by show ¬ wb = w.heap.size + 1; omega))]; exact HPb.out.fr⟩)
                  have HX3 := Hd (hk3.range HXb.out (by show ¬ bx = w.heap.size + 1; omega))
                  have HXR3 := Hd (hk3.range HXRb.out (by show ¬ w.heap.size = w.heap.size + 1; omega))
                  clear hin
                  go_wp2_with fail
                  go_roundw
                  case rel => exact ⟨k + 1, S' ++ [y], by omega, by go_num, hs3, by simp only [List.length_append, List.length_cons, List.length_nil]; omega, HRc.out, HP3.out, hK3, .inr ⟨bx, ox, rfl, hbx, HX3.out⟩, HXR3.out⟩
                  case measure => simp [intOf]; omega
                · have HRc := Hd (show none = (Tm.mk 8 f n ks).ofT x c from by
                    have := HRb.out
                    rw [putM, if_neg hin, if_neg (by omega)] at this
                    exact this)
                  have hK3 : Keep (· = wb) w w3 := HKb.out.trans' hk3 (fun i hi => by rw [hi]; omega)
                  clear hin
                  go_wp2_with fail
                  exact ⟨rfl, hK3, by rw [← HRc.out]⟩
            · have HRc := Hd (show (Tm.unionT (ks.drop (j + 1)) x S' c2).map (fun r : List Hdr × Int => (sortH r.1, r.2)) = (Tm.mk 8 f n ks).ofT x c from by
                have := hR3.out
                rw [List.drop_of_length_le (by omega)] at this
                exact this)
              clear hR3 hxl3
              go_wp2_with fail
              go_roundw
              case rel => exact ⟨j + 1, S', c2, by omega, by go_num, hS2.out, hS264, HRc.out, hp3.out, hk3.out, hxr3.out⟩
              case measure => simp [intOf]; omega
    · have HRc := Hd (show some (sortH S, c1) = (Tm.mk 8 f n ks).ofT x c from by
        have := hR.out
        rw [List.drop_of_length_le (by have := HL.out; omega)] at this
        exact this)
      have HLi := Hd (list_any S (w.heap.size + 1) wo hS.out (by omega))
      clear hR
      go_wp2_with fail
      refine HLi.out.mono ?_
      rintro e w2 ⟨hx2, v2, rfl, hown2⟩
      have HO2 := Hd hown2
      clear hown2
      go_wp2_with fail
      go_ret
      refine ⟨hk.out.trans (hx2.keep _), ?_⟩
      rw [← HRc.out]
      refine ⟨⟨v2, rfl, ?_⟩, by rw [length_sortH]; exact hS64, hpr.out.bd, hx2.later _ _ hpr.out.cell, by rw [Below.frozen hx2 (World.block_lt_of_cell? _ _ hpr.out.cell)]; exact hpr.out.fr⟩
      rw [length_sortH]
      exact ownsRow_base HO2.out hk.out.size
end Go.Proofs.YtjjbdbklbghlhaaGreatDoor
/- work.of: stars. -/
namespace Go.Proofs.YtjjbdbklbghlhaaGreatDoor
open Go.RowKit
set_option linter.unusedSimpArgs false

theorem starT_one (t : Tm) (x : Hdr) (c : Int) : Tm.starT [t] x c = starF (fun x c => t.ofT x c) 64 [x] [x] c := by rw [Tm.starT]

theorem Keep.of_grown {b c : World} {o : Option Nat} (g : b.grownBy c o) : Keep (fun i => o = some i) b c := ⟨g.os, g.tape, g.output, g.size, fun i hi hs => g.block i hi (fun e => hs e.symm)⟩
theorem OfPre.other {T : Nat → Prop} {t : Tm} {wb : Nat} {c : Int} {b o : Nat} {w0 w w' : World} (h : OfPre t wb c b o w0 w) (hk : Keep T w w') (hT : ∀ i, T i → wb < i) : OfPre t wb c b o w0 w' :=
 ⟨h.right, h.size, h.at_, h.ext.andKeep hk (fun i hi => by have := hT i hi; have := h.above; omega), h.above, h.bd, hk.cell h.cell (fun e => by have := hT wb e; omega),
  by rw [World.frozen?_of_block (hk.block wb (World.block_lt_of_cell? _ _ h.cell) (fun e => by have := hT _ e; omega))]; exact h.fr⟩

set_option maxHeartbeats 8000000 in
set_option maxRecDepth 100000 in
theorem of_star (f n : Int) (t : Tm) (ih : AllOf t) : OfOf (.mk 10 f n [t]) := by
  intro x wb c b o w0 w hpre
  have IH := Hd ih
  have hwb : wb < w.heap.size := World.block_lt_of_cell? w _ hpre.cell
  rcases Tm.right_pol hpre.right with ⟨h, -⟩ | ⟨h, -⟩ | ⟨-, hlen1, hra⟩ | ⟨h, -⟩ <;> try omega
  have HE := Hd ((Tm.ofT_star f n [t] x c).trans (starT_one t x c))
  obtain ⟨_, _, _, c0, _, _, p, len, cap, c3, hlen, hlc, hcm, hks⟩ := hpre.at_
  rcases hks with hks | ⟨b', o', rfl, hall⟩
  · cases hks
  have hl1 : 0 < len := by rw [hlen]; simp
  have HC3 := Hd c3
  have HRA := Hd hra
  have HALL := Hd hall
  have hmm := @run_makeMap Tryz.prog
  have HZ := Hd zeroH
  have hxa : Ext w (w.alloc (.cells x.cs 49)) := Ext.alloc _ _
  have d0 := (hpre.ext.trans hxa).later _ _ c0
  have hxb : Ext w ((w.alloc (.cells x.cs 49)).alloc (.map #[] 0)) := hxa.andAlloc _
  have hsm : SetIs ((w.alloc (.cells x.cs 49)).alloc (.map #[] 0)) (w.heap.size + 1) [] := by
    have := SetIs.made (w.alloc (.cells x.cs 49))
    rwa [World.size_alloc] at this
  obtain ⟨ws, hput, hset1, hkeep1⟩ := hsm.put (x := x) (by simp)
  have HXR0 := Hd (World.rangeAt.later (Ext.alloc _ (.map #[] 0)).later (rangeAt_new w x.cs 49))
  have HXRs := Hd (hkeep1.range HXR0.out (by show ¬ w.heap.size = w.heap.size + 1; omega))
  have hks1 : Keep (· = wb) w ws := (hxb.keep (· = wb)).trans' hkeep1 (fun i hi => by rw [hi]; omega)
  have hsb0 : w.heap.size + 1 < ws.heap.size := hset1.lt
  have hxs : Ext ws (ws.alloc (.cells x.cs 49)) := Ext.alloc _ _
  have HP := Hd (show OfPre (.mk 10 f n [t]) wb c b o w0 (ws.alloc (.cells x.cs 49)) from
    ((hpre.later (hxb.keep _) hpre.bd (hxb.later _ _ hpre.cell) (by rw [Below.frozen hxb hwb]; exact hpre.fr)).other hkeep1 (fun i hi => by rw [hi]; omega)).other (hxs.keep fun _ => False) (fun _ h => h.elim))
  have HK := Hd (hks1.trans (hxs.keep _))
  have HS := Hd (hset1.ext hxs)
  have HO := Hd (owns_one (w := ws) (w' := ws) (x := x) (Nat.le_refl _))
  have HPut := Hd hput
  have hb := World.block_lt_of_cell? w0 _ c0
  have hbw : b < w.heap.size := Nat.lt_of_lt_of_le hb hpre.ext.size
  have hab := hpre.above
  have e3 := (hpre.ext.trans hxb).later _ _ c3
  have hx64 : ([] ++ [x]).length ≤ 64 := by simp
  clear hpre hxa hxb hlen hra ih c0 c3 hall hxs hks1 hkeep1 hput hset1 hsm
  go_enter Tryz.func38, Tryz.ntmps38
  go_wp2_with (first
    | (refine wpList_load_H rfl _ rfl w.heap.size 0 rfl x HXR0.out ?_)
    | (refine wpList_update_run rfl 123 _ _ _ (.inr rfl) _ _ _ _ rfl rfl rfl HPut.out ?_)
    | (refine wpList_load_H rfl _ rfl w.heap.size 0 rfl x HXRs.out ?_)
    | (refine wpList_one_H rfl _ rfl x rfl ?_))
  clear d0 e3
  go_loopw [10, 82] (fun v i wr => ∃ (r : Nat) (S fresh : List Hdr) (c1 : Int), r ≤ 64 ∧ i = .int .i64 r ∧ Hid (SetIs wr (w.heap.size + 1) S) ∧ S.length ≤ 64 ∧ Hid (wr.ownsRow ws.heap.size 49 11 v fresh.length (flatH fresh)) ∧ fresh.length ≤ 64 ∧
      Hid (starF (fun x c => t.ofT x c) (64 - r) S fresh c1 = (Tm.mk 10 f n [t]).ofT x c) ∧ Hid (OfPre (.mk 10 f n [t]) wb c1 b o w0 wr) ∧ Hid (Keep (· = wb) w wr) ∧ ws.heap.size ≤ wr.heap.size) (fun _ i _ => 64 - (intOf i).toNat)
  case atStart => exact ⟨0, [x], [x], c, by omega, rfl, HS.out, by simp, HO.out, by simp, HE.out.symm, HP.out, HK.out, by simp⟩
  case round =>
    obtain ⟨wo, rfl⟩ : ∃ wo : World, wo = wr := ⟨_, rfl⟩
    obtain ⟨r, S, fresh, c1, hr64, rfl, hS, hS64, hO, hf64, hR, hp, hk, hws⟩ := hrel
    by_cases hlt : r < 64
    · have f3 := hp.out.ext.later _ _ HC3.out
      have hsbo : w.heap.size + 1 < wo.heap.size := hS.out.lt
      have hszr : w.heap.size ≤ wo.heap.size := hk.out.size
      have HAj := Hd (IH.out fresh u10 wb c1 b' o' w0 wo (by have := hp.out.kid HRA.out 0 (by simp) HALL.out; rwa [List.getElem_cons_zero, Nat.zero_mul, Nat.add_zero] at this) (HSl.owned hO.out (by omega)) hf64)
      have HR' := Hd (show ((allF (fun x c => t.ofT x c) fresh c1).bind fun a => (starPut S [] a.1).bind fun p => if p.2 = [] then some (sortH p.1, a.2) else starF (fun x c => t.ofT x c) (63 - r) p.1 p.2 a.2) = (Tm.mk 10 f n [t]).ofT x c from by
        have := hR.out
        rw [show 64 - r = (63 - r) + 1 from by omega] at this
        exact this)
      generalize hF : allF (fun x c => t.ofT x c) fresh c1 = R at *
      clear hF hR hO
      go_wp2_with fail
      refine HAj.out.mono ?_
      rintro e w2 ⟨hk2, hm2⟩
      cases R with
      | none =>
        have hm2' : e = .panicked tooBig := hm2
        subst hm2'
        clear hm2 f3
        go_wp2_with fail
        exact ⟨rfl, hk.out.trans hk2, by rw [← HR'.out]; rfl⟩
      | some a =>
        obtain ⟨xs, c2⟩ := a
        obtain ⟨⟨v2, rfl, hown2⟩, hx264, hbd2, hc2, hf2⟩ := hm2
        obtain ⟨p2, len2, cap2, rfl, hlen2, hxl⟩ := HSl.of_owns hown2
        have HL2 := Hd hlen2
        have HP2 := Hd (hp.out.later hk2 hbd2 hc2 hf2)
        have HK2 := Hd (hk.out.trans hk2)
        have HS2 := Hd (hS.out.keep hk2 (by show ¬ w.heap.size + 1 = wb; omega))
        have hw2 : wo.heap.size ≤ w2.heap.size := hk2.size
        have HWS := Hd (Nat.le_trans hws hw2)
        have HXL := Hd (show xs = [] ∨ ∃ b o, p2 = some ⟨b, o, none⟩ ∧ wo.heap.size ≤ b ∧ b < w2.heap.size ∧ w2.rangeAt b o (flatH xs) from by
          rcases hown2.2 with ⟨he, h0⟩ | ⟨g, cap, cur, he, hg0, hgc, _⟩
          · exact .inl (List.length_eq_zero_iff.1 h0)
          · injection he with e1 e2 e3
            refine hxl.imp id fun ⟨b, o, hb, h1, h2⟩ => ⟨b, o, hb, h1, ?_, h2⟩
            rw [e1] at hb
            have : b = g := by injection hb with h; injection h with h1; exact h1.symm
            rw [this]
            exact (Array.getElem?_eq_some_iff.1 hgc).1)
        have HR2 := Hd (show ((starPut S [] (xs.drop 0)).bind (fun p : List Hdr × List Hdr => if p.2 = [] then some (sortH p.1, c2) else starF (fun x c => t.ofT x c) (63 - r) p.1 p.2 c2)) = (Tm.mk 10 f n [t]).ofT x c from HR'.out)
        clear hown2 hlen2 hbd2 hc2 hf2 hk2 f3 hxl hS hp hk HR'
        go_wp2_with fail
        go_loopw [11, 93] (fun nv i wr => ∃ (k : Nat) (S' nx : List Hdr), k ≤ len2 ∧ i = .int .i64 k ∧ Hid (SetIs wr (w.heap.size + 1) S') ∧ S'.length ≤ 64 ∧ nx.length ≤ S'.length ∧ Hid (wr.ownsRow w2.heap.size 49 11 nv nx.length (flatH nx)) ∧
            Hid (((starPut S' nx (xs.drop k)).bind (fun p : List Hdr × List Hdr => if p.2 = [] then some (sortH p.1, c2) else starF (fun x c => t.ofT x c) (63 - r) p.1 p.2 c2)) = (Tm.mk 10 f n [t]).ofT x c) ∧ Hid (OfPre (.mk 10 f n [t]) wb c2 b o w0 wr) ∧ Hid (Keep (· = wb) w wr) ∧
            Hid (xs = [] ∨ ∃ b o, p2 = some ⟨b, o, none⟩ ∧ wo.heap.size ≤ b ∧ b < w2.heap.size ∧ wr.rangeAt b o (flatH xs)) ∧ w2.heap.size ≤ wr.heap.size) (fun _ i _ => len2 - (intOf i).toNat)
        case atStart => exact ⟨0, S, [], Nat.zero_le _, rfl, HS2.out, hS64, by simp, World.ownsRow_nil _ _ _ _, HR2.out, HP2.out, HK2.out, HXL.out, Nat.le_refl _⟩
        case round =>
          obtain ⟨k, S', nx, hkl, rfl, hS2, hS264, hnx, hO3, hR3, hp3, hk3, hxl3, hwr⟩ := hrel
          have hu11 : ∀ i, u11.ownBlock = some i → w2.heap.size ≤ i := fun i hi => (hO3.out.lt i hi).1
          have HU := Hd hu11
          by_cases hlt2 : k < len2
          · have hkx : k < xs.length := by rw [← HL2.out]; exact hlt2
            rcases hxl3.out with hxl3 | ⟨bx, ox, rfl, hbx, hbx2, hrx⟩
            · exfalso; subst hxl3; simp at hkx
            have hrk := Hd (rangeAt_get Hdr.len_cs hrx k hkx)
            have hxb : Ext wr (wr.alloc (.cells (xs[k]).cs 49)) := Ext.alloc _ _
            have HSb := Hd (hS2.out.ext hxb)
            have HPb := Hd (hp3.out.other (hxb.keep fun _ => False) (fun _ h => h.elim))
            have HKb := Hd (hk3.out.trans (hxb.keep _))
            have HOb := Hd (hO3.out.alloc (.cells (xs[k]).cs 49))
            have HXk := Hd (rangeAt_new wr (xs[k]).cs 49)
            have hszr2 : w.heap.size + 1 < wr.heap.size := hS2.out.lt
            have HRb := Hd (show ((if xs[k] ∈ S' then starPut S' nx (xs.drop (k + 1)) else if S'.length < 64 then starPut (S' ++ [xs[k]]) (nx ++ [xs[k]]) (xs.drop (k + 1)) else none).bind (fun p : List Hdr × List Hdr => if p.2 = [] then some (sortH p.1, c2) else starF (fun x c => t.ofT x c) (63 - r) p.1 p.2 c2)) = (Tm.mk 10 f n [t]).ofT x c from by
              have := hR3.out
              rw [drop_get hkx] at this
              exact this)
            have HXb := Hd (World.rangeAt.later hxb.later hrx)
            generalize hyk : xs[k] = y at *
            clear hyk hS2 hR3 hp3 hk3 hxl3 hrx hxb hO3 hu11
            go_wp2_with (first
              | (refine wpList_store_new rfl 49 _ _ rfl _ y.cs rfl rfl (by rw [y.size_cs]; kernel_rfl) (by rw [y.size_cs]; rfl) (all_oneCell_toArray y.one) ?_)
              | (refine wpList_load_H rfl _ rfl bx (ox + k * 11) rfl y hrk.out ?_)
              | (refine wpList_load_H rfl _ rfl wr.heap.size 0 rfl y HXk.out ?_))
            by_cases hin : y ∈ S'
            · refine (add_there S' y (w.heap.size + 1) _ HSb.out hin).mono ?_
              rintro e w3 ⟨rfl, hx3⟩
              have HRc := Hd (show ((starPut S' nx (xs.drop (k + 1))).bind (fun p : List Hdr × List Hdr => if p.2 = [] then some (sortH p.1, c2) else starF (fun x c => t.ofT x c) (63 - r) p.1 p.2 c2)) = (Tm.mk 10 f n [t]).ofT x c from by
                have := HRb.out
                rw [if_pos hin] at this
                exact this)
              have HO3 := Hd ((hx3.keep fun _ => False).owns HOb.out (fun _ _ h => h))
              have hw3 : w2.heap.size ≤ w3.heap.size := by have := hx3.size; simp at this; omega
              have HP3 := Hd (HPb.out.other (hx3.keep fun _ => False) (fun _ h => h.elim))
              clear hin
              go_wp2_with fail
              go_roundw
              case rel => exact ⟨k + 1, S', nx, by omega, by go_num, HSb.out.ext hx3, hS264, hnx, HO3.out, HRc.out, HP3.out, HKb.out.trans (hx3.keep _), .inr ⟨bx, ox, rfl, hbx, hbx2, World.rangeAt.later hx3.later HXb.out⟩, hw3⟩
              case measure => simp [intOf]; omega
            · refine (add_new S' y (w.heap.size + 1) _ HSb.out hin).mono ?_
              rintro e w3 ⟨hk3, ⟨hl3, rfl, hs3⟩ | ⟨hl3, rfl⟩⟩
              · have HRc := Hd (show ((starPut (S' ++ [y]) (nx ++ [y]) (xs.drop (k + 1))).bind (fun p : List Hdr × List Hdr => if p.2 = [] then some (sortH p.1, c2) else starF (fun x c => t.ofT x c) (63 - r) p.1 p.2 c2)) = (Tm.mk 10 f n [t]).ofT x c from by
                  have := HRb.out
                  rw [if_neg hin, if_pos hl3] at this
                  exact this)
                have hK3 : Keep (· = wb) w w3 := HKb.out.trans' hk3 (fun i hi => by rw [hi]; omega)
                have HP3 := Hd (HPb.out.other hk3 (fun i hi => by rw [hi]; omega))
                have HX3 := Hd (hk3.range HXb.out (by show ¬ bx = w.heap.size + 1; omega))
                have HXk3 := Hd (hk3.range HXk.out (by show ¬ wr.heap.size = w.heap.size + 1; omega))
                have hown3 := hk3.owns HOb.out (fun i hi e => by have : i = w.heap.size + 1 := e; omega)
                have HO3 := Hd (hown3.alloc (.cells y.cs 49))
                have hw3 : w2.heap.size ≤ w3.heap.size := by have := hk3.size; simp at this; omega
                have HS3 := Hd hs3
                clear hin hs3 hk3 hown3
                go_wp2_with (first
                  | (refine wpList_load_H rfl _ rfl wr.heap.size 0 rfl y HXk3.out ?_)
                  | (refine wpList_one_H rfl _ rfl y rfl ?_)
                  | (at_builtin; refine wpList_append_H rfl _ _ rfl w2.heap.size u11 nx rfl HO3.out _ y rfl (rangeAt_new _ _ _) (by omega) (by simp; omega) ?_; intro v' w4 hown4 hg4))
                have hxa : Ext w3 (w3.alloc (.cells y.cs 49)) := Ext.alloc _ _
                have hkg := Keep.of_grown hg4
                have hT : ∀ i, u11.ownBlock = some i → w2.heap.size ≤ i := HU.out
                have hw4 : w2.heap.size ≤ w4.heap.size := by have := hg4.size; simp at this; omega
                refine ⟨⟨k + 1, S' ++ [y], nx ++ [y], by omega, by go_num, (HS3.out.ext hxa).keep hkg (fun e => by have := hT _ e; omega), by simp only [List.length_append, List.length_cons, List.length_nil]; omega, by simp only [List.length_append, List.length_cons, List.length_nil]; omega, hown4, HRc.out,
                  (HP3.out.other (hxa.keep fun _ => False) (fun _ h => h.elim)).other hkg (fun i hi => by have := hT i hi; omega), (hK3.trans (hxa.keep _)).trans' hkg (fun i hi => by have := hT i hi; omega),
                  .inr ⟨bx, ox, rfl, hbx, hbx2, hkg.range (World.rangeAt.later hxa.later HX3.out) (fun e => by have := hT _ e; omega)⟩, hw4⟩, ?_⟩
                simp [intOf]; omega
              · have HRc := Hd (show none = (Tm.mk 10 f n [t]).ofT x c from by
                  have := HRb.out
                  rw [if_neg hin, if_neg (by omega)] at this
                  exact this)
                have hK3 : Keep (· = wb) w w3 := HKb.out.trans' hk3 (fun i hi => by rw [hi]; omega)
                clear hin
                go_wp2_with fail
                exact ⟨rfl, hK3, by rw [← HRc.out]⟩
          · have HRc := Hd (show (if nx = [] then some (sortH S', c2) else starF (fun x c => t.ofT x c) (63 - r) S' nx c2) = (Tm.mk 10 f n [t]).ofT x c from by
              have := hR3.out
              rw [List.drop_of_length_le (by have := HL2.out; omega)] at this
              exact this)
            by_cases hnil : nx = []
            · have HRd := Hd ((if_pos hnil).symm.trans HRc.out)
              have hu := lenOf_owns hO3.out
              have hd0 : nx.length = 0 := by rw [hnil]; rfl
              have HLi := Hd (list_any S' (w.heap.size + 1) wr hS2.out (by omega))
              clear hnil hR3 hxl3
              rcases hO3.out.2 with ⟨rfl, h0⟩ | ⟨g, cap3, cur, rfl, hgb, hgc, _⟩
              · clear hu hd0 h0
                go_wp2_with fail
                refine HLi.out.mono ?_
                rintro e w4 ⟨hx4, v4, rfl, hown4⟩
                have HO4 := Hd hown4
                clear hown4
                go_wp2_with fail
                go_ret
                refine ⟨hk3.out.trans (hx4.keep _), ?_⟩
                rw [← HRd.out]
                refine ⟨⟨v4, rfl, ?_⟩, by rw [length_sortH]; exact hS264, hp3.out.bd, hx4.later _ _ hp3.out.cell, by rw [Below.frozen hx4 (World.block_lt_of_cell? _ _ hp3.out.cell)]; exact hp3.out.fr⟩
                rw [length_sortH]
                exact ownsRow_base HO4.out hk3.out.size
              · rw [hd0]
                clear hu hd0 hgc
                go_wp2_with fail
                refine HLi.out.mono ?_
                rintro e w4 ⟨hx4, v4, rfl, hown4⟩
                have HO4 := Hd hown4
                clear hown4
                go_wp2_with fail
                go_ret
                refine ⟨hk3.out.trans (hx4.keep _), ?_⟩
                rw [← HRd.out]
                refine ⟨⟨v4, rfl, ?_⟩, by rw [length_sortH]; exact hS264, hp3.out.bd, hx4.later _ _ hp3.out.cell, by rw [Below.frozen hx4 (World.block_lt_of_cell? _ _ hp3.out.cell)]; exact hp3.out.fr⟩
                rw [length_sortH]
                exact ownsRow_base HO4.out hk3.out.size
            · have HRd := Hd ((if_neg hnil).symm.trans HRc.out)
              have hpos : 0 < nx.length := List.length_pos_iff.2 hnil
              have HO5 := Hd (ownsRow_base hO3.out (show ws.heap.size ≤ w2.heap.size from by have := HWS.out; omega))
              clear hnil hR3 hxl3
              rcases hO3.out.2 with ⟨rfl, h0⟩ | ⟨g, cap3, cur, rfl, hgb, hgc, _⟩
              · omega
              · have hdn : ((nx.length : Int) == 0) = false := beq_eq_false_iff_ne.2 (by omega)
                clear hgc
                go_wp2_with fail
                go_roundw
                case rel => exact ⟨r + 1, S', nx, c2, by omega, by go_num, hS2.out, hS264, HO5.out, by omega, by rw [Hid, show 64 - (r + 1) = 63 - r from by omega]; exact HRd.out, hp3.out, hk3.out, by have := HWS.out; omega⟩
                case measure => simp [intOf]; omega
    · have HRc := Hd (show none = (Tm.mk 10 f n [t]).ofT x c from by
        have := hR.out
        rw [show 64 - r = 0 from by omega] at this
        exact this)
      have hr : r = 64 := by omega
      clear hR
      go_wp2_with fail
      exact ⟨rfl, hk.out, by rw [← HRc.out]; rfl⟩
end Go.Proofs.YtjjbdbklbghlhaaGreatDoor
/- work.of, all kinds together. -/
namespace Go.Proofs.YtjjbdbklbghlhaaGreatDoor
open Go.RowKit
set_option linter.unusedSimpArgs false

theorem of_any (t : Tm) : OfOf t := by
 match t with
 | .mk op f n ks =>
  intro x wb c b o w0 w hpre
  have hkid : ∀ i (h : i < ks.length), OfOf (ks[i]) := fun i h => of_any (ks[i])
  rcases Tm.right_pol hpre.right with ⟨rfl, h1, _⟩ | ⟨rfl, h1⟩ | ⟨rfl, h1, _⟩ | ⟨rfl | rfl, h1, _⟩
  ·exact of_filter f n ks x wb c b o w0 w hpre
  ·exact of_set f n ks x wb c b o w0 w hpre
  ·obtain ⟨k, rfl⟩ := List.length_eq_one_iff.1 h1
   exact of_star f n k (all_of k (hkid 0 (by simp))) x wb c b o w0 w hpre
  ·exact of_union f n ks hkid x wb c b o w0 w hpre
  ·exact of_then f n ks (fun i h => all_of _ (hkid i h)) x wb c b o w0 w hpre
termination_by SizeOf.sizeOf t
decreasing_by
 have := List.sizeOf_lt_of_mem (List.getElem_mem h)
 simp; omega
end Go.Proofs.YtjjbdbklbghlhaaGreatDoor
/- meaning.Of: what is too big leaves the work by a panic that the deferred closure recovers. -/
namespace Go.Proofs.YtjjbdbklbghlhaaGreatDoor
open Go.RowKit
set_option linter.unusedSimpArgs false

theorem checkT_zero {t : Tm} (h : checkT t = 0) : t.right false = true ∧ t.sz ≤ 4096 ∧ bigB [t] = false := by
 unfold checkT at h
 split at h
 ·cases h
 ·rename_i hb
  split at h
  ·rename_i hr
   refine ⟨hr, ?_, by simpa using hb⟩
   have hb' : ¬ Tm.downAll [t] 4096 < 0 := fun h => hb (by simp [bigB, h])
   have := Tm.downAll_eq [t] 4096 (by omega)
   simp only [Tm.szAll] at this
   omega
  ·cases h

set_option maxHeartbeats 1000000 in
theorem ofCatch_idle (a b : Addr) (w : World) :
  CallsD Tryz.prog 37 #[.pointer (some a), .pointer (some b)] .returning w fun e u' w' => e = .returned (.tuple #[]) ∧ u' = .returning ∧ w' = w := by
 refine callsD_of_wpS Tryz.func37 rfl fun c₀ cs hu => ?_
 apply wpS_seq
 apply wpS_region
 simp [wpOpsS, go_sem, recoverD, hu, Tryz.ntmps37, Exit.thenS]
 refine wpS_of_wp ?_
 go_wp2_with fail
 cases c₀
 simp_all [bodyPostS, results, Tryz.results37]

theorem assertBig (w : World) : (Instr.typeAssert (.iface 90 (.agg #[])) 20 90 true).run Tryz.prog w = .ok (.tuple #[.agg #[], .bool true]) w := by kernel_rfl
set_option maxRecDepth 100000 in
set_option maxHeartbeats 1000000 in
theorem ofCatch_panicking (a b : Nat) (x y : Value) (older : List PanicEntry) (w : World) (ha : w.cell? ⟨a, 0, none⟩ = some x) (hb : w.cell? ⟨b, 0, none⟩ = some y) (hfa : w.frozen? ⟨a, 0, none⟩ = false) (hfb : w.frozen? ⟨b, 0, none⟩ = false) (hab : a ≠ b) :
  CallsD Tryz.prog 37 #[.pointer (some ⟨a, 0, none⟩), .pointer (some ⟨b, 0, none⟩)] (.panicking ({ v := .iface 90 (.agg #[]), recovered := false } :: older)) w fun e u' w' =>
   e = .returned (.tuple #[]) ∧ u' = .panicking ({ v := .iface 90 (.agg #[]), recovered := true } :: older) ∧
   Keep (fun i => i = a ∨ i = b) w w' ∧ w'.cell? ⟨a, 0, none⟩ = some (.slice none 0 0) ∧ w'.cell? ⟨b, 0, none⟩ = some (.int .i64 200) := by
 have hba : b ≠ a := fun e => hab e.symm
 have hxa : Ext w (w.alloc (.cells #[] 90)) := Ext.alloc _ _
 have hca := hxa.later _ _ ha
 have hcb := hxa.later _ _ hb
 have hla := World.block_lt_of_cell? w _ ha
 have hlb := World.block_lt_of_cell? w _ hb
 have hga : (w.alloc (.cells #[] 90)).frozen? ⟨a, 0, none⟩ = false := by rw [Below.frozen hxa hla]; exact hfa
 have hgb : (w.alloc (.cells #[] 90)).frozen? ⟨b, 0, none⟩ = false := by rw [Below.frozen hxa hlb]; exact hfb
 refine callsD_of_wpS Tryz.func37 rfl fun c₀ cs hu => ?_
 apply wpS_seq
 apply wpS_region
 simp [wpOpsS, go_sem, recoverD, hu, Tryz.ntmps37, Exit.thenS]
 refine wpS_of_wp ?_
 simp only [Array.replicate_succ, Array.replicate_zero, List.push_toArray, List.append_toArray, List.nil_append, List.cons_append, List.setIfInBounds_toArray, List.set_cons_succ, List.set_cons_zero]
 have hta := assertBig
 go_wp2_with fail
 simp [bodyPostS, results, Tryz.results37]
 refine ⟨((Keep.set w _ _ (.inl rfl)).trans (Keep.set _ _ _ (.inr rfl))).trans ((Ext.alloc _ _).keep _), (Ext.alloc _ _).later _ _ ?_, (Ext.alloc _ _).later _ _ ?_⟩
 ·rw [World.cell?_setCell_other _ _ _ _ (fun e => by injection e; omega)]
  exact World.cell?_setCell_same _ _ _ ha
 ·exact World.cell?_setCell_same _ _ _ (by rw [World.cell?_setCell_other _ _ _ _ (fun e => by injection e; omega)]; exact hb)

/-- P19.2 -/
def ofC (t : Tm) (x : Hdr) : Int × List Hdr :=
 if checkT t = 0 then (match t.ofT x 0 with | some r => (0, r.1) | none => (200, [])) else (checkT t, [])

set_option maxRecDepth 100000 in
set_option maxHeartbeats 2000000 in
theorem meaningOf_any (t : Tm) (v : Value) (x : Hdr) (w : World) (hv : t.Val w v) :
  Calls Tryz.prog 21 #[v, .agg x.cs] w fun e w' => Ext w w' ∧ (ofC t x).2.length ≤ 64 ∧ ∃ s, e = .returned (.tuple #[s, .int .i64 (ofC t x).1]) ∧ w'.ownsRow w.heap.size 49 11 s (ofC t x).2.length (flatH (ofC t x).2) := by
 have HV := Hd hv
 obtain ⟨cs, rfl, s, rfl, -, -, -, p, len, cap, rfl, -⟩ := hv
 have hmf : ∀ (fn : Fn) (first cap : Array Value) (w : World), (Instr.makeFunc fn first cap).run Tryz.prog w = .ok (.func fn first cap) w := fun _ _ _ _ => rfl
 have hxa : Ext w ((((w.alloc (.cells #[.int .i8 t.op, .int .i8 t.fld, .int .u64 t.n, .slice p len cap] 26)).alloc (.cells x.cs 49)).alloc (.cells #[.slice none 0 0] 36)).alloc (.cells #[.int .i64 0] 27)) := (((Ext.alloc _ _).andAlloc _).andAlloc _).andAlloc _
 have HP := Hd (check_any t _ _ _ _ _ (HV.out.later hxa.later))
 have HA := Hd hxa
 have HAT := Hd ((HV.out.later hxa.later).at (World.rangeAt.later ((((Ext.alloc _ _).andAlloc _).andAlloc _)).later (rangeAt_new w #[.int .i8 t.op, .int .i8 t.fld, .int .u64 t.n, .slice p len cap] 26)))
 clear hxa
 go_enter_defers Tryz.func21, Tryz.ntmps21
 go_wp2_with fail
 refine HP.out.mono ?_
 rintro e w1 ⟨rfl, hx1⟩
 have hc2 : w1.cell? ⟨w.heap.size + 2, 0, none⟩ = some (.slice none 0 0) := hx1.later _ _ (by simp [go_sem])
 have hc3 : w1.cell? ⟨w.heap.size + 3, 0, none⟩ = some (.int .i64 0) := hx1.later _ _ (by simp [go_sem])
 have hf2 : w1.frozen? ⟨w.heap.size + 2, 0, none⟩ = false := by rw [Below.frozen hx1 (by simp)]; simp [go_sem]
 have hf3 : w1.frozen? ⟨w.heap.size + 3, 0, none⟩ = false := by rw [Below.frozen hx1 (by simp)]; simp [go_sem]
 have hl2 := World.block_lt_of_cell? w1 _ hc2
 have hl3 := World.block_lt_of_cell? w1 _ hc3
 have HX1 := Hd hx1
 clear hx1
 by_cases h0 : checkT t = 0
 ·obtain ⟨hr, hsz, -⟩ := checkT_zero h0
  have HPre := Hd (show OfPre t w1.heap.size 0 w.heap.size 0 w1 (w1.alloc (.cells #[.int .i64 0] 94)) from ⟨hr, hsz, HAT.out.later HX1.out.later, Ext.alloc _ _, Nat.le_refl _, by omega, by simp [go_sem], by simp [go_sem]⟩)
  have hrx : w1.rangeAt (w.heap.size + 1) 0 x.cs.toList := World.rangeAt.later HX1.out.later (World.rangeAt.later ((Ext.alloc _ _).andAlloc _).later (by
   have := rangeAt_new (w.alloc (.cells #[.int .i8 t.op, .int .i8 t.fld, .int .u64 t.n, .slice p len cap] 26)) x.cs 49
   rwa [World.size_alloc] at this))
  have HRX := Hd (World.rangeAt.later (Ext.alloc w1 (.cells #[.int .i64 0] 94)).later hrx)
  have hC0 : checkT t = 0 := h0
  clear hrx h0 hr hsz
  rw [hC0]
  go_wp2_with (first | (refine wpList_load_H rfl _ rfl (w.heap.size + 1) 0 rfl x HRX.out ?_))
  refine (of_any t x _ _ _ _ _ _ HPre.out).mono ?_
  rintro e w2 ⟨hk, hrest⟩
  have hx2 : Ext w1 w2 := (Ext.alloc w1 _).andKeep hk (fun i hi => by rw [hi]; exact Nat.le_refl _)
  have hd2 : w2.cell? ⟨w.heap.size + 2, 0, none⟩ = some (.slice none 0 0) := hx2.later _ _ hc2
  have hd3 : w2.cell? ⟨w.heap.size + 3, 0, none⟩ = some (.int .i64 0) := hx2.later _ _ hc3
  have hg2 : w2.frozen? ⟨w.heap.size + 2, 0, none⟩ = false := by rw [Below.frozen hx2 hl2]; exact hf2
  have hg3 : w2.frozen? ⟨w.heap.size + 3, 0, none⟩ = false := by rw [Below.frozen hx2 hl3]; exact hf3
  have HX2 := Hd hx2
  have HT := Hd (show ofC t x = match t.ofT x 0 with | some r => (0, r.1) | none => (200, []) from if_pos hC0)
  have hle2 := hx2.size
  clear hc2 hc3 hf2 hf3 hk hx2 hC0
  cases hT : t.ofT x 0 with
  | none =>
   rw [hT] at hrest HT
   have he : e = .panicked tooBig := hrest
   subst he
   clear hrest hT
   go_wp2_with fail
   refine leaves_cons (f := 37) (args := #[.pointer (some ⟨w.heap.size + 2, 0, none⟩), .pointer (some ⟨w.heap.size + 3, 0, none⟩)]) (by simp) (by simp [go_sem]) ?_
   refine (ofCatch_panicking _ _ _ _ [] w2 hd2 hd3 hg2 hg3 (by omega)).mono ?_
   rintro e u' w3 ⟨rfl, rfl, hk3, h2, h3⟩
   simp [Leaves, settle, results, Tryz.results21, go_sem, h2, h3]
   rw [HT.out]
   exact ⟨((HA.out.trans HX1.out).trans HX2.out).andKeep hk3 (fun i hi => by rcases hi with rfl | rfl <;> omega), by simp, _, ⟨rfl, rfl⟩, ⟨rfl, .inl ⟨rfl, rfl⟩⟩⟩
  | some r =>
   obtain ⟨l, c⟩ := r
   rw [hT] at hrest HT
   obtain ⟨⟨s', rfl, hown⟩, hl64, -, -, -⟩ := hrest
   obtain ⟨ps, ns, caps, rfl⟩ : ∃ ps ns caps, s' = .slice ps ns caps := by
    rcases hown.2 with ⟨rfl, _⟩ | ⟨g, cap, cur, rfl, _⟩
    ·exact ⟨_, _, _, rfl⟩
    ·exact ⟨_, _, _, rfl⟩
   have HO := Hd hown
   clear hT hown
   go_wp2_with fail
   refine leaves_cons (f := 37) (args := #[.pointer (some ⟨w.heap.size + 2, 0, none⟩), .pointer (some ⟨w.heap.size + 3, 0, none⟩)]) (by simp) (by simp [go_sem]) ?_
   refine (ofCatch_idle _ _ _).mono ?_
   rintro e u' w3 ⟨rfl, rfl, rfl⟩
   have hcA : ((w2.setCell ⟨w.heap.size + 2, 0, none⟩ (.slice ps ns caps)).setCell ⟨w.heap.size + 3, 0, none⟩ (.int .i64 0)).cell? ⟨w.heap.size + 2, 0, none⟩ = some (.slice ps ns caps) := by
    rw [World.cell?_setCell_other _ _ _ _ (fun e => by injection e; omega)]
    exact World.cell?_setCell_same _ _ _ hd2
   have hcB : ((w2.setCell ⟨w.heap.size + 2, 0, none⟩ (.slice ps ns caps)).setCell ⟨w.heap.size + 3, 0, none⟩ (.int .i64 0)).cell? ⟨w.heap.size + 3, 0, none⟩ = some (.int .i64 0) :=
    World.cell?_setCell_same _ _ _ (by rw [World.cell?_setCell_other _ _ _ _ (fun e => by injection e; omega)]; exact hd3)
   simp [Leaves, settle, results, Tryz.results21, go_sem, hcA, hcB]
   rw [HT.out]
   have hk4 : Keep (fun i => i = w.heap.size + 2 ∨ i = w.heap.size + 3) w2 ((w2.setCell ⟨w.heap.size + 2, 0, none⟩ (.slice ps ns caps)).setCell ⟨w.heap.size + 3, 0, none⟩ (.int .i64 0)) := (Keep.set _ _ _ (.inl rfl)).trans (Keep.set _ _ _ (.inr rfl))
   exact ⟨((HA.out.trans HX1.out).trans HX2.out).andKeep hk4 (fun i hi => by rcases hi with rfl | rfl <;> omega), hl64, _, ⟨rfl, rfl⟩, ownsRow_base (hk4.owns HO.out (fun i hi e => by have hi2 : w1.heap.size + 1 ≤ i := by { rw [World.size_alloc] at hi; exact hi }; omega)) (by rw [World.size_alloc]; omega)⟩
 ·have HF := Hd (show ofC t x = (checkT t, []) from if_neg h0)
  have hd : (checkT t != 0) = true := by simpa using h0
  generalize checkT t = y at *
  clear h0
  go_wp2_with fail
  have hcA : ((w1.setCell ⟨w.heap.size + 2, 0, none⟩ (.slice none 0 0)).setCell ⟨w.heap.size + 3, 0, none⟩ (.int .i64 y)).cell? ⟨w.heap.size + 2, 0, none⟩ = some (.slice none 0 0) := by
   rw [World.cell?_setCell_other _ _ _ _ (fun e => by injection e; omega)]
   exact World.cell?_setCell_same _ _ _ hc2
  have hcB : ((w1.setCell ⟨w.heap.size + 2, 0, none⟩ (.slice none 0 0)).setCell ⟨w.heap.size + 3, 0, none⟩ (.int .i64 y)).cell? ⟨w.heap.size + 3, 0, none⟩ = some (.int .i64 y) :=
   World.cell?_setCell_same _ _ _ (by rw [World.cell?_setCell_other _ _ _ _ (fun e => by injection e; omega)]; exact hc3)
  simp [bodyPostD, Leaves, results, Tryz.results21, go_sem, hcA, hcB]
  rw [HF.out]
  exact ⟨((HA.out.trans HX1.out).andSet (by simp; omega) _).andSet (by simp; omega) _, by simp, _, ⟨rfl, rfl⟩, ⟨rfl, .inl ⟨rfl, rfl⟩⟩⟩
end Go.Proofs.YtjjbdbklbghlhaaGreatDoor
/- The laws' own small functions: Same, alike. -/
namespace Go.Proofs.YtjjbdbklbghlhaaGreatDoor
open Go.RowKit Go.Maps
set_option linter.unusedSimpArgs false

theorem eqH (x y : Hdr) (w : World) : (Op.equalIn 10000 49 (.agg x.cs) (.agg y.cs)).run Tryz.prog w = .ok (decide (x = y)) w := by
 obtain ⟨lx, hx⟩ := keyH x
 obtain ⟨ly, hy⟩ := keyH y
 obtain ⟨r, hr, hiff⟩ := run_equal_deep (P := Tryz.prog) w (m := 3) (by omega) (k := 49) (by kernel_rfl) (by kernel_rfl) hx hy
 have hd : r = decide (x = y) := by
  rw [Bool.eq_iff_iff, hiff, decide_eq_true_iff]
  constructor
  ·rintro rfl
   exact codedH.inj (codedH.keyed.inj hx hy)
  ·rintro rfl
   exact Option.some.inj (hx.symm.trans hy)
 rw [hd] at hr
 exact hr
theorem cellAt {w : World} {b o : Nat} {x : Hdr} (h : w.rangeAt b o x.cs.toList) (i : Nat) (hi : i < 11) : w.cell? ⟨b, o + i, none⟩ = some (.int .u64 (x.f i)) :=
 h i _ (by rw [Array.getElem?_toList]; exact x.cell i hi)
theorem guardH : Program.eqGuardType Tryz.prog Tryz.prog.depth 49 = false := by kernel_rfl

end Go.Proofs.YtjjbdbklbghlhaaGreatDoor
/- Equal neighbours of headers once; rows of headers in memory. (The plain parts of XJCompact and XJCompact2, which the diagrams' texts cannot import beside the nodes'.) -/
namespace Go.Proofs.YtjjbdbklbghlhaaGreatDoor
open Go.RowKit Go.Maps Go.Sort
set_option linter.unusedSimpArgs false

/-- equal neighbours once -/
def dd : List Hdr → List Hdr
 | [] => []
 | [x] => [x]
 | x :: y :: r => if x = y then dd (y :: r) else x :: dd (y :: r)
theorem dd_cons (x y : Hdr) (r : List Hdr) : dd (x :: y :: r) = if x = y then dd (y :: r) else x :: dd (y :: r) := by rw [dd]
theorem dd_snoc (z : Hdr) : ∀ (l : List Hdr) (y : Hdr), dd ((l ++ [y]) ++ [z]) = if y = z then dd (l ++ [y]) else dd (l ++ [y]) ++ [z]
 | [], y => by
  show dd [y, z] = _
  rw [dd]
  split <;> simp_all [dd]
 | [x], y => by
  have ih := dd_snoc z [] y
  show dd (x :: y :: [z]) = if y = z then dd (x :: y :: []) else dd (x :: y :: []) ++ [z]
  rw [dd_cons x y [z], dd_cons x y []]
  have ih' : dd [y, z] = if y = z then dd [y] else dd [y] ++ [z] := ih
  by_cases hxy : x = y
  ·rw [if_pos hxy, if_pos hxy]; exact ih'
  ·rw [if_neg hxy, if_neg hxy, ih']
   split <;> rfl
 | x :: w :: r, y => by
  have ih := dd_snoc z (w :: r) y
  show dd (x :: w :: ((r ++ [y]) ++ [z])) = if y = z then dd (x :: w :: (r ++ [y])) else dd (x :: w :: (r ++ [y])) ++ [z]
  rw [dd_cons, dd_cons]
  have ih' : dd (w :: ((r ++ [y]) ++ [z])) = if y = z then dd (w :: (r ++ [y])) else dd (w :: (r ++ [y])) ++ [z] := ih
  by_cases hxw : x = w
  ·rw [if_pos hxw, if_pos hxw]; exact ih'
  ·rw [if_neg hxw, if_neg hxw, ih']
   split <;> rfl
theorem dd_take {l : List Hdr} {i : Nat} (h0 : 0 < i) (hi : i < l.length) : dd (l.take (i + 1)) = if l[i - 1] = l[i] then dd (l.take i) else dd (l.take i) ++ [l[i]] := by
 obtain ⟨k, rfl⟩ : ∃ k, i = k + 1 := ⟨i - 1, by omega⟩
 have e1 : l.take (k + 1) = l.take k ++ [l[k]] := List.take_succ_eq_append_getElem (by omega)
 have e2 : l.take (k + 1 + 1) = l.take (k + 1) ++ [l[k + 1]] := List.take_succ_eq_append_getElem hi
 rw [e2, e1, dd_snoc]
 rfl
theorem dd_rises {l : List Hdr} : ∀ (k : Nat), k ≤ l.length → (∀ m (h : m < l.length), 0 < m → m < k → l[m - 1] ≠ l[m]) → dd (l.take k) = l.take k
 | 0, _, _ => by simp [dd]
 | k + 1, hk, h => by
  have ih := dd_rises k (by omega) (fun m hm h0 hmk => h m hm h0 (by omega))
  rcases Nat.eq_zero_or_pos k with rfl | hkp
  ·rw [List.take_succ_eq_append_getElem hk]; simp [dd]
  ·rw [dd_take hkp hk, if_neg (h k hk hkp (by omega)), ih, List.take_succ_eq_append_getElem hk]

theorem run_clear_H (w : World) (b o n c : Nat) (ht : w.there b o (n * 11)) :
  ∃ vs : List Value, vs.length = n * 11 ∧ ∀ ty : TypeId, (Builtin.clear_ #[36] ty #[.slice (some ⟨b, o, none⟩) n c]).run Tryz.prog w = .ok (.tuple #[]) (w.setCells b o vs) := by
 have hz : ∀ w : World, (zeroValue 49).run Tryz.prog w = .ok (.agg (Array.replicate 11 (.int .u64 0))) w := fun w => by kernel_rfl
 rcases Nat.eq_zero_or_pos n with rfl | hn
 ·exact ⟨[], by simp, fun ty => by simp [Builtin.clear_, run_underlying Tryz.underlying36]; rfl⟩
 refine ⟨(Builtin.zeroCells (Value.agg (Array.replicate 11 (.int .u64 0))).cells n).toList, by simp [Builtin.zeroCells, Value.cells], fun ty => ?_⟩
 have hl : (Builtin.zeroCells (Value.agg (Array.replicate 11 (.int .u64 0))).cells n).toList.length = n * 11 := by simp [Builtin.zeroCells, Value.cells]
 have h1 : ∀ v ∈ (Builtin.zeroCells (Value.agg (Array.replicate 11 (.int .u64 0))).cells n).toList, v.oneCell' = true := by
  intro v hv
  simp only [Builtin.zeroCells, Value.cells, Array.toList_map, List.mem_map] at hv
  obtain ⟨i, -, rfl⟩ := hv
  have : i % 11 < 11 := Nat.mod_lt _ (by omega)
  simp [getElem!_pos, this]
  rfl
 have hst := run_storeCells_cells (P := Tryz.prog) b o (Builtin.zeroCells (Value.agg (Array.replicate 11 (.int .u64 0))).cells n).toList 0 w (fun j hj => (ht j (by rw [← hl]; exact hj)).1) (fun j hj => (ht j (by rw [← hl]; exact hj)).2) h1
 simp only [Nat.add_zero] at hst
 obtain ⟨m, rfl⟩ : ∃ m, n = m + 1 := ⟨n - 1, by omega⟩
 simp [Builtin.clear_, run_underlying Tryz.underlying36, hz, hst]

theorem there_keep {w w' : World} {g o n : Nat} (h : w.there g o n) (hx : Ext w w') : w'.there g o n := fun j hj => by
 obtain ⟨v, hv⟩ := Option.isSome_iff_exists.1 (h j hj).1
 refine ⟨by rw [hx.later _ _ hv]; rfl, ?_⟩
 rw [Below.frozen hx (World.block_lt_of_cell? w _ hv)]
 exact (h j hj).2
theorem flatH_len (l : List Hdr) : (flatH l).length = l.length * 11 := by
 induction l with
 | nil => rfl
 | cons x xs ih =>
  have e : flatH (x :: xs) = x.cs.toList ++ flatH xs := by simp [flatH]
  rw [e, List.length_append, ih, Hdr.len_cs, List.length_cons]; omega
/-- a row with one header set anew -/
theorem range_set {w : World} {g : Nat} {M : List Hdr} (h : w.rangeAt g 0 (flatH M)) (k : Nat) (hk : k < M.length) (x : Hdr) (ht : w.there g 0 (M.length * 11)) :
  (w.setCells g (k * 11) x.cs.toList).rangeAt g 0 (flatH (M.set k x)) := by
 have hl := x.len_cs
 have h1 : (w.setCells g (k * 11) x.cs.toList).rangeAt g (k * 11) x.cs.toList := World.rangeAt_setCells_same w g (k * 11) _ (fun j hj => by
  rw [hl] at hj
  have := ht (k * 11 + j) (by omega)
  simpa using this)
 have hM : M = M.take k ++ M[k] :: M.drop (k + 1) := by rw [← List.drop_eq_getElem_cons hk, List.take_append_drop]
 have hset : M.set k x = M.take k ++ x :: M.drop (k + 1) := by rw [List.set_eq_take_append_cons_drop, if_pos hk]
 have e0 : flatH M = flatH (M.take k) ++ ((M[k]).cs.toList ++ flatH (M.drop (k + 1))) := by
  refine (congrArg flatH hM).trans ?_
  simp only [flatH, List.flatMap_append, List.flatMap_cons]
 have e1 : flatH (M.set k x) = flatH (M.take k) ++ (x.cs.toList ++ flatH (M.drop (k + 1))) := by rw [hset]; simp [flatH]
 have l0 : (flatH (M.take k)).length = k * 11 := by rw [flatH_len, List.length_take]; congr 1; omega
 rw [e0] at h
 rw [e1]
 have ha : w.rangeAt g 0 (flatH (M.take k)) := fun j v hv => h j v (by rw [List.getElem?_append_left (List.getElem?_eq_some_iff.1 hv).1]; exact hv)
 have hb : w.rangeAt g (k * 11 + 11) (flatH (M.drop (k + 1))) := fun j v hv => by
  have := h (k * 11 + (11 + j)) v (by
   rw [List.getElem?_append_right (by omega), l0, show k * 11 + (11 + j) - k * 11 = 11 + j from by omega, List.getElem?_append_right (by rw [Hdr.len_cs]; omega), Hdr.len_cs, show 11 + j - 11 = j from by omega]
   exact hv)
  rwa [Nat.zero_add, ← Nat.add_assoc] at this
 have ha2 := World.rangeAt_setCells_apart ha g (k * 11) x.cs.toList (.inr (.inl (by rw [l0]; omega)))
 have hb2 := World.rangeAt_setCells_apart hb g (k * 11) x.cs.toList (.inr (.inr (by rw [hl]; omega)))
 intro j v hv
 rcases Nat.lt_or_ge j (k * 11) with hj | hj
 ·refine ha2 j v ?_
  rwa [List.getElem?_append_left (by rw [l0]; exact hj)] at hv
 ·rw [List.getElem?_append_right (by rw [l0]; exact hj), l0] at hv
  rcases Nat.lt_or_ge (j - k * 11) 11 with hj2 | hj2
  ·rw [List.getElem?_append_left (by rw [hl]; exact hj2)] at hv
   have := h1 (j - k * 11) v hv
   rwa [show k * 11 + (j - k * 11) = 0 + j from by omega] at this
  ·rw [List.getElem?_append_right (by rw [hl]; exact hj2), hl] at hv
   have := hb2 (j - k * 11 - 11) v hv
   rwa [show k * 11 + 11 + (j - k * 11 - 11) = 0 + j from by omega] at this
theorem range_head {w : World} {g : Nat} {M D : List Hdr} (h : w.rangeAt g 0 (flatH M)) (hD : M.take D.length = D) : w.rangeAt g 0 (flatH D) := fun j v hv => h j v (by
 have e : flatH M = flatH D ++ flatH (M.drop D.length) := by
  conv => lhs; rw [← List.take_append_drop D.length M, hD]
  simp [flatH]
 rw [e, List.getElem?_append_left (List.getElem?_eq_some_iff.1 hv).1]; exact hv)

end Go.Proofs.YtjjbdbklbghlhaaGreatDoor
/- What a diagram makes of a header, in plain words. -/
namespace Go.Proofs.YtjjbdbklbghlhaaGreatDoor
open Go.RowKit Go.Sort Go.Maps Go.Lib
set_option linter.unusedSimpArgs false

/-- the leaf that a header comes to -/
def downP : Nat → List NdD → Nat → Hdr → Nat
 | 0, _, a, _ => a
 | k + 1, L, a, h => if (nodeP L a).f < 0 then a else downP k L (if h.f (nodeP L a).f.toNat = (nodeP L a).n then (nodeP L a).hi.toNat else (nodeP L a).lo.toNat) h
def setRow (row : RowD) (h : Hdr) : Hdr := row.foldl (fun k y => k.put y.f.toNat y.n) h
def makeL (L : List NdD) (c : Nat) (h : Hdr) : List Hdr := dd (sortH ((nodeP L c).leaf.map fun r => setRow r h))
def runH (L : List NdD) (a : Int) (h : Hdr) : Int × List Hdr := if (getP L a).isSome then (0, makeL L (downP (a.toNat + 1) L a.toNat h) h) else (5, [])
theorem downP_fuel {L : List NdD} (hI : InvO L) {h : Hdr} : ∀ {k k' a : Nat}, a < L.length → a < k → a < k' → downP k L a h = downP k' L a h
 | 0, _, _, _, h1, _ => absurd h1 (Nat.not_lt_zero _)
 | _, 0, _, _, _, h1 => absurd h1 (Nat.not_lt_zero _)
 | k + 1, k' + 1, a, ha, h1, h2 => by
  rw [downP, downP]
  split
  ·rfl
  ·rename_i hf
   have hk := hI.kids ha (by omega)
   split
   ·exact downP_fuel hI (by omega) (by omega) (by omega)
   ·exact downP_fuel hI (by omega) (by omega) (by omega)
theorem dd_len_le : ∀ l : List Hdr, (dd l).length ≤ l.length
 | [] => by simp [dd]
 | [x] => by simp [dd]
 | x :: y :: r => by
  have ih := dd_len_le (y :: r)
  rw [dd_cons]
  split
  ·simp only [List.length_cons] at *; omega
  ·simp only [List.length_cons] at *; omega
theorem makeL_len {L : List NdD} {c : Nat} {h : Hdr} (hc : (nodeP L c).leaf.length ≤ 64) : (makeL L c h).length ≤ 64 := by
 unfold makeL
 refine Nat.le_trans (dd_len_le _) ?_
 unfold sortH
 rw [List.length_mergeSort, List.length_map]
 exact hc
end Go.Proofs.YtjjbdbklbghlhaaGreatDoor
/- slices.Compact of headers, walked. -/
namespace Go.Proofs.YtjjbdbklbghlhaaGreatDoor
open Go.RowKit Go.Maps Go.Sort
set_option linter.unusedSimpArgs false

set_option maxHeartbeats 4000000 in
set_option maxRecDepth 100000 in
theorem dcompact_any (l : List Hdr) (g len cap : Nat) (w : World) (hlen : len = l.length) (hcap : len ≤ cap) (hmax : cap ≤ 9223372036854775807) (hr : w.rangeAt g 0 (flatH l)) (ht : w.there g 0 (len * 11)) :
    Calls Tryz.prog 33 #[.slice (some ⟨g, 0, none⟩) len cap] w fun e w' => e = .returned (.slice (some ⟨g, 0, none⟩) (dd l).length cap) ∧ w'.rangeAt g 0 (flatH (dd l)) ∧ Keep (· = g) w w' := by
  have HL := Hd hlen
  have HR := Hd (fun W (hW : Ext w W) => World.rangeAt.later hW.later hr)
  have HTH := Hd (fun W (hW : Ext w W) => there_keep ht hW)
  have HHU := Hd (show Tryz.prog.underlying 49 = some (.array 11 23) from Tryz.underlying49)
  have HHI := Hd (fun (x : Hdr) => show (Tryz.prog.info? 49).map (·.size) = some x.cs.toList.length from by rw [x.len_cs]; kernel_rfl)
  clear hlen hr ht
  by_cases h2 : len < 2
  · have HF := Hd (show dd l = l from by
      have hll : l.length < 2 := by rw [← HL.out]; exact h2
      match l, hll with
      | [], _ => rfl
      | [x], _ => rfl)
    go_enter Tryz.func33, Tryz.ntmps33
    go_wp2_with fail
    go_ret
    exact ⟨by rw [HF.out, ← HL.out]; rfl, by rw [HF.out]; exact HR.out _ (Ext.refl _), Keep.refl _ _⟩
  go_enter Tryz.func33, Tryz.ntmps33
  go_wp2_with fail
  go_loopw [3] (fun i wr => ∃ k : Nat, k + 1 ≤ len ∧ i = .int .i64 (k + 1 : Nat) ∧ Hid (∀ m (h : m < l.length), 0 < m → m < k + 1 → l[m - 1] ≠ l[m]) ∧ Hid (Ext w wr)) (fun i _ => len - (intOf i).toNat)
  case atStart => exact ⟨0, by omega, rfl, fun m h h0 h1 => by omega, Ext.refl _⟩
  case round =>
    obtain ⟨wo, rfl⟩ : ∃ wo : World, wo = wr := ⟨_, rfl⟩
    obtain ⟨k, hk, rfl, hd, hx⟩ := hrel
    by_cases hlt : k + 1 < len
    · have hkl : k + 1 < l.length := by rw [← HL.out]; exact hlt
      have hrx := fun W (hW : Ext wo W) => rangeAt_get Hdr.len_cs (HR.out W (hx.out.trans hW)) (k + 1) hkl
      have hry := fun W (hW : Ext wo W) => rangeAt_get Hdr.len_cs (HR.out W (hx.out.trans hW)) k (by omega)
      simp only [Nat.zero_add] at hrx hry
      have HXK := Hd (show ∃ x, x = l[k + 1] from ⟨_, rfl⟩)
      obtain ⟨x, hxe⟩ := HXK.out
      obtain ⟨y, hye⟩ : ∃ y, y = l[k]'(by omega) := ⟨_, rfl⟩
      rw [← hxe] at hrx
      rw [← hye] at hry
      have HXE := Hd hxe
      have HYE := Hd hye
      have HSS := Hd (fun W (hW : Ext wo W) => (show (fun W => W.rangeAt g ((k + 1) * 11) x.cs.toList ∧ W.rangeAt g (k * 11) y.cs.toList) W from ⟨hrx W hW, hry W hW⟩))
      have he := fun w => eqH x y w
      have hg := guardH
      have hxd := Ext.drew wo
      have huH := HHU.out
      have hiH := HHI.out
      have hadd : ((k : Int) + 1 - 1) = k := by omega
      clear hrx hry hxe hye HXK
      go_upto_region 6 with fail
      refine wp_region_noPanic ?_
      refine wp_region_held_drew (S := (fun W => W.rangeAt g ((k + 1) * 11) x.cs.toList ∧ W.rangeAt g (k * 11) y.cs.toList)) (by kernel_rfl) (HSS.out _ hxd) (fun hHeld => ?_)
      refine tk 0 (.slice (some ⟨g, 0, none⟩) len cap) ?_
      try simp only [tkN]
      refine tk 1 (.int .i64 (k + 1 : Nat)) ?_
      try simp only [tkN]
      refine tk 2 (.pointer (some ⟨g, (k + 1) * 11, none⟩)) ?_
      try simp only [tkN]
      refine wpAnyH_take (i := 3) (v := .agg x.cs.toList.toArray) rfl (by kernel_rfl) (by kernel_rfl) (by kernel_rfl) (fun _ _ _ h => h) ?_ (by assumption) ?_
      · try simp only [List.getElem_toArray, List.getElem_cons_zero, List.getElem_cons_succ]
        exact yieldsIf_load_mid (by rfl) _ _ rfl g ((k + 1) * 11) rfl x.cs.toList _ (fun w hSw => hSw.1) huH rfl (hiH x)
      try simp only [tkN]
      refine tk 4 (.slice (some ⟨g, 0, none⟩) len cap) ?_
      try simp only [tkN]
      refine tk 5 (.int .i64 (k + 1 : Nat)) ?_
      try simp only [tkN]
      refine tk 6 (.int .i64 k) ?_
      try simp only [tkN]
      refine tk 7 (.pointer (some ⟨g, k * 11, none⟩)) ?_
      try simp only [tkN]
      refine wpAnyH_take (i := 8) (v := .agg y.cs.toList.toArray) rfl (by kernel_rfl) (by kernel_rfl) (by kernel_rfl) (fun _ _ _ h => h) ?_ (by assumption) ?_
      · try simp only [List.getElem_toArray, List.getElem_cons_zero, List.getElem_cons_succ]
        exact yieldsIf_load_mid (by rfl) _ _ rfl g (k * 11) rfl y.cs.toList _ (fun w hSw => hSw.2) huH rfl (hiH y)
      try simp only [tkN]
      refine tk 9 (.bool (decide (x = y))) ?_
      try simp only [tkN]
      refine wpAnyH_done (by kernel_rfl) ?_ _
      refine NoPanic.normal ?_
      obtain ⟨w5, hx5e⟩ : ∃ W : World, W = wo.drew := ⟨_, rfl⟩
      rw [← hx5e]
      have hx5 : Ext wo.drew w5 := hx5e ▸ Ext.refl _
      clear hx5e he hg
      have HX5 := Hd (hx.out.trans (hxd.trans hx5))
      cases hxy : decide (x = y) with
      | false =>
        have HNE := Hd (show l[k]'(by omega) ≠ l[k + 1] from by rw [← HXE.out, ← HYE.out]; exact fun e => by simp [e] at hxy)
        clear hxy
        go_wp2_with fail
        go_roundw
        case rel => exact ⟨k + 1, by omega, by go_num, fun m h h0 h1 => by
          rcases Nat.lt_succ_iff_lt_or_eq.1 h1 with h2 | rfl
          · exact hd.out m h h0 h2
          · exact HNE.out, HX5.out⟩
        case measure => simp [intOf]; omega
      | true =>
        have HK := Hd (show dd (l.take (k + 1 + 1)) = l.take (k + 1) from by
          rw [dd_take (by omega) hkl, if_pos (by
            have := of_decide_eq_true hxy
            show l[k]'(by omega) = l[k + 1]
            rw [← HXE.out, ← HYE.out, this])]
          exact dd_rises (k + 1) (by omega) hd.out)
        have HR5 := Hd (HR.out _ HX5.out)
        have HT5 := Hd (HTH.out _ HX5.out)
        clear hxy hd HSS HXE HYE
        go_wp2_with fail
        try rw [show ((k + 1 : Nat) : Int) = (k : Int) + 1 from by omega]
        rw [show decide (((k : Int) + 1) < (len : Int)) = true from decide_eq_true (by omega)]
        go_loopw [3, 5] (fun i j wr => ∃ (kk k2 : Nat) (M : List Hdr), k + 1 + (k2 + 1) ≤ len ∧ kk ≤ k + 1 + k2 ∧ i = .int .i64 kk ∧ j = .int .i64 (k2 + 1 : Nat) ∧ Hid (kk = (dd (l.take (k + 1 + (k2 + 1)))).length) ∧ M.length = len ∧ Hid (M.take kk = dd (l.take (k + 1 + (k2 + 1)))) ∧ Hid (∀ i (h : i < l.length) (h' : i < M.length), k + 1 + k2 ≤ i → M[i] = l[i]) ∧ Hid (wr.rangeAt g 0 (flatH M)) ∧ Hid (wr.there g 0 (len * 11)) ∧ Hid (Keep (· = g) w wr)) (fun _ j _ => len - (intOf j).toNat)
        case atStart => exact ⟨k + 1, 0, l, by omega, by omega, rfl, rfl, by show k + 1 = (dd (l.take (k + 1 + 1))).length; rw [HK.out, List.length_take]; omega, HL.out.symm, HK.out.symm, fun i h h' hi => rfl, HR5.out, HT5.out, HX5.out.keep _⟩
        case round =>
          obtain ⟨wi, rfl⟩ : ∃ wi : World, wi = wr := ⟨_, rfl⟩
          obtain ⟨kk, k2, M, hk2, hkk, rfl, rfl, hkl2, hML, hMt, hMi, hMr, hMth, hMk⟩ := hrel
          by_cases hlt2 : k + 1 + (k2 + 1) < len
          · have hil : k + 1 + (k2 + 1) < l.length := by rw [← HL.out]; exact hlt2
            have hrx := fun W (hW : Ext wi W) => rangeAt_get Hdr.len_cs (World.rangeAt.later hW.later hMr.out) (k + 1 + (k2 + 1)) (by omega)
            have hry := fun W (hW : Ext wi W) => rangeAt_get Hdr.len_cs (World.rangeAt.later hW.later hMr.out) (k + 1 + k2) (by omega)
            simp only [Nat.zero_add] at hrx hry
            obtain ⟨x, hxe⟩ : ∃ x, x = M[k + 1 + (k2 + 1)]'(by omega) := ⟨_, rfl⟩
            obtain ⟨y, hye⟩ : ∃ y, y = M[k + 1 + k2]'(by omega) := ⟨_, rfl⟩
            rw [← hxe, show (k + 1 + (k2 + 1)) * 11 = (k + 1) * 11 + (k2 + 1) * 11 from by omega] at hrx
            rw [← hye, show (k + 1 + k2) * 11 = (k + 1) * 11 + k2 * 11 from by omega] at hry
            have HXE := Hd (show x = l[k + 1 + (k2 + 1)] from by rw [hxe]; exact hMi.out _ hil (by omega) (by omega))
            have HYE := Hd (show y = l[k + 1 + k2]'(by omega) from by rw [hye]; exact hMi.out _ (by omega) (by omega) (by omega))
            have HSS := Hd (fun W (hW : Ext wi W) => (show (fun W => W.rangeAt g ((k + 1) * 11 + (k2 + 1) * 11) x.cs.toList ∧ W.rangeAt g ((k + 1) * 11 + k2 * 11) y.cs.toList) W from ⟨hrx W hW, hry W hW⟩))
            have he := fun w => eqH x y w
            have hg := guardH
            have hxd := Ext.drew wi
            have huH := HHU.out
            have hiH := HHI.out
            have hadd : ((k2 : Int) + 1 - 1) = k2 := by omega
            clear hrx hry hxe hye
            go_upto_region 11 with fail
            refine wp_region_noPanic ?_
            refine wp_region_held_drew (S := (fun W => W.rangeAt g ((k + 1) * 11 + (k2 + 1) * 11) x.cs.toList ∧ W.rangeAt g ((k + 1) * 11 + k2 * 11) y.cs.toList)) (by kernel_rfl) (HSS.out _ hxd) (fun hHeld => ?_)
            refine tk 0 (.slice (some ⟨g, (k + 1) * 11, none⟩) (len - (k + 1)) (cap - (k + 1))) ?_
            try simp only [tkN]
            refine tk 1 (.int .i64 (k2 + 1 : Nat)) ?_
            try simp only [tkN]
            refine tk 2 (.pointer (some ⟨g, (k + 1) * 11 + (k2 + 1) * 11, none⟩)) ?_
            try simp only [tkN]
            refine wpAnyH_take (i := 3) (v := .agg x.cs.toList.toArray) rfl (by kernel_rfl) (by kernel_rfl) (by kernel_rfl) (fun _ _ _ h => h) ?_ (by assumption) ?_
            · try simp only [List.getElem_toArray, List.getElem_cons_zero, List.getElem_cons_succ]
              exact yieldsIf_load_mid (by rfl) _ _ rfl g ((k + 1) * 11 + (k2 + 1) * 11) rfl x.cs.toList _ (fun w hSw => hSw.1) huH rfl (hiH x)
            try simp only [tkN]
            refine tk 4 (.slice (some ⟨g, (k + 1) * 11, none⟩) (len - (k + 1)) (cap - (k + 1))) ?_
            try simp only [tkN]
            refine tk 5 (.int .i64 (k2 + 1 : Nat)) ?_
            try simp only [tkN]
            refine tk 6 (.int .i64 k2) ?_
            try simp only [tkN]
            refine tk 7 (.pointer (some ⟨g, (k + 1) * 11 + k2 * 11, none⟩)) ?_
            try simp only [tkN]
            refine wpAnyH_take (i := 8) (v := .agg y.cs.toList.toArray) rfl (by kernel_rfl) (by kernel_rfl) (by kernel_rfl) (fun _ _ _ h => h) ?_ (by assumption) ?_
            · try simp only [List.getElem_toArray, List.getElem_cons_zero, List.getElem_cons_succ]
              exact yieldsIf_load_mid (by rfl) _ _ rfl g ((k + 1) * 11 + k2 * 11) rfl y.cs.toList _ (fun w hSw => hSw.2) huH rfl (hiH y)
            try simp only [tkN]
            refine tk 9 (.bool (!decide (x = y))) ?_
            try simp only [tkN]
            refine wpAnyH_done (by kernel_rfl) ?_ _
            refine NoPanic.normal ?_
            obtain ⟨w5, hx5e⟩ : ∃ W : World, W = wi.drew := ⟨_, rfl⟩
            rw [← hx5e]
            have hx5 : Ext wi.drew w5 := hx5e ▸ Ext.refl _
            clear hx5e he hg
            have hx5' : Ext wi w5 := hxd.trans hx5
            have HMR5 := Hd (World.rangeAt.later hx5'.later hMr.out)
            have HMT5 := Hd (there_keep hMth.out hx5')
            have HMK5 := Hd (hMk.out.trans (hx5'.keep _))
            have HRX5 := Hd (HSS.out w5 hx5').1
            cases hxy : decide (x = y) with
            | true =>
              have HDT := Hd (show dd (l.take (k + 1 + (k2 + 1 + 1))) = dd (l.take (k + 1 + (k2 + 1))) from by
                have := dd_take (l := l) (i := k + 1 + (k2 + 1)) (by omega) hil
                rw [show k + 1 + (k2 + 1) + 1 = k + 1 + (k2 + 1 + 1) from by omega, if_pos (by
                  have := of_decide_eq_true hxy
                  show l[k + 1 + k2]'(by omega) = l[k + 1 + (k2 + 1)]
                  rw [← HXE.out, ← HYE.out, this])] at this
                exact this)
              clear hxy HSS HXE HYE hMr hMth hMk
              go_wp2_with fail
              go_roundw
              case rel => exact ⟨kk, k2 + 1, M, by omega, by omega, rfl, by go_num, by rw [HDT.out]; exact hkl2.out, hML, by rw [HDT.out]; exact hMt.out, fun i h h' hi => hMi.out i h h' (by omega), HMR5.out, HMT5.out, HMK5.out⟩
              case measure => simp [intOf]; omega
            | false =>
              have HDT := Hd (show dd (l.take (k + 1 + (k2 + 1 + 1))) = dd (l.take (k + 1 + (k2 + 1))) ++ [x] from by
                have := dd_take (l := l) (i := k + 1 + (k2 + 1)) (by omega) hil
                rw [show k + 1 + (k2 + 1) + 1 = k + 1 + (k2 + 1 + 1) from by omega, if_neg (by
                  have := of_decide_eq_false hxy
                  show ¬ l[k + 1 + k2]'(by omega) = l[k + 1 + (k2 + 1)]
                  rw [← HXE.out, ← HYE.out]
                  exact fun e => this e.symm), ← HXE.out] at this
                exact this)
              have hkM : kk < M.length := by omega
              have HMR6 := Hd (range_set HMR5.out kk hkM x (by rw [hML]; exact HMT5.out))
              have hthk : w5.there g (kk * 11) x.cs.size := fun j hj => by
                rw [x.size_cs] at hj
                have := HMT5.out (kk * 11 + j) (by omega)
                simpa using this
              have HTK := Hd hthk
              have HMT6 := Hd (World.there_setCells HMT5.out g (kk * 11) x.cs.toList)
              have HMK6 := Hd (HMK5.out.trans (keep_setCells g (kk * 11) x.cs.toList))
              have HMt6 := Hd (show (M.set kk x).take (kk + 1) = dd (l.take (k + 1 + (k2 + 1 + 1))) from by
                rw [HDT.out, ← hMt.out, List.take_succ_eq_append_getElem (by rw [List.length_set]; exact hkM), List.getElem_set_self, List.take_set_of_le (Nat.le_refl _)])
              have HMi6 := Hd (show ∀ i (h : i < l.length) (h' : i < (M.set kk x).length), k + 1 + (k2 + 1) ≤ i → (M.set kk x)[i] = l[i] from fun i h h' hi => by
                rw [List.getElem_set_ne (by omega)]
                exact hMi.out i h (by rw [List.length_set] at h'; exact h') (by omega))
              have HHS := Hd (show (Tryz.prog.info? 49).map (·.size) = some x.cs.size from by rw [x.size_cs]; kernel_rfl)
              clear hxy HSS HXE HYE hMr hMth hMk hthk hMt hMi
              go_wp2_with (first
                | (refine wpList_load_H rfl _ rfl g ((k + 1) * 11 + (k2 + 1) * 11) rfl x HRX5.out ?_)
                | (refine wpList_store_mid rfl 49 _ _ rfl g (kk * 11) x.cs rfl rfl HTK.out HHS.out (all_oneCell_toArray x.one) ?_))
              go_roundw
              case rel => exact ⟨kk + 1, k2 + 1, M.set kk x, by omega, by omega, by go_num, by go_num, by rw [HDT.out, List.length_append, ← hkl2.out]; rfl, by rw [List.length_set]; exact hML, HMt6.out, HMi6.out, HMR6.out, HMT6.out, HMK6.out⟩
              case measure => simp [intOf]; omega
          · have hfull : k + 1 + (k2 + 1) = l.length := by have := HL.out; omega
            have HDL := Hd (show dd (l.take (k + 1 + (k2 + 1))) = dd l from by rw [hfull, List.take_length])
            have HKL := Hd (show (dd l).length = kk from by rw [← HDL.out]; exact hkl2.out.symm)
            have hths : wi.there g (kk * 11) ((len - kk) * 11) := fun j hj => by
              have := hMth.out (kk * 11 + j) (by omega)
              simpa using this
            obtain ⟨vs, hvs, hcl⟩ := run_clear_H wi g (kk * 11) (len - kk) (cap - kk) hths
            have HF1 := Hd (World.rangeAt_setCells_apart (range_head (D := dd l) hMr.out (by rw [HKL.out, ← HDL.out]; exact hMt.out)) g (kk * 11) vs (.inr (.inl (by rw [flatH_len, HKL.out]; omega))))
            have HF2 := Hd (hMk.out.trans (keep_setCells g (kk * 11) vs))
            clear hMr hMth hMk hMt hMi hths hvs hkl2
            go_wp2_with fail
            go_ret
            exact ⟨by rw [HKL.out]; rfl, HF1.out, HF2.out⟩
    · have HF := Hd (show dd l = l from by
        have := dd_rises (l := l) l.length (Nat.le_refl _) (fun m h h0 _ => hd.out m h h0 (by have := HL.out; omega))
        rwa [List.take_length] at this)
      clear hd
      go_wp2_with fail
      go_ret
      exact ⟨by rw [HF.out, ← HL.out]; rfl, by rw [HF.out]; exact HR.out _ hx.out, hx.out.keep _⟩
end Go.Proofs.YtjjbdbklbghlhaaGreatDoor
/- Slices of headers out of their data. -/
namespace Go.Proofs.YtjjbdbklbghlhaaGreatDoor
open Go.ChangeShapes Go.WideShapes Go.ChangeAt Go.RowKit Go.Deep
set_option linter.unusedSimpArgs false

def SlOfC {α : Type} (At : World → α → Nat → Nat → Prop) (k : Nat) (w : World) (l : List α) (v : Value) : Prop :=
 ∃ p len cap, v = .slice p len cap ∧ len = l.length ∧ len ≤ cap ∧ cap ≤ 9223372036854775807 ∧ (l = [] ∨ ∃ b o, p = some ⟨b, o, none⟩ ∧ ∀ i (h : i < l.length), At w (l[i]) b (o + i * k))
section
variable {H : Type} {enc : TypeId × Value → H} {w : World} {spare : Nat → Bool} {held : Bool}
theorem open_sliceC {α : Type} {E e : TypeId} {k : Nat} (hu : Tryz.prog.underlying E = some (.slice e)) (hk : Tryz.prog.cellsOf e = k) (hk0 : 0 < k) (At : World → α → Nat → Nat → Prop) (fuel : Nat)
  (hop : ∀ m, m < fuel → ∀ cs d ps, DataW.trod enc Tryz.prog w 0 spare held m e cs = some (d, ps) → ∃ x : α, ∀ b o, w.rangeAt b o cs → At w x b o) (c : Value) (d : DataW H) (ps : List MemPlace)
  (h : DataW.trod enc Tryz.prog w 0 spare held fuel E [c] = some (d, ps)) : ∃ l : List α, SlOfC At k w l c := by
 rcases DataW.trod_slice hu h with ⟨h3, -⟩ | ⟨a, len, cap, elems, rest, m, rfl, h3, -, -, hlc, hcm, hel, hat, -⟩
 ·simp only [List.cons.injEq, and_true] at h3
  subst h3
  exact ⟨[], none, 0, 0, rfl, rfl, Nat.le_refl _, by omega, .inl rfl⟩
 ·simp only [List.cons.injEq, and_true] at h3
  subst h3
  rw [maxLen_eq] at hcm
  have ha : 0 < len → a = ⟨a.block, a.off, none⟩ := fun h0 => by
   have h0' := hat 0 h0
   rw [List.getElem?_eq_getElem (by omega), Option.bind_eq_some_iff] at h0'
   obtain ⟨cs0, hc0, -⟩ := h0'
   obtain ⟨-, hcl0, hce0⟩ := World.cells?_some hc0
   rw [hk] at hcl0 hce0
   have h00 := hce0 0 hk0
   rw [List.getElem?_eq_getElem (by omega)] at h00
   simpa [Addr.add] using cell_nospot h00
  have hx : ∀ i, i < len → ∃ x : α, At w x a.block (a.off + i * k) := by
   intro i hi
   have hi' := hat i hi
   rw [List.getElem?_eq_getElem (by omega), Option.bind_eq_some_iff] at hi'
   obtain ⟨cs', hc, ht⟩ := hi'
   obtain ⟨x, hv⟩ := hop m (by omega) cs' _ _ ht
   obtain ⟨-, hcl, hce⟩ := World.cells?_some hc
   rw [hk] at hcl hce
   refine ⟨x, hv _ _ (fun j v hjv => ?_)⟩
   have hj : j < k := by
    have := (List.getElem?_eq_some_iff.1 hjv).1
    omega
   have := hce j hj
   rw [ha (by omega), Addr.add_mid, Addr.add_mid] at this
   rw [this]
   exact hjv
  let l : List α := List.ofFn fun i : Fin len => Classical.choose (hx i.1 i.2)
  have hll : l.length = len := by simp [l]
  refine ⟨l, some a, len, cap, rfl, hll.symm, hlc, hcm, ?_⟩
  by_cases hz : len = 0
  ·exact .inl (List.length_eq_zero_iff.1 (hll.trans hz))
  ·refine .inr ⟨a.block, a.off, by rw [← ha (by omega)], fun i hi => ?_⟩
   have hi' : i < len := by omega
   have e : l[i] = Classical.choose (hx i hi') := by simp [l]
   rw [e]
   exact Classical.choose_spec (hx i hi')

end
def RAtC (w : World) (x : Hdr) (b o : Nat) : Prop := w.rangeAt b o x.cs.toList
theorem rangeAt_flatC {w : World} {b : Nat} : ∀ (l : List Hdr) (o : Nat), (∀ i (h : i < l.length), RAtC w (l[i]) b (o + i * 11)) → w.rangeAt b o (flatH l)
 | [], _, _ => fun j v hv => by simp [flatH] at hv
 | x :: xs, o, h => by
  have h0 := h 0 (by simp)
  have ih := rangeAt_flatC xs (o + 11) fun i hi => by
   have := h (i + 1) (by simpa using hi)
   rw [List.getElem_cons_succ] at this
   rwa [show o + (i + 1) * 11 = o + 11 + i * 11 from by omega] at this
  intro j v hv
  have hx : (flatH (x :: xs)) = x.cs.toList ++ flatH xs := by simp [flatH]
  rw [hx] at hv
  by_cases hj : j < 11
  ·rw [List.getElem?_append_left (by rw [x.len_cs]; exact hj)] at hv
   have := h0 j v hv
   simpa using this
  ·rw [List.getElem?_append_right (by rw [x.len_cs]; omega), x.len_cs] at hv
   have := ih (j - 11) v hv
   rwa [show o + 11 + (j - 11) = o + j from by omega] at this
theorem hsl_ofC {w : World} {l : List Hdr} {v : Value} (h : SlOfC RAtC 11 w l v) : HSl w 0 l v := by
 obtain ⟨p, len, cap, rfl, h1, h2, h3, h4⟩ := h
 exact ⟨p, len, cap, rfl, h1, h4.imp id fun ⟨b, o, hp, hr⟩ => ⟨b, o, hp, Nat.zero_le _, rangeAt_flatC l o hr⟩⟩
theorem recHs : Tryz.prog.readableRec 36 = true := by kernel_rfl
theorem rowHs : (36 : TypeId) < Tryz.prog.types.size := of_decide_eq_true (by kernel_rfl)
section
variable {H : Type} {enc : TypeId × Value → H} {base : Nat}
set_option maxRecDepth 4000 in
theorem hdrs_val {W : World} {v : Value} {d : DataW H} {ps : List MemPlace} (ho : Value.okWide Tryz.prog W .any base 36 v) (h : DataW.Trod enc Tryz.prog W 0 (fun _ => true) true 36 v d ps) : ∃ l : List Hdr, HSl W 0 l v := by
 obtain ⟨fuel, hf⟩ := h
 have hc : v.cells = #[v] := by
  obtain ⟨a, len, cap, rfl⟩ := okWide_slice Tryz.underlying36 ho
  rfl
 rw [hc] at hf
 obtain ⟨l, hl⟩ := open_sliceC Tryz.underlying36 (k := 11) (by kernel_rfl) (by omega) RAtC fuel (fun m _ cs d ps h => by
  obtain ⟨x, rfl⟩ := open_hdr m cs d ps h
  exact ⟨x, fun b o hr => hr⟩) v _ _ hf
 exact ⟨l, hsl_ofC hl⟩
theorem stays_Hs {W W' : World} {v : Value} {d : DataW H} {ps : List MemPlace} (sp : Nat → Bool) (h : DataW.Trod enc Tryz.prog W 0 (fun _ => true) true 36 v d ps) (hb : Below W.heap.size W W') (hlt : ∀ x ∈ ps, x.block < W.heap.size) (hs : ∀ x ∈ ps, sp x.block = true) :
  DataW.Trod enc Tryz.prog W' 0 sp true 36 v d ps := WideElems.Trod_stays laidL recHs rowHs h (fun x hx => hb.same (hlt x hx)) hs
end
end Go.Proofs.YtjjbdbklbghlhaaGreatDoor
