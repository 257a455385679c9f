/- The order that judge.Reach sorts by. -/
import Derived.Test.YtddeelepaiklgaaJHead
namespace Go.Proofs.Ytddeelepaiklgaa
open Go.RowKit Go.Maps Go.Sort

set_option maxHeartbeats 1000000 in
theorem isNaN_any (a : Int) (w : World) : Calls Try.prog 72 #[.int .u64 a] w fun e w' => e = .returned (.bool false) ∧ w = w' := by
  go_enter Try.func72, Try.ntmps72
  go_wp2_with fail
  go_ret
  exact ⟨rfl, rfl⟩
def cmp1 (a b : Int) : Int := if a < b then -1 else if b < a then 1 else 0
set_option maxHeartbeats 1000000 in
theorem cmp_any (a b : Int) (w : World) : Calls Try.prog 48 #[.int .u64 a, .int .u64 b] w fun e w' => e = .returned (.int .i64 (cmp1 a b)) ∧ w = w' := by
  go_enter Try.func48, Try.ntmps48
  go_wp2_with fail
  refine (isNaN_any a w).mono ?_
  rintro e w1 ⟨rfl, rfl⟩
  go_wp2_with fail
  refine (isNaN_any b w).mono ?_
  rintro e w1 ⟨rfl, rfl⟩
  rcases Int.lt_trichotomy a b with h | h | h
  · have HF := Lib.hid (show cmp1 a b = -1 from by unfold cmp1; rw [if_pos h])
    go_wp2_with fail
    go_ret
    exact ⟨by rw [HF.out]; rfl, rfl⟩
  · have HF := Lib.hid (show cmp1 a b = 0 from by unfold cmp1; rw [if_neg (by omega), if_neg (by omega)])
    have h1 : ¬ a < b := by omega
    have h2 : ¬ b < a := by omega
    clear h
    go_wp2_with fail
    go_ret
    exact ⟨by rw [HF.out]; rfl, rfl⟩
  · have HF := Lib.hid (show cmp1 a b = 1 from by unfold cmp1; rw [if_neg (by omega), if_pos h])
    have h1 : ¬ a < b := by omega
    go_wp2_with fail
    go_ret
    exact ⟨by rw [HF.out]; rfl, rfl⟩

set_option maxHeartbeats 2000000 in
set_option maxRecDepth 100000 in
theorem compareSl_any (x y : Hdr) (a b : Nat) (w : World) (ha : w.rangeAt a 0 x.cs.toList) (hb : w.rangeAt b 0 y.cs.toList) :
    Calls Try.prog 30 #[.slice (some ⟨a, 0, none⟩) 11 11, .slice (some ⟨b, 0, none⟩) 11 11] w fun e w' => e = .returned (.int .i64 (cmpH x y)) ∧ w = w' := by
  have HA := Lib.hid ha
  have HB := Lib.hid hb
  clear ha hb
  go_enter Try.func30, Try.ntmps30
  go_wp2_with fail
  go_loopw [11] (fun i wr => ∃ j : Nat, j ≤ 11 ∧ i = .int .i64 j ∧ Hid (∀ m, m < j → x.f m = y.f m) ∧ Hid (w = wr)) (fun i _ => 11 - (intOf i).toNat)
  case atStart => exact ⟨0, by omega, rfl, fun m hm => by omega, rfl⟩
  case round =>
    obtain ⟨j, hj, rfl, hd, hw⟩ := hrel
    have hw' := hw.out
    subst hw'
    clear hw
    by_cases hlt : j < 11
    · have c1 := cellAt HA.out j hlt
      have c2 := cellAt HB.out j hlt
      rw [Nat.zero_add] at c1 c2
      have HC := Lib.hid (cmp_any (x.f j) (y.f j) w)
      rcases Int.lt_trichotomy (x.f j) (y.f j) with h | h | h
      · have HF := Lib.hid (cmpH_lt j hlt hd.out h)
        have HV := Lib.hid (show cmp1 (x.f j) (y.f j) = -1 from by unfold cmp1; rw [if_pos h])
        rw [HV.out] at HC
        clear h hd HV
        go_wp2_with fail
        refine HC.out.mono ?_
        rintro e w1 ⟨rfl, rfl⟩
        go_wp2_with fail
        go_ret
        exact ⟨by rw [HF.out]; rfl, rfl⟩
      · have HV := Lib.hid (show cmp1 (x.f j) (y.f j) = 0 from by unfold cmp1; rw [if_neg (by omega), if_neg (by omega)])
        have HE := Lib.hid h
        rw [HV.out] at HC
        clear h HV
        go_wp2_with fail
        refine HC.out.mono ?_
        rintro e w1 ⟨rfl, rfl⟩
        go_wp2_with fail
        go_roundw
        case rel => exact ⟨j + 1, by omega, by go_num, fun m hm => by
          rcases Nat.lt_succ_iff_lt_or_eq.1 hm with h1 | rfl
          · exact hd.out m h1
          · exact HE.out, True.intro⟩
        case measure => simp [intOf]; omega
      · have HF := Lib.hid (cmpH_gt j hlt hd.out h)
        have HV := Lib.hid (show cmp1 (x.f j) (y.f j) = 1 from by unfold cmp1; rw [if_neg (by omega), if_pos h])
        rw [HV.out] at HC
        clear h hd HV
        go_wp2_with fail
        refine HC.out.mono ?_
        rintro e w1 ⟨rfl, rfl⟩
        go_wp2_with fail
        go_ret
        exact ⟨by rw [HF.out]; rfl, rfl⟩
    · have HF := Lib.hid (cmpH_same (a := x) (b := y) (fun i hi => hd.out i (by omega)))
      clear hd
      go_wp2_with fail
      go_ret
      exact ⟨by rw [HF.out]; rfl, rfl⟩

set_option maxHeartbeats 2000000 in
set_option maxRecDepth 100000 in
theorem reachCmp_any (a b : Hdr) (w : World) : Calls Try.prog 29 #[.agg a.cs, .agg b.cs] w fun e w' =>
    e = .returned (.int .i64 (cmpH a b)) ∧ ∃ n, w' = ((w.alloc (.cells a.cs 24)).alloc (.cells b.cs 24)).drewN n := by
  have ra := World.rangeAt.later (Ext.alloc (w.alloc (.cells a.cs 24)) (.cells b.cs 24)).later (rangeAt_new w a.cs 24)
  have rb := rangeAt_new (w.alloc (.cells a.cs 24)) b.cs 24
  rw [World.size_alloc] at rb
  have HC := Lib.hid (compareSl_any a b w.heap.size (w.heap.size + 1) _ (World.rangeAt.later (Ext.drewN _ 1).later ra) (World.rangeAt.later (Ext.drewN _ 1).later rb))
  clear ra rb
  go_enter Try.func29, Try.ntmps29
  go_upto_region 1 with fail
  go_region_with (go_at_call 30; refine HC.out.mono ?_; rintro e w4 ⟨rfl, rfl⟩)
  all_goals (go_wp2_with fail; go_ret; exact ⟨rfl, 1, rfl⟩)

theorem cmpLaysR (blk off size : Nat) (w : World) : CmpLays Try.prog 29 #[] (fun h : Hdr => h.cs.toList) 11 cmpH blk off size w := fun m os dk _ x y => by
  have h := reachCmp_any x y (sortWorldK (fun h : Hdr => h.cs.toList) 11 w blk off m dk os)
  show Calls Try.prog 29 #[.agg x.cs.toList.toArray, .agg y.cs.toList.toArray] _ _
  rw [Array.toArray_toList, Array.toArray_toList]
  refine h.mono ?_
  rintro e w' ⟨he, n, rfl⟩
  exact ⟨he, n, _, by rw [alloc_eq_grow, alloc_eq_grow, grow_grow]; rfl⟩
end Go.Proofs.Ytddeelepaiklgaa
