/- header.Check. -/
import Derived.Test.YtddeelepaiklgaaMJ1
import Derived.Deep.Upon
import Derived.Maps.AppendAt
namespace Go.Proofs.Ytddeelepaiklgaa
open Go.RowKit Go.Maps
set_option linter.unusedSimpArgs false

def kindB (k p fa ta sp dp : Int) : Bool :=
  if k = 33024 then false else if k < 1536 then false else if k ≠ 2048 ∧ p ≠ 0 then false else if ¬ (k = 2048 ∨ k = 2054) ∧ ¬ (fa = 0 ∧ ta = 0) then false
  else if ¬ (k = 2048 ∧ (p = 6 ∨ p = 17)) ∧ ¬ (sp = 0 ∧ dp = 0) then false else true
def fitsL (x : Hdr) : List Nat → Bool
  | [] => true
  | i :: is => fitsB i (x.f i) && fitsL x is
def idx11 : List Nat := [0, 1, 2, 3, 4, 5, 6, 7, 8, 9, 10]
def headE (x : Hdr) : Int := if fitsL x idx11 && kindB (x.f 2) (x.f 6) (x.f 4) (x.f 5) (x.f 7) (x.f 8) then 0 else 10

set_option maxHeartbeats 1000000 in
theorem headFits_any (f n : Int) (w : World) (hf : -128 ≤ f ∧ f ≤ 127) (_hn : 0 ≤ n ∧ n ≤ 18446744073709551615) :
   Calls Try.prog 40 #[.int .i8 f, .int .u64 n] w fun e w' => e = .returned (.bool (fitsB f n)) ∧ Ext w w' := by
  have HW := Lib.hid (fun w => width_any f hf w)
  obtain ⟨k, hk, hk2⟩ := widthI_le f
  unfold fitsB
  rw [hk] at HW
  rw [hk, Int.toNat_natCast]
  clear hk
  go_enter Try.func40, Try.ntmps40
  go_wp2_with fail
  refine (HW.out _).mono ?_
  rintro e w1 ⟨rfl, hx⟩
  by_cases hz : (k : Int) = 0
  · have h1 : ((k : Int) == 0) = true := by simpa using hz
    have HF : Hid (fitsK k n = false) := by simp only [Hid, fitsK, h1, if_true]
    have hz2 : ¬ (0 : Int) < k := by omega
    go_wp2_with fail
    go_ret
    exact ⟨by rw [HF.out]; rfl, hx⟩
  · have h1 : ((k : Int) == 0) = false := by simpa using hz
    have hz2 : (0 : Int) < k := by omega
    go_wp2_with fail
    all_goals (go_ret; refine ⟨?_, hx⟩; simp_all [fitsK])

theorem or_zero {a b : Nat} : a ||| b = 0 ↔ a = 0 ∧ b = 0 := by
  constructor
  · intro h
    exact ⟨Nat.le_zero.1 (h ▸ Nat.left_le_or), Nat.le_zero.1 (h ▸ Nat.right_le_or)⟩
  · rintro ⟨rfl, rfl⟩; rfl
theorem u64_or_zero {a b : Int} (ha : 0 ≤ a ∧ a ≤ 18446744073709551615) (hb : 0 ≤ b ∧ b ≤ 18446744073709551615) : ∃ o : Int, bits .or .u64 a b = o ∧ (o = 0 ↔ a = 0 ∧ b = 0) := by
  refine ⟨_, u64_or a b ha.1 (by omega) hb.1 (by omega), ?_⟩
  have := or_zero (a := a.toNat) (b := b.toNat)
  omega

set_option maxRecDepth 100000 in
theorem indexH (x : Hdr) (j : Nat) (hj : j < 11) (w : World) : (Instr.index 24 (.agg x.cs) (.int .i64 j)).run Try.prog w = .ok (.int .u64 (x.f j)) w := by
  rw [Hdr.cs_eq]
  match j, hj with
  | 0, _ => rfl
  | 1, _ => rfl
  | 2, _ => rfl
  | 3, _ => rfl
  | 4, _ => rfl
  | 5, _ => rfl
  | 6, _ => rfl
  | 7, _ => rfl
  | 8, _ => rfl
  | 9, _ => rfl
  | 10, _ => rfl

set_option maxHeartbeats 4000000 in
set_option maxRecDepth 100000 in
theorem head_any (x : Hdr) (w : World) :
    Calls Try.prog 20 #[.agg x.cs] w fun e w' => e = .returned (.int .i64 (headE x)) ∧ Ext w w' := by
  have HFI := Lib.hid (fun (i : Nat) W (hi : i < 11) => headFits_any i (x.f i) W (by omega) (x.f_bd i))
  obtain ⟨wA, hA⟩ : ∃ W : World, w.alloc (.cells x.cs 24) = W := ⟨_, rfl⟩
  have xA : Ext w wA := hA ▸ Ext.alloc _ _
  have rA : wA.rangeAt w.heap.size 0 x.cs.toList := by rw [← hA]; exact rangeAt_new w x.cs 24
  have HR := Lib.hid (fun W (hW : Ext wA W) => World.rangeAt.later hW.later rA)
  have HX := Lib.hid xA
  have HEQ := Lib.hid hA
  have HR0 := Lib.hid rA
  clear hA xA rA
  go_enter Try.func20, Try.ntmps20
  go_upto_region 1 with fail
  rw [HEQ.out]
  clear HEQ
  go_wp2_with (first | (refine wpList_load_H rfl _ rfl _ _ rfl x HR0.out ?_))
  go_loopw [8] (fun i wr => ∃ j : Nat, j ≤ 11 ∧ i = .int .i64 j ∧ Hid (fitsL x (idx11.drop j) = fitsL x idx11) ∧ Hid (Ext wA wr)) (fun i _ => 11 - (intOf i).toNat)
  case atStart => exact ⟨0, by omega, rfl, rfl, Ext.refl _⟩
  case round =>
    obtain ⟨wn, rfl⟩ : ∃ wn : World, wn = wr := ⟨_, rfl⟩
    obtain ⟨j, hj, rfl, hT, hx⟩ := hrel
    by_cases hlt : j < 11
    · have hT2 : (fitsB j (x.f j) && fitsL x (idx11.drop (j + 1))) = fitsL x idx11 := by
        rw [← hT.out]
        have : j = 0 ∨ j = 1 ∨ j = 2 ∨ j = 3 ∨ j = 4 ∨ j = 5 ∨ j = 6 ∨ j = 7 ∨ j = 8 ∨ j = 9 ∨ j = 10 := by omega
        rcases this with rfl | rfl | rfl | rfl | rfl | rfl | rfl | rfl | rfl | rfl | rfl <;> rfl
      have hw8 : IntKind.i8.wrap (j : Int) = j := by
        have : j = 0 ∨ j = 1 ∨ j = 2 ∨ j = 3 ∨ j = 4 ∨ j = 5 ∨ j = 6 ∨ j = 7 ∨ j = 8 ∨ j = 9 ∨ j = 10 := by omega
        rcases this with rfl | rfl | rfl | rfl | rfl | rfl | rfl | rfl | rfl | rfl | rfl <;> rfl
      have hix := indexH x j hlt wn
      have HFj := Lib.hid (HFI.out j wn hlt)
      have HT2 := Lib.hid hT2
      clear hT hT2
      go_wp2_with fail
      refine HFj.out.mono ?_
      rintro e w1 ⟨rfl, hx1⟩
      have HX1 := Lib.hid (hx.out.trans hx1)
      clear hix hw8
      cases hb : fitsB j (x.f j) with
      | true =>
        have HT3 := Lib.hid (show fitsL x (idx11.drop (j + 1)) = fitsL x idx11 from by rw [← HT2.out, hb]; rfl)
        clear hb
        go_wp2_with fail
        go_roundw
        case rel => exact ⟨j + 1, by omega, by go_num, HT3.out, HX1.out⟩
        case measure => simp [intOf]; omega
      | false =>
        have HF := Lib.hid (show headE x = 10 from by unfold headE; rw [← HT2.out, hb]; rfl)
        clear hb
        go_wp2_with fail
        go_ret
        exact ⟨by rw [HF.out]; rfl, HX.out.trans HX1.out⟩
    · have HT := Lib.hid (show fitsL x idx11 = true from by
        rw [← hT.out, List.drop_of_length_le (by simp [idx11]; omega), fitsL])
      have HF := Lib.hid (show headE x = if kindB (x.f 2) (x.f 6) (x.f 4) (x.f 5) (x.f 7) (x.f 8) then 0 else 10 from by unfold headE; rw [HT.out, Bool.true_and])
      have hr := HR.out _ hx.out
      have c2 := cellAt hr 2 (by omega)
      have c4 := cellAt hr 4 (by omega)
      have c5 := cellAt hr 5 (by omega)
      have c6 := cellAt hr 6 (by omega)
      have c7 := cellAt hr 7 (by omega)
      have c8 := cellAt hr 8 (by omega)
      simp only [Nat.zero_add] at c2 c4 c5 c6 c7 c8
      obtain ⟨o1, ho1, ho1z⟩ := u64_or_zero (x.f_bd 4) (x.f_bd 5)
      obtain ⟨o2, ho2, ho2z⟩ := u64_or_zero (x.f_bd 7) (x.f_bd 8)
      have hkb := x.f_bd 2
      have hpb := x.f_bd 6
      generalize x.f 2 = k at *
      generalize x.f 4 = f4 at *
      generalize x.f 5 = f5 at *
      generalize x.f 6 = p at *
      generalize x.f 7 = f7 at *
      generalize x.f 8 = f8 at *
      have HZ1 := Lib.hid ho1z
      have HZ2 := Lib.hid ho2z
      clear hT hr ho1z ho2z
      go_wp2_with fail
      all_goals (try simp only [beq_eq_false_iff_ne, ne_eq, beq_iff_eq, bne_iff_ne, bne_eq_false_iff_eq, Bool.not_eq_true', Bool.not_eq_false'] at *)
      all_goals (have hz1 := HZ1.out; have hz2 := HZ2.out)
      all_goals first
        | (exfalso; omega)
        | (have hv : (if kindB k p f4 f5 f7 f8 then 0 else 10 : Int) = 0 := by
            have : kindB k p f4 f5 f7 f8 = true := by unfold kindB; (repeat' split) <;> first | rfl | (exfalso; omega)
            rw [this]; rfl
           go_ret; exact ⟨by rw [HF.out, hv]; rfl, HX.out.trans hx.out⟩)
        | (have hv : (if kindB k p f4 f5 f7 f8 then 0 else 10 : Int) = 10 := by
            have : kindB k p f4 f5 f7 f8 = false := by unfold kindB; (repeat' split) <;> first | rfl | (exfalso; omega)
            rw [this]; rfl
           go_ret; exact ⟨by rw [HF.out, hv]; rfl, HX.out.trans hx.out⟩)
end Go.Proofs.Ytddeelepaiklgaa
/- The order that judge.Reach sorts by. -/
namespace Go.Proofs.Ytddeelepaiklgaa
open Go.RowKit Go.Maps Go.Sort
set_option linter.unusedSimpArgs false

set_option maxHeartbeats 1000000 in
theorem isNaN_any (a : Int) (w : World) : Calls Try.prog 72 #[.int .u64 a] w fun e w' => e = .returned (.bool false) ∧ w = w' := by
  go_enter Try.func72, Try.ntmps72
  go_wp2_with fail
  go_ret
  exact ⟨rfl, rfl⟩
def cmp1 (a b : Int) : Int := if a < b then -1 else if b < a then 1 else 0
set_option maxHeartbeats 1000000 in
theorem cmp_any (a b : Int) (w : World) : Calls Try.prog 48 #[.int .u64 a, .int .u64 b] w fun e w' => e = .returned (.int .i64 (cmp1 a b)) ∧ w = w' := by
  go_enter Try.func48, Try.ntmps48
  go_wp2_with fail
  refine (isNaN_any a w).mono ?_
  rintro e w1 ⟨rfl, rfl⟩
  go_wp2_with fail
  refine (isNaN_any b w).mono ?_
  rintro e w1 ⟨rfl, rfl⟩
  rcases Int.lt_trichotomy a b with h | h | h
  · have HF := Lib.hid (show cmp1 a b = -1 from by unfold cmp1; rw [if_pos h])
    go_wp2_with fail
    go_ret
    exact ⟨by rw [HF.out]; rfl, rfl⟩
  · have HF := Lib.hid (show cmp1 a b = 0 from by unfold cmp1; rw [if_neg (by omega), if_neg (by omega)])
    have h1 : ¬ a < b := by omega
    have h2 : ¬ b < a := by omega
    clear h
    go_wp2_with fail
    go_ret
    exact ⟨by rw [HF.out]; rfl, rfl⟩
  · have HF := Lib.hid (show cmp1 a b = 1 from by unfold cmp1; rw [if_neg (by omega), if_pos h])
    have h1 : ¬ a < b := by omega
    go_wp2_with fail
    go_ret
    exact ⟨by rw [HF.out]; rfl, rfl⟩

set_option maxHeartbeats 2000000 in
set_option maxRecDepth 100000 in
theorem compareSl_any (x y : Hdr) (a b : Nat) (w : World) (ha : w.rangeAt a 0 x.cs.toList) (hb : w.rangeAt b 0 y.cs.toList) :
    Calls Try.prog 30 #[.slice (some ⟨a, 0, none⟩) 11 11, .slice (some ⟨b, 0, none⟩) 11 11] w fun e w' => e = .returned (.int .i64 (cmpH x y)) ∧ w = w' := by
  have HA := Lib.hid ha
  have HB := Lib.hid hb
  clear ha hb
  go_enter Try.func30, Try.ntmps30
  go_wp2_with fail
  go_loopw [11] (fun i wr => ∃ j : Nat, j ≤ 11 ∧ i = .int .i64 j ∧ Hid (∀ m, m < j → x.f m = y.f m) ∧ Hid (w = wr)) (fun i _ => 11 - (intOf i).toNat)
  case atStart => exact ⟨0, by omega, rfl, fun m hm => by omega, rfl⟩
  case round =>
    obtain ⟨j, hj, rfl, hd, hw⟩ := hrel
    have hw' := hw.out
    subst hw'
    clear hw
    by_cases hlt : j < 11
    · have c1 := cellAt HA.out j hlt
      have c2 := cellAt HB.out j hlt
      rw [Nat.zero_add] at c1 c2
      have HC := Lib.hid (cmp_any (x.f j) (y.f j) w)
      rcases Int.lt_trichotomy (x.f j) (y.f j) with h | h | h
      · have HF := Lib.hid (cmpH_lt j hlt hd.out h)
        have HV := Lib.hid (show cmp1 (x.f j) (y.f j) = -1 from by unfold cmp1; rw [if_pos h])
        rw [HV.out] at HC
        clear h hd HV
        go_wp2_with fail
        refine HC.out.mono ?_
        rintro e w1 ⟨rfl, rfl⟩
        go_wp2_with fail
        go_ret
        exact ⟨by rw [HF.out]; rfl, rfl⟩
      · have HV := Lib.hid (show cmp1 (x.f j) (y.f j) = 0 from by unfold cmp1; rw [if_neg (by omega), if_neg (by omega)])
        have HE := Lib.hid h
        rw [HV.out] at HC
        clear h HV
        go_wp2_with fail
        refine HC.out.mono ?_
        rintro e w1 ⟨rfl, rfl⟩
        go_wp2_with fail
        go_roundw
        case rel => exact ⟨j + 1, by omega, by go_num, fun m hm => by
          rcases Nat.lt_succ_iff_lt_or_eq.1 hm with h1 | rfl
          · exact hd.out m h1
          · exact HE.out, True.intro⟩
        case measure => simp [intOf]; omega
      · have HF := Lib.hid (cmpH_gt j hlt hd.out h)
        have HV := Lib.hid (show cmp1 (x.f j) (y.f j) = 1 from by unfold cmp1; rw [if_neg (by omega), if_pos h])
        rw [HV.out] at HC
        clear h hd HV
        go_wp2_with fail
        refine HC.out.mono ?_
        rintro e w1 ⟨rfl, rfl⟩
        go_wp2_with fail
        go_ret
        exact ⟨by rw [HF.out]; rfl, rfl⟩
    · have HF := Lib.hid (cmpH_same (a := x) (b := y) (fun i hi => hd.out i (by omega)))
      clear hd
      go_wp2_with fail
      go_ret
      exact ⟨by rw [HF.out]; rfl, rfl⟩

set_option maxHeartbeats 2000000 in
set_option maxRecDepth 100000 in
theorem reachCmp_any (a b : Hdr) (w : World) : Calls Try.prog 29 #[.agg a.cs, .agg b.cs] w fun e w' =>
    e = .returned (.int .i64 (cmpH a b)) ∧ ∃ n, w' = ((w.alloc (.cells a.cs 24)).alloc (.cells b.cs 24)).drewN n := by
  have ra := World.rangeAt.later (Ext.alloc (w.alloc (.cells a.cs 24)) (.cells b.cs 24)).later (rangeAt_new w a.cs 24)
  have rb := rangeAt_new (w.alloc (.cells a.cs 24)) b.cs 24
  rw [World.size_alloc] at rb
  have HC := Lib.hid (compareSl_any a b w.heap.size (w.heap.size + 1) _ (World.rangeAt.later (Ext.drewN _ 1).later ra) (World.rangeAt.later (Ext.drewN _ 1).later rb))
  clear ra rb
  go_enter Try.func29, Try.ntmps29
  go_upto_region 1 with fail
  go_region_with (go_at_call 30; refine HC.out.mono ?_; rintro e w4 ⟨rfl, rfl⟩)
  all_goals (go_wp2_with fail; go_ret; exact ⟨rfl, 1, rfl⟩)

theorem cmpLaysR (blk off size : Nat) (w : World) : CmpLays Try.prog 29 #[] (fun h : Hdr => h.cs.toList) 11 cmpH blk off size w := fun m os dk _ x y => by
  have h := reachCmp_any x y (sortWorldK (fun h : Hdr => h.cs.toList) 11 w blk off m dk os)
  show Calls Try.prog 29 #[.agg x.cs.toList.toArray, .agg y.cs.toList.toArray] _ _
  rw [Array.toArray_toList, Array.toArray_toList]
  refine h.mono ?_
  rintro e w' ⟨he, n, rfl⟩
  exact ⟨he, n, _, by rw [alloc_eq_grow, alloc_eq_grow, grow_grow]; rfl⟩
end Go.Proofs.Ytddeelepaiklgaa
/- slices.CompactFunc of headers, by equality. -/
namespace Go.Proofs.Ytddeelepaiklgaa
open Go.RowKit Go.Maps Go.Sort
set_option linter.unusedSimpArgs false

/-- equal neighbours once -/
def dd : List Hdr → List Hdr
  | [] => []
  | [x] => [x]
  | x :: y :: r => if x = y then dd (y :: r) else x :: dd (y :: r)
theorem dd_cons (x y : Hdr) (r : List Hdr) : dd (x :: y :: r) = if x = y then dd (y :: r) else x :: dd (y :: r) := by rw [dd]
theorem dd_snoc (z : Hdr) : ∀ (l : List Hdr) (y : Hdr), dd ((l ++ [y]) ++ [z]) = if y = z then dd (l ++ [y]) else dd (l ++ [y]) ++ [z]
  | [], y => by
    show dd [y, z] = _
    rw [dd]
    split <;> simp_all [dd]
  | [x], y => by
    have ih := dd_snoc z [] y
    show dd (x :: y :: [z]) = if y = z then dd (x :: y :: []) else dd (x :: y :: []) ++ [z]
    rw [dd_cons x y [z], dd_cons x y []]
    have ih' : dd [y, z] = if y = z then dd [y] else dd [y] ++ [z] := ih
    by_cases hxy : x = y
    · rw [if_pos hxy, if_pos hxy]; exact ih'
    · rw [if_neg hxy, if_neg hxy, ih']
      split <;> rfl
  | x :: w :: r, y => by
    have ih := dd_snoc z (w :: r) y
    show dd (x :: w :: ((r ++ [y]) ++ [z])) = if y = z then dd (x :: w :: (r ++ [y])) else dd (x :: w :: (r ++ [y])) ++ [z]
    rw [dd_cons, dd_cons]
    have ih' : dd (w :: ((r ++ [y]) ++ [z])) = if y = z then dd (w :: (r ++ [y])) else dd (w :: (r ++ [y])) ++ [z] := ih
    by_cases hxw : x = w
    · rw [if_pos hxw, if_pos hxw]; exact ih'
    · rw [if_neg hxw, if_neg hxw, ih']
      split <;> rfl
theorem dd_take {l : List Hdr} {i : Nat} (h0 : 0 < i) (hi : i < l.length) : dd (l.take (i + 1)) = if l[i - 1] = l[i] then dd (l.take i) else dd (l.take i) ++ [l[i]] := by
  obtain ⟨k, rfl⟩ : ∃ k, i = k + 1 := ⟨i - 1, by omega⟩
  have e1 : l.take (k + 1) = l.take k ++ [l[k]] := List.take_succ_eq_append_getElem (by omega)
  have e2 : l.take (k + 1 + 1) = l.take (k + 1) ++ [l[k + 1]] := List.take_succ_eq_append_getElem hi
  rw [e2, e1, dd_snoc]
  rfl
theorem dd_rises {l : List Hdr} : ∀ (k : Nat), k ≤ l.length → (∀ m (h : m < l.length), 0 < m → m < k → l[m - 1] ≠ l[m]) → dd (l.take k) = l.take k
  | 0, _, _ => by simp [dd]
  | k + 1, hk, h => by
    have ih := dd_rises k (by omega) (fun m hm h0 hmk => h m hm h0 (by omega))
    rcases Nat.eq_zero_or_pos k with rfl | hkp
    · rw [List.take_succ_eq_append_getElem hk]; simp [dd]
    · rw [dd_take hkp hk, if_neg (h k hk hkp (by omega)), ih, List.take_succ_eq_append_getElem hk]

theorem run_clear_H (w : World) (b o n c : Nat) (ht : w.there b o (n * 11)) :
    ∃ vs : List Value, vs.length = n * 11 ∧ ∀ ty : TypeId, (Builtin.clear_ #[25] ty #[.slice (some ⟨b, o, none⟩) n c]).run Try.prog w = .ok (.tuple #[]) (w.setCells b o vs) := by
  have hz : ∀ w : World, (zeroValue 24).run Try.prog w = .ok (.agg (Array.replicate 11 (.int .u64 0))) w := fun w => by kernel_rfl
  rcases Nat.eq_zero_or_pos n with rfl | hn
  · exact ⟨[], by simp, fun ty => by simp [Builtin.clear_, run_underlying Try.underlying25]; rfl⟩
  refine ⟨(Builtin.zeroCells (Value.agg (Array.replicate 11 (.int .u64 0))).cells n).toList, by simp [Builtin.zeroCells, Value.cells], fun ty => ?_⟩
  have hl : (Builtin.zeroCells (Value.agg (Array.replicate 11 (.int .u64 0))).cells n).toList.length = n * 11 := by simp [Builtin.zeroCells, Value.cells]
  have h1 : ∀ v ∈ (Builtin.zeroCells (Value.agg (Array.replicate 11 (.int .u64 0))).cells n).toList, v.oneCell' = true := by
    intro v hv
    simp only [Builtin.zeroCells, Value.cells, Array.toList_map, List.mem_map] at hv
    obtain ⟨i, -, rfl⟩ := hv
    have : i % 11 < 11 := Nat.mod_lt _ (by omega)
    simp [getElem!_pos, this]
    rfl
  have hst := run_storeCells_cells (P := Try.prog) b o (Builtin.zeroCells (Value.agg (Array.replicate 11 (.int .u64 0))).cells n).toList 0 w (fun j hj => (ht j (by rw [← hl]; exact hj)).1) (fun j hj => (ht j (by rw [← hl]; exact hj)).2) h1
  simp only [Nat.add_zero] at hst
  obtain ⟨m, rfl⟩ : ∃ m, n = m + 1 := ⟨n - 1, by omega⟩
  simp [Builtin.clear_, run_underlying Try.underlying25, hz, hst]

/-- the equality that CompactFunc is handed -/
abbrev eqFun (p : Nat) : Value := .func (.func 47) #[] #[.pointer (some ⟨p, 0, none⟩)]
abbrev ordFun : Value := .func (.func 29) #[] #[]
theorem cmpH_eq {a b : Hdr} : (cmpH a b = 0) ↔ a = b := ⟨cmpH_zero, fun h => by rw [h]; exact cmpH_same (fun _ _ => rfl)⟩

set_option maxHeartbeats 1000000 in
set_option maxRecDepth 100000 in
theorem eqR_any (a b : Hdr) (p : Nat) (w : World) (hp : w.cell? ⟨p, 0, none⟩ = some ordFun) :
    Calls Try.prog 47 #[.agg a.cs, .agg b.cs, .pointer (some ⟨p, 0, none⟩)] w fun e w' => e = .returned (.bool (decide (a = b))) ∧ Ext w w' := by
  have eg : ∀ args w, (callFunc 29 args).run Try.prog w = .ok (.enter 29 args) w := enters_of Try.func29 (by kernel_rfl) rfl
  have ra := World.rangeAt.later (Ext.alloc (w.alloc (.cells a.cs 24)) (.cells b.cs 24)).later (rangeAt_new w a.cs 24)
  have rb := rangeAt_new (w.alloc (.cells a.cs 24)) b.cs 24
  rw [World.size_alloc] at rb
  have HRA := Lib.hid ra
  have HRB := Lib.hid rb
  have hp2 : ((w.alloc (.cells a.cs 24)).alloc (.cells b.cs 24)).cell? ⟨p, 0, none⟩ = some (.func (.func 29) #[] #[]) := ((Ext.alloc _ _).andAlloc _).later _ _ hp
  clear ra rb hp
  go_enter Try.func47, Try.ntmps47
  go_wp2_with (first | (refine wpList_load_H rfl _ rfl _ _ rfl a HRA.out ?_) | (refine wpList_load_H rfl _ rfl _ _ rfl b HRB.out ?_))
  refine (reachCmp_any a b _).mono ?_
  rintro e w1 ⟨rfl, n, rfl⟩
  have HE := Lib.hid (show decide (a = b) = (cmpH a b == 0) from by
    rw [Bool.eq_iff_iff]; simp [cmpH_eq])
  clear hp2
  generalize cmpH a b = c at *
  go_wp2_with fail
  go_ret
  exact ⟨by rw [HE.out]; rfl, ((((Ext.alloc _ _).andAlloc _).andAlloc _).andAlloc _).andDrewN _⟩
end Go.Proofs.Ytddeelepaiklgaa
/- slices.CompactFunc of headers, walked. -/
namespace Go.Proofs.Ytddeelepaiklgaa
open Go.RowKit Go.Maps Go.Sort
set_option linter.unusedSimpArgs false

theorem there_keep {w w' : World} {g o n : Nat} (h : w.there g o n) (hx : Ext w w') : w'.there g o n := fun j hj => by
  obtain ⟨v, hv⟩ := Option.isSome_iff_exists.1 (h j hj).1
  refine ⟨by rw [hx.later _ _ hv]; rfl, ?_⟩
  rw [Below.frozen hx (World.block_lt_of_cell? w _ hv)]
  exact (h j hj).2
theorem keep_setCells {w : World} (g o : Nat) (vs : List Value) : Keep (· = g) w (w.setCells g o vs) :=
  ⟨World.os_setCells _ _ _ _, by
    have : ∀ (vs : List Value) (o : Nat) (w : World), (w.setCells g o vs).tape = w.tape := by
      intro vs
      induction vs with
      | nil => intros; rfl
      | cons v r ih => intro o w; exact (ih (o + 1) _).trans rfl
    exact this vs o w, World.output_setCells _ _ _ _, by simp, fun i hi hs => World.heap_setCells_other w g o vs hi hs⟩
theorem flatH_len (l : List Hdr) : (flatH l).length = l.length * 11 := by
  induction l with
  | nil => rfl
  | cons x xs ih =>
    have e : flatH (x :: xs) = x.cs.toList ++ flatH xs := by simp [flatH]
    rw [e, List.length_append, ih, Hdr.len_cs, List.length_cons]; omega
/-- a row with one header set anew -/
theorem range_set {w : World} {g : Nat} {M : List Hdr} (h : w.rangeAt g 0 (flatH M)) (k : Nat) (hk : k < M.length) (x : Hdr) (ht : w.there g 0 (M.length * 11)) :
    (w.setCells g (k * 11) x.cs.toList).rangeAt g 0 (flatH (M.set k x)) := by
  have hl := x.len_cs
  have h1 : (w.setCells g (k * 11) x.cs.toList).rangeAt g (k * 11) x.cs.toList := World.rangeAt_setCells_same w g (k * 11) _ (fun j hj => by
    rw [hl] at hj
    have := ht (k * 11 + j) (by omega)
    simpa using this)
  have hM : M = M.take k ++ M[k] :: M.drop (k + 1) := by rw [← List.drop_eq_getElem_cons hk, List.take_append_drop]
  have hset : M.set k x = M.take k ++ x :: M.drop (k + 1) := by rw [List.set_eq_take_append_cons_drop, if_pos hk]
  have e0 : flatH M = flatH (M.take k) ++ ((M[k]).cs.toList ++ flatH (M.drop (k + 1))) := by
    refine (congrArg flatH hM).trans ?_
    simp only [flatH, List.flatMap_append, List.flatMap_cons]
  have e1 : flatH (M.set k x) = flatH (M.take k) ++ (x.cs.toList ++ flatH (M.drop (k + 1))) := by rw [hset]; simp [flatH]
  have l0 : (flatH (M.take k)).length = k * 11 := by rw [flatH_len, List.length_take]; congr 1; omega
  rw [e0] at h
  rw [e1]
  have ha : w.rangeAt g 0 (flatH (M.take k)) := fun j v hv => h j v (by rw [List.getElem?_append_left (List.getElem?_eq_some_iff.1 hv).1]; exact hv)
  have hb : w.rangeAt g (k * 11 + 11) (flatH (M.drop (k + 1))) := fun j v hv => by
    have := h (k * 11 + (11 + j)) v (by
      rw [List.getElem?_append_right (by omega), l0, show k * 11 + (11 + j) - k * 11 = 11 + j from by omega, List.getElem?_append_right (by rw [Hdr.len_cs]; omega), Hdr.len_cs, show 11 + j - 11 = j from by omega]
      exact hv)
    rwa [Nat.zero_add, ← Nat.add_assoc] at this
  have ha2 := World.rangeAt_setCells_apart ha g (k * 11) x.cs.toList (.inr (.inl (by rw [l0]; omega)))
  have hb2 := World.rangeAt_setCells_apart hb g (k * 11) x.cs.toList (.inr (.inr (by rw [hl]; omega)))
  intro j v hv
  rcases Nat.lt_or_ge j (k * 11) with hj | hj
  · refine ha2 j v ?_
    rwa [List.getElem?_append_left (by rw [l0]; exact hj)] at hv
  · rw [List.getElem?_append_right (by rw [l0]; exact hj), l0] at hv
    rcases Nat.lt_or_ge (j - k * 11) 11 with hj2 | hj2
    · rw [List.getElem?_append_left (by rw [hl]; exact hj2)] at hv
      have := h1 (j - k * 11) v hv
      rwa [show k * 11 + (j - k * 11) = 0 + j from by omega] at this
    · rw [List.getElem?_append_right (by rw [hl]; exact hj2), hl] at hv
      have := hb2 (j - k * 11 - 11) v hv
      rwa [show k * 11 + 11 + (j - k * 11 - 11) = 0 + j from by omega] at this
theorem range_head {w : World} {g : Nat} {M D : List Hdr} (h : w.rangeAt g 0 (flatH M)) (hD : M.take D.length = D) : w.rangeAt g 0 (flatH D) := fun j v hv => h j v (by
  have e : flatH M = flatH D ++ flatH (M.drop D.length) := by
    conv => lhs; rw [← List.take_append_drop D.length M, hD]
    simp [flatH]
  rw [e, List.getElem?_append_left (List.getElem?_eq_some_iff.1 hv).1]; exact hv)

set_option maxHeartbeats 4000000 in
set_option maxRecDepth 100000 in
theorem compact_any (l : List Hdr) (g len cap p : Nat) (w : World) (hlen : len = l.length) (hcap : len ≤ cap) (hmax : cap ≤ 9223372036854775807) (hr : w.rangeAt g 0 (flatH l)) (ht : w.there g 0 (len * 11)) (hp : w.cell? ⟨p, 0, none⟩ = some ordFun) (hpg : p ≠ g) :
    Calls Try.prog 46 #[.slice (some ⟨g, 0, none⟩) len cap, eqFun p] w fun e w' => e = .returned (.slice (some ⟨g, 0, none⟩) (dd l).length cap) ∧ w'.rangeAt g 0 (flatH (dd l)) ∧ Keep (· = g) w w' := by
  have HL := Lib.hid hlen
  have HR := Lib.hid (fun W (hW : Ext w W) => World.rangeAt.later hW.later hr)
  have HTH := Lib.hid (fun W (hW : Ext w W) => there_keep ht hW)
  have HPC := Lib.hid (fun W (hW : Keep (· = g) w W) => hW.cell hp (show ¬ p = g from hpg))
  have eg : ∀ args w, (callFunc 47 args).run Try.prog w = .ok (.enter 47 args) w := enters_of Try.func47 (by kernel_rfl) rfl
  have HHU := Lib.hid (show Try.prog.underlying 24 = some (.array 11 22) from Try.underlying24)
  have HHI := Lib.hid (fun (x : Hdr) => show (Try.prog.info? 24).map (·.size) = some x.cs.toList.length from by rw [x.len_cs]; kernel_rfl)
  clear hlen hr ht hp
  by_cases h2 : len < 2
  · have HF := Lib.hid (show dd l = l from by
      have hll : l.length < 2 := by rw [← HL.out]; exact h2
      match l, hll with
      | [], _ => rfl
      | [x], _ => rfl)
    go_enter Try.func46, Try.ntmps46
    go_wp2_with fail
    go_ret
    exact ⟨by rw [HF.out, ← HL.out]; rfl, by rw [HF.out]; exact HR.out _ (Ext.refl _), Keep.refl _ _⟩
  go_enter Try.func46, Try.ntmps46
  go_wp2_with fail
  go_loopw [5] (fun i wr => ∃ k : Nat, k + 1 ≤ len ∧ i = .int .i64 (k + 1 : Nat) ∧ Hid (∀ m (h : m < l.length), 0 < m → m < k + 1 → l[m - 1] ≠ l[m]) ∧ Hid (Ext w wr)) (fun i _ => len - (intOf i).toNat)
  case atStart => exact ⟨0, by omega, rfl, fun m h h0 h1 => by omega, Ext.refl _⟩
  case round =>
    obtain ⟨wo, rfl⟩ : ∃ wo : World, wo = wr := ⟨_, rfl⟩
    obtain ⟨k, hk, rfl, hd, hx⟩ := hrel
    by_cases hlt : k + 1 < len
    · have hkl : k + 1 < l.length := by rw [← HL.out]; exact hlt
      have hrx := fun W (hW : Ext wo W) => rangeAt_get Hdr.len_cs (HR.out W (hx.out.trans hW)) (k + 1) hkl
      have hry := fun W (hW : Ext wo W) => rangeAt_get Hdr.len_cs (HR.out W (hx.out.trans hW)) k (by omega)
      simp only [Nat.zero_add] at hrx hry
      have HXK := Lib.hid (show ∃ x, x = l[k + 1] from ⟨_, rfl⟩)
      obtain ⟨x, hxe⟩ := HXK.out
      obtain ⟨y, hye⟩ : ∃ y, y = l[k]'(by omega) := ⟨_, rfl⟩
      rw [← hxe] at hrx
      rw [← hye] at hry
      have HXE := Lib.hid hxe
      have HYE := Lib.hid hye
      have HSS := Lib.hid (fun W (hW : Ext wo W) => (show (fun W => W.rangeAt g ((k + 1) * 11) x.cs.toList ∧ W.rangeAt g (k * 11) y.cs.toList) W from ⟨hrx W hW, hry W hW⟩))
      have HEQ := Lib.hid (fun W (hW : Ext wo W) => eqR_any x y p W (HPC.out W ((hx.out.trans hW).keep _)))
      have hxd := Ext.drew wo
      have huH := HHU.out
      have hiH := HHI.out
      have hadd : ((k : Int) + 1 - 1) = k := by omega
      clear hrx hry hxe hye HXK
      go_upto_region 6 with fail
      refine wp_region_noPanic ?_
      refine wp_region_held_drew (S := (fun W => W.rangeAt g ((k + 1) * 11) x.cs.toList ∧ W.rangeAt g (k * 11) y.cs.toList)) (by kernel_rfl) (HSS.out _ hxd) (fun hHeld => ?_)
      refine wpAnyH_take (i := 0) (v := eqFun p) rfl (by kernel_rfl) (by kernel_rfl) (by kernel_rfl) (fun _ _ _ h => h) (Or.inl ⟨by rfl, by (intro w hSw; (try dsimp only at hSw); go_simp; try (first | omega | (rw [IntKind.wrap_i64]; omega)))⟩) (by assumption) ?_
      try simp only [List.getElem_toArray, List.getElem_cons_zero, List.getElem_cons_succ, Act.put, List.setIfInBounds_toArray, List.set_cons_zero, List.set_cons_succ, Array.toArray_toList]
      refine wpAnyH_take (i := 1) (v := .slice (some ⟨g, 0, none⟩) len cap) rfl (by kernel_rfl) (by kernel_rfl) (by kernel_rfl) (fun _ _ _ h => h) (Or.inl ⟨by rfl, by (intro w hSw; (try dsimp only at hSw); go_simp; try (first | omega | (rw [IntKind.wrap_i64]; omega)))⟩) (by assumption) ?_
      try simp only [List.getElem_toArray, List.getElem_cons_zero, List.getElem_cons_succ, Act.put, List.setIfInBounds_toArray, List.set_cons_zero, List.set_cons_succ, Array.toArray_toList]
      refine wpAnyH_take (i := 2) (v := .int .i64 (k + 1 : Nat)) rfl (by kernel_rfl) (by kernel_rfl) (by kernel_rfl) (fun _ _ _ h => h) (Or.inl ⟨by rfl, by (intro w hSw; (try dsimp only at hSw); go_simp; try (first | omega | (rw [IntKind.wrap_i64]; omega)))⟩) (by assumption) ?_
      try simp only [List.getElem_toArray, List.getElem_cons_zero, List.getElem_cons_succ, Act.put, List.setIfInBounds_toArray, List.set_cons_zero, List.set_cons_succ, Array.toArray_toList]
      refine wpAnyH_take (i := 3) (v := .pointer (some ⟨g, (k + 1) * 11, none⟩)) rfl (by kernel_rfl) (by kernel_rfl) (by kernel_rfl) (fun _ _ _ h => h) (Or.inl ⟨by rfl, by (intro w hSw; (try dsimp only at hSw); go_simp; try (first | omega | (rw [IntKind.wrap_i64]; omega)))⟩) (by assumption) ?_
      try simp only [List.getElem_toArray, List.getElem_cons_zero, List.getElem_cons_succ, Act.put, List.setIfInBounds_toArray, List.set_cons_zero, List.set_cons_succ, Array.toArray_toList]
      refine wpAnyH_take (i := 4) (v := .agg x.cs.toList.toArray) rfl (by kernel_rfl) (by kernel_rfl) (by kernel_rfl) (fun _ _ _ h => h) ?_ (by assumption) ?_
      · try simp only [List.getElem_toArray, List.getElem_cons_zero, List.getElem_cons_succ]
        exact yieldsIf_load_mid (by rfl) _ _ rfl g ((k + 1) * 11) rfl x.cs.toList _ (fun w hSw => hSw.1) huH rfl (hiH x)
      try simp only [List.getElem_toArray, List.getElem_cons_zero, List.getElem_cons_succ, Act.put, List.setIfInBounds_toArray, List.set_cons_zero, List.set_cons_succ, Array.toArray_toList]
      refine wpAnyH_take (i := 5) (v := .slice (some ⟨g, 0, none⟩) len cap) rfl (by kernel_rfl) (by kernel_rfl) (by kernel_rfl) (fun _ _ _ h => h) (Or.inl ⟨by rfl, by (intro w hSw; (try dsimp only at hSw); go_simp; try (first | omega | (rw [IntKind.wrap_i64]; omega)))⟩) (by assumption) ?_
      try simp only [List.getElem_toArray, List.getElem_cons_zero, List.getElem_cons_succ, Act.put, List.setIfInBounds_toArray, List.set_cons_zero, List.set_cons_succ, Array.toArray_toList]
      refine wpAnyH_take (i := 6) (v := .int .i64 (k + 1 : Nat)) rfl (by kernel_rfl) (by kernel_rfl) (by kernel_rfl) (fun _ _ _ h => h) (Or.inl ⟨by rfl, by (intro w hSw; (try dsimp only at hSw); go_simp; try (first | omega | (rw [IntKind.wrap_i64]; omega)))⟩) (by assumption) ?_
      try simp only [List.getElem_toArray, List.getElem_cons_zero, List.getElem_cons_succ, Act.put, List.setIfInBounds_toArray, List.set_cons_zero, List.set_cons_succ, Array.toArray_toList]
      refine wpAnyH_take (i := 7) (v := .int .i64 k) rfl (by kernel_rfl) (by kernel_rfl) (by kernel_rfl) (fun _ _ _ h => h) (Or.inl ⟨by rfl, by (intro w hSw; (try dsimp only at hSw); go_simp; try (first | omega | (rw [IntKind.wrap_i64]; omega)))⟩) (by assumption) ?_
      try simp only [List.getElem_toArray, List.getElem_cons_zero, List.getElem_cons_succ, Act.put, List.setIfInBounds_toArray, List.set_cons_zero, List.set_cons_succ, Array.toArray_toList]
      refine wpAnyH_take (i := 8) (v := .pointer (some ⟨g, k * 11, none⟩)) rfl (by kernel_rfl) (by kernel_rfl) (by kernel_rfl) (fun _ _ _ h => h) (Or.inl ⟨by rfl, by (intro w hSw; (try dsimp only at hSw); go_simp; try (first | omega | (rw [IntKind.wrap_i64]; omega)))⟩) (by assumption) ?_
      try simp only [List.getElem_toArray, List.getElem_cons_zero, List.getElem_cons_succ, Act.put, List.setIfInBounds_toArray, List.set_cons_zero, List.set_cons_succ, Array.toArray_toList]
      refine wpAnyH_take (i := 9) (v := .agg y.cs.toList.toArray) rfl (by kernel_rfl) (by kernel_rfl) (by kernel_rfl) (fun _ _ _ h => h) ?_ (by assumption) ?_
      · try simp only [List.getElem_toArray, List.getElem_cons_zero, List.getElem_cons_succ]
        exact yieldsIf_load_mid (by rfl) _ _ rfl g (k * 11) rfl y.cs.toList _ (fun w hSw => hSw.2) huH rfl (hiH y)
      try simp only [List.getElem_toArray, List.getElem_cons_zero, List.getElem_cons_succ, Act.put, List.setIfInBounds_toArray, List.set_cons_zero, List.set_cons_succ, Array.toArray_toList]
      refine wpAnyH_ready (rs := [10]) (by kernel_rfl) (by simp) ?_
      refine AllReadyH.cons (i := 10) rfl (fun K hK => ?_) AllReadyH.nil
      go_simp
      refine (HEQ.out _ hxd).mono ?_
      rintro e w5 ⟨rfl, hx5⟩
      refine hK.out _ _ (HSS.out _ (hxd.trans hx5)) (fun hHeld2 => ?_)
      clear hK K hHeld
      try simp only [List.getElem_toArray, List.getElem_cons_zero, List.getElem_cons_succ, Act.put, List.setIfInBounds_toArray, List.set_cons_zero, List.set_cons_succ, Array.toArray_toList]
      refine wpAnyH_done (by kernel_rfl) ?_ _
      refine NoPanic.normal ?_
      have HX5 := Lib.hid (hx.out.trans (hxd.trans hx5))
      cases hxy : decide (x = y) with
      | false =>
        have HNE := Lib.hid (show l[k]'(by omega) ≠ l[k + 1] from by rw [← HXE.out, ← HYE.out]; exact fun e => by simp [e] at hxy)
        clear hxy
        go_wp2_with fail
        go_roundw
        case rel => exact ⟨k + 1, by omega, by go_num, fun m h h0 h1 => by
          rcases Nat.lt_succ_iff_lt_or_eq.1 h1 with h2 | rfl
          · exact hd.out m h h0 h2
          · exact HNE.out, HX5.out⟩
        case measure => simp [intOf]; omega
      | true =>
        have HK := Lib.hid (show dd (l.take (k + 1 + 1)) = l.take (k + 1) from by
          rw [dd_take (by omega) hkl, if_pos (by
            have := of_decide_eq_true hxy
            show l[k]'(by omega) = l[k + 1]
            rw [← HXE.out, ← HYE.out, this])]
          exact dd_rises (k + 1) (by omega) hd.out)
        have HR5 := Lib.hid (HR.out _ HX5.out)
        have HT5 := Lib.hid (HTH.out _ HX5.out)
        clear hxy hd HSS HEQ HXE HYE
        go_wp2_with fail
        go_loopw [5, 7] (fun i j wr => ∃ (kk k2 : Nat) (M : List Hdr), k + 1 + (k2 + 1) ≤ len ∧ kk ≤ k + 1 + k2 ∧ i = .int .i64 kk ∧ j = .int .i64 (k2 + 1 : Nat) ∧ Hid (kk = (dd (l.take (k + 1 + (k2 + 1)))).length) ∧ M.length = len ∧ Hid (M.take kk = dd (l.take (k + 1 + (k2 + 1)))) ∧ Hid (∀ i (h : i < l.length) (h' : i < M.length), k + 1 + k2 ≤ i → M[i] = l[i]) ∧ Hid (wr.rangeAt g 0 (flatH M)) ∧ Hid (wr.there g 0 (len * 11)) ∧ Hid (Keep (· = g) w wr)) (fun _ j _ => len - (intOf j).toNat)
        case atStart => exact ⟨k + 1, 0, l, by omega, by omega, rfl, rfl, by show k + 1 = (dd (l.take (k + 1 + 1))).length; rw [HK.out, List.length_take]; omega, HL.out.symm, HK.out.symm, fun i h h' hi => rfl, HR5.out, HT5.out, HX5.out.keep _⟩
        case round =>
          obtain ⟨wi, rfl⟩ : ∃ wi : World, wi = wr := ⟨_, rfl⟩
          obtain ⟨kk, k2, M, hk2, hkk, rfl, rfl, hkl2, hML, hMt, hMi, hMr, hMth, hMk⟩ := hrel
          by_cases hlt2 : k + 1 + (k2 + 1) < len
          · have hil : k + 1 + (k2 + 1) < l.length := by rw [← HL.out]; exact hlt2
            have hrx := fun W (hW : Ext wi W) => rangeAt_get Hdr.len_cs (World.rangeAt.later hW.later hMr.out) (k + 1 + (k2 + 1)) (by omega)
            have hry := fun W (hW : Ext wi W) => rangeAt_get Hdr.len_cs (World.rangeAt.later hW.later hMr.out) (k + 1 + k2) (by omega)
            simp only [Nat.zero_add] at hrx hry
            obtain ⟨x, hxe⟩ : ∃ x, x = M[k + 1 + (k2 + 1)]'(by omega) := ⟨_, rfl⟩
            obtain ⟨y, hye⟩ : ∃ y, y = M[k + 1 + k2]'(by omega) := ⟨_, rfl⟩
            rw [← hxe, show (k + 1 + (k2 + 1)) * 11 = (k + 1) * 11 + (k2 + 1) * 11 from by omega] at hrx
            rw [← hye, show (k + 1 + k2) * 11 = (k + 1) * 11 + k2 * 11 from by omega] at hry
            have HXE := Lib.hid (show x = l[k + 1 + (k2 + 1)] from by rw [hxe]; exact hMi.out _ hil (by omega) (by omega))
            have HYE := Lib.hid (show y = l[k + 1 + k2]'(by omega) from by rw [hye]; exact hMi.out _ (by omega) (by omega) (by omega))
            have HSS := Lib.hid (fun W (hW : Ext wi W) => (show (fun W => W.rangeAt g ((k + 1) * 11 + (k2 + 1) * 11) x.cs.toList ∧ W.rangeAt g ((k + 1) * 11 + k2 * 11) y.cs.toList) W from ⟨hrx W hW, hry W hW⟩))
            have HEQ := Lib.hid (fun W (hW : Ext wi W) => eqR_any x y p W (HPC.out W (hMk.out.trans (hW.keep _))))
            have hxd := Ext.drew wi
            have huH := HHU.out
            have hiH := HHI.out
            have hadd : ((k2 : Int) + 1 - 1) = k2 := by omega
            clear hrx hry hxe hye
            go_upto_region 11 with fail
            refine wp_region_noPanic ?_
            refine wp_region_held_drew (S := (fun W => W.rangeAt g ((k + 1) * 11 + (k2 + 1) * 11) x.cs.toList ∧ W.rangeAt g ((k + 1) * 11 + k2 * 11) y.cs.toList)) (by kernel_rfl) (HSS.out _ hxd) (fun hHeld => ?_)
            refine wpAnyH_take (i := 0) (v := eqFun p) rfl (by kernel_rfl) (by kernel_rfl) (by kernel_rfl) (fun _ _ _ h => h) (Or.inl ⟨by rfl, by (intro w hSw; (try dsimp only at hSw); go_simp; try (first | omega | (rw [IntKind.wrap_i64]; omega)))⟩) (by assumption) ?_
            try simp only [List.getElem_toArray, List.getElem_cons_zero, List.getElem_cons_succ, Act.put, List.setIfInBounds_toArray, List.set_cons_zero, List.set_cons_succ, Array.toArray_toList]
            refine wpAnyH_take (i := 1) (v := .slice (some ⟨g, (k + 1) * 11, none⟩) (len - (k + 1)) (cap - (k + 1))) rfl (by kernel_rfl) (by kernel_rfl) (by kernel_rfl) (fun _ _ _ h => h) (Or.inl ⟨by rfl, by (intro w hSw; (try dsimp only at hSw); go_simp; try (first | omega | (rw [IntKind.wrap_i64]; omega)))⟩) (by assumption) ?_
            try simp only [List.getElem_toArray, List.getElem_cons_zero, List.getElem_cons_succ, Act.put, List.setIfInBounds_toArray, List.set_cons_zero, List.set_cons_succ, Array.toArray_toList]
            refine wpAnyH_take (i := 2) (v := .int .i64 (k2 + 1 : Nat)) rfl (by kernel_rfl) (by kernel_rfl) (by kernel_rfl) (fun _ _ _ h => h) (Or.inl ⟨by rfl, by (intro w hSw; (try dsimp only at hSw); go_simp; try (first | omega | (rw [IntKind.wrap_i64]; omega)))⟩) (by assumption) ?_
            try simp only [List.getElem_toArray, List.getElem_cons_zero, List.getElem_cons_succ, Act.put, List.setIfInBounds_toArray, List.set_cons_zero, List.set_cons_succ, Array.toArray_toList]
            refine wpAnyH_take (i := 3) (v := .pointer (some ⟨g, (k + 1) * 11 + (k2 + 1) * 11, none⟩)) rfl (by kernel_rfl) (by kernel_rfl) (by kernel_rfl) (fun _ _ _ h => h) (Or.inl ⟨by rfl, by (intro w hSw; (try dsimp only at hSw); go_simp; try (first | omega | (rw [IntKind.wrap_i64]; omega)))⟩) (by assumption) ?_
            try simp only [List.getElem_toArray, List.getElem_cons_zero, List.getElem_cons_succ, Act.put, List.setIfInBounds_toArray, List.set_cons_zero, List.set_cons_succ, Array.toArray_toList]
            refine wpAnyH_take (i := 4) (v := .agg x.cs.toList.toArray) rfl (by kernel_rfl) (by kernel_rfl) (by kernel_rfl) (fun _ _ _ h => h) ?_ (by assumption) ?_
            · try simp only [List.getElem_toArray, List.getElem_cons_zero, List.getElem_cons_succ]
              exact yieldsIf_load_mid (by rfl) _ _ rfl g ((k + 1) * 11 + (k2 + 1) * 11) rfl x.cs.toList _ (fun w hSw => hSw.1) huH rfl (hiH x)
            try simp only [List.getElem_toArray, List.getElem_cons_zero, List.getElem_cons_succ, Act.put, List.setIfInBounds_toArray, List.set_cons_zero, List.set_cons_succ, Array.toArray_toList]
            refine wpAnyH_take (i := 5) (v := .slice (some ⟨g, (k + 1) * 11, none⟩) (len - (k + 1)) (cap - (k + 1))) rfl (by kernel_rfl) (by kernel_rfl) (by kernel_rfl) (fun _ _ _ h => h) (Or.inl ⟨by rfl, by (intro w hSw; (try dsimp only at hSw); go_simp; try (first | omega | (rw [IntKind.wrap_i64]; omega)))⟩) (by assumption) ?_
            try simp only [List.getElem_toArray, List.getElem_cons_zero, List.getElem_cons_succ, Act.put, List.setIfInBounds_toArray, List.set_cons_zero, List.set_cons_succ, Array.toArray_toList]
            refine wpAnyH_take (i := 6) (v := .int .i64 (k2 + 1 : Nat)) rfl (by kernel_rfl) (by kernel_rfl) (by kernel_rfl) (fun _ _ _ h => h) (Or.inl ⟨by rfl, by (intro w hSw; (try dsimp only at hSw); go_simp; try (first | omega | (rw [IntKind.wrap_i64]; omega)))⟩) (by assumption) ?_
            try simp only [List.getElem_toArray, List.getElem_cons_zero, List.getElem_cons_succ, Act.put, List.setIfInBounds_toArray, List.set_cons_zero, List.set_cons_succ, Array.toArray_toList]
            refine wpAnyH_take (i := 7) (v := .int .i64 k2) rfl (by kernel_rfl) (by kernel_rfl) (by kernel_rfl) (fun _ _ _ h => h) (Or.inl ⟨by rfl, by (intro w hSw; (try dsimp only at hSw); go_simp; try (first | omega | (rw [IntKind.wrap_i64]; omega)))⟩) (by assumption) ?_
            try simp only [List.getElem_toArray, List.getElem_cons_zero, List.getElem_cons_succ, Act.put, List.setIfInBounds_toArray, List.set_cons_zero, List.set_cons_succ, Array.toArray_toList]
            refine wpAnyH_take (i := 8) (v := .pointer (some ⟨g, (k + 1) * 11 + k2 * 11, none⟩)) rfl (by kernel_rfl) (by kernel_rfl) (by kernel_rfl) (fun _ _ _ h => h) (Or.inl ⟨by rfl, by (intro w hSw; (try dsimp only at hSw); go_simp; try (first | omega | (rw [IntKind.wrap_i64]; omega)))⟩) (by assumption) ?_
            try simp only [List.getElem_toArray, List.getElem_cons_zero, List.getElem_cons_succ, Act.put, List.setIfInBounds_toArray, List.set_cons_zero, List.set_cons_succ, Array.toArray_toList]
            refine wpAnyH_take (i := 9) (v := .agg y.cs.toList.toArray) rfl (by kernel_rfl) (by kernel_rfl) (by kernel_rfl) (fun _ _ _ h => h) ?_ (by assumption) ?_
            · try simp only [List.getElem_toArray, List.getElem_cons_zero, List.getElem_cons_succ]
              exact yieldsIf_load_mid (by rfl) _ _ rfl g ((k + 1) * 11 + k2 * 11) rfl y.cs.toList _ (fun w hSw => hSw.2) huH rfl (hiH y)
            try simp only [List.getElem_toArray, List.getElem_cons_zero, List.getElem_cons_succ, Act.put, List.setIfInBounds_toArray, List.set_cons_zero, List.set_cons_succ, Array.toArray_toList]
            refine wpAnyH_ready (rs := [10]) (by kernel_rfl) (by simp) ?_
            refine AllReadyH.cons (i := 10) rfl (fun K hK => ?_) AllReadyH.nil
            go_simp
            refine (HEQ.out _ hxd).mono ?_
            rintro e w5 ⟨rfl, hx5⟩
            refine hK.out _ _ (HSS.out _ (hxd.trans hx5)) (fun hHeld2 => ?_)
            clear hK K hHeld
            try simp only [List.getElem_toArray, List.getElem_cons_zero, List.getElem_cons_succ, Act.put, List.setIfInBounds_toArray, List.set_cons_zero, List.set_cons_succ, Array.toArray_toList]
            refine wpAnyH_take (i := 11) (v := .bool (!decide (x = y))) rfl (by kernel_rfl) (by kernel_rfl) (by kernel_rfl) (fun _ _ _ h => h) (Or.inl ⟨by rfl, by (intro w hSw; (try dsimp only at hSw); go_simp; try (first | omega | (rw [IntKind.wrap_i64]; omega)))⟩) (by assumption) ?_
            try simp only [List.getElem_toArray, List.getElem_cons_zero, List.getElem_cons_succ, Act.put, List.setIfInBounds_toArray, List.set_cons_zero, List.set_cons_succ, Array.toArray_toList]
            refine wpAnyH_done (by kernel_rfl) ?_ _
            refine NoPanic.normal ?_
            have hx5' : Ext wi w5 := hxd.trans hx5
            have HMR5 := Lib.hid (World.rangeAt.later hx5'.later hMr.out)
            have HMT5 := Lib.hid (there_keep hMth.out hx5')
            have HMK5 := Lib.hid (hMk.out.trans (hx5'.keep _))
            have HRX5 := Lib.hid (HSS.out w5 hx5').1
            cases hxy : decide (x = y) with
            | true =>
              have HDT := Lib.hid (show dd (l.take (k + 1 + (k2 + 1 + 1))) = dd (l.take (k + 1 + (k2 + 1))) from by
                have := dd_take (l := l) (i := k + 1 + (k2 + 1)) (by omega) hil
                rw [show k + 1 + (k2 + 1) + 1 = k + 1 + (k2 + 1 + 1) from by omega, if_pos (by
                  have := of_decide_eq_true hxy
                  show l[k + 1 + k2]'(by omega) = l[k + 1 + (k2 + 1)]
                  rw [← HXE.out, ← HYE.out, this])] at this
                exact this)
              clear hxy HSS HEQ HXE HYE hMr hMth hMk
              go_wp2_with fail
              go_roundw
              case rel => exact ⟨kk, k2 + 1, M, by omega, by omega, rfl, by go_num, by rw [HDT.out]; exact hkl2.out, hML, by rw [HDT.out]; exact hMt.out, fun i h h' hi => hMi.out i h h' (by omega), HMR5.out, HMT5.out, HMK5.out⟩
              case measure => simp [intOf]; omega
            | false =>
              have HDT := Lib.hid (show dd (l.take (k + 1 + (k2 + 1 + 1))) = dd (l.take (k + 1 + (k2 + 1))) ++ [x] from by
                have := dd_take (l := l) (i := k + 1 + (k2 + 1)) (by omega) hil
                rw [show k + 1 + (k2 + 1) + 1 = k + 1 + (k2 + 1 + 1) from by omega, if_neg (by
                  have := of_decide_eq_false hxy
                  show ¬ l[k + 1 + k2]'(by omega) = l[k + 1 + (k2 + 1)]
                  rw [← HXE.out, ← HYE.out]
                  exact fun e => this e.symm), ← HXE.out] at this
                exact this)
              have hkM : kk < M.length := by omega
              have HMR6 := Lib.hid (range_set HMR5.out kk hkM x (by rw [hML]; exact HMT5.out))
              have hthk : w5.there g (kk * 11) x.cs.size := fun j hj => by
                rw [x.size_cs] at hj
                have := HMT5.out (kk * 11 + j) (by omega)
                simpa using this
              have HTK := Lib.hid hthk
              have HMT6 := Lib.hid (World.there_setCells HMT5.out g (kk * 11) x.cs.toList)
              have HMK6 := Lib.hid (HMK5.out.trans (keep_setCells g (kk * 11) x.cs.toList))
              have HMt6 := Lib.hid (show (M.set kk x).take (kk + 1) = dd (l.take (k + 1 + (k2 + 1 + 1))) from by
                rw [HDT.out, ← hMt.out, List.take_succ_eq_append_getElem (by rw [List.length_set]; exact hkM), List.getElem_set_self, List.take_set_of_le (Nat.le_refl _)])
              have HMi6 := Lib.hid (show ∀ i (h : i < l.length) (h' : i < (M.set kk x).length), k + 1 + (k2 + 1) ≤ i → (M.set kk x)[i] = l[i] from fun i h h' hi => by
                rw [List.getElem_set_ne (by omega)]
                exact hMi.out i h (by rw [List.length_set] at h'; exact h') (by omega))
              have HHS := Lib.hid (show (Try.prog.info? 24).map (·.size) = some x.cs.size from by rw [x.size_cs]; kernel_rfl)
              clear hxy HSS HEQ HXE HYE hMr hMth hMk hthk hMt hMi
              go_wp2_with (first
                | (refine wpList_load_H rfl _ rfl g ((k + 1) * 11 + (k2 + 1) * 11) rfl x HRX5.out ?_)
                | (refine wpList_store_mid rfl 24 _ _ rfl g (kk * 11) x.cs rfl rfl HTK.out HHS.out (all_oneCell_toArray x.one) ?_))
              go_roundw
              case rel => exact ⟨kk + 1, k2 + 1, M.set kk x, by omega, by omega, by go_num, by go_num, by rw [HDT.out, List.length_append, ← hkl2.out]; rfl, by rw [List.length_set]; exact hML, HMt6.out, HMi6.out, HMR6.out, HMT6.out, HMK6.out⟩
              case measure => simp [intOf]; omega
          · have hfull : k + 1 + (k2 + 1) = l.length := by have := HL.out; omega
            have HDL := Lib.hid (show dd (l.take (k + 1 + (k2 + 1))) = dd l from by rw [hfull, List.take_length])
            have HKL := Lib.hid (show (dd l).length = kk from by rw [← HDL.out]; exact hkl2.out.symm)
            have hths : wi.there g (kk * 11) ((len - kk) * 11) := fun j hj => by
              have := hMth.out (kk * 11 + j) (by omega)
              simpa using this
            obtain ⟨vs, hvs, hcl⟩ := run_clear_H wi g (kk * 11) (len - kk) (cap - kk) hths
            have HF1 := Lib.hid (World.rangeAt_setCells_apart (range_head (D := dd l) hMr.out (by rw [HKL.out, ← HDL.out]; exact hMt.out)) g (kk * 11) vs (.inr (.inl (by rw [flatH_len, HKL.out]; omega))))
            have HF2 := Lib.hid (hMk.out.trans (keep_setCells g (kk * 11) vs))
            clear hMr hMth hMk hMt hMi hths hvs hkl2
            go_wp2_with fail
            go_ret
            exact ⟨by rw [HKL.out]; rfl, HF1.out, HF2.out⟩
    · have HF := Lib.hid (show dd l = l from by
        have := dd_rises (l := l) l.length (Nat.le_refl _) (fun m h h0 _ => hd.out m h h0 (by have := HL.out; omega))
        rwa [List.take_length] at this)
      clear hd
      go_wp2_with fail
      go_ret
      exact ⟨by rw [HF.out, ← HL.out]; rfl, by rw [HF.out]; exact HR.out _ hx.out, hx.out.keep _⟩
end Go.Proofs.Ytddeelepaiklgaa
/- judge.rising: in order, each once. -/
namespace Go.Proofs.Ytddeelepaiklgaa
open Go.RowKit Go.Maps Go.Sort Go.Lib
set_option linter.unusedSimpArgs false

theorem sortR_any (l : List Hdr) (v : Value) (base : Nat) (w : World) (h : w.ownsRow base 24 11 v l.length (flatH l)) (hl : l.length < 4611686018427387904) :
    Calls Try.prog 45 #[v, ordFun] w fun e w' => e = .returned (.tuple #[]) ∧ w'.ownsRow base 24 11 v l.length (flatH (sortH l)) ∧ w.grownBy w' v.ownBlock := by
  have eg : ∀ args w, (callFunc 29 args).run Try.prog w = .ok (.enter 29 args) w := enters_of Try.func29 (by kernel_rfl) rfl
  rcases h.2 with ⟨rfl, h0⟩ | ⟨g, cap, cur, rfl, hb, hg, hn, hm, hs, ht⟩
  · have hnil : l = [] := List.length_eq_zero_iff.1 h0
    subst hnil
    refine (AnyF.slices_SortFunc_none { Try.sortH with } none 0 ordFun w).mono ?_
    rintro e w' ⟨he, rfl⟩
    exact ⟨he, by rw [show flatH (sortH []) = [] from by simp [sortH, flatH]]; exact World.ownsRow_nil _ _ _ _, ⟨rfl, rfl, rfl, Nat.le_refl _, fun _ _ _ => rfl⟩⟩
  · have hlt : g < w.heap.size := (Array.getElem?_eq_some_iff.1 hg).1
    have hr := ownsRow_range h
    have hH : HoldsK (fun h : Hdr => h.cs.toList) 11 w g 0 l.toArray := by
      intro j hj
      have hj' : j < l.length * 11 := by simpa using hj
      refine ⟨?_, by simp [World.frozen?, hg]⟩
      refine hr j _ ?_
      have e1 : (flatK (fun h : Hdr => h.cs.toList) 11 l.toArray).toList[j]? = (flatH l)[j]? := by rw [flatK_toList Hdr.len_cs]; rfl
      rw [← e1, Array.getElem?_toList, getElem!_pos _ j hj]
      exact Array.getElem?_eq_getElem hj
    have hcon := AnyQ.slices_SortFunc_total Try.sortH 11 (fun w => by kernel_rfl) (fun w => by kernel_rfl) (fun h : Hdr => h.cs.toList) Hdr.len_cs Hdr.one cmpH swoH 29 #[] g 0 cap l.toArray w eg
      (cmpLaysR g 0 _ w) hH hlt (by simpa using hl) (fun x y h h' => ltH_conn h h')
    refine (show Calls Try.prog 45 #[.slice (some ⟨g, 0, none⟩) l.length cap, ordFun] w _ from hcon).mono ?_
    rintro e w' ⟨he, n, os, rfl⟩
    have hlen : (sortH l).length = l.length := List.length_mergeSort _
    have e2 : (l.toArray.toList.mergeSort fun x y => !(ltOf cmpH) y x).toArray = (sortH l).toArray := rfl
    rw [e2]
    refine ⟨he, ?_, grown_put w g n _ os⟩
    have := ownsRow_put (q := n) (F := flatK (fun h : Hdr => h.cs.toList) 11 (sortH l).toArray) h (by simp [hlen]) os
    rw [flatK_toList Hdr.len_cs] at this
    exact this

theorem there_of_owns {w : World} {base g n cap : Nat} {xs : List Value} (h : w.ownsRow base 24 11 (.slice (some ⟨g, 0, none⟩) n cap) n xs) : w.there g 0 (n * 11) ∧ n ≤ cap ∧ cap ≤ 9223372036854775807 ∧ g < w.heap.size ∧ base ≤ g := by
  rcases h.2 with ⟨e0, _⟩ | ⟨g', cap', cur, e0, hb, hg, hn, hm, hs, ht⟩
  · cases e0
  · injection e0 with e1 _ e3
    injection e1 with e1
    injection e1 with e1
    subst e1; subst e3
    refine ⟨fun j hj => ⟨?_, by simp [World.frozen?, hg]⟩, hn, hm, (Array.getElem?_eq_some_iff.1 hg).1, hb⟩
    have hjs : j < cur.size := by rw [hs]; have : n * 11 ≤ cap * 11 := Nat.mul_le_mul_right _ hn; omega
    simp [World.cell?, hg, hjs]

set_option maxHeartbeats 2000000 in
set_option maxRecDepth 100000 in
theorem rising_any (l : List Hdr) (v : Value) (base : Nat) (w : World) (h : w.ownsRow base 24 11 v l.length (flatH l)) (hl : l.length < 4611686018427387904) :
    Calls Try.prog 28 #[v, ordFun] w fun e w' => (∃ u, e = .returned u ∧ HSl w' base (dd (sortH l)) u) ∧ Keep (fun i => v.ownBlock = some i) w w' := by
  obtain ⟨wA, hA⟩ : ∃ W : World, w.alloc (.cells #[ordFun] 67) = W := ⟨_, rfl⟩
  have xA : Ext w wA := hA ▸ Ext.alloc _ _
  have cA : wA.cell? ⟨w.heap.size, 0, none⟩ = some ordFun := by rw [← hA]; simp [go_sem]
  have hA2 : wA.ownsRow base 24 11 v l.length (flatH l) := by rw [← hA]; exact h.alloc _
  have HS := Lib.hid (sortR_any l v base wA hA2 hl)
  have hbl : ∀ i, v.ownBlock = some i → i < w.heap.size := fun i hi => (h.lt i hi).2
  have hmf : ∀ (fn : Fn) (first cap : Array Value) (w : World), (Instr.makeFunc fn first cap).run Try.prog w = .ok (.func fn first cap) w := fun _ _ _ _ => rfl
  have HBL := Lib.hid hbl
  have HX := Lib.hid xA
  have HEQ := Lib.hid hA
  have HLN := Lib.hid (length_sortH l)
  clear hA xA hA2 hbl h
  go_enter Try.func28, Try.ntmps28
  go_upto_region 1 with fail
  try simp only [Value.cells]
  rw [HEQ.out]
  clear HEQ
  go_wp2_with fail
  refine HS.out.mono ?_
  rintro e w1 ⟨rfl, hown, hg⟩
  have cB : w1.cell? ⟨w.heap.size, 0, none⟩ = some ordFun := by
    rw [World.cell?_of_block (hg.block w.heap.size (World.block_lt_of_cell? wA _ cA) (fun e => by have := HBL.out _ e.symm; omega))]
    exact cA
  have HK := Lib.hid (show Keep (fun i => v.ownBlock = some i) w w1 from (HX.out.keep _).trans ⟨hg.os, hg.tape, hg.output, hg.size, fun i hi hs => hg.block i hi (fun e => hs e.symm)⟩)
  have hown2 := hown
  rcases hown.2 with ⟨rfl, h0⟩ | ⟨g, cap, cur, rfl, hb, hgc, -⟩
  · have hnil : l = [] := List.length_eq_zero_iff.1 h0
    have HD := Lib.hid (show dd (sortH l) = [] from by rw [hnil, show sortH [] = [] from List.eq_nil_of_length_eq_zero (by rw [length_sortH]; rfl)]; rfl)
    have HC := Lib.hid (show ∀ W, Calls Try.prog 46 #[.slice none 0 0, eqFun w.heap.size] W fun e w' => e = .returned (.slice none 0 0) ∧ W = w' from fun W => by
      go_enter Try.func46, Try.ntmps46
      go_wp2_with fail
      go_ret
      exact ⟨rfl, rfl⟩)
    clear hown hown2 hg
    go_wp2_with fail
    refine (HC.out _).mono ?_
    rintro e w2 ⟨rfl, rfl⟩
    go_wp2_with fail
    go_ret
    exact ⟨⟨_, rfl, by rw [HD.out]; exact ⟨none, 0, 0, rfl, rfl, .inl rfl⟩⟩, HK.out⟩
  · obtain ⟨hth, hnc, hcm, hgl, hbg⟩ := there_of_owns hown2
    have hne : w.heap.size ≠ g := fun e => by have := HBL.out g rfl; omega
    have HC := Lib.hid (compact_any (sortH l) g l.length cap w.heap.size w1 HLN.out.symm hnc hcm (ownsRow_range hown2) hth cB hne)
    clear hown hown2 hg hgc hth
    go_wp2_with fail
    refine HC.out.mono ?_
    rintro e w2 ⟨rfl, hr2, hk2⟩
    have HR2 := Lib.hid hr2
    clear hr2
    go_wp2_with fail
    go_ret
    exact ⟨⟨_, rfl, _, _, _, rfl, rfl, .inr ⟨g, 0, rfl, hbg, HR2.out⟩⟩, HK.out.trans (hk2.mono (fun i _ hi => by show some g = some i; rw [hi]))⟩
end Go.Proofs.Ytddeelepaiklgaa
/- What judge.Reach goes through, in plain words; its three rows apart from each other. -/
namespace Go.Proofs.Ytddeelepaiklgaa
open Go.RowKit Go.Maps Go.Sort Go.Lib
set_option linter.unusedSimpArgs false

/-- one header that a hop made -/
def moveTo (x : Hdr) (a b : Int) : Hdr := (x.put 10 a).put 9 b
def stepX (wires : List WireD) (x : Hdr) (thr out : List Hdr) : Option (List Hdr × List Hdr) :=
  if headE x = 0 then
    match overP (IntKind.u16.wrap (x.f 10)) (IntKind.u16.wrap (x.f 9)) wires with
    | none => some (thr, out ++ [x])
    | some r => if moveTo x r.1 r.2 ∈ thr then some (thr, out) else if thr.length = 1024 then none else some (thr ++ [moveTo x r.1 r.2], out)
  else some (thr, out)
def foldX (wires : List WireD) : List Hdr → List Hdr → List Hdr → Option (List Hdr × List Hdr)
  | [], thr, out => some (thr, out)
  | x :: xs, thr, out => (stepX wires x thr out).bind fun r => foldX wires xs r.1 r.2
def reachN (t : Tm) (wires : List WireD) : Nat → Nat → List Hdr → List Hdr → Int × List Hdr
  | 0, _, _, out => (0, out)
  | n + 1, i, thr, out =>
    match thr[i]? with
    | none => (0, out)
    | some y => if (ofC t y).1 = 0 then (match foldX wires (ofC t y).2 thr out with | none => (200, []) | some r => reachN t wires n (i + 1) r.1 r.2) else ((ofC t y).1, [])
def reachP (t : Tm) (qs : List Qr) (wires : List WireD) (x : Hdr) : Int × List Hdr :=
  if checkP t qs = 0 then
    (if headE x = 0 ∧ x.f 3 = 0 then
      (if (reachN t wires 1025 0 [x] []).1 = 0 then (0, dd (sortH (reachN t wires 1025 0 [x] []).2)) else ((reachN t wires 1025 0 [x] []).1, []))
    else (10, []))
  else (checkP t qs, [])

theorem wpList_append_H_at {ops : Array Oper} {rest : List Oper} {o : Oper} {a : Act} {w : World} {Q : Exit → Act → World → Prop} (hgd : o.guard = none) (s x : Operand)
    (ho : o.op = .call { callee := .builtin .append, args := #[s, x], argTypes := #[25, 25] }) (base : Nat) (v : Value) (l : List Hdr) (hs : a.eval s = v) (hown : w.ownsRow base 24 11 v l.length (flatH l))
    (b : Nat) (y : Hdr) (hx : a.eval x = .slice (some ⟨b, 0, none⟩) 1 1) (hc : w.rangeAt b 0 y.cs.toList) (hlen : l.length < 1000000000) (hbase : base ≤ w.heap.size)
    (hK : ∀ v' w', w'.ownsRow base 24 11 v' (l ++ [y]).length (flatH (l ++ [y])) → w.grownBy w' v.ownBlock → (v'.ownBlock = v.ownBlock ∨ v'.ownBlock = some w.heap.size) → wpList Try.prog ops Q rest (a.put o.dst v') w') : wpList Try.prog ops Q (o :: rest) a w := by
  obtain ⟨i0, hi0, hz0, hz1, hz2⟩ := info_parts infoH
  refine wpList_append_own_at w hgd s x 25 ho base 24 i0 _ 11 88 Try.underlying25 hi0 hz0 hz1 hz2 rfl (by omega) v l.length (flatH l) hs hown ⟨b, 0, none⟩ 1 1 y.cs.toList hx (by rw [y.len_cs])
    (fun j u hu => by rw [Addr.add_mid]; exact hc j u hu) y.one (by unfold maxLen; omega) (by omega) hbase ?_
  intro v' w' hown' hg _ hat
  refine hK v' w' ?_ hg hat
  have e : flatH (l ++ [y]) = flatH l ++ y.cs.toList := by simp [flatH]
  rw [e, List.length_append]
  exact hown'

/-- the headers seen, how often: at most N times -/
def SeenIs (w : World) (b : Nat) (ks : List Hdr) (N : Int) : Prop :=
  ∃ L : List (Hdr × Int), MapOf w kvH vvZ b L ∧ (L.map (·.1)).Nodup ∧ (∀ y, y ∈ ks → ∃ c, look y L = some c ∧ 1 ≤ c ∧ c ≤ N) ∧ ∀ y, y ∉ ks → look y L = none
theorem SeenIs.kept {w w' : World} {b : Nat} {ks : List Hdr} {N : Int} (h : SeenIs w b ks N) (hk : w'.heap[b]? = w.heap[b]?) : SeenIs w' b ks N := by
  obtain ⟨L, h1, h2⟩ := h
  exact ⟨L, MapRaw.kept h1 hk, h2⟩
theorem SeenIs.lt {w : World} {b : Nat} {ks : List Hdr} {N : Int} (h : SeenIs w b ks N) : b < w.heap.size := by
  obtain ⟨L, h1, -⟩ := h
  exact MapRaw.lt h1
theorem SeenIs.ext {w w' : World} {b : Nat} {ks : List Hdr} {N : Int} (h : SeenIs w b ks N) (hx : Ext w w') : SeenIs w' b ks N := h.kept (Below.block hx b h.lt)
theorem SeenIs.first (w : World) (x : Hdr) : ∃ w', (Instr.mapUpdate 61 (.map (some w.heap.size)) (.agg x.cs) (.int .i64 1)).run Try.prog (w.alloc (.map #[] 0)) = .ok () w' ∧ SeenIs w' w.heap.size [x] 1 ∧ (w.alloc (.map #[] 0)).grownBy w' (some w.heap.size) := by
  obtain ⟨w', hu, hm, hg⟩ := run_update_of (kv := kvH) (vv := vvZ) codedH Try.underlying61 (w := w.alloc (.map #[] 0)) (b := w.heap.size) (l := []) (MapRaw.made w) (by simp) x (1 : Int)
  refine ⟨w', hu, ⟨_, hm, by simp [store], fun y hy => ?_, fun y hy => ?_⟩, hg⟩
  · rw [List.mem_singleton] at hy
    subst hy
    exact ⟨1, look_store _ _ _, by omega, by omega⟩
  · rw [List.mem_singleton] at hy
    rw [look_other _ hy]; rfl
theorem SeenIs.bump {w : World} {b : Nat} {ks : List Hdr} {N : Int} (h : SeenIs w b ks N) (hN : 0 ≤ N) (x : Hdr) :
    ∃ (n : Int) (st : Nat) (w1 w2 : World), (x ∈ ks → 1 ≤ n) ∧ (x ∉ ks → n = 0) ∧ 0 ≤ n ∧ n ≤ N ∧ (Instr.lookup 61 (.map (some b)) (.agg x.cs) false).run Try.prog w = .ok (.int .i64 n) w ∧
      (Instr.mapEntry 61 (.map (some b)) (.agg x.cs)).run Try.prog w = .ok (.tuple #[.int .i64 n, .int .i64 st]) w1 ∧
      (Instr.lookup 61 (.map (some b)) (.agg x.cs) false).run Try.prog w1 = .ok (.int .i64 n) w1 ∧
      (Instr.entryStore 61 (.map (some b)) (.int .i64 st) (.int .i64 (n + 1))).run Try.prog w1 = .ok () w2 ∧
      w.grownBy w2 (some b) ∧ SeenIs w2 b (if x ∈ ks then ks else ks ++ [x]) (N + 1) ∧
      ∀ W, Ext w2 W → (Instr.lookup 61 (.map (some b)) (.agg x.cs) false).run Try.prog W = .ok (.int .i64 (n + 1)) W := by
  obtain ⟨L, h1, h2, h3, h4⟩ := h
  obtain ⟨st, w1, he, ⟨L1, hm1, hn1, hl1⟩, hg1, hs⟩ := run_entry_of codedH Try.underlying61 h1 h2 x (0 : Int) zeroI
  obtain ⟨n, hn⟩ : ∃ n, n = (look x L).getD 0 := ⟨_, rfl⟩
  obtain ⟨w2, he2, hm2, hg2⟩ := hs (n + 1)
  have q : ∀ {W : World} {M : List (Hdr × Int)}, MapOf W kvH vvZ b M → (M.map (·.1)).Nodup → (Instr.lookup 61 (.map (some b)) (.agg x.cs) false).run Try.prog W = .ok (.int .i64 ((look x M).getD 0)) W := fun {W M} hM hN => by
    have := run_lookup_of codedH Try.underlying61 hM hN x _ (zeroI W) false
    cases hq : look x M <;> (rw [hq] at this; exact this)
  have hin : x ∈ ks → ∃ c, look x L = some c ∧ 1 ≤ c ∧ c ≤ N := h3 x
  have hnb : (x ∈ ks → 1 ≤ n) ∧ (x ∉ ks → n = 0) ∧ 0 ≤ n ∧ n ≤ N := by
    by_cases hx : x ∈ ks
    · obtain ⟨c, hc, hc1, hc2⟩ := hin hx
      rw [hc] at hn
      have hn' : n = c := hn
      exact ⟨fun _ => by omega, fun h => absurd hx h, by omega, by omega⟩
    · rw [h4 x hx] at hn
      have hn' : n = 0 := hn
      exact ⟨fun h => absurd h hx, fun _ => hn', by omega, by omega⟩
  refine ⟨n, st, w1, w2, hnb.1, hnb.2.1, hnb.2.2.1, hnb.2.2.2, ?_, ?_, ?_, he2, hg2, ⟨_, hm2, store_keys h2, fun y hy => ?_, fun y hy => ?_⟩, fun W hW => ?_⟩
  · rw [q h1 h2, ← hn]
  · rw [← hn] at he; exact he
  · rw [q hm1 hn1, hl1, ← hn]
  · by_cases hyx : y = x
    · subst hyx
      exact ⟨n + 1, look_store _ _ _, by omega, by omega⟩
    · have hy2 : y ∈ ks := by
        split at hy
        · exact hy
        · rcases List.mem_append.1 hy with h | h
          · exact h
          · exact absurd (List.mem_singleton.1 h) hyx
      obtain ⟨c, hc, hc1, hc2⟩ := h3 y hy2
      exact ⟨c, by rw [look_other _ hyx]; exact hc, hc1, by omega⟩
  · by_cases hyx : y = x
    · subst hyx
      exfalso
      split at hy
      · exact absurd (by assumption) hy
      · exact hy (List.mem_append_right _ (List.mem_singleton.2 rfl))
    · rw [look_other _ hyx]
      refine h4 y fun h => hy ?_
      split
      · exact h
      · exact List.mem_append_left _ h
  · rw [q (MapRaw.ext hm2 hW : MapOf W kvH vvZ b _) (store_keys h2), look_store]; rfl

/-- the rows of what is gone through and of what came out, the map of what was seen: apart -/
structure RSt (wB wr : World) (mb : Nat) (tv ov : Value) (thr ks out : List Hdr) (N : Int) : Prop where
  t : wr.ownsRow wB.heap.size 24 11 tv thr.length (flatH thr)
  o : wr.ownsRow wB.heap.size 24 11 ov out.length (flatH out)
  m : SeenIs wr mb ks N
  tm : tv.ownBlock ≠ some mb
  om : ov.ownBlock ≠ some mb
  ap : ∀ i, tv.ownBlock = some i → ov.ownBlock ≠ some i
  lo : wB.heap.size ≤ mb
  ext : Ext wB wr
theorem ownsRow_ext {w w' : World} {base : Nat} {e : TypeId} {size : Nat} {v : Value} {n : Nat} {xs : List Value} (h : w.ownsRow base e size v n xs) (hx : Ext w w') : w'.ownsRow base e size v n xs :=
  (hx.keep fun _ => False).owns h (fun _ _ h => h)
theorem RSt.more {wB wr W : World} {mb : Nat} {tv ov : Value} {thr ks out : List Hdr} {N : Int} (h : RSt wB wr mb tv ov thr ks out N) (hx : Ext wr W) : RSt wB W mb tv ov thr ks out N :=
  ⟨ownsRow_ext h.t hx, ownsRow_ext h.o hx, h.m.ext hx, h.tm, h.om, h.ap, h.lo, h.ext.trans hx⟩
theorem none_or {v : Value} {r : Option Nat} (h : ∀ i, v.ownBlock = some i → r ≠ some i) : v.ownBlock = none ∨ v.ownBlock ≠ r := by
  cases hv : v.ownBlock with
  | none => exact .inl rfl
  | some i => exact .inr (fun e => h i hv e.symm)
theorem RSt.putOut {wB wr w' : World} {mb : Nat} {tv ov ov' : Value} {thr ks out : List Hdr} {N : Int} {x : Hdr} (h : RSt wB wr mb tv ov thr ks out N)
    (hown : w'.ownsRow wB.heap.size 24 11 ov' (out ++ [x]).length (flatH (out ++ [x]))) (hg : wr.grownBy w' ov.ownBlock) (hat : ov'.ownBlock = ov.ownBlock ∨ ov'.ownBlock = some wr.heap.size) : RSt wB w' mb tv ov' thr ks (out ++ [x]) N where
  t := h.t.kept hg (none_or h.ap)
  o := hown
  m := h.m.kept (hg.block mb h.m.lt (fun e => h.om e.symm))
  tm := h.tm
  om := by
    rcases hat with e | e
    · rw [e]; exact h.om
    · rw [e]; intro e2; have := h.m.lt; injection e2 with e2; omega
  ap := fun i hi => by
    rcases hat with e | e
    · rw [e]; exact h.ap i hi
    · rw [e]; intro e2; have := (h.t.lt i hi).2; injection e2 with e2; omega
  lo := h.lo
  ext := h.ext.grow' hg (fun i hi => (h.o.lt i hi).1)
theorem RSt.putThr {wB wr w' : World} {mb : Nat} {tv tv' ov : Value} {thr ks out : List Hdr} {N : Int} {x : Hdr} (h : RSt wB wr mb tv ov thr ks out N)
    (hown : w'.ownsRow wB.heap.size 24 11 tv' (thr ++ [x]).length (flatH (thr ++ [x]))) (hg : wr.grownBy w' tv.ownBlock) (hat : tv'.ownBlock = tv.ownBlock ∨ tv'.ownBlock = some wr.heap.size) : RSt wB w' mb tv' ov (thr ++ [x]) ks out N where
  t := hown
  o := h.o.kept hg (none_or fun i hi e => h.ap i e hi)
  m := h.m.kept (hg.block mb h.m.lt (fun e => h.tm e.symm))
  tm := by
    rcases hat with e | e
    · rw [e]; exact h.tm
    · rw [e]; intro e2; have := h.m.lt; injection e2 with e2; omega
  om := h.om
  ap := fun i hi => by
    rcases hat with e | e
    · rw [e] at hi; exact h.ap i hi
    · rw [e] at hi; intro e2; have := (h.o.lt i e2).2; injection hi with hi; omega
  lo := h.lo
  ext := h.ext.grow' hg (fun i hi => (h.t.lt i hi).1)
theorem RSt.seen {wB wr w' : World} {mb : Nat} {tv ov : Value} {thr ks ks' out : List Hdr} {N N' : Int} (h : RSt wB wr mb tv ov thr ks out N) (hm : SeenIs w' mb ks' N') (hg : wr.grownBy w' (some mb)) : RSt wB w' mb tv ov thr ks' out N' where
  t := h.t.kept hg (.inr h.tm)
  o := h.o.kept hg (.inr h.om)
  m := hm
  tm := h.tm
  om := h.om
  ap := h.ap
  lo := h.lo
  ext := h.ext.trans' ⟨hg.os, hg.tape, hg.output, hg.size, fun i hi => hg.block i (Nat.lt_of_lt_of_le hi h.ext.size) (fun e => by have := h.lo; injection e with e; omega)⟩
end Go.Proofs.Ytddeelepaiklgaa
