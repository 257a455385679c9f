/- law 12's Heads. -/
import Derived.Test.YtjjbdbklbghlhaaGreatDoorMN
import Derived.Test.YtjjbdbklbghlhaaGreatDoorMU
import Derived.Test.YtjjbdbklbghlhaaGreatDoorMA
import Derived.Test.YtjjbdbklbghlhaaGreatDoorMR
import Derived.Test.YtjjbdbklbghlhaaGreatDoorMV
import Derived.Test.YtjjbdbklbghlhaaGreatDoorMD
import Derived.Carry
import Derived.Test.YtjjbdbklbghlhaaGreatDoorCards
import Derived.Test.YtjjbdbklbghlhaaGreatDoorTie
import Derived.SevenTiedAt
namespace Go.Proofs.YtjjbdbklbghlhaaGreatDoor
open Go.RowKit Go.Maps
set_option linter.unusedSimpArgs false

set_option maxRecDepth 100000 in
set_option maxHeartbeats 2000000 in
theorem heads_any (l m : List Hdr) (u v : Value) (lo lo' : Nat) (w : World) (hu : HSl w lo l u) (hv : HSl w lo' m v) (h64 : l.length ≤ 65600) :
    Calls Tryz.prog 18 #[u, v] w fun e w' => e = .returned (.bool (decide (l = m))) ∧ Ext w w' := by
  obtain ⟨p, len, cap, rfl, hlen, hl⟩ := hu
  obtain ⟨p', len', cap', rfl, hlen', hm⟩ := hv
  have HL := Lib.hid hlen
  have HL' := Lib.hid hlen'
  clear hlen hlen'
  have hlen64 : len ≤ 65600 := by have := HL.out; omega
  by_cases hn : len = len'
  · subst hn
    have hd : ((len : Int) != len) = false := by simp
    go_enter Tryz.func18, Tryz.ntmps18
    go_wp2_with fail
    go_loopw [5] (fun i wr => ∃ (j n : Nat), j ≤ len ∧ i = .int .i64 j ∧ Hid (decide (l = m) = decide (l.drop j = m.drop j)) ∧ wr = w.drewN n) (fun i _ => len - (intOf i).toNat)
    case atStart => exact ⟨0, 0, Nat.zero_le _, rfl, rfl, rfl⟩
    case round =>
      obtain ⟨j, n, hj, rfl, hR, rfl⟩ := hrel
      by_cases hlt : j < len
      · have hjl : j < l.length := by rw [← HL.out]; exact hlt
        have hjm : j < m.length := by rw [← HL'.out]; exact hlt
        rcases hl with hl | ⟨b, o, rfl, -, hr⟩
        · exfalso; subst hl; simp at hjl
        rcases hm with hm | ⟨b', o', rfl, -, hr'⟩
        · exfalso; subst hm; simp at hjm
        have hrj := rangeAt_get Hdr.len_cs hr j hjl
        have hrj' := rangeAt_get Hdr.len_cs hr' j hjm
        have p0 : w.cell? ⟨b, o + j * 11, none⟩ = some (.int .u64 ((l[j]).f 0)) := cellAt hrj 0 (by omega)
        have p1 : w.cell? ⟨b, o + j * 11 + 1, none⟩ = some (.int .u64 ((l[j]).f 1)) := cellAt hrj 1 (by omega)
        have p2 : w.cell? ⟨b, o + j * 11 + 2, none⟩ = some (.int .u64 ((l[j]).f 2)) := cellAt hrj 2 (by omega)
        have p3 : w.cell? ⟨b, o + j * 11 + 3, none⟩ = some (.int .u64 ((l[j]).f 3)) := cellAt hrj 3 (by omega)
        have p4 : w.cell? ⟨b, o + j * 11 + 4, none⟩ = some (.int .u64 ((l[j]).f 4)) := cellAt hrj 4 (by omega)
        have p5 : w.cell? ⟨b, o + j * 11 + 5, none⟩ = some (.int .u64 ((l[j]).f 5)) := cellAt hrj 5 (by omega)
        have p6 : w.cell? ⟨b, o + j * 11 + 6, none⟩ = some (.int .u64 ((l[j]).f 6)) := cellAt hrj 6 (by omega)
        have p7 : w.cell? ⟨b, o + j * 11 + 7, none⟩ = some (.int .u64 ((l[j]).f 7)) := cellAt hrj 7 (by omega)
        have p8 : w.cell? ⟨b, o + j * 11 + 8, none⟩ = some (.int .u64 ((l[j]).f 8)) := cellAt hrj 8 (by omega)
        have p9 : w.cell? ⟨b, o + j * 11 + 9, none⟩ = some (.int .u64 ((l[j]).f 9)) := cellAt hrj 9 (by omega)
        have p10 : w.cell? ⟨b, o + j * 11 + 10, none⟩ = some (.int .u64 ((l[j]).f 10)) := cellAt hrj 10 (by omega)
        have q0 : w.cell? ⟨b', o' + j * 11, none⟩ = some (.int .u64 ((m[j]).f 0)) := cellAt hrj' 0 (by omega)
        have q1 : w.cell? ⟨b', o' + j * 11 + 1, none⟩ = some (.int .u64 ((m[j]).f 1)) := cellAt hrj' 1 (by omega)
        have q2 : w.cell? ⟨b', o' + j * 11 + 2, none⟩ = some (.int .u64 ((m[j]).f 2)) := cellAt hrj' 2 (by omega)
        have q3 : w.cell? ⟨b', o' + j * 11 + 3, none⟩ = some (.int .u64 ((m[j]).f 3)) := cellAt hrj' 3 (by omega)
        have q4 : w.cell? ⟨b', o' + j * 11 + 4, none⟩ = some (.int .u64 ((m[j]).f 4)) := cellAt hrj' 4 (by omega)
        have q5 : w.cell? ⟨b', o' + j * 11 + 5, none⟩ = some (.int .u64 ((m[j]).f 5)) := cellAt hrj' 5 (by omega)
        have q6 : w.cell? ⟨b', o' + j * 11 + 6, none⟩ = some (.int .u64 ((m[j]).f 6)) := cellAt hrj' 6 (by omega)
        have q7 : w.cell? ⟨b', o' + j * 11 + 7, none⟩ = some (.int .u64 ((m[j]).f 7)) := cellAt hrj' 7 (by omega)
        have q8 : w.cell? ⟨b', o' + j * 11 + 8, none⟩ = some (.int .u64 ((m[j]).f 8)) := cellAt hrj' 8 (by omega)
        have q9 : w.cell? ⟨b', o' + j * 11 + 9, none⟩ = some (.int .u64 ((m[j]).f 9)) := cellAt hrj' 9 (by omega)
        have q10 : w.cell? ⟨b', o' + j * 11 + 10, none⟩ = some (.int .u64 ((m[j]).f 10)) := cellAt hrj' 10 (by omega)
        have hg := guardH
        have HE := Lib.hid (show decide (l = m) = if l[j] = m[j] then decide (l.drop (j + 1) = m.drop (j + 1)) else false from by
          rw [hR.out, drop_get hjl, drop_get hjm]
          rw [Bool.eq_iff_iff]
          by_cases h : l[j] = m[j]
          · rw [if_pos h, decide_eq_true_iff, decide_eq_true_iff, List.cons.injEq]; exact ⟨fun a => a.2, fun a => ⟨h, a⟩⟩
          · rw [if_neg h, decide_eq_true_iff, List.cons.injEq]; exact ⟨fun a => absurd a.1 h, fun a => by cases a⟩)
        have he := eqH (l[j]) (m[j])
        simp only [Hdr.cs_eq] at he
        generalize l[j] = x at *
        generalize m[j] = y at *
        by_cases hxy : x = y
        · have HF := Lib.hid (HE.out.trans (if_pos hxy))
          rw [show decide (x = y) = true from by simpa using hxy] at he
          clear hxy HE
          go_wp2_with fail
          go_quiet (fail)
          go_wp2_with fail
          go_roundw
          case rel => exact ⟨j + 1, _, by omega, by go_num, HF.out, rfl⟩
          case measure => simp [intOf]; omega
        · have HF := Lib.hid (HE.out.trans (if_neg hxy))
          rw [show decide (x = y) = false from by simpa using hxy] at he
          clear hxy HE
          go_wp2_with fail
          go_quiet (fail)
          go_wp2_with fail
          go_ret
          exact ⟨by rw [HF.out]; rfl, (Ext.drewN _ _).andDrewN _⟩
      · have HF := Lib.hid (show decide (l = m) = true from by
          rw [hR.out, List.drop_of_length_le (by have := HL.out; omega), List.drop_of_length_le (by have := HL'.out; omega)]; rfl)
        go_wp2_with fail
        go_ret
        exact ⟨by rw [HF.out]; rfl, Ext.drewN _ _⟩
  · have HF := Lib.hid (show decide (l = m) = false from by
      simp only [decide_eq_false_iff_not]
      rintro rfl
      exact hn (HL.out.trans HL'.out.symm))
    have hd : ((len : Int) != len') = true := by simp; omega
    go_enter Tryz.func18, Tryz.ntmps18
    go_wp2_with fail
    go_ret
    exact ⟨by rw [HF.out]; rfl, Ext.refl _⟩

end Go.Proofs.YtjjbdbklbghlhaaGreatDoor
/- A choice in plain words. -/
namespace Go.Proofs.YtjjbdbklbghlhaaGreatDoor
open Go.RowKit Go.Sort Go.Maps Go.Lib
set_option linter.unusedSimpArgs false

def yesT (p : Tm) : Tm := .mk 6 0 0 [p]
def noT (p : Tm) : Tm := .mk 6 0 0 [.mk 3 0 0 [p]]
def chT (p a b : Tm) : Tm := .mk 8 0 0 [.mk 9 0 0 [yesT p, a], .mk 9 0 0 [noT p, b]]
theorem chT_den (p a b : Tm) (x y : Hdr) : (chT p a b).den x y ↔ if p.holds x = true then a.den x y else b.den x y := by
  unfold chT yesT noT
  simp only [Tm.den, Tm.denAny, Tm.denThen, Tm.holdsHead, Tm.holds]
  simp only [show ¬ (8 : Int) = 6 from by decide, show ¬ (8 : Int) = 7 from by decide, show ¬ (8 : Int) = 9 from by decide, show ¬ (8 : Int) = 10 from by decide, show ¬ (9 : Int) = 6 from by decide, show ¬ (9 : Int) = 7 from by decide, show ¬ (3 : Int) = 1 from by decide, show ¬ (3 : Int) = 2 from by decide, if_true, if_false, or_false]
  cases p.holds x <;> simp
/-- the one part where the predicate holds, the other one elsewhere -/
theorem choice_runs {p a b : Tm} {L : List NdD} {ra rb rt : Out} (hG : Gd L) (hb6 : 6 ≤ a.op ∧ 6 ≤ b.op) (wa : wrongT a = 0) (wb : wrongT b = 0) (wt : wrongT (chT p a b) = 0)
    (ea : ra = termC a L) (eb : rb = termC b ra.2) (et : rt = termC (chT p a b) rb.2) (a0 : ra.1.1 = 0) (b0 : rb.1.1 = 0) (t0 : rt.1.1 = 0) (x : Hdr) :
    runsN rt.2 (if p.holds x = true then ra.1.2 else rb.1.2) x = runsN rt.2 rt.1.2 x := by
  have ga : Gd ra.2 := by rw [ea]; exact (termC_steps a L).good hG
  have gb : Gd rb.2 := by rw [eb]; exact (termC_steps b ra.2).good ga
  have pa := termC_any (L := L) wa hG
  have pb := termC_any (L := ra.2) wb ga
  have pt := termC_any (L := rb.2) wt gb
  rw [← ea] at pa
  rw [← eb] at pb
  rw [← et] at pt
  have fa : Fine L ra := by rw [ea]; exact termC_fine a hG.o
  have fb : Fine ra.2 rb := by rw [eb]; exact termC_fine b ga.o
  have ft : Fine rb.2 rt := by rw [et]; exact termC_fine _ gb.o
  refine (runsN_asc _ _ _).ext (runsN_asc _ _ _) fun y => ?_
  rw [runsN_mem, runsN_mem, pt.sem t0]
  have hd : (chT p a b).denW x y ↔ (chT p a b).den x y := by
    unfold Tm.denW
    rw [if_neg (by show ¬ (8 : Int) < 6; decide)]
  have ha : a.denW x y ↔ a.den x y := by
    unfold Tm.denW
    rw [if_neg (by omega)]
  have hb : b.denW x y ↔ b.den x y := by
    unfold Tm.denW
    rw [if_neg (by omega)]
  rw [hd, chT_den]
  split
  · rw [makes_pre ga.o (fb.pre.trans ft.pre) (fa.lt a0), pa.sem a0, ha]
  · rw [makes_pre gb.o ft.pre (fb.lt b0), pb.sem b0, hb]
end Go.Proofs.YtjjbdbklbghlhaaGreatDoor
/- CompileChoice walked. -/
namespace Go.Proofs.YtjjbdbklbghlhaaGreatDoor
open Go.RowKit Go.Sort Go.Maps Go.Lib
set_option linter.unusedSimpArgs false

theorem allAt_threeC {w : World} {t u s : Tm} {a b c d a' b' c' d' a2 b2 c2 d2 : Value} (h : t.Val w (.agg #[a, b, c, d])) (k : u.Val w (.agg #[a', b', c', d'])) (m : s.Val w (.agg #[a2, b2, c2, d2])) (ty : TypeId) : Tm.AllAt (w.alloc (.cells #[a, b, c, d, a', b', c', d', a2, b2, c2, d2] ty)) [t, u, s] w.heap.size 0 := by
  refine ⟨h.at_part _ 0 fun j v hv => ?_, k.at_part _ 4 fun j v hv => ?_, m.at_part _ 8 fun j v hv => ?_, trivial⟩
  · match j, hv with
    | 0, hv | 1, hv | 2, hv | 3, hv => simpa using hv
    | j + 4, hv => simp at hv
  · match j, hv with
    | 0, hv | 1, hv | 2, hv | 3, hv => simpa using hv
    | j + 4, hv => simp at hv
  · match j, hv with
    | 0, hv | 1, hv | 2, hv | 3, hv => simpa using hv
    | j + 4, hv => simp at hv
/-- what Of told is a node -/
theorem ofS_zero {L : List NdD} {t : Tm} (h : (ofS L t).1.2 = 0) : wrongT t = 0 ∧ (termC t L).1.1 = 0 ∧ ofS L t = ((((termC t L).1.2 : Int), 0), (termC t L).2) := by
  unfold ofS at *
  by_cases hw : wrongT t = 0
  · rw [if_neg (by omega)] at h ⊢
    unfold outD at *
    dsimp only at h
    refine ⟨hw, h, ?_⟩
    rw [if_pos h, h]
  · rw [if_pos hw] at h
    exact absurd h hw
theorem ofS_steps (L : List NdD) (t : Tm) : Steps L (ofS L t).2 := by
  unfold ofS
  split
  · exact .refl L
  · exact termC_steps t L
theorem runH_at {L : List NdD} {a : Nat} {h : Hdr} (ha : a < L.length) : runH L (a : Int) h = (0, runsN L a h) := by
  unfold runH
  rw [getP_inC ha, if_pos rfl, Int.toNat_natCast]
  rfl
theorem predT_op {p : Tm} (h : predT p = 0) : 0 ≤ p.op := by
  have hr : p.right true = true := by
    unfold predT at h
    split at h
    · exact absurd h (by decide)
    · split at h
      · assumption
      · exact absurd h (by decide)
  cases p with
  | mk op f n ks =>
    show 0 ≤ op
    rcases Tm.right_pred hr with h | h | h <;> omega

set_option maxHeartbeats 16000000 in
set_option maxRecDepth 100000 in
theorem lawCChoice_any (p a b : Tm) (l : List Hdr) (vp va vb vl : Value) (w : World) (hp : p.Val w vp) (ha : a.Val w va) (hb : b.Val w vb) (hl : HSl w 0 l vl) (ht : Tb w) :
    Calls Tryz.prog 6 #[vp, va, vb, vl] w fun e w' => e = .returned (.bool true) ∧ Ext w w' := by
  have HT := Lib.hid ht
  have HHL := Lib.hid hl
  have HVp := Lib.hid hp
  obtain ⟨cs, rfl, s, rfl, -, -, -, pq, pl, pc, rfl, -⟩ := hp
  obtain ⟨po, hop⟩ : ∃ x, x = p.op := ⟨_, rfl⟩
  obtain ⟨pf, hfp⟩ : ∃ x, x = p.fld := ⟨_, rfl⟩
  obtain ⟨pn, hnp⟩ : ∃ x, x = p.n := ⟨_, rfl⟩
  rw [← hop, ← hfp, ← hnp] at HVp ⊢
  have HOp := Lib.hid hop
  clear hop hfp hnp
  have HVa := Lib.hid ha
  obtain ⟨cs, rfl, s, rfl, -, -, -, aq, al, ac, rfl, -⟩ := ha
  obtain ⟨ao, hoa⟩ : ∃ x, x = a.op := ⟨_, rfl⟩
  obtain ⟨af, hfa⟩ : ∃ x, x = a.fld := ⟨_, rfl⟩
  obtain ⟨an, hna⟩ : ∃ x, x = a.n := ⟨_, rfl⟩
  rw [← hoa, ← hfa, ← hna] at HVa ⊢
  have HOa := Lib.hid hoa
  clear hoa hfa hna
  have HVb := Lib.hid hb
  obtain ⟨cs, rfl, s, rfl, -, -, -, bq, bl, bc, rfl, -⟩ := hb
  obtain ⟨bo, hob⟩ : ∃ x, x = b.op := ⟨_, rfl⟩
  obtain ⟨bf, hfb⟩ : ∃ x, x = b.fld := ⟨_, rfl⟩
  obtain ⟨bn, hnb⟩ : ∃ x, x = b.n := ⟨_, rfl⟩
  rw [← hob, ← hfb, ← hnb] at HVb ⊢
  have HOb := Lib.hid hob
  clear hob hfb hnb
  obtain ⟨lp, ln, lc, rfl, hln, -⟩ := hl
  have HLN := Lib.hid hln
  obtain ⟨w1, hww1⟩ : ∃ W : World, w.alloc (.cells #[.int .i8 po, .int .i8 pf, .int .u64 pn, .slice pq pl pc] 26) = W := ⟨_, rfl⟩
  have xw1 : Ext w w1 := hww1 ▸ Ext.alloc _ _
  have sw1 : w1.heap.size = w.heap.size + 1 := by rw [← hww1, World.size_alloc]
  obtain ⟨w2, hww2⟩ : ∃ W : World, w1.alloc (.cells #[.int .i8 ao, .int .i8 af, .int .u64 an, .slice aq al ac] 26) = W := ⟨_, rfl⟩
  have xw2 : Ext w1 w2 := hww2 ▸ Ext.alloc _ _
  have sw2 : w2.heap.size = w.heap.size + 1 + 1 := by rw [← hww2, World.size_alloc, sw1]
  obtain ⟨w3, hww3⟩ : ∃ W : World, w2.alloc (.cells #[.int .i8 bo, .int .i8 bf, .int .u64 bn, .slice bq bl bc] 26) = W := ⟨_, rfl⟩
  have xw3 : Ext w2 w3 := hww3 ▸ Ext.alloc _ _
  have sw3 : w3.heap.size = w.heap.size + 1 + 1 + 1 := by rw [← hww3, World.size_alloc, sw2]
  have HE1 := Lib.hid (And.intro hww1 (And.intro hww2 hww3))
  have HX1 := Lib.hid (xw1.trans (xw2.trans xw3))
  have HBX := Lib.hid (show ∀ W, Ext w3 W → ((W.cell? ⟨w.heap.size, 0, none⟩ = some (.int .i8 po) ∧ W.cell? ⟨w.heap.size, 1, none⟩ = some (.int .i8 pf) ∧ W.cell? ⟨w.heap.size, 2, none⟩ = some (.int .u64 pn) ∧ W.cell? ⟨w.heap.size, 3, none⟩ = some (.slice pq pl pc)) ∧
      (W.cell? ⟨w.heap.size + 1, 0, none⟩ = some (.int .i8 ao) ∧ W.cell? ⟨w.heap.size + 1, 1, none⟩ = some (.int .i8 af) ∧ W.cell? ⟨w.heap.size + 1, 2, none⟩ = some (.int .u64 an) ∧ W.cell? ⟨w.heap.size + 1, 3, none⟩ = some (.slice aq al ac)) ∧
      (W.cell? ⟨w.heap.size + 1 + 1, 0, none⟩ = some (.int .i8 bo) ∧ W.cell? ⟨w.heap.size + 1 + 1, 1, none⟩ = some (.int .i8 bf) ∧ W.cell? ⟨w.heap.size + 1 + 1, 2, none⟩ = some (.int .u64 bn) ∧ W.cell? ⟨w.heap.size + 1 + 1, 3, none⟩ = some (.slice bq bl bc))) from fun W hW => by
    have h1 := (xw2.trans xw3).trans hW
    have h2 := xw3.trans hW
    refine ⟨⟨h1.later _ _ ?_, h1.later _ _ ?_, h1.later _ _ ?_, h1.later _ _ ?_⟩, ⟨h2.later _ _ ?_, h2.later _ _ ?_, h2.later _ _ ?_, h2.later _ _ ?_⟩, ⟨hW.later _ _ ?_, hW.later _ _ ?_, hW.later _ _ ?_, hW.later _ _ ?_⟩⟩
    all_goals first | (rw [← hww1]; simp [go_sem]; done) | (rw [← hww2, ← sw1]; simp [go_sem]; done) | (rw [← hww3, ← sw2]; simp [go_sem]; done))
  clear hww1 xw1 sw1 hww2 xw2 sw2 hww3 xw3 sw3 hln ht
  go_enter Tryz.func6, Tryz.ntmps6
  go_upto_region 1 with fail
  simp only [HE1.out.1, HE1.out.2.1, HE1.out.2.2]
  by_cases h40 : 40 < ln
  case pos =>
    have hd : decide (40 < (ln : Int)) = true := decide_eq_true (by omega)
    clear h40
    have HWK := Lib.hid (wakes22_any w3 (HT.out.ext HX1.out))
    go_wp2_with fail
    refine HWK.out.mono ?_
    rintro e wz ⟨rfl, hxz⟩
    go_wp2_with fail
    go_ret
    exact ⟨rfl, (HX1.out).trans hxz⟩
  have hd : decide (40 < (ln : Int)) = false := decide_eq_false (by omega)
  obtain ⟨w4, hww4⟩ : ∃ W : World, w3.alloc (.cells #[.int .i8 po, .int .i8 pf, .int .u64 pn, .slice pq pl pc, .int .i8 ao, .int .i8 af, .int .u64 an, .slice aq al ac, .int .i8 bo, .int .i8 bf, .int .u64 bn, .slice bq bl bc] 26) = W := ⟨_, rfl⟩
  have xw4 : Ext w3 w4 := hww4 ▸ Ext.alloc _ _
  have sw4 : w4.heap.size = w3.heap.size + 1 := by rw [← hww4, World.size_alloc]
  have HE4 := Lib.hid hww4
  have HX4 := Lib.hid xw4
  have HHV := Lib.hid (cheavy_any [p, a, b] w3.heap.size 3 3 w4 rfl (by decide) (by decide) (by
    rw [← hww4]
    exact allAt_threeC (HVp.out.later HX1.out.later) (HVa.out.later HX1.out.later) (HVb.out.later HX1.out.later) _))
  obtain ⟨hv, hhv⟩ : ∃ hv, hv = heavyP [p, a, b] := ⟨_, rfl⟩
  rw [← hhv] at HHV
  have HX4' := Lib.hid (HX1.out.trans HX4.out)
  clear hww4 xw4 sw4 hhv
  obtain ⟨⟨d0, d1, d2, d3⟩, ⟨e0, e1, e2, e3⟩, ⟨g0, g1, g2, g3⟩⟩ := HBX.out w3 (Ext.refl _)
  go_wp2_with fail
  rw [HE4.out]
  refine HHV.out.mono ?_
  rintro e w5 ⟨rfl, hx5⟩
  have HX5 := Lib.hid (HX4'.out.trans hx5)
  have HX35 := Lib.hid (HX4.out.trans hx5)
  clear d0 d1 d2 d3 e0 e1 e2 e3 g0 g1 g2 g3 hx5 HHV HE4
  cases hv with
  | true =>
    have HWK := Lib.hid (wakes22_any w5 (HT.out.ext HX5.out))
    go_wp2_with fail
    refine HWK.out.mono ?_
    rintro e wz ⟨rfl, hxz⟩
    go_wp2_with fail
    go_ret
    exact ⟨rfl, (HX5.out).trans hxz⟩
  | false =>
    obtain ⟨⟨d0, d1, d2, d3⟩, -, -⟩ := HBX.out w5 HX35.out
    have HPR := Lib.hid (pred_any p _ w5 (HVp.out.later HX5.out.later))
    obtain ⟨pt, hpt⟩ : ∃ pt, pt = predT p := ⟨_, rfl⟩
    rw [← hpt] at HPR
    have HPT := Lib.hid hpt
    clear hpt
    go_wp2_with fail
    refine HPR.out.mono ?_
    rintro e w6 ⟨rfl, hx6⟩
    have HX6 := Lib.hid (HX5.out.trans hx6)
    have HX36 := Lib.hid (HX35.out.trans hx6)
    clear d0 d1 d2 d3 hx6 HPR
    by_cases hpz : pt = 0
    case neg =>
      have hpb : (pt != 0) = true := by rw [bne_iff_ne]; exact hpz
      clear hpz
      have HWK := Lib.hid (wakes22_any w6 (HT.out.ext HX6.out))
      go_wp2_with fail
      refine HWK.out.mono ?_
      rintro e wz ⟨rfl, hxz⟩
      go_wp2_with fail
      go_ret
      exact ⟨rfl, (HX6.out).trans hxz⟩
    have hpo : decide (po < 0) = false := decide_eq_false (by
      have h1 := predT_op (p := p) (by rw [← HPT.out]; exact hpz)
      have h2 := HOp.out
      omega)
    obtain ⟨⟨d0, d1, d2, d3⟩, -, -⟩ := HBX.out w6 HX36.out
    subst hpz
    go_upto_region 3 with fail
    clear d0 d1 d2 d3 hpo hd
    obtain ⟨⟨d0, d1, d2, d3⟩, -, -⟩ := HBX.out w6 HX36.out
    obtain ⟨wa1, hwwa1⟩ : ∃ W : World, w6.alloc (.cells #[.int .i8 po, .int .i8 pf, .int .u64 pn, .slice pq pl pc] 26) = W := ⟨_, rfl⟩
    have xwa1 : Ext w6 wa1 := hwwa1 ▸ Ext.alloc _ _
    have swa1 : wa1.heap.size = w6.heap.size + 1 := by rw [← hwwa1, World.size_alloc]
    obtain ⟨wa2, hwwa2⟩ : ∃ W : World, wa1.alloc (.cells #[.int .i8 6, .int .i8 0, .int .u64 0, .slice (some ⟨w6.heap.size, 0, none⟩) 1 1] 26) = W := ⟨_, rfl⟩
    have xwa2 : Ext wa1 wa2 := hwwa2 ▸ Ext.alloc _ _
    have swa2 : wa2.heap.size = w6.heap.size + 1 + 1 := by rw [← hwwa2, World.size_alloc, swa1]
    have HEA := Lib.hid (And.intro hwwa1 hwwa2)
    have HXA := Lib.hid (xwa1.trans xwa2)
    have VY := Lib.hid (show (yesT p).Val wa1 (.agg #[.int .i8 6, .int .i8 0, .int .u64 0, .slice (some ⟨w6.heap.size, 0, none⟩) 1 1]) from
      val_mk (by decide) (by decide) (by decide) _ 1 1 rfl (by decide) (by decide) (by rw [← hwwa1]; exact allAt_one (HVp.out.later HX6.out.later) _))
    have HY := Lib.hid (show ∀ W, Ext wa2 W → (W.cell? ⟨w6.heap.size + 1, 0, none⟩ = some (.int .i8 6) ∧ W.cell? ⟨w6.heap.size + 1, 1, none⟩ = some (.int .i8 0) ∧ W.cell? ⟨w6.heap.size + 1, 2, none⟩ = some (.int .u64 0) ∧ W.cell? ⟨w6.heap.size + 1, 3, none⟩ = some (.slice (some ⟨w6.heap.size, 0, none⟩) 1 1)) from fun W hW => by
      refine ⟨hW.later _ _ ?_, hW.later _ _ ?_, hW.later _ _ ?_, hW.later _ _ ?_⟩
      all_goals (rw [← hwwa2, ← swa1]; simp [go_sem]))
    have HXA1 := Lib.hid (HX6.out.trans HXA.out)
    have HXA2 := Lib.hid xwa2
    have HXA3 := Lib.hid (HX36.out.trans HXA.out)
    clear hwwa1 xwa1 swa1 hwwa2 xwa2 swa2
    go_upto_region 4 with fail
    simp only [HEA.out.1, HEA.out.2]
    clear d0 d1 d2 d3
    obtain ⟨⟨d0, d1, d2, d3⟩, -, -⟩ := HBX.out wa2 HXA3.out
    obtain ⟨wb1, hwwb1⟩ : ∃ W : World, wa2.alloc (.cells #[.int .i8 po, .int .i8 pf, .int .u64 pn, .slice pq pl pc] 26) = W := ⟨_, rfl⟩
    have xwb1 : Ext wa2 wb1 := hwwb1 ▸ Ext.alloc _ _
    have swb1 : wb1.heap.size = wa2.heap.size + 1 := by rw [← hwwb1, World.size_alloc]
    obtain ⟨wb2, hwwb2⟩ : ∃ W : World, wb1.alloc (.cells #[.int .i8 3, .int .i8 0, .int .u64 0, .slice (some ⟨wa2.heap.size, 0, none⟩) 1 1] 26) = W := ⟨_, rfl⟩
    have xwb2 : Ext wb1 wb2 := hwwb2 ▸ Ext.alloc _ _
    have swb2 : wb2.heap.size = wa2.heap.size + 1 + 1 := by rw [← hwwb2, World.size_alloc, swb1]
    obtain ⟨wb3, hwwb3⟩ : ∃ W : World, wb2.alloc (.cells #[.int .i8 6, .int .i8 0, .int .u64 0, .slice (some ⟨wa2.heap.size + 1, 0, none⟩) 1 1] 26) = W := ⟨_, rfl⟩
    have xwb3 : Ext wb2 wb3 := hwwb3 ▸ Ext.alloc _ _
    have swb3 : wb3.heap.size = wa2.heap.size + 1 + 1 + 1 := by rw [← hwwb3, World.size_alloc, swb2]
    have HEB := Lib.hid (And.intro hwwb1 (And.intro hwwb2 hwwb3))
    have HXB := Lib.hid (xwb1.trans (xwb2.trans xwb3))
    have VN := Lib.hid (show (noT p).Val wb2 (.agg #[.int .i8 6, .int .i8 0, .int .u64 0, .slice (some ⟨wa2.heap.size + 1, 0, none⟩) 1 1]) from
      val_mk (by decide) (by decide) (by decide) _ 1 1 rfl (by decide) (by decide) (by
        rw [← hwwb2, ← swb1]
        exact allAt_one (val_mk (op := 3) (by decide) (by decide) (by decide) _ 1 1 rfl (by decide) (by decide) (by rw [← hwwb1]; exact allAt_one (HVp.out.later HXA1.out.later) _)) _))
    have HN := Lib.hid (show ∀ W, Ext wb3 W → (W.cell? ⟨wa2.heap.size + 1 + 1, 0, none⟩ = some (.int .i8 6) ∧ W.cell? ⟨wa2.heap.size + 1 + 1, 1, none⟩ = some (.int .i8 0) ∧ W.cell? ⟨wa2.heap.size + 1 + 1, 2, none⟩ = some (.int .u64 0) ∧ W.cell? ⟨wa2.heap.size + 1 + 1, 3, none⟩ = some (.slice (some ⟨wa2.heap.size + 1, 0, none⟩) 1 1)) from fun W hW => by
      refine ⟨hW.later _ _ ?_, hW.later _ _ ?_, hW.later _ _ ?_, hW.later _ _ ?_⟩
      all_goals (rw [← hwwb3, ← swb2]; simp [go_sem]))
    have HXB1 := Lib.hid (HXA1.out.trans HXB.out)
    have HXB2 := Lib.hid xwb3
    have HXB3 := Lib.hid (HXA3.out.trans HXB.out)
    have hlt2 : wa2.heap.size + 1 + 1 < wb3.heap.size := by omega
    have hlt1 : w.heap.size + 1 + 1 < wb3.heap.size := by have h1 := World.block_lt_of_cell? w3 _ (HBX.out w3 (Ext.refl _)).2.2.1; have h2 := HXB3.out.size; dsimp only at h1; omega
    have HLTS := Lib.hid (And.intro hlt1 hlt2)
    clear hlt1 hlt2
    clear hwwb1 xwb1 swb1 hwwb2 xwb2 swb2 hwwb3 xwb3 swb3
    go_upto_region 5 with fail
    simp only [HEB.out.1, HEB.out.2.1, HEB.out.2.2]
    clear d0 d1 d2 d3
    obtain ⟨-, ⟨e0, e1, e2, e3⟩, ⟨g0, g1, g2, g3⟩⟩ := HBX.out wb3 HXB3.out
    obtain ⟨y0, y1, y2, y3⟩ := HY.out wb3 HXB.out
    obtain ⟨n0, n1, n2, n3⟩ := HN.out wb3 (Ext.refl _)
    obtain ⟨hlt1, hlt2⟩ := HLTS.out
    obtain ⟨wc1, hwwc1⟩ : ∃ W : World, wb3.alloc (.cells #[.int .i8 6, .int .i8 0, .int .u64 0, .slice (some ⟨w6.heap.size, 0, none⟩) 1 1, .int .i8 ao, .int .i8 af, .int .u64 an, .slice aq al ac] 26) = W := ⟨_, rfl⟩
    have xwc1 : Ext wb3 wc1 := hwwc1 ▸ Ext.alloc _ _
    have swc1 : wc1.heap.size = wb3.heap.size + 1 := by rw [← hwwc1, World.size_alloc]
    obtain ⟨wc2, hwwc2⟩ : ∃ W : World, wc1.alloc (.cells #[.int .i8 6, .int .i8 0, .int .u64 0, .slice (some ⟨wa2.heap.size + 1, 0, none⟩) 1 1, .int .i8 bo, .int .i8 bf, .int .u64 bn, .slice bq bl bc] 26) = W := ⟨_, rfl⟩
    have xwc2 : Ext wc1 wc2 := hwwc2 ▸ Ext.alloc _ _
    have swc2 : wc2.heap.size = wb3.heap.size + 1 + 1 := by rw [← hwwc2, World.size_alloc, swc1]
    obtain ⟨wc3, hwwc3⟩ : ∃ W : World, wc2.alloc (.cells #[.int .i8 9, .int .i8 0, .int .u64 0, .slice (some ⟨wb3.heap.size, 0, none⟩) 2 2, .int .i8 9, .int .i8 0, .int .u64 0, .slice (some ⟨wb3.heap.size + 1, 0, none⟩) 2 2] 26) = W := ⟨_, rfl⟩
    have xwc3 : Ext wc2 wc3 := hwwc3 ▸ Ext.alloc _ _
    have swc3 : wc3.heap.size = wb3.heap.size + 1 + 1 + 1 := by rw [← hwwc3, World.size_alloc, swc2]
    obtain ⟨wc4, hwwc4⟩ : ∃ W : World, wc3.alloc (.cells #[.int .i8 8, .int .i8 0, .int .u64 0, .slice (some ⟨wb3.heap.size + 1 + 1, 0, none⟩) 2 2] 26) = W := ⟨_, rfl⟩
    have xwc4 : Ext wc3 wc4 := hwwc4 ▸ Ext.alloc _ _
    have swc4 : wc4.heap.size = wb3.heap.size + 1 + 1 + 1 + 1 := by rw [← hwwc4, World.size_alloc, swc3]
    have HEC := Lib.hid (And.intro hwwc1 (And.intro hwwc2 (And.intro hwwc3 hwwc4)))
    have HXC := Lib.hid (xwc1.trans (xwc2.trans (xwc3.trans xwc4)))
    have VT := Lib.hid (show (chT p a b).Val wc4 (.agg #[.int .i8 8, .int .i8 0, .int .u64 0, .slice (some ⟨wb3.heap.size + 1 + 1, 0, none⟩) 2 2]) from by
      have h1 : (Tm.mk 9 0 0 [yesT p, a]).Val wc1 (.agg #[.int .i8 9, .int .i8 0, .int .u64 0, .slice (some ⟨wb3.heap.size, 0, none⟩) 2 2]) := val_mk (by decide) (by decide) (by decide) _ 2 2 rfl (by decide) (by decide) (by
        rw [← hwwc1]; exact allAt_two (VY.out.later (HXA2.out.trans HXB.out).later) (HVa.out.later HXB1.out.later) _)
      have h2 : (Tm.mk 9 0 0 [noT p, b]).Val wc2 (.agg #[.int .i8 9, .int .i8 0, .int .u64 0, .slice (some ⟨wb3.heap.size + 1, 0, none⟩) 2 2]) := val_mk (by decide) (by decide) (by decide) _ 2 2 rfl (by decide) (by decide) (by
        rw [← hwwc2, ← swc1]; exact allAt_two (VN.out.later (HXB2.out.trans xwc1).later) (HVb.out.later (HXB1.out.trans xwc1).later) _)
      have h3 : (chT p a b).Val wc3 (.agg #[.int .i8 8, .int .i8 0, .int .u64 0, .slice (some ⟨wb3.heap.size + 1 + 1, 0, none⟩) 2 2]) := val_mk (by decide) (by decide) (by decide) _ 2 2 rfl (by decide) (by decide) (by
        rw [← hwwc3, ← swc2]; exact allAt_two (h1.later xwc2.later) h2 _)
      exact h3.later xwc4.later)
    have HTC := Lib.hid (show ∀ W, Ext wc4 W → (W.cell? ⟨wb3.heap.size + 1 + 1 + 1, 0, none⟩ = some (.int .i8 8) ∧ W.cell? ⟨wb3.heap.size + 1 + 1 + 1, 1, none⟩ = some (.int .i8 0) ∧ W.cell? ⟨wb3.heap.size + 1 + 1 + 1, 2, none⟩ = some (.int .u64 0) ∧ W.cell? ⟨wb3.heap.size + 1 + 1 + 1, 3, none⟩ = some (.slice (some ⟨wb3.heap.size + 1 + 1, 0, none⟩) 2 2)) from fun W hW => by
      refine ⟨hW.later _ _ ?_, hW.later _ _ ?_, hW.later _ _ ?_, hW.later _ _ ?_⟩
      all_goals (rw [← hwwc4, ← swc3]; simp [go_sem]))
    have HXC1 := Lib.hid (HXB1.out.trans HXC.out)
    have HXC3 := Lib.hid (HXB3.out.trans HXC.out)
    clear hwwc1 xwc1 swc1 hwwc2 xwc2 swc2 hwwc3 xwc3 swc3 hwwc4 xwc4 swc4
    go_upto_region 6 with fail
    simp only [HEC.out.1, HEC.out.2.1, HEC.out.2.2.1, HEC.out.2.2.2]
    clear e0 e1 e2 e3 g0 g1 g2 g3 y0 y1 y2 y3 n0 n1 n2 n3 hlt1 hlt2
    go_wp2_with fail
    refine (newS_any wc4).mono ?_
    rintro e v1 ⟨sp, F1, rfl, hst, hF1, hv1⟩
    have HS1 := Lib.hid (show SD F1 v1 sp [] from ⟨hst, InvO.nil, wc4, HT.out.ext HXC1.out, hv1, hF1⟩)
    have HV1 := Lib.hid (And.intro hv1 hF1)
    have HOFA := Lib.hid (cof_any sp [] a _ v1 HS1.out ⟨wc4, hv1, hF1, HVa.out.later HXC1.out.later⟩)
    obtain ⟨-, ⟨e0, e1, e2, e3⟩, -⟩ := HBX.out v1 (HXC3.out.trans hv1)
    obtain ⟨Ra, hRa⟩ : ∃ Ra, Ra = ofS [] a := ⟨_, rfl⟩
    rw [← hRa] at HOFA
    have HRa := Lib.hid hRa
    clear hst hF1 hv1 hRa
    go_wp2_with fail
    refine HOFA.out.mono ?_
    intro e v2 hp
    obtain rfl := hp.1
    obtain ⟨F2, hs2, hF2, -, -, hv2⟩ := hp.ext1 HV1.out.1 HV1.out.2
    have HS2 := Lib.hid hs2
    have HV2 := Lib.hid (And.intro hv2 hF2)
    have HOFB := Lib.hid (cof_any sp Ra.2 b _ v2 HS2.out ⟨wc4, hv2, hF2, HVb.out.later HXC1.out.later⟩)
    obtain ⟨Rb, hRb⟩ : ∃ Rb, Rb = ofS Ra.2 b := ⟨_, rfl⟩
    rw [← hRb] at HOFB
    have HRb := Lib.hid hRb
    obtain ⟨-, -, ⟨g0, g1, g2, g3⟩⟩ := HBX.out v2 (HXC3.out.trans hv2)
    obtain ⟨xi, hxi⟩ : ∃ xi, xi = Ra.1.1 := ⟨_, rfl⟩
    obtain ⟨xe, hxe⟩ : ∃ xe, xe = Ra.1.2 := ⟨_, rfl⟩
    rw [← hxi, ← hxe]
    have HXI := Lib.hid (And.intro hxi hxe)
    clear hp hs2 hF2 hv2 e0 e1 e2 e3 hRb hxi hxe HOFA
    dsimp only
    go_wp2_with fail
    refine HOFB.out.mono ?_
    intro e v3 hp
    obtain rfl := hp.1
    obtain ⟨F3, hs3, hF3, -, -, hv3⟩ := hp.ext1 HV2.out.1 HV2.out.2
    have HS3 := Lib.hid hs3
    have HV3 := Lib.hid (And.intro hv3 hF3)
    have HOFT := Lib.hid (cof_any sp Rb.2 (chT p a b) _ v3 HS3.out ⟨wc4, hv3, hF3, VT.out⟩)
    obtain ⟨Rt, hRt⟩ : ∃ Rt, Rt = ofS Rb.2 (chT p a b) := ⟨_, rfl⟩
    rw [← hRt] at HOFT
    have HRt := Lib.hid hRt
    obtain ⟨t0, t1, t2, t3⟩ := HTC.out v3 hv3
    obtain ⟨yi, hyi⟩ : ∃ yi, yi = Rb.1.1 := ⟨_, rfl⟩
    obtain ⟨ye, hye⟩ : ∃ ye, ye = Rb.1.2 := ⟨_, rfl⟩
    rw [← hyi, ← hye]
    have HYI := Lib.hid (And.intro hyi hye)
    clear hp hs3 hF3 hv3 g0 g1 g2 g3 hRt hyi hye HOFB
    dsimp only
    go_wp2_with fail
    refine HOFT.out.mono ?_
    intro e v4 hp
    obtain rfl := hp.1
    obtain ⟨F4, hs4, hF4, -, -, hv4⟩ := hp.ext1 HV3.out.1 HV3.out.2
    have HS4 := Lib.hid hs4
    have HV4 := Lib.hid (And.intro hv4 hF4)
    have HX4w := Lib.hid (HXC1.out.trans hv4)
    obtain ⟨zi, hzi⟩ : ∃ zi, zi = Rt.1.1 := ⟨_, rfl⟩
    obtain ⟨ze, hze⟩ : ∃ ze, ze = Rt.1.2 := ⟨_, rfl⟩
    rw [← hzi, ← hze]
    have HZI := Lib.hid (And.intro hzi hze)
    obtain ⟨-, ⟨e0, e1, e2, e3⟩, ⟨g0, g1, g2, g3⟩⟩ := HBX.out v4 (HXC3.out.trans hv4)
    clear hp hs4 hF4 hv4 t0 t1 t2 t3 hzi hze HOFT e1 e2 e3 g1 g2 g3
    dsimp only
    by_cases hxz : xe = 0
    case neg =>
      have hxb : (xe != 0) = true := by rw [bne_iff_ne]; exact hxz
      clear hxz
      have HWK := Lib.hid (wakes22_any v4 (HT.out.ext HX4w.out))
      go_wp2_with fail
      refine HWK.out.mono ?_
      rintro e wz ⟨rfl, hxz⟩
      go_wp2_with fail
      go_ret
      exact ⟨rfl, (HX4w.out).trans hxz⟩
    have hxb : (xe != 0) = false := by rw [bne_eq_false_iff_eq]; exact hxz
    by_cases hyz : ye = 0
    case neg =>
      have hyb : (ye != 0) = true := by rw [bne_iff_ne]; exact hyz
      clear hyz hxz
      have HWK := Lib.hid (wakes22_any v4 (HT.out.ext HX4w.out))
      go_wp2_with fail
      refine HWK.out.mono ?_
      rintro e wz ⟨rfl, hxz⟩
      go_wp2_with fail
      go_ret
      exact ⟨rfl, (HX4w.out).trans hxz⟩
    have hyb : (ye != 0) = false := by rw [bne_eq_false_iff_eq]; exact hyz
    by_cases hzz : ze = 0
    case neg =>
      have hzb : (ze != 0) = true := by rw [bne_iff_ne]; exact hzz
      clear hzz hyz hxz
      have HWK := Lib.hid (wakes22_any v4 (HT.out.ext HX4w.out))
      go_wp2_with fail
      refine HWK.out.mono ?_
      rintro e wz ⟨rfl, hxz⟩
      go_wp2_with fail
      go_ret
      exact ⟨rfl, (HX4w.out).trans hxz⟩
    have hzb : (ze != 0) = false := by rw [bne_eq_false_iff_eq]; exact hzz
    by_cases ha6 : ao < 6
    case pos =>
      have hab : decide (ao < 6) = true := decide_eq_true ha6
      clear ha6 hzz hyz hxz
      have HWK := Lib.hid (wakes22_any v4 (HT.out.ext HX4w.out))
      go_wp2_with fail
      refine HWK.out.mono ?_
      rintro e wz ⟨rfl, hxz⟩
      go_wp2_with fail
      go_ret
      exact ⟨rfl, (HX4w.out).trans hxz⟩
    have hab : decide (ao < 6) = false := decide_eq_false ha6
    by_cases hb6 : bo < 6
    case pos =>
      have hbb : decide (bo < 6) = true := decide_eq_true hb6
      clear hb6 ha6 hzz hyz hxz
      have HWK := Lib.hid (wakes22_any v4 (HT.out.ext HX4w.out))
      go_wp2_with fail
      refine HWK.out.mono ?_
      rintro e wz ⟨rfl, hxz⟩
      go_wp2_with fail
      go_ret
      exact ⟨rfl, (HX4w.out).trans hxz⟩
    have hbb : decide (bo < 6) = false := decide_eq_false hb6
    -- facts
    obtain ⟨wa0, ca0, ra0⟩ := ofS_zero (L := []) (t := a) (by rw [← HRa.out, ← HXI.out.2]; exact hxz)
    rw [← HRa.out] at ra0
    obtain ⟨wb0, cb0, rb0⟩ := ofS_zero (L := Ra.2) (t := b) (by rw [← HRb.out, ← HYI.out.2]; exact hyz)
    rw [← HRb.out] at rb0
    obtain ⟨wt0, ct0, rt0⟩ := ofS_zero (L := Rb.2) (t := chT p a b) (by rw [← HRt.out, ← HZI.out.2]; exact hzz)
    rw [← HRt.out] at rt0
    obtain ⟨ra, hra⟩ : ∃ r, r = termC a [] := ⟨_, rfl⟩
    obtain ⟨rb, hrb⟩ : ∃ r, r = termC b Ra.2 := ⟨_, rfl⟩
    obtain ⟨rt, hrt⟩ : ∃ r, r = termC (chT p a b) Rb.2 := ⟨_, rfl⟩
    rw [← hra] at ra0 ca0
    rw [← hrb] at rb0 cb0
    rw [← hrt] at rt0 ct0
    have ea2 : Ra.2 = ra.2 := by rw [ra0]
    have eb2 : Rb.2 = rb.2 := by rw [rb0]
    have et2 : Rt.2 = rt.2 := by rw [rt0]
    rw [ea2] at hrb
    rw [eb2] at hrt
    have HRUN := Lib.hid (fun x : Hdr => choice_runs (p := p) (a := a) (b := b) (L := []) (ra := ra) (rb := rb) (rt := rt) Gd.nil (by have h1 := HOa.out; have h2 := HOb.out; omega) wa0 wb0 wt0 hra hrb hrt ca0 cb0 ct0 x)
    have hga : Gd ra.2 := by rw [hra]; exact (termC_steps a []).good Gd.nil
    have hgb : Gd rb.2 := by rw [hrb]; exact (termC_steps b ra.2).good hga
    have HGT := Lib.hid (show Gd rt.2 from by rw [hrt]; exact (termC_steps _ rb.2).good hgb)
    have hfa : Fine [] ra := by rw [hra]; exact termC_fine a InvO.nil
    have hfb : Fine ra.2 rb := by rw [hrb]; exact termC_fine b hga.o
    have hft : Fine rb.2 rt := by rw [hrt]; exact termC_fine _ hgb.o
    have HLT := Lib.hid (show (ra.1.2 < rt.2.length ∧ rb.1.2 < rt.2.length) ∧ rt.1.2 < rt.2.length from by
      have h1 := hfa.lt ca0
      have h2 := hfb.lt cb0
      have h3 := hft.lt ct0
      have h4 := hfb.pre.length_le
      have h5 := hft.pre.length_le
      omega)
    have HSR := Lib.hid (show SD F4 v4 sp rt.2 from by rw [← et2]; exact HS4.out)
    have hxi2 : xi = (ra.1.2 : Int) := by rw [HXI.out.1, ra0]
    have hyi2 : yi = (rb.1.2 : Int) := by rw [HYI.out.1, rb0]
    have hzi2 : zi = (rt.1.2 : Int) := by rw [HZI.out.1, rt0]
    obtain ⟨ia, hia⟩ : ∃ i, i = ra.1.2 := ⟨_, rfl⟩
    obtain ⟨ib, hib⟩ : ∃ i, i = rb.1.2 := ⟨_, rfl⟩
    obtain ⟨it, hit⟩ : ∃ i, i = rt.1.2 := ⟨_, rfl⟩
    obtain ⟨LT, hLT⟩ : ∃ i, i = rt.2 := ⟨_, rfl⟩
    rw [← hia] at hxi2
    rw [← hib] at hyi2
    rw [← hit] at hzi2
    rw [← hia, ← hib, ← hit, ← hLT] at HLT HRUN
    rw [← hLT] at HGT HSR
    subst hxi2 hyi2 hzi2 hxz hyz hzz
    clear wa0 ca0 ra0 wb0 cb0 rb0 wt0 ct0 rt0 hra hrb hrt ea2 eb2 et2 hga hgb hfa hfb hft hia hib hit hLT HXI HYI HZI HRa HRb HRt ha6 hb6
    go_upto_region 13 with fail
    clear hxb hyb hzb hab hbb e0 g0
    have HPZ := Lib.hid (show predT p = 0 from HPT.out.symm)
    have HLC := Lib.hid (show ∀ W, Ext v4 W → ((W.cell? ⟨w.heap.size, 0, none⟩ = some (.int .i8 po) ∧ W.cell? ⟨w.heap.size, 1, none⟩ = some (.int .i8 pf) ∧ W.cell? ⟨w.heap.size, 2, none⟩ = some (.int .u64 pn) ∧ W.cell? ⟨w.heap.size, 3, none⟩ = some (.slice pq pl pc))) from fun W hW => (HBX.out W (HXC3.out.trans (HV4.out.1.trans hW))).1)
    have HLEN := Lib.hid (show ln ≤ 40 from by omega)
    have hln40 : ln ≤ 40 := HLEN.out
    clear HBX h40
    go_loopw [19] (fun i wr => ∃ I : Nat, I ≤ ln ∧ i = .int .i64 I ∧ Hid (Ext v4 wr)) (fun i _ => ln - (intOf i).toNat)
    case atStart => exact ⟨0, Nat.zero_le _, rfl, Ext.refl _⟩
    case round =>
      obtain ⟨wo, rfl⟩ : ∃ wo : World, wo = wr := ⟨_, rfl⟩
      obtain ⟨I, hI, rfl, hx⟩ := hrel
      have HXO := Lib.hid (HX4w.out.trans hx.out)
      by_cases hI1 : I < ln
      case neg =>
        have HWK := Lib.hid (wakes22_any wo (HT.out.ext HXO.out))
        go_wp2_with fail
        refine HWK.out.mono ?_
        rintro e wz ⟨rfl, hxz⟩
        go_wp2_with fail
        go_ret
        exact ⟨rfl, (HXO.out).trans hxz⟩
      have hIl : I < l.length := by rw [← HLN.out]; exact hI1
      obtain ⟨lb, lo, rfl, hr⟩ : ∃ lb lo, lp = some ⟨lb, lo, none⟩ ∧ w.rangeAt lb lo (flatH l) := by
        obtain ⟨_, _, _, he, -, hor⟩ := id HHL.out
        cases he
        rcases hor with e | ⟨lb, lo, h1, -, h2⟩
        · rw [e] at hIl; simp at hIl
        · exact ⟨lb, lo, h1, h2⟩
      have hrI := rangeAt_get Hdr.len_cs hr I hIl
      obtain ⟨x, hxI⟩ : ∃ x, x = l[I] := ⟨_, rfl⟩
      rw [← hxI] at hrI
      have HRX := Lib.hid (show ∀ W, Ext w W → W.rangeAt lb (lo + I * 11) x.cs.toList from fun W hW => World.rangeAt.later hW.later hrI)
      have xd : Ext wo wo.drew := Ext.drew _
      have HXD := Lib.hid (HXO.out.trans xd)
      have HSS := Lib.hid (show ∀ W, Ext v4 W → (fun W : World => W.cell? ⟨w.heap.size, 0, none⟩ = some (.int .i8 po) ∧ W.cell? ⟨w.heap.size, 1, none⟩ = some (.int .i8 pf) ∧ W.cell? ⟨w.heap.size, 2, none⟩ = some (.int .u64 pn) ∧ W.cell? ⟨w.heap.size, 3, none⟩ = some (.slice pq pl pc) ∧ W.rangeAt lb (lo + I * 11) x.cs.toList) W from fun W hW => ⟨(HLC.out W hW).1, (HLC.out W hW).2.1, (HLC.out W hW).2.2.1, (HLC.out W hW).2.2.2, HRX.out W (HX4w.out.trans hW)⟩)
      have hS0 := HSS.out _ (hx.out.trans xd)
      have HHO := Lib.hid (Holds_any p _ x wo.drew (HVp.out.later HXD.out.later))
      have HHT := Lib.hid (show holdsT p x = p.holds x from by unfold holdsT; rw [HPZ.out]; simp)
      obtain ⟨hb, hhb⟩ : ∃ hb, hb = holdsT p x := ⟨_, rfl⟩
      rw [← hhb] at HHO HHT
      have HUS := Lib.hid (show Tryz.prog.underlying 49 = some (.array 11 23) ∧ ∀ (x : Hdr), (Tryz.prog.info? 49).map (·.size) = some x.cs.toList.length from ⟨Tryz.underlying49, fun x => by rw [x.len_cs]; kernel_rfl⟩)
      have huH := HUS.out.1
      have hiH := HUS.out.2
      have HX1x := Lib.hid (hx.out.trans xd)
      clear hIl hr hrI hxI xd hhb hx
      go_upto_region 16 with fail
      refine wp_region_held_drew (S := (fun W : World => W.cell? ⟨w.heap.size, 0, none⟩ = some (.int .i8 po) ∧ W.cell? ⟨w.heap.size, 1, none⟩ = some (.int .i8 pf) ∧ W.cell? ⟨w.heap.size, 2, none⟩ = some (.int .u64 pn) ∧ W.cell? ⟨w.heap.size, 3, none⟩ = some (.slice pq pl pc) ∧ W.rangeAt lb (lo + I * 11) x.cs.toList)) (by kernel_rfl) (hS0) (fun hHeld => ?_)
      refine tk 0 (.agg #[.int .i8 po, .int .i8 pf, .int .u64 pn, .slice pq pl pc]) ?_
      try simp only [tkN]
      refine tk 1 (.slice (some ⟨lb, lo, none⟩) ln lc) ?_
      try simp only [tkN]
      refine tk 2 (.int .i64 I) ?_
      try simp only [tkN]
      refine tk 3 (.pointer (some ⟨lb, lo + I * 11, none⟩)) ?_
      try simp only [tkN]
      refine wpAnyH_take (i := 4) (v := .agg x.cs.toList.toArray) rfl (by kernel_rfl) (by kernel_rfl) (by kernel_rfl) (fun _ _ _ h => h) ?_ (by assumption) ?_
      · try simp only [List.getElem_toArray, List.getElem_cons_zero, List.getElem_cons_succ]
        exact yieldsIf_load_mid (by rfl) _ _ rfl (lb) (lo + I * 11) rfl x.cs.toList _ (fun w hSw => hSw.2.2.2.2) huH rfl (hiH x)
      try simp only [tkN]
      refine tk1 5 rfl (AllReadyH.cons rfl (fun K hK => ?_) AllReadyH.nil)
      go_simp
      go_at_call 20
      refine (HHO.out).mono ?_
      rintro e y1 ⟨rfl, hxy1⟩
      have HY1 := Lib.hid (HX1x.out.trans hxy1)
      clear hxy1
      refine hK.out _ _ (HSS.out _ HY1.out) (fun hh5 => ?_)
      clear hK K
      try simp only [tkN]
      refine wpAnyH_done (by kernel_rfl) ?_ _
      clear hS0 hh5 huH hiH
      cases hb with
      | true =>
        have HSY := Lib.hid (HSR.out.ext HY1.out)
        have HR1 := Lib.hid (HRX.out y1 (HX4w.out.trans HY1.out))
        have HU := Lib.hid (dRun_any sp LT ia x y1 HSY.out.st HSY.out.inv HGT.out.f (by have := HSY.out.st.inv.2.1; have := HLT.out.1.1; omega))
        unfold RunPost at HU
        rw [runH_at HLT.out.1.1] at HU
        have HEQR := Lib.hid (show runsN LT ia x = runsN LT it x from by
          have h := HRUN.out x
          rw [← HHT.out] at h
          simpa using h)
        go_wp2_with (first | (refine wpList_load_H rfl _ rfl lb (lo + I * 11) rfl x HR1.out ?_))
        refine HU.out.mono ?_
        rintro e y2 ⟨⟨uv, rfl, huv⟩, hxy2⟩
        have HY2 := Lib.hid (HY1.out.trans hxy2)
        have HSY2 := Lib.hid (HSR.out.ext HY2.out)
        have HR2 := Lib.hid (HRX.out y2 (HX4w.out.trans HY2.out))
        have HUV := Lib.hid huv
        have HV := Lib.hid (dRun_any sp LT it x y2 HSY2.out.st HSY2.out.inv HGT.out.f (by have := HSY2.out.st.inv.2.1; have := HLT.out.2; omega))
        unfold RunPost at HV
        rw [runH_at HLT.out.2] at HV
        obtain ⟨uq, un, uc, rfl, -⟩ := id huv
        clear huv hxy2 HU
        dsimp only
        go_wp2_with (first | (refine wpList_load_H rfl _ rfl lb (lo + I * 11) rfl x HR2.out ?_))
        refine HV.out.mono ?_
        rintro e y3 ⟨⟨wv, rfl, hwv⟩, hxy3⟩
        have HY3 := Lib.hid (HY2.out.trans hxy3)
        have HHD := Lib.hid (heads_any (runsN LT ia x) (runsN LT it x) _ wv _ _ y3 (HUV.out.ext hxy3) hwv (by have := runsN_len (h := x) HGT.out HLT.out.1.1; omega))
        rw [decide_eq_true HEQR.out] at HHD
        obtain ⟨wq, wn, wc, rfl, -⟩ := id hwv
        clear hwv hxy3 HV
        dsimp only
        go_wp2_with fail
        refine HHD.out.mono ?_
        rintro e y4 ⟨rfl, hxy4⟩
        have HY4 := Lib.hid (HY3.out.trans hxy4)
        clear hxy4
        go_wp2_with fail
        go_roundw
        case rel => exact ⟨I + 1, by omega, by go_num, HY4.out⟩
        case measure => simp [intOf]; omega
      | false =>
        have HSY := Lib.hid (HSR.out.ext HY1.out)
        have HR1 := Lib.hid (HRX.out y1 (HX4w.out.trans HY1.out))
        have HU := Lib.hid (dRun_any sp LT ib x y1 HSY.out.st HSY.out.inv HGT.out.f (by have := HSY.out.st.inv.2.1; have := HLT.out.1.2; omega))
        unfold RunPost at HU
        rw [runH_at HLT.out.1.2] at HU
        have HEQR := Lib.hid (show runsN LT ib x = runsN LT it x from by
          have h := HRUN.out x
          rw [← HHT.out] at h
          simpa using h)
        go_wp2_with (first | (refine wpList_load_H rfl _ rfl lb (lo + I * 11) rfl x HR1.out ?_))
        refine HU.out.mono ?_
        rintro e y2 ⟨⟨uv, rfl, huv⟩, hxy2⟩
        have HY2 := Lib.hid (HY1.out.trans hxy2)
        have HSY2 := Lib.hid (HSR.out.ext HY2.out)
        have HR2 := Lib.hid (HRX.out y2 (HX4w.out.trans HY2.out))
        have HUV := Lib.hid huv
        have HV := Lib.hid (dRun_any sp LT it x y2 HSY2.out.st HSY2.out.inv HGT.out.f (by have := HSY2.out.st.inv.2.1; have := HLT.out.2; omega))
        unfold RunPost at HV
        rw [runH_at HLT.out.2] at HV
        obtain ⟨uq, un, uc, rfl, -⟩ := id huv
        clear huv hxy2 HU
        dsimp only
        go_wp2_with (first | (refine wpList_load_H rfl _ rfl lb (lo + I * 11) rfl x HR2.out ?_))
        refine HV.out.mono ?_
        rintro e y3 ⟨⟨wv, rfl, hwv⟩, hxy3⟩
        have HY3 := Lib.hid (HY2.out.trans hxy3)
        have HHD := Lib.hid (heads_any (runsN LT ib x) (runsN LT it x) _ wv _ _ y3 (HUV.out.ext hxy3) hwv (by have := runsN_len (h := x) HGT.out HLT.out.1.2; omega))
        rw [decide_eq_true HEQR.out] at HHD
        obtain ⟨wq, wn, wc, rfl, -⟩ := id hwv
        clear hwv hxy3 HV
        dsimp only
        go_wp2_with fail
        refine HHD.out.mono ?_
        rintro e y4 ⟨rfl, hxy4⟩
        have HY4 := Lib.hid (HY3.out.trans hxy4)
        clear hxy4
        go_wp2_with fail
        go_roundw
        case rel => exact ⟨I + 1, by omega, by go_num, HY4.out⟩
        case measure => simp [intOf]; omega

end Go.Proofs.YtjjbdbklbghlhaaGreatDoor
/- CompileChoice returns true for every input, and each argument reads behind the call as before it. Conditions: the tables as laid. -/
namespace Go.Proofs.YtjjbdbklbghlhaaGreatDoor
open Go.ChangeShapes Go.WideShapes Go.ChangeAt Go.RowKit
set_option linter.unusedSimpArgs false

set_option maxRecDepth 100000 in
theorem compileChoice_lifted (os : Os) (started : os.Started) (H : Type) (enc : TypeId × Value → H) :
    ReturnsInHanded {} Tryz.checked os 6 .any (fun w args => (Rows.compileChoiceSpec.pre enc Tryz.prog Tryz.f6 Rows.compileChoiceRow.domain false w args ∧ laidMet Tryz.prog laid20 w) ∧ sizedMet enc Tryz.prog Tryz.f6 (OpenSpec.ofChange Rows.compileChoiceSpec) false w args) (Rows.compileChoiceSpec.post enc Tryz.prog Tryz.f6 false true false false) := by
  refine returnsInHanded_of_change_and (C := Tryz.checked) (X := fun w _ => laidMet Tryz.prog laid20 w) (fun _ _ _ hh h => h.of_heap hh) ownL started (by kernel_rfl) Tryz.func6
    (ChangeSpec.witness_at (enc := enc) (C := Tryz.checked) (os := os) (X := fun w _ => laidMet Tryz.prog laid20 w) false (laidWorld os) #[.agg #[.int .i8 0, .int .i8 0, .int .u64 0, .slice none 0 0], .agg #[.int .i8 0, .int .i8 0, .int .u64 0, .slice none 0 0], .agg #[.int .i8 0, .int .i8 0, .int .u64 0, .slice none 0 0], .slice none 0 0] 8 rfl (by kernel_rfl) (by kernel_rfl) (by kernel_rfl) (by kernel_rfl) (by kernel_rfl) (laid_met os _)) ?_
  intro W base args ds gs before hval0 hW hcnd hwt hL _
  have hval : ∀ (j : Nat) t v, Tryz.f6.params[j]? = some t → args[j]? = some v → Value.okWide Tryz.prog W .any base t v := hval0
  have hW' := hW
  obtain ⟨p, q, hA0, hV, rfl, hfz, hnd⟩ := hW
  have hA : DataW.TrodAll enc Tryz.prog W 0 (fun _ => true) true Tryz.f6.params.toList args.toList ds p := hA0
  rw [Tryz.params6] at hA hval
  obtain ⟨v0, v1, v2, v3, d0, d1, d2, d3, p0, p1, p2, p3, rfl, rfl, rfl, h0, h1, h2, h3⟩ := trodAll_four hA
  obtain ⟨rfl, rfl⟩ := trodVars_none hV
  obtain ⟨x0, w0⟩ := term_val (hval 0 26 v0 rfl rfl) h0
  obtain ⟨x1, w1⟩ := term_val (hval 1 26 v1 rfl rfl) h1
  obtain ⟨x2, w2⟩ := term_val (hval 2 26 v2 rfl rfl) h2
  obtain ⟨l3, w3⟩ := hdrs_val (hval 3 36 v3 rfl rfl) h3
  have hlt : ∀ y ∈ p0 ++ (p1 ++ (p2 ++ p3)), y.block < W.heap.size := fun y hy => hW'.lt y (by simpa using hy)
  simp only [List.append_nil, List.append_assoc] at hW'
  refine (lawCChoice_any x0 x1 x2 l3 v0 v1 v2 v3 W w0 w1 w2 w3 (tb_of_laid hL)).mono fun e W' ⟨he, hw⟩ => ?_
  subst he
  have hb : Below W.heap.size W W' := hw
  exact ⟨_, rfl, post_below (pa := p0 ++ (p1 ++ (p2 ++ p3))) (pv := []) hW' (fun _ _ _ => trodAll_mk1 (shut_bool Tryz.underlying4 true))
    (fun sp hsp => trodAll_mk4 (stays_T sp h0 hb (fun y hy => hlt y (List.mem_append_left _ hy)) (fun y hy => hsp y (List.mem_append_left _ hy))) (stays_T sp h1 hb (fun y hy => hlt y (List.mem_append_right _ (List.mem_append_left _ hy))) (fun y hy => hsp y (List.mem_append_right _ (List.mem_append_left _ hy)))) (stays_T sp h2 hb (fun y hy => hlt y (List.mem_append_right _ (List.mem_append_right _ (List.mem_append_left _ hy)))) (fun y hy => hsp y (List.mem_append_right _ (List.mem_append_right _ (List.mem_append_left _ hy))))) (stays_Hs sp h3 hb (fun y hy => hlt y (List.mem_append_right _ (List.mem_append_right _ (List.mem_append_right _ hy)))) (fun y hy => hsp y (List.mem_append_right _ (List.mem_append_right _ (List.mem_append_right _ hy))))))
    (fun _ _ => rfl) (by simp) hb (ok_one (by kernel_rfl) rfl (okWide_bool_mk Tryz.underlying4 true))⟩

theorem CompileChoice_holds : Rows.CompileChoiceSaid :=
  OpenClaim.holds_of_wide 6 Tryz.f6 rfl rfl rfl rfl rfl rfl rfl ⟨rfl, rfl, rfl, rfl, rfl⟩ rfl rfl rfl rfl rfl (by kernel_rfl) Tryz.func6 (by kernel_rfl)
    (of_decide_eq_true (by kernel_rfl)) (by unfold Func.isWrapper; first | (rw [if_pos (by decide +kernel)]; kernel_rfl) | (rw [if_neg (by decide +kernel)]; exact ⟨rfl, rfl⟩))
    (fun os started H enc _ => compileChoice_lifted os started H enc)
#print axioms CompileChoice_holds
end Go.Proofs.YtjjbdbklbghlhaaGreatDoor
/- The tied card of CompileChoice. -/
namespace Go.Proofs.YtjjbdbklbghlhaaGreatDoor
open Go
set_option linter.unusedSimpArgs false
theorem CompileChoice_card : Rows.CompileChoiceCardSaid :=
  Claim7.holds_tied_plain_at .later [] [.data, .data, .data] true (true, "897f12f2e920dbc4282a1e707cc9a5a53cb8e2ee45049fbcb54b6b014209edab") true
    CompileChoice_holds (fun _ h => by cases h) (by kernel_rfl) (fun _ h => by cases h) compileChoice_row_tie rfl ⟨rfl, rfl⟩ (by kernel_rfl) rfl
    (fun f fn hf hfn => by
      obtain rfl : f = 6 := Option.some.inj ((show Tryz.prog.funcNamed "tollbridge/tollbridgelaw22.CompileChoice" = some 6 by kernel_rfl).symm.trans hf) |>.symm
      obtain rfl : fn = Tryz.f6 := (Option.some.inj (Tryz.func6.symm.trans hfn)).symm
      exact ⟨by kernel_rfl, fun j t ht => by
        rw [Tryz.params6] at ht
        have hm : t ∈ ([26, 26, 26, 36] : List TypeId) := by simpa using Array.mem_of_getElem? ht
        have hall : (([26, 26, 26, 36] : List TypeId).all fun u => !Tryz.prog.wantsStandIn u) = true := by kernel_rfl
        exact (show Tryz.prog.wantsStandIn t = false by simpa using List.all_eq_true.1 hall t hm)⟩)
    (by kernel_rfl)
#print axioms CompileChoice_card
end Go.Proofs.YtjjbdbklbghlhaaGreatDoor
