/- law 12's Heads, law 30's over. -/
import Derived.Test.YtddeelepaiklgaaJOver
namespace Go.Proofs.Ytddeelepaiklgaa
open Go.RowKit Go.Maps
set_option linter.unusedSimpArgs false

set_option maxRecDepth 100000 in
set_option maxHeartbeats 2000000 in
theorem heads_any (l m : List Hdr) (u v : Value) (lo lo' : Nat) (w : World) (hu : HSl w lo l u) (hv : HSl w lo' m v) (h64 : l.length ≤ 65600) :
    Calls Try.prog 17 #[u, v] w fun e w' => e = .returned (.bool (decide (l = m))) ∧ Ext w w' := by
  obtain ⟨p, len, cap, rfl, hlen, hl⟩ := hu
  obtain ⟨p', len', cap', rfl, hlen', hm⟩ := hv
  have HL := Lib.hid hlen
  have HL' := Lib.hid hlen'
  clear hlen hlen'
  have hlen64 : len ≤ 65600 := by have := HL.out; omega
  by_cases hn : len = len'
  · subst hn
    have hd : ((len : Int) != len) = false := by simp
    go_enter Try.func17, Try.ntmps17
    go_wp2_with fail
    go_loopw [5] (fun i wr => ∃ (j n : Nat), j ≤ len ∧ i = .int .i64 j ∧ Hid (decide (l = m) = decide (l.drop j = m.drop j)) ∧ wr = w.drewN n) (fun i _ => len - (intOf i).toNat)
    case atStart => exact ⟨0, 0, Nat.zero_le _, rfl, rfl, rfl⟩
    case round =>
      obtain ⟨j, n, hj, rfl, hR, rfl⟩ := hrel
      by_cases hlt : j < len
      · have hjl : j < l.length := by rw [← HL.out]; exact hlt
        have hjm : j < m.length := by rw [← HL'.out]; exact hlt
        rcases hl with hl | ⟨b, o, rfl, -, hr⟩
        · exfalso; subst hl; simp at hjl
        rcases hm with hm | ⟨b', o', rfl, -, hr'⟩
        · exfalso; subst hm; simp at hjm
        have hrj := rangeAt_get Hdr.len_cs hr j hjl
        have hrj' := rangeAt_get Hdr.len_cs hr' j hjm
        have p0 : w.cell? ⟨b, o + j * 11, none⟩ = some (.int .u64 ((l[j]).f 0)) := cellAt hrj 0 (by omega)
        have p1 : w.cell? ⟨b, o + j * 11 + 1, none⟩ = some (.int .u64 ((l[j]).f 1)) := cellAt hrj 1 (by omega)
        have p2 : w.cell? ⟨b, o + j * 11 + 2, none⟩ = some (.int .u64 ((l[j]).f 2)) := cellAt hrj 2 (by omega)
        have p3 : w.cell? ⟨b, o + j * 11 + 3, none⟩ = some (.int .u64 ((l[j]).f 3)) := cellAt hrj 3 (by omega)
        have p4 : w.cell? ⟨b, o + j * 11 + 4, none⟩ = some (.int .u64 ((l[j]).f 4)) := cellAt hrj 4 (by omega)
        have p5 : w.cell? ⟨b, o + j * 11 + 5, none⟩ = some (.int .u64 ((l[j]).f 5)) := cellAt hrj 5 (by omega)
        have p6 : w.cell? ⟨b, o + j * 11 + 6, none⟩ = some (.int .u64 ((l[j]).f 6)) := cellAt hrj 6 (by omega)
        have p7 : w.cell? ⟨b, o + j * 11 + 7, none⟩ = some (.int .u64 ((l[j]).f 7)) := cellAt hrj 7 (by omega)
        have p8 : w.cell? ⟨b, o + j * 11 + 8, none⟩ = some (.int .u64 ((l[j]).f 8)) := cellAt hrj 8 (by omega)
        have p9 : w.cell? ⟨b, o + j * 11 + 9, none⟩ = some (.int .u64 ((l[j]).f 9)) := cellAt hrj 9 (by omega)
        have p10 : w.cell? ⟨b, o + j * 11 + 10, none⟩ = some (.int .u64 ((l[j]).f 10)) := cellAt hrj 10 (by omega)
        have q0 : w.cell? ⟨b', o' + j * 11, none⟩ = some (.int .u64 ((m[j]).f 0)) := cellAt hrj' 0 (by omega)
        have q1 : w.cell? ⟨b', o' + j * 11 + 1, none⟩ = some (.int .u64 ((m[j]).f 1)) := cellAt hrj' 1 (by omega)
        have q2 : w.cell? ⟨b', o' + j * 11 + 2, none⟩ = some (.int .u64 ((m[j]).f 2)) := cellAt hrj' 2 (by omega)
        have q3 : w.cell? ⟨b', o' + j * 11 + 3, none⟩ = some (.int .u64 ((m[j]).f 3)) := cellAt hrj' 3 (by omega)
        have q4 : w.cell? ⟨b', o' + j * 11 + 4, none⟩ = some (.int .u64 ((m[j]).f 4)) := cellAt hrj' 4 (by omega)
        have q5 : w.cell? ⟨b', o' + j * 11 + 5, none⟩ = some (.int .u64 ((m[j]).f 5)) := cellAt hrj' 5 (by omega)
        have q6 : w.cell? ⟨b', o' + j * 11 + 6, none⟩ = some (.int .u64 ((m[j]).f 6)) := cellAt hrj' 6 (by omega)
        have q7 : w.cell? ⟨b', o' + j * 11 + 7, none⟩ = some (.int .u64 ((m[j]).f 7)) := cellAt hrj' 7 (by omega)
        have q8 : w.cell? ⟨b', o' + j * 11 + 8, none⟩ = some (.int .u64 ((m[j]).f 8)) := cellAt hrj' 8 (by omega)
        have q9 : w.cell? ⟨b', o' + j * 11 + 9, none⟩ = some (.int .u64 ((m[j]).f 9)) := cellAt hrj' 9 (by omega)
        have q10 : w.cell? ⟨b', o' + j * 11 + 10, none⟩ = some (.int .u64 ((m[j]).f 10)) := cellAt hrj' 10 (by omega)
        have hg := guardH
        have HE := Lib.hid (show decide (l = m) = if l[j] = m[j] then decide (l.drop (j + 1) = m.drop (j + 1)) else false from by
          rw [hR.out, drop_get hjl, drop_get hjm]
          rw [Bool.eq_iff_iff]
          by_cases h : l[j] = m[j]
          · rw [if_pos h, decide_eq_true_iff, decide_eq_true_iff, List.cons.injEq]; exact ⟨fun a => a.2, fun a => ⟨h, a⟩⟩
          · rw [if_neg h, decide_eq_true_iff, List.cons.injEq]; exact ⟨fun a => absurd a.1 h, fun a => by cases a⟩)
        have he := eqH (l[j]) (m[j])
        simp only [Hdr.cs_eq] at he
        generalize l[j] = x at *
        generalize m[j] = y at *
        by_cases hxy : x = y
        · have HF := Lib.hid (HE.out.trans (if_pos hxy))
          rw [show decide (x = y) = true from by simpa using hxy] at he
          clear hxy HE
          go_wp2_with fail
          go_quiet (fail)
          go_wp2_with fail
          go_roundw
          case rel => exact ⟨j + 1, _, by omega, by go_num, HF.out, rfl⟩
          case measure => simp [intOf]; omega
        · have HF := Lib.hid (HE.out.trans (if_neg hxy))
          rw [show decide (x = y) = false from by simpa using hxy] at he
          clear hxy HE
          go_wp2_with fail
          go_quiet (fail)
          go_wp2_with fail
          go_ret
          exact ⟨by rw [HF.out]; rfl, (Ext.drewN _ _).andDrewN _⟩
      · have HF := Lib.hid (show decide (l = m) = true from by
          rw [hR.out, List.drop_of_length_le (by have := HL.out; omega), List.drop_of_length_le (by have := HL'.out; omega)]; rfl)
        go_wp2_with fail
        go_ret
        exact ⟨by rw [HF.out]; rfl, Ext.drewN _ _⟩
  · have HF := Lib.hid (show decide (l = m) = false from by
      simp only [decide_eq_false_iff_not]
      rintro rfl
      exact hn (HL.out.trans HL'.out.symm))
    have hd : ((len : Int) != len') = true := by simp; omega
    go_enter Try.func17, Try.ntmps17
    go_wp2_with fail
    go_ret
    exact ⟨by rw [HF.out]; rfl, Ext.refl _⟩

def loverL (s p : Int) : List WireD → Bool
  | [] => false
  | q :: qs => ((q.a == s && q.ap == p) || (q.b == s && q.bp == p)) || loverL s p qs
theorem lover_none (s p : Int) : ∀ (l : List WireD), overP s p l = none → loverL s p l = false
  | [], _ => rfl
  | q :: qs, h => by
    rw [overP] at h
    split at h
    · cases h
    · rename_i h1
      split at h
      · cases h
      · rename_i h2
        rw [loverL, lover_none s p qs h]
        have e1 : (q.a == s && q.ap == p) = false := by
          rw [Bool.eq_false_iff]; intro e; simp at e; exact h1 e
        have e2 : (q.b == s && q.bp == p) = false := by
          rw [Bool.eq_false_iff]; intro e; simp at e; exact h2 e
        rw [e1, e2]; rfl

set_option maxHeartbeats 4000000 in
set_option maxRecDepth 100000 in
theorem lover_any (l : List WireD) (lv : Value) (x : Hdr) (w : World) (hl : SlOf WAt 4 w l lv) :
    Calls Try.prog 21 #[lv, .agg x.cs] w fun e w' => e = .returned (.bool (loverL (x.f 10) (x.f 9) l)) ∧ Ext w w' := by
  obtain ⟨pl, len, cap, rfl, hlen, hlc, hcm, hls⟩ := hl
  have HL := Lib.hid hlen
  have HLS := Lib.hid (show l = [] ∨ ∃ b o, pl = some ⟨b, o, none⟩ ∧ ∀ W, Ext w W → ∀ i (h : i < l.length), W.rangeAt b (o + i * 4) (l[i]).cs ∧ (0 ≤ (l[i]).a ∧ (l[i]).a ≤ 65535) ∧ (0 ≤ (l[i]).ap ∧ (l[i]).ap ≤ 65535) ∧ (0 ≤ (l[i]).b ∧ (l[i]).b ≤ 65535) ∧ (0 ≤ (l[i]).bp ∧ (l[i]).bp ≤ 65535) from
    hls.imp id fun ⟨b, o, hp, hr⟩ => ⟨b, o, hp, fun W hW i h => ⟨World.rangeAt.later hW.later (hr i h).1, (hr i h).2⟩⟩)
  obtain ⟨wA, hA⟩ : ∃ W : World, w.alloc (.cells x.cs 24) = W := ⟨_, rfl⟩
  have xA : Ext w wA := hA ▸ Ext.alloc _ _
  have rA : wA.rangeAt w.heap.size 0 x.cs.toList := by rw [← hA]; exact rangeAt_new w x.cs 24
  have HC := Lib.hid (fun W (hW : Ext wA W) => show W.cell? ⟨w.heap.size, 9, none⟩ = some (.int .u64 (x.f 9)) ∧ W.cell? ⟨w.heap.size, 10, none⟩ = some (.int .u64 (x.f 10)) from by
    have hr := World.rangeAt.later hW.later rA
    have c9 := cellAt hr 9 (by omega)
    have c10 := cellAt hr 10 (by omega)
    simp only [Nat.zero_add] at c9 c10
    exact ⟨c9, c10⟩)
  have HX := Lib.hid xA
  have HEQ := Lib.hid hA
  clear hA xA rA hls hlen
  generalize x.f 9 = p at *
  generalize x.f 10 = s at *
  go_enter Try.func21, Try.ntmps21
  go_upto_region 1 with fail
  rw [HEQ.out]
  clear HEQ
  go_wp2_with fail
  go_loopw [5] (fun i wr => ∃ j : Nat, j ≤ len ∧ i = .int .i64 j ∧ Hid (loverL s p (l.drop j) = loverL s p l) ∧ Hid (Ext wA wr)) (fun i _ => len - (intOf i).toNat)
  case atStart => exact ⟨0, Nat.zero_le _, rfl, rfl, Ext.refl _⟩
  case round =>
    obtain ⟨wn, rfl⟩ : ∃ wn : World, wn = wr := ⟨_, rfl⟩
    obtain ⟨j, hj, rfl, hT, hx⟩ := hrel
    by_cases hlt : j < len
    · have hjl : j < l.length := by rw [← HL.out]; exact hlt
      rcases HLS.out with hls | ⟨b, o, rfl, hls⟩
      · exfalso; subst hls; simp at hjl
      obtain ⟨hr, ba, bap, bb, bbp⟩ := hls wn (HX.out.trans hx.out) j hjl
      have hT2 := hT.out
      rw [drop_get hjl, loverL] at hT2
      generalize l[j] = q at *
      have d0 : wn.cell? ⟨b, o + j * 4, none⟩ = some (.int .u16 q.a) := by simpa using hr 0 _ rfl
      have d1 : wn.cell? ⟨b, o + j * 4 + 1, none⟩ = some (.int .u16 q.ap) := by simpa using hr 1 _ rfl
      have d2 : wn.cell? ⟨b, o + j * 4 + 2, none⟩ = some (.int .u16 q.b) := by simpa using hr 2 _ rfl
      have d3 : wn.cell? ⟨b, o + j * 4 + 3, none⟩ = some (.int .u16 q.bp) := by simpa using hr 3 _ rfl
      obtain ⟨wS, hS⟩ : ∃ W : World, wn.alloc (.cells #[.int .u16 q.a, .int .u16 q.ap] 58) = W := ⟨_, rfl⟩
      have xS : Ext wn wS := hS ▸ Ext.alloc _ _
      have sS : wS.heap.size = wn.heap.size + 1 := by rw [← hS, World.size_alloc]
      obtain ⟨wU, hU⟩ : ∃ W : World, wS.alloc (.cells #[.int .u16 q.b, .int .u16 q.bp] 58) = W := ⟨_, rfl⟩
      have xU : Ext wS wU := hU ▸ Ext.alloc _ _
      have e0 : wU.cell? ⟨wn.heap.size, 0, none⟩ = some (.int .u16 q.a) := xU.later _ _ (by rw [← hS]; simp [go_sem])
      have e1 : wU.cell? ⟨wn.heap.size, 1, none⟩ = some (.int .u16 q.ap) := xU.later _ _ (by rw [← hS]; simp [go_sem])
      have e2 : wU.cell? ⟨wn.heap.size + 1, 0, none⟩ = some (.int .u16 q.b) := by rw [← hU, ← sS]; simp [go_sem]
      have e3 : wU.cell? ⟨wn.heap.size + 1, 1, none⟩ = some (.int .u16 q.bp) := by rw [← hU, ← sS]; simp [go_sem]
      have d2' := xS.later _ _ d2
      have d3' := xS.later _ _ d3
      have HXU := Lib.hid (hx.out.trans (xS.trans xU))
      have HEQ := Lib.hid (And.intro hS hU)
      obtain ⟨c9, c10⟩ := HC.out _ HXU.out
      have wa : IntKind.u64.wrap q.a = q.a := by rw [IntKind.wrap_u64]; omega
      have wap : IntKind.u64.wrap q.ap = q.ap := by rw [IntKind.wrap_u64]; omega
      have wb : IntKind.u64.wrap q.b = q.b := by rw [IntKind.wrap_u64]; omega
      have wbp : IntKind.u64.wrap q.bp = q.bp := by rw [IntKind.wrap_u64]; omega
      clear hr hS hU xS xU hT hls
      go_upto_region 5 with (first
        | (refine wpList_store_new rfl 58 _ _ rfl _ #[.int .u16 q.a, .int .u16 q.ap] rfl rfl (by kernel_rfl) rfl (by rfl) ?_))
      rw [HEQ.out.1]
      try simp only [Act.put]
      go_upto_region 6 with (first
        | (refine wpList_store_new rfl 58 _ _ rfl _ #[.int .u16 q.b, .int .u16 q.bp] rfl rfl (by kernel_rfl) rfl (by rfl) ?_))
      try rw [sS]
      rw [HEQ.out.2]
      try simp only [Act.put]
      clear HEQ d0 d1 d2 d3 d2' d3'
      have HT2 := Lib.hid hT2
      clear hT2
      cases hA : (q.a == s) <;> cases hB : (q.ap == p) <;> cases hC : (q.b == s) <;> cases hD : (q.bp == p)
      all_goals (have HT3 := HT2.out; rw [hA, hB, hC, hD] at HT3)
      all_goals first
        | (have HF := Lib.hid (show loverL s p l = true from by rw [← HT3]; rfl)
           clear HT3
           go_wp2_with fail
           go_ret
           exact ⟨by rw [HF.out]; rfl, HX.out.trans HXU.out⟩)
        | (have HF := Lib.hid (show loverL s p (l.drop (j + 1)) = loverL s p l from by rw [← HT3]; rfl)
           clear HT3
           go_wp2_with fail
           go_roundw
           case rel => exact ⟨j + 1, by omega, by go_num, HF.out, HXU.out⟩
           case measure => simp [intOf]; omega)
    · have HF := Lib.hid (show loverL s p l = false from by
        rw [← hT.out, List.drop_of_length_le (by have := HL.out; omega), loverL])
      clear hT
      go_wp2_with fail
      go_ret
      exact ⟨by rw [HF.out]; rfl, HX.out.trans hx.out⟩
end Go.Proofs.Ytddeelepaiklgaa
