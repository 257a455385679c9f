/- policy.Check, with queries. -/
import Derived.Test.YtddeelepaiklgaaJPol
import Derived.Test.YtddeelepaiklgaaAll
namespace Go.Proofs.Ytddeelepaiklgaa
open Go.RowKit Go.Maps
set_option linter.unusedSimpArgs false

theorem qs_cells {w : World} {q : Qr} {b o : Nat} (h : QAt w q b o) : ∃ p len cap, w.cell? ⟨b, o, none⟩ = some (.string q.1.1) ∧ w.cell? ⟨b, o + 1, none⟩ = some (.int .i8 q.2.op) ∧ w.cell? ⟨b, o + 2, none⟩ = some (.int .i8 q.2.fld) ∧ w.cell? ⟨b, o + 3, none⟩ = some (.int .u64 q.2.n) ∧ w.cell? ⟨b, o + 4, none⟩ = some (.slice p len cap) ∧
    q.2.Val w (.agg #[.int .i8 q.2.op, .int .i8 q.2.fld, .int .u64 q.2.n, .slice p len cap]) := by
  obtain ⟨cs, hv, hr, -⟩ := h.2.val
  have hv' := hv
  obtain ⟨cs', he, s, rfl, -, -, -, p, len, cap, rfl, -⟩ := hv
  cases he
  refine ⟨p, len, cap, h.1, ?_, ?_, ?_, ?_, hv'⟩
  · simpa using hr 0 _ rfl
  · simpa [Nat.add_assoc] using hr 1 _ rfl
  · simpa [Nat.add_assoc] using hr 2 _ rfl
  · simpa [Nat.add_assoc] using hr 3 _ rfl

theorem zeroI (w : World) : (zeroValue 3).run Try.prog w = .ok (.int .i64 0) w := by kernel_rfl
theorem look_one {x : Str} : ∀ {l : List Str}, look x (l.map fun n => (n, 1)) = if l.any (fun s => decide (s = x)) then some 1 else none
  | [] => rfl
  | y :: ys => by
    by_cases h : y = x
    · rw [List.any_cons, decide_eq_true h, Bool.true_or, if_pos rfl, List.map_cons, look, if_pos h]
    · rw [List.any_cons, decide_eq_false h, Bool.false_or, List.map_cons, look, if_neg h, look_one]
theorem not_anyS {x : Str} {l : List Str} (h : l.any (fun s => decide (s = x)) = false) : x ∉ l := fun hm => by
  have : l.any (fun s => decide (s = x)) = true := List.any_eq_true.2 ⟨x, hm, by simp⟩
  rw [h] at this; cases this
theorem keys_one {l : List Str} (h : l.Nodup) : (((l.map fun n => (n, 1)) : List (Str × Nat)).map (·.1)).Nodup := by
  rw [List.map_map]; exact (by simpa using h : (l.map fun n => n).Nodup)

set_option maxHeartbeats 4000000 in
set_option maxRecDepth 100000 in
theorem checkQ_any (t : Tm) (qs : List Qr) (v : Value) (w : World) (hv : PVal w t qs v) :
    Calls Try.prog 19 #[v] w fun e w' => e = .returned (.int .i64 (checkP t qs)) ∧ Ext w w' := by
  obtain ⟨p, len, cap, _, rfl, hvt, pq, lq, cq, rfl, hlen, hlc, hcm, hks⟩ := hv
  have HL := Lib.hid hlen
  by_cases h32 : 32 < lq
  · have HF := Lib.hid (show checkP t qs = 200 from by unfold checkP; rw [if_pos (by omega)])
    go_enter Try.func19, Try.ntmps19
    go_wp2_with fail
    go_ret
    exact ⟨by rw [HF.out]; rfl, Ext.alloc _ _⟩
  have HP := Lib.hid (show checkP t qs = if bigB (t :: qs.map (·.2)) then 200 else if t.right false then (if qsB [] qs then 0 else 170) else 170 from by unfold checkP; rw [if_neg (by omega)])
  obtain ⟨wA, hA⟩ : ∃ W : World, w.alloc (.cells #[.int .i8 t.op, .int .i8 t.fld, .int .u64 t.n, .slice p len cap, .slice pq lq cq] 34) = W := ⟨_, rfl⟩
  have xA : Ext w wA := hA ▸ Ext.alloc _ _
  have sA : wA.heap.size = w.heap.size + 1 := by rw [← hA, World.size_alloc]
  have rA : wA.rangeAt w.heap.size 0 [.int .i8 t.op, .int .i8 t.fld, .int .u64 t.n, .slice p len cap, .slice pq lq cq] := by
    have := rangeAt_new w #[.int .i8 t.op, .int .i8 t.fld, .int .u64 t.n, .slice p len cap, .slice pq lq cq] 34
    rw [hA] at this
    exact this
  obtain ⟨wB, hB⟩ : ∃ W : World, wA.alloc (.cells #[.int .i8 t.op, .int .i8 t.fld, .int .u64 t.n, .slice p len cap] 31) = W := ⟨_, rfl⟩
  have xB : Ext wA wB := hB ▸ Ext.alloc _ _
  have sB : wB.heap.size = w.heap.size + 2 := by rw [← hB, World.size_alloc, sA]
  have HO := Lib.hid (show wB.ownsRow (w.heap.size + 1) 31 4 (.slice (some ⟨w.heap.size + 1, 0, none⟩) 1 1) [(t, Value.slice p len cap)].length (flatT [(t, Value.slice p len cap)]) from by
    have := World.ownsRow_lit (base := w.heap.size + 1) (e := 31) (size := 4) wA #[.int .i8 t.op, .int .i8 t.fld, .int .u64 t.n, .slice p len cap] 1 (by omega) (by unfold maxLen; omega) rfl
    rw [hB, sA] at this
    exact this)
  have HRA := Lib.hid (fun W (hW : Ext wA W) => World.rangeAt.later hW.later rA)
  have HX := Lib.hid xA
  have HXB := Lib.hid xB
  have HEQ := Lib.hid (show w.alloc (.cells #[.int .i8 t.op, .int .i8 t.fld, .int .u64 t.n, .slice p len cap, .slice pq lq cq] 34) = wA ∧ wA.alloc (.cells #[.int .i8 t.op, .int .i8 t.fld, .int .u64 t.n, .slice p len cap] 31) = wB from ⟨hA, hB⟩)
  have HVT := Lib.hid (fun W (hW : Ext wA W) => hvt.later (xA.trans hW).later)
  have HQ := Lib.hid (show qs = [] ∨ ∃ b o, pq = some ⟨b, o, none⟩ ∧ ∀ W, Ext wA W → QsAt W qs b o from hks.imp id fun ⟨b, o, hp, hq⟩ => ⟨b, o, hp, fun W hW => hq.later (xA.trans hW).later⟩)
  have cs5 : ∀ W, Ext wA W → W.cell? ⟨w.heap.size, 0, none⟩ = some (.int .i8 t.op) ∧ W.cell? ⟨w.heap.size, 1, none⟩ = some (.int .i8 t.fld) ∧ W.cell? ⟨w.heap.size, 2, none⟩ = some (.int .u64 t.n) ∧ W.cell? ⟨w.heap.size, 3, none⟩ = some (.slice p len cap) ∧ W.cell? ⟨w.heap.size, 4, none⟩ = some (.slice pq lq cq) := fun W hW => by
    have hr := HRA.out W hW
    exact ⟨by simpa using hr 0 _ rfl, by simpa using hr 1 _ rfl, by simpa using hr 2 _ rfl, by simpa using hr 3 _ rfl, by simpa using hr 4 _ rfl⟩
  have HC5 := Lib.hid cs5
  obtain ⟨a0, a1, a2, a3, a4⟩ := cs5 _ (Ext.refl _)
  have hsAB : wA.heap.size ≤ wB.heap.size := xB.size
  clear rA xA hA xB hB hvt hks hlen cs5
  go_enter Try.func19, Try.ntmps19
  go_upto_region 1 with fail
  rw [HEQ.out.1]
  go_upto_region 4 with fail
  rw [HEQ.out.2]
  try rw [sA]
  clear HEQ a0 a1 a2 a3 a4
  obtain ⟨b0, b1, b2, b3, b4⟩ := HC5.out _ HXB.out
  go_wp2_with fail
  clear b0 b1 b2 b3 b4
  go_loopw [3, 19] (fun u i wr => ∃ (j : Nat) (l : List (Tm × Value)), j ≤ lq ∧ i = .int .i64 j ∧ wr.ownsRow (w.heap.size + 1) 31 4 u l.length (flatT l) ∧ Hid (l.map (·.1) = t :: (qs.take j).map (·.2)) ∧ Hid (∀ y ∈ l, y.1.Val wA (.agg (encT y).toArray)) ∧ Hid (Ext wA wr)) (fun _ i _ => lq - (intOf i).toNat)
  case atStart => exact ⟨0, [(t, .slice p len cap)], Nat.zero_le _, rfl, HO.out, rfl, fun y hy => by
      rw [List.mem_singleton] at hy
      subst hy
      exact HVT.out _ (Ext.refl _), HXB.out⟩
  case round =>
    obtain ⟨wo, rfl⟩ : ∃ wo : World, wo = wr := ⟨_, rfl⟩
    obtain ⟨j, l, hj, rfl, hown, hml, hvl, hx⟩ := hrel
    have hll : l.length = (qs.take j).length + 1 := by have := congrArg List.length hml.out; simpa using this
    have hl34 : l.length ≤ 34 := by have := HL.out; simp at hll; omega
    have HBL := Lib.hid (fun i (hi : u3.ownBlock = some i) => (hown.lt i hi).1)
    by_cases hlt : j < lq
    · have hjl : j < qs.length := by rw [← HL.out]; exact hlt
      rcases HQ.out with hq | ⟨b, o, rfl, hq⟩
      · exfalso; subst hq; simp at hjl
      obtain ⟨p2, l2, k2, d0, d1, d2, d3, d4, hvq⟩ := qs_cells (QsAt_get (hq wA (Ext.refl _)) j hjl)
      have d0 := hx.out.later _ _ d0
      have d1 := hx.out.later _ _ d1
      have d2 := hx.out.later _ _ d2
      have d3 := hx.out.later _ _ d3
      have d4 := hx.out.later _ _ d4
      have HTk := Lib.hid (show (l ++ [((qs[j]).2, Value.slice p2 l2 k2)]).map (·.1) = t :: (qs.take (j + 1)).map (·.2) from by
        rw [List.take_succ_eq_append_getElem hjl, List.map_append, List.map_append, hml.out]; rfl)
      generalize qs[j] = q at *
      obtain ⟨⟨qn, hqn⟩, q⟩ := q
      simp only at d0 d1 d2 d3 d4 hvq HTk
      have hxs := Ext.alloc wo (.cells #[.string qn, .int .i8 q.op, .int .i8 q.fld, .int .u64 q.n, .slice p2 l2 k2] 79)
      have hxt := Ext.alloc (wo.alloc (.cells #[.string qn, .int .i8 q.op, .int .i8 q.fld, .int .u64 q.n, .slice p2 l2 k2] 79)) (.cells #[.int .i8 q.op, .int .i8 q.fld, .int .u64 q.n, .slice p2 l2 k2] 31)
      have HO2 := Lib.hid ((hown.alloc (.cells #[.string qn, .int .i8 q.op, .int .i8 q.fld, .int .u64 q.n, .slice p2 l2 k2] 79)).alloc (.cells #[.int .i8 q.op, .int .i8 q.fld, .int .u64 q.n, .slice p2 l2 k2] 31))
      have hr2 := rangeAt_new (wo.alloc (.cells #[.string qn, .int .i8 q.op, .int .i8 q.fld, .int .u64 q.n, .slice p2 l2 k2] 79)) #[.int .i8 q.op, .int .i8 q.fld, .int .u64 q.n, .slice p2 l2 k2] 31
      rw [World.size_alloc] at hr2
      have HR2 := Lib.hid hr2
      have HONE := Lib.hid (encT_one (p := (q, Value.slice p2 l2 k2)) hvq)
      have HXT := Lib.hid (hxs.trans hxt)
      have HVQ := Lib.hid hvq
      have hszo : wA.heap.size ≤ wo.heap.size := hx.out.size
      clear hown hvq hxs hxt hq hml hr2
      go_wp2_with (first
        | (refine wpList_store_new rfl 79 _ _ rfl _ #[.string qn, .int .i8 q.op, .int .i8 q.fld, .int .u64 q.n, .slice p2 l2 k2] rfl rfl (by kernel_rfl) rfl (by rfl) ?_)
        | (at_builtin; refine wpList_append_T rfl _ _ rfl (w.heap.size + 1) u3 l rfl HO2.out _ (q, Value.slice p2 l2 k2) rfl HR2.out HONE.out (by omega) (by simp; omega) ?_; intro v4 w4 hown4 hg4))
      go_roundw
      case rel => exact ⟨j + 1, l ++ [(q, Value.slice p2 l2 k2)], by omega, by go_num, hown4, HTk.out, fun y hy => by
        rcases List.mem_append.1 hy with hy | hy
        · exact hvl.out y hy
        · rw [List.mem_singleton] at hy
          subst hy
          exact HVQ.out, (hx.out.trans HXT.out).grow' hg4 (fun i hi => by have := HBL.out i hi; omega)⟩
      case measure => simp [intOf]; omega
    · have HT := Lib.hid (show Tms wo (t :: qs.map (·.2)) u3 from by
        have := tms_of_owns hown (fun y hy => (hvl.out y hy).later hx.out.later)
        rwa [hml.out, List.take_of_length_le (by have := HL.out; omega)] at this)
      clear hown hml hvl hll hl34
      obtain ⟨b0, b1, b2, b3, b4⟩ := HC5.out _ hx.out
      go_wp2_with fail
      refine (big_any _ _ _ HT.out).mono ?_
      rintro e w5 ⟨rfl, hx5⟩
      have HX5 := Lib.hid (hx.out.trans hx5)
      clear b0 b1 b2 b3 b4
      by_cases hbig : bigB (t :: qs.map (·.2)) = true
      · have HF := Lib.hid (show checkP t qs = 200 from by rw [HP.out, if_pos hbig])
        rw [hbig]
        clear hbig
        go_wp2_with fail
        go_ret
        exact ⟨by rw [HF.out]; rfl, HX.out.trans HX5.out⟩
      have HP2 := Lib.hid (show checkP t qs = if t.right false then (if qsB [] qs then 0 else 170) else 170 from by rw [HP.out, if_neg hbig])
      rw [show bigB (t :: qs.map (·.2)) = false from by simpa using hbig]
      clear hbig HP
      have HR := Lib.hid (right_any t false w.heap.size 0 w5 ((HVT.out _ HX5.out).at (rangeAt_take (n := 4) (HRA.out _ HX5.out))))
      go_wp2_with fail
      refine HR.out.mono ?_
      rintro e w6 ⟨rfl, hx6⟩
      have HX6 := Lib.hid (HX5.out.trans hx6)
      by_cases hr : t.right false = true
      · have HP3 := Lib.hid (show checkP t qs = if qsB [] qs then 0 else 170 from by rw [HP2.out, if_pos hr])
        rw [hr]
        clear hr HP2 HR
        obtain ⟨b0, b1, b2, b3, b4⟩ := HC5.out _ (HX6.out.andAlloc (.map #[] 0))
        have hmm := @run_makeMap Try.prog
        have HM0 := Lib.hid (show MapOf (w6.alloc (.map #[] 0)) kvS vvI w6.heap.size (([] : List Str).map fun n => (n, 1)) from MapRaw.made w6)
        have HXM := Lib.hid (HX6.out.andAlloc (.map #[] 0))
        have hs6 : wA.heap.size ≤ w6.heap.size := HX6.out.size
        go_wp2_with fail
        clear b0 b1 b2 b3 b4
        go_loopw [38] (fun i wr => ∃ (j : Nat) (seen : List Str), j ≤ lq ∧ i = .int .i64 j ∧ Hid (MapOf wr kvS vvI w6.heap.size (seen.map fun n => (n, 1))) ∧ Hid seen.Nodup ∧ Hid (qsB seen (qs.drop j) = qsB [] qs) ∧ Hid (Ext wA wr) ∧ w6.heap.size < wr.heap.size) (fun i _ => lq - (intOf i).toNat)
        case atStart => exact ⟨0, [], Nat.zero_le _, rfl, HM0.out, List.nodup_nil, rfl, HXM.out, by simp⟩
        case round =>
          obtain ⟨wo2, rfl⟩ : ∃ wo2 : World, wo2 = wr := ⟨_, rfl⟩
          obtain ⟨j, seen, hj, rfl, hm, hnd, hB, hx2, hlt6⟩ := hrel
          by_cases hlt2 : j < lq
          · have hjl : j < qs.length := by rw [← HL.out]; exact hlt2
            rcases HQ.out with hq | ⟨b, o, rfl, hq⟩
            · exfalso; subst hq; simp at hjl
            obtain ⟨p2, l2, k2, d0, d1, d2, d3, d4, hvq⟩ := qs_cells (QsAt_get (hq wA (Ext.refl _)) j hjl)
            have d0 := hx2.out.later _ _ d0
            have d1 := hx2.out.later _ _ d1
            have d2 := hx2.out.later _ _ d2
            have d3 := hx2.out.later _ _ d3
            have d4 := hx2.out.later _ _ d4
            have hB2 := hB.out
            rw [drop_get hjl, qsB] at hB2
            generalize qs[j] = q at *
            obtain ⟨⟨qn, hqn⟩, q⟩ := q
            simp only at d0 d1 d2 d3 d4 hvq hB2
            obtain ⟨wS, hS⟩ : ∃ W : World, wo2.alloc (.cells #[.string qn, .int .i8 q.op, .int .i8 q.fld, .int .u64 q.n, .slice p2 l2 k2] 79) = W := ⟨_, rfl⟩
            have xS : Ext wo2 wS := hS ▸ Ext.alloc _ _
            have rS : wS.rangeAt wo2.heap.size 0 [.string qn, .int .i8 q.op, .int .i8 q.fld, .int .u64 q.n, .slice p2 l2 k2] := by
              have := rangeAt_new wo2 #[.string qn, .int .i8 q.op, .int .i8 q.fld, .int .u64 q.n, .slice p2 l2 k2] 79
              rw [hS] at this
              exact this
            have hmS : MapOf wS kvS vvI w6.heap.size (seen.map fun n => (n, 1)) := MapRaw.ext hm.out xS
            have hlk := run_lookup_of codedS Try.underlying82 hmS (keys_one hnd.out) ⟨qn, hqn⟩ _ (zeroI wS) false
            obtain ⟨wU, hup, hmU, hgU⟩ := run_update_of codedS Try.underlying82 hmS (keys_one hnd.out) ⟨qn, hqn⟩ (if seen.any (fun s => decide (s = ⟨qn, hqn⟩)) then 2 else 1)
            rw [look_one] at hlk
            have xU : Ext wA wU := (hx2.out.trans xS).trans' ⟨hgU.os, hgU.tape, hgU.output, hgU.size, fun i hi => hgU.block i (by have := hx2.out.size; have := xS.size; omega) (fun e => by injection e with e; omega)⟩
            have hsS : wS.heap.size = wo2.heap.size + 1 := by rw [← hS, World.size_alloc]
            have hneb : ¬ wo2.heap.size = w6.heap.size := by omega
            have rU : ∀ W, Ext wU W → W.rangeAt wo2.heap.size 0 [.string qn, .int .i8 q.op, .int .i8 q.fld, .int .u64 q.n, .slice p2 l2 k2] := fun W hW => World.rangeAt.later hW.later ((Keep.grown hgU).range rS hneb)
            have hndU := store_keys (x := (⟨qn, hqn⟩ : Str)) (a := if seen.any (fun s => decide (s = ⟨qn, hqn⟩)) then 2 else 1) (keys_one hnd.out)
            have hlkU := fun W (hW : Ext wU W) => run_lookup_of codedS Try.underlying82 (MapRaw.ext hmU hW : MapOf W kvS vvI w6.heap.size _) hndU ⟨qn, hqn⟩ _ (zeroI W) false
            have hlS : ∀ (l : List (Str × Nat)) (x : Str) (a : Nat), look x (store x a l) = some a := fun l x a => by
              induction l with
              | nil => simp [store, look]
              | cons p r ih =>
                simp only [store]
                split
                · simp [look]
                · rename_i hne; simp only [look, if_neg hne]; exact ih
            have HRU := Lib.hid rU
            have HLKU := Lib.hid (fun W hW => (hlkU W hW).trans (by rw [hlS]))
            have HXU := Lib.hid xU
            have HEQ := Lib.hid hS
            have HNM := Lib.hid (name_any qn wU)
            have HRQ := Lib.hid (fun W (hW : Ext wU W) => right_any q true wo2.heap.size 1 W ((hvq.later (HXU.out.trans hW).later).at (by
              intro jj vv hv
              have := rU W hW (1 + jj) vv (by rw [Nat.add_comm]; exact hv)
              simpa [Nat.zero_add] using this)))
            have hsU : wS.heap.size ≤ wU.heap.size := hgU.size
            have r0 := rU _ (Ext.refl _) 0 _ rfl
            rw [Nat.add_zero] at r0
            have s0 := rS 0 _ rfl
            rw [Nat.add_zero] at s0
            clear rU hlkU hlS xU hndU rS hq hS
            cases hin : seen.any (fun s => decide (s = (⟨qn, hqn⟩ : Str))) with
            | true =>
              have HT := Lib.hid (show qsB [] qs = false from by rw [← hB2, hin]; simp)
              have HF := Lib.hid (show checkP t qs = 170 from by rw [HP3.out, HT.out]; rfl)
              rw [hin] at hlk hup HLKU
              have hup' : (Instr.mapUpdate 82 (.map (some w6.heap.size)) (.string qn) (.int .i64 2)).run Try.prog wS = .ok () wU := hup
              have hlk' : (Instr.lookup 82 (.map (some w6.heap.size)) (.string qn) false).run Try.prog wS = .ok (.int .i64 1) wS := hlk
              have HLK2 := Lib.hid (fun W hW => show (Instr.lookup 82 (.map (some w6.heap.size)) (.string qn) false).run Try.prog W = .ok (.int .i64 2) W from HLKU.out W hW)
              clear hB2 hmU hmS hlk hup HLKU hvq hin hB
              go_upto_region 17 with (first
                | (refine wpList_store_new rfl 79 _ _ rfl _ #[.string qn, .int .i8 q.op, .int .i8 q.fld, .int .u64 q.n, .slice p2 l2 k2] rfl rfl (by kernel_rfl) rfl (by rfl) ?_))
              rw [HEQ.out]
              go_upto_region 18 with fail
              go_wp2_with fail
              refine HNM.out.mono ?_
              rintro e w7 ⟨rfl, hx7⟩
              have hl7 := HLK2.out w7 hx7
              have hr7 := HRU.out w7 hx7
              have r7 := hr7 0 _ rfl
              rw [Nat.add_zero] at r7
              have HX7 := Lib.hid (HXU.out.trans hx7)
              clear hr7 r0 s0 d0 d1 d2 d3 d4
              cases nameB qn with
              | false =>
                go_wp2_with fail
                go_ret
                exact ⟨by rw [HF.out]; rfl, HX.out.trans HX7.out⟩
              | true =>
                go_wp2_with fail
                go_ret
                exact ⟨by rw [HF.out]; rfl, HX.out.trans HX7.out⟩
            | false =>
              rw [hin] at hlk hup HLKU hmU hB2
              have hup' : (Instr.mapUpdate 82 (.map (some w6.heap.size)) (.string qn) (.int .i64 1)).run Try.prog wS = .ok () wU := hup
              have hlk' : (Instr.lookup 82 (.map (some w6.heap.size)) (.string qn) false).run Try.prog wS = .ok (.int .i64 0) wS := hlk
              have HLK2 := Lib.hid (fun W hW => show (Instr.lookup 82 (.map (some w6.heap.size)) (.string qn) false).run Try.prog W = .ok (.int .i64 1) W from HLKU.out W hW)
              have HNI := Lib.hid (not_anyS hin)
              have HMU := Lib.hid (show MapOf wU kvS vvI w6.heap.size ((seen ++ [(⟨qn, hqn⟩ : Str)]).map fun n => (n, 1)) from by
                have h1 : MapOf wU kvS vvI w6.heap.size (store (⟨qn, hqn⟩ : Str) 1 (seen.map fun n => (n, 1))) := hmU
                rw [store_new (fun p hp => by
                  obtain ⟨n, hn, rfl⟩ := List.mem_map.1 hp
                  exact fun e => HNI.out (e ▸ hn))] at h1
                rw [List.map_append]
                exact h1)
              have HB2 := Lib.hid (show (nameB qn && (q.right true && qsB (seen ++ [(⟨qn, hqn⟩ : Str)]) (qs.drop (j + 1)))) = qsB [] qs from by rw [← hB2]; simp)
              clear hB2 hmU hmS hlk hup HLKU hvq hin hB
              go_upto_region 17 with (first
                | (refine wpList_store_new rfl 79 _ _ rfl _ #[.string qn, .int .i8 q.op, .int .i8 q.fld, .int .u64 q.n, .slice p2 l2 k2] rfl rfl (by kernel_rfl) rfl (by rfl) ?_))
              rw [HEQ.out]
              go_upto_region 18 with fail
              go_wp2_with fail
              refine HNM.out.mono ?_
              rintro e w7 ⟨rfl, hx7⟩
              have hl7 := HLK2.out w7 hx7
              have hr7 := HRU.out w7 hx7
              have r7 := hr7 0 _ rfl
              rw [Nat.add_zero] at r7
              have HX7 := Lib.hid (HXU.out.trans hx7)
              clear hr7 r0 s0 d0 d1 d2 d3 d4
              cases hnb : nameB qn with
              | false =>
                have HF := Lib.hid (show checkP t qs = 170 from by rw [HP3.out, ← HB2.out, hnb]; rfl)
                clear hnb
                go_wp2_with fail
                go_ret
                exact ⟨by rw [HF.out]; rfl, HX.out.trans HX7.out⟩
              | true =>
                have HB3 := Lib.hid (show (q.right true && qsB (seen ++ [(⟨qn, hqn⟩ : Str)]) (qs.drop (j + 1))) = qsB [] qs from by rw [← HB2.out, hnb]; rfl)
                have HRq := Lib.hid (HRQ.out w7 hx7)
                clear hnb
                go_wp2_with fail
                refine HRq.out.mono ?_
                rintro e w8 ⟨rfl, hx8⟩
                have HX8 := Lib.hid (HX7.out.trans hx8)
                have HXX := Lib.hid (hx7.trans hx8)
                clear hl7 r7
                cases hrq : q.right true with
                | false =>
                  have HF := Lib.hid (show checkP t qs = 170 from by rw [HP3.out, ← HB3.out, hrq]; rfl)
                  clear hrq
                  go_wp2_with fail
                  go_ret
                  exact ⟨by rw [HF.out]; rfl, HX.out.trans HX8.out⟩
                | true =>
                  have HB4 := Lib.hid (show qsB (seen ++ [(⟨qn, hqn⟩ : Str)]) (qs.drop (j + 1)) = qsB [] qs from by rw [← HB3.out, hrq]; rfl)
                  have hs8 : wU.heap.size ≤ w8.heap.size := HXX.out.size
                  clear hrq
                  go_wp2_with fail
                  go_roundw
                  case rel => exact ⟨j + 1, seen ++ [(⟨qn, hqn⟩ : Str)], by omega, by go_num, MapRaw.ext HMU.out HXX.out, List.nodup_append.2 ⟨hnd.out, by simp, fun a ha b hb e => HNI.out (by rw [List.mem_singleton] at hb; rw [← hb, ← e]; exact ha)⟩, HB4.out, HX8.out, by omega⟩
                  case measure => simp [intOf]; omega
          · have HT := Lib.hid (show qsB [] qs = true from by
              rw [← hB.out, List.drop_of_length_le (by have := HL.out; omega), qsB])
            have HF := Lib.hid (show checkP t qs = 0 from by rw [HP3.out, HT.out]; rfl)
            clear hB hm
            go_wp2_with fail
            go_ret
            exact ⟨by rw [HF.out]; rfl, HX.out.trans hx2.out⟩
      · have HF := Lib.hid (show checkP t qs = 170 from by rw [HP2.out, if_neg hr])
        rw [show t.right false = false from by simpa using hr]
        clear hr
        go_wp2_with fail
        go_ret
        exact ⟨by rw [HF.out]; rfl, HX.out.trans HX6.out⟩
end Go.Proofs.Ytddeelepaiklgaa
