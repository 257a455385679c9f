/- The document's Big of a policy with queries. -/
import Derived.Test.YtddeelepaiklgaaRef18c
import Derived.Test.YtddeelepaiklgaaMJ1
import Derived.Test.YtddeelepaiklgaaRight
import Derived.Test.YtddeelepaiklgaaMJ4
import Derived.Test.YtddeelepaiklgaaRef19h
namespace Go.Proofs.Ytddeelepaiklgaa
open Go.RowKit Go.Maps
set_option linter.unusedSimpArgs false

theorem deepAny_dp : ∀ (ks : List Tm), Tm.deepAny ks 128 = ks.any fun t => decide (128 < t.dp 128)
  | [] => rfl
  | t :: ts => by
    have h1 := Tm.dpAll_deep [t] 128
    simp only [Tm.dpAll, Tm.deepAny, Bool.or_false, Nat.max_zero] at h1
    rw [Tm.deepAny, deepAny_dp ts, List.any_cons, ← h1]
theorem bigB_gen (ks : List Tm) : bigB ks = (decide (4096 < Tm.szAll ks) || ks.any fun t => decide (128 < t.dp 128)) := by
  have := Tm.downAll_eq ks 4096 (by omega)
  rw [bigB, this, deepAny_dp]
  congr 1
  rw [Bool.eq_iff_iff]
  simp
  omega
/-- how many terms, so far -/
def SzRel (t : Tm) (qs : List Qr) (m j : Nat) : Prop := if 4096 < m then 4096 < Tm.szAll (t :: (qs.take j).map (·.2)) else m = Tm.szAll (t :: (qs.take j).map (·.2))
theorem szAll_append : ∀ (a b : List Tm), Tm.szAll (a ++ b) = Tm.szAll a + Tm.szAll b
  | [], b => by simp [Tm.szAll]
  | x :: xs, b => by simp only [List.cons_append, Tm.szAll, szAll_append xs b]; omega
theorem SzRel.next {t : Tm} {qs : List Qr} {m j : Nat} (h : SzRel t qs m j) (hm : m ≤ 4096) (hj : j < qs.length) (m' : Nat) (hm' : m' = m + min (qs[j]).2.sz 4097) : SzRel t qs m' (j + 1) := by
  unfold SzRel at *
  rw [if_neg (by omega)] at h
  have e : Tm.szAll (t :: (qs.take (j + 1)).map (·.2)) = Tm.szAll (t :: (qs.take j).map (·.2)) + (qs[j]).2.sz := by
    rw [List.take_succ_eq_append_getElem hj, List.map_append, ← List.cons_append, szAll_append]
    simp [Tm.szAll]
  rw [e]
  split <;> omega
theorem SzRel.last {t : Tm} {qs : List Qr} {m j : Nat} (h : SzRel t qs m j) (hj : qs.length ≤ j ∨ 4096 < m) : 4096 < m ↔ 4096 < Tm.szAll (t :: qs.map (·.2)) := by
  unfold SzRel at h
  have e : Tm.szAll (t :: qs.map (·.2)) = Tm.szAll (t :: (qs.take j).map (·.2)) + Tm.szAll ((qs.drop j).map (·.2)) := by
    rw [← szAll_append, List.cons_append, ← List.map_append, List.take_append_drop]
  rcases hj with hj | hj
  · rw [List.take_of_length_le hj] at h
    split at h <;> omega
  · rw [if_pos hj] at h
    omega

set_option maxHeartbeats 4000000 in
set_option maxRecDepth 100000 in
theorem refBigQ_any (t : Tm) (qs : List Qr) (v : Value) (w : World) (hv : PVal w t qs v) :
    Calls Try.prog 41 #[v] w fun e w' => e = .returned (.bool (bigB (t :: qs.map (·.2)))) ∧ Ext w w' := by
  obtain ⟨p, len, cap, _, rfl, hvt, pq, lq, cq, rfl, hlen, hlc, hcm, hks⟩ := hv
  have HL := Lib.hid hlen
  have HB := Lib.hid (bigB_gen (t :: qs.map (·.2)))
  obtain ⟨wA, hA⟩ : ∃ W : World, w.alloc (.cells #[.int .i8 t.op, .int .i8 t.fld, .int .u64 t.n, .slice p len cap, .slice pq lq cq] 34) = W := ⟨_, rfl⟩
  have xA : Ext w wA := hA ▸ Ext.alloc _ _
  have rA : wA.rangeAt w.heap.size 0 [.int .i8 t.op, .int .i8 t.fld, .int .u64 t.n, .slice p len cap, .slice pq lq cq] := by
    have := rangeAt_new w #[.int .i8 t.op, .int .i8 t.fld, .int .u64 t.n, .slice p len cap, .slice pq lq cq] 34
    rw [hA] at this
    exact this
  have HRA := Lib.hid (fun W (hW : Ext wA W) => World.rangeAt.later hW.later rA)
  have HVA := Lib.hid (fun W (hW : Ext wA W) => hvt.later (xA.trans hW).later)
  have HQ := Lib.hid (show qs = [] ∨ ∃ b o, pq = some ⟨b, o, none⟩ ∧ ∀ W, Ext wA W → QsAt W qs b o from hks.imp id fun ⟨b, o, hp, hq⟩ => ⟨b, o, hp, fun W hW => hq.later (xA.trans hW).later⟩)
  have HZ := Lib.hid xA
  have HEQ := Lib.hid hA
  clear xA rA hA hvt hks hlen
  go_enter Try.func41, Try.ntmps41
  go_upto_region 1 with fail
  rw [HEQ.out]
  clear HEQ
  obtain ⟨c0, c1, c2, c3, c4⟩ := cells5 (HRA.out _ (Ext.refl _))
  go_wp2_with fail
  refine (refSize_any t _ wA 4096 (by omega) (by omega) (HVA.out _ (Ext.refl _))).mono ?_
  rintro e w1 ⟨rfl, hx1⟩
  clear c0 c1 c2 c3 c4
  obtain ⟨m0, hm0⟩ : ∃ m : Nat, m = min t.sz 4097 := ⟨_, rfl⟩
  have HS0 := Lib.hid (show SzRel t qs m0 0 from by
    unfold SzRel
    simp only [List.take_zero, List.map_nil, Tm.szAll]
    split <;> omega)
  rw [show min (t.sz : Int) (4096 + 1) = (m0 : Int) from by omega]
  have hm0' : m0 ≤ 8193 := by omega
  clear hm0
  go_wp2_with fail
  go_loopw [3, 4] (fun n i wr => ∃ (j m : Nat), j ≤ lq ∧ i = .int .i64 j ∧ n = .int .i64 m ∧ m ≤ 8193 ∧ Hid (SzRel t qs m j) ∧ Hid (Ext wA wr)) (fun _ i _ => lq - (intOf i).toNat)
  case atStart => exact ⟨0, m0, Nat.zero_le _, rfl, rfl, hm0', HS0.out, hx1⟩
  case round =>
    obtain ⟨wo, rfl⟩ : ∃ wo : World, wo = wr := ⟨_, rfl⟩
    obtain ⟨j, m, hj, rfl, rfl, hm, hs, hx⟩ := hrel
    obtain ⟨c0, c1, c2, c3, c4⟩ := cells5 (HRA.out _ hx.out)
    by_cases hcont : j < lq ∧ m ≤ 4096
    · obtain ⟨hjl, hm4⟩ := hcont
      have hjq : j < qs.length := by rw [← HL.out]; exact hjl
      rcases HQ.out with hq | ⟨b, o, rfl, hq⟩
      · exfalso; subst hq; simp at hjq
      obtain ⟨p2, l2, k2, d0, d1, d2, d3, d4, hvq⟩ := qs_cells (QsAt_get (hq wo hx.out) j hjq)
      have HN := Lib.hid (fun m' hm' => hs.out.next hm4 hjq m' hm')
      generalize qs[j] = q at *
      obtain ⟨⟨qn, hqn⟩, q⟩ := q
      simp only at d0 d1 d2 d3 d4 hvq HN
      have HC := Lib.hid (refSize_any q _ wo 4096 (by omega) (by omega) hvq)
      obtain ⟨mq, hmq⟩ : ∃ k : Nat, k = min q.sz 4097 := ⟨_, rfl⟩
      rw [show min (q.sz : Int) (4096 + 1) = (mq : Int) from by omega] at HC
      rw [← hmq] at HN
      have hmq' : mq ≤ 4097 := by omega
      clear hvq hmq hq
      go_wp2_with fail
      refine HC.out.mono ?_
      rintro e w2 ⟨rfl, hx2⟩
      go_wp2_with fail
      go_roundw
      case rel => exact ⟨j + 1, m + mq, by omega, by go_num, by go_num, by omega, HN.out _ rfl, hx.out.trans hx2⟩
      case measure => simp [intOf]; omega
    · have HM := Lib.hid (hs.out.last (by have := HL.out; omega))
      go_upto_region 3 with fail
      go_cut [17] from 9 to 28 (fun s17 wx => s17 = .bool false ∧ wo = wx)
      case first =>
        by_cases hjl : j < lq
        · have hm4 : ¬ m ≤ 4096 := fun h => hcont ⟨hjl, h⟩
          clear hcont
          go_wp2_with fail
          go_meet
          exact ⟨by rw [decide_eq_false (show ¬ (m : Int) ≤ 4096 by omega)], rfl⟩
        · clear hcont
          go_wp2_with fail
          go_meet
          exact ⟨rfl, rfl⟩
      case rest =>
        obtain ⟨rfl, rfl⟩ := hcut
        clear hcont
        by_cases h4 : 4096 < m
        · have HF := Lib.hid (show bigB (t :: qs.map (·.2)) = true from by rw [HB.out, decide_eq_true (HM.out.1 h4)]; rfl)
          clear HM
          go_wp2_with fail
          go_ret
          exact ⟨by rw [HF.out]; rfl, HZ.out.trans hx.out⟩
        have HB2 := Lib.hid (show bigB (t :: qs.map (·.2)) = ((t :: qs.map (·.2)).any fun t => decide (128 < t.dp 128)) from by rw [HB.out, decide_eq_false (fun h => h4 (HM.out.2 h))]; rfl)
        have HD := Lib.hid (refDeep_any t _ wo 128 (by omega) (HVA.out _ hx.out))
        clear HM
        go_wp2_with fail
        refine HD.out.mono ?_
        rintro e w2 ⟨rfl, hx2⟩
        have HX2 := Lib.hid (hx.out.trans hx2)
        clear c0 c1 c2 c3 c4 hx2
        by_cases hd : 128 < t.dp 128
        · have HF := Lib.hid (show bigB (t :: qs.map (·.2)) = true from by rw [HB2.out]; simp [hd])
          generalize t.dp 128 = d at *
          have hd2 : (128 : Int) < (d : Int) := by omega
          clear hd
          go_wp2_with fail
          go_ret
          exact ⟨by rw [HF.out]; rfl, HZ.out.trans HX2.out⟩
        have HB3 := Lib.hid (show bigB (t :: qs.map (·.2)) = (qs.any fun q => decide (128 < q.2.dp 128)) from by rw [HB2.out, List.any_cons, decide_eq_false hd, List.any_map]; rfl)
        generalize t.dp 128 = d at *
        have hd2 : (d : Int) ≤ 128 := by omega
        clear hd HB2
        go_wp2_with fail
        go_loopw [5] (fun i wr => ∃ (j : Nat), j ≤ lq ∧ i = .int .i64 j ∧ Hid (∀ k (h : k < qs.length), k < j → ¬ 128 < (qs[k]).2.dp 128) ∧ Hid (Ext wA wr)) (fun i _ => lq - (intOf i).toNat)
        case atStart => exact ⟨0, Nat.zero_le _, rfl, fun k _ h => absurd h (Nat.not_lt_zero _), HX2.out⟩
        case round =>
          obtain ⟨wn, rfl⟩ : ∃ wn : World, wn = wr := ⟨_, rfl⟩
          obtain ⟨j, hj, rfl, hall, hx⟩ := hrel
          obtain ⟨c0, c1, c2, c3, c4⟩ := cells5 (HRA.out _ hx.out)
          by_cases hjl : j < lq
          · have hjq : j < qs.length := by rw [← HL.out]; exact hjl
            rcases HQ.out with hq | ⟨b, o, rfl, hq⟩
            · exfalso; subst hq; simp at hjq
            obtain ⟨p2, l2, k2, d0, d1, d2, d3, d4, hvq⟩ := qs_cells (QsAt_get (hq wn hx.out) j hjq)
            have HN := Lib.hid (fun (h : 128 < (qs[j]).2.dp 128) => show bigB (t :: qs.map (·.2)) = true from by
              rw [HB3.out, List.any_eq_true]
              exact ⟨qs[j], List.getElem_mem hjq, decide_eq_true h⟩)
            have HM := Lib.hid (fun (h : ¬ 128 < (qs[j]).2.dp 128) k (hk : k < qs.length) (hkj : k < j + 1) => show ¬ 128 < (qs[k]).2.dp 128 from by
              rcases Nat.lt_succ_iff_lt_or_eq.1 hkj with h1 | rfl
              · exact hall.out k hk h1
              · exact h)
            generalize qs[j] = q at *
            obtain ⟨⟨qn, hqn⟩, q⟩ := q
            simp only at d0 d1 d2 d3 d4 hvq HN HM
            have HC := Lib.hid (refDeep_any q _ wn 128 (by omega) hvq)
            clear hvq hq
            go_wp2_with fail
            refine HC.out.mono ?_
            rintro e w3 ⟨rfl, hx3⟩
            by_cases hd : 128 < q.dp 128
            · have HF := Lib.hid (HN.out hd)
              clear HN HM
              generalize q.dp 128 = d at *
              have hd2 : (128 : Int) < (d : Int) := by omega
              clear hd
              go_wp2_with fail
              go_ret
              exact ⟨by rw [HF.out]; rfl, HZ.out.trans (hx.out.trans hx3)⟩
            · have HF := Lib.hid (HM.out hd)
              clear HN HM
              generalize q.dp 128 = d at *
              have hd2 : (d : Int) ≤ 128 := by omega
              clear hd
              go_wp2_with fail
              go_roundw
              case rel => exact ⟨j + 1, by omega, by go_num, HF.out, hx.out.trans hx3⟩
              case measure => simp [intOf]; omega
          · have HF := Lib.hid (show bigB (t :: qs.map (·.2)) = false from by
              rw [HB3.out, List.any_eq_false]
              intro q hq
              obtain ⟨k, hk, rfl⟩ := List.getElem_of_mem hq
              simpa using hall.out k hk (by have := HL.out; omega))
            go_wp2_with fail
            go_ret
            exact ⟨by rw [HF.out]; rfl, HZ.out.trans hx.out⟩
end Go.Proofs.Ytddeelepaiklgaa
/- The document's name: may a query bear it. -/
namespace Go.Proofs.Ytddeelepaiklgaa
open Go.RowKit
set_option linter.unusedSimpArgs false

def letC (c : Nat) : Bool := decide ((97 ≤ c ∧ c ≤ 122) ∨ (65 ≤ c ∧ c ≤ 90) ∨ c = 95)
set_option maxRecDepth 10000 in
theorem letC_eq : ∀ c, c < 256 → letC c = (decide (c = 95) || (decide (97 ≤ c ||| 32) && decide (c ||| 32 ≤ 122))) := by decide +kernel
theorem nameC_ref (i c : Nat) (h : c < 256) : nameC i c = (letC c || decide (0 < i ∧ 48 ≤ c ∧ c ≤ 57)) := by
  rw [letC_eq c h, nameC]
  congr 1
  simp

set_option maxHeartbeats 2000000 in
set_option maxRecDepth 100000 in
theorem refName_any (s : ByteArray) (w : World) :
    Calls Try.prog 43 #[.string s] w fun e w' => e = .returned (.bool (nameB s)) ∧ Ext w w' := by
  by_cases h0 : s.size = 0
  · have hs : s = ⟨#[]⟩ := ByteArray.ext (Array.eq_empty_of_size_eq_zero h0)
    subst hs
    go_enter Try.func43, Try.ntmps43
    go_wp2_with fail
    go_ret
    exact ⟨rfl, Ext.refl _⟩
  have hne : s ≠ ⟨#[]⟩ := fun e => h0 (by rw [e]; rfl)
  have h0'' := h0
  have hie : s.toList.isEmpty = false := by
    rw [ByteArray.toList_eq]
    cases hl : s.data.toList with
    | nil => exact absurd (by rw [ByteArray.size, ← Array.length_toList, hl]; rfl) h0
    | cons _ _ => rfl
  have h0' : ¬ s.toList = [] := fun e => by rw [e] at hie; cases hie
  by_cases h32 : s.size ≤ 32
  · have HF := Lib.hid (show nameB s = nameL 0 s.data.toList from by simp [nameB, h0, h32])
    go_enter Try.func43, Try.ntmps43
    go_wp2_with fail
    go_loopw [3] (fun i wr => ∃ (j : Nat), j ≤ s.size ∧ i = .int .i64 j ∧ Hid (w = wr) ∧ Hid (nameL j (s.data.toList.drop j) = nameL 0 s.data.toList)) (fun i _ => s.size - (intOf i).toNat)
    case atStart => exact ⟨0, Nat.zero_le _, rfl, rfl, rfl⟩
    case round =>
      obtain ⟨j, hj, rfl, hw, hR⟩ := hrel
      have hw' := hw.out
      subst hw'
      clear hw
      by_cases hlt : j < s.size
      · have hjd : j < s.data.size := hlt
        have hR2 : (nameC j (s.data[j].toNat) && nameL (j + 1) (s.data.toList.drop (j + 1))) = nameL 0 s.data.toList := by
          have := hR.out
          rw [List.drop_eq_getElem_cons (by simpa using hjd), nameL, Array.getElem_toList] at this
          exact this
        have hc256 : s.data[j].toNat < 256 := UInt8.toNat_lt _
        obtain ⟨c, hc⟩ : ∃ c : Nat, s[j].toNat = c := ⟨_, rfl⟩
        rw [show s.data[j].toNat = c from hc] at hR2 hc256
        have HNC := Lib.hid (nameC_ref j c hc256)
        have HR2 := Lib.hid hR2
        have HFT := Lib.hid (fun (h : nameC j c = true) => show nameL (j + 1) (s.data.toList.drop (j + 1)) = nameL 0 s.data.toList by rw [← HR2.out, h, Bool.true_and])
        have HFF := Lib.hid (fun (h : nameC j c = false) => show nameB s = false by rw [HF.out, ← HR2.out, h, Bool.false_and])
        have HCC := Lib.hid hc
        clear hR hR2 hc
        go_upto_region 7 with fail
        rw [HCC.out]
        clear HCC
        go_cut [5] from 13 to 53 (fun s5 wx => s5 = .bool (letC c) ∧ w = wx)
        case first =>
          by_cases h1 : 97 ≤ c
          · by_cases h2 : c ≤ 122
            · have HT := Lib.hid (show letC c = true from decide_eq_true (by omega))
              go_wp2_with fail
              go_meet
              exact ⟨by rw [HT.out], rfl⟩
            · have HT := Lib.hid (show letC c = false from decide_eq_false (by omega))
              go_wp2_with fail
              all_goals go_meet
              all_goals first
                | (exfalso; omega)
                | (refine ⟨?_, rfl⟩; rw [HT.out]; first | rfl | (refine congrArg Value.bool ?_; simp; done) | (refine congrArg Value.bool ?_; simp; omega))
          · by_cases h3 : 65 ≤ c ∧ c ≤ 90
            · obtain ⟨h3, h4⟩ := h3
              have HT := Lib.hid (show letC c = true from decide_eq_true (by omega))
              go_wp2_with fail
              go_meet
              exact ⟨by rw [HT.out], rfl⟩
            · by_cases h5 : c = 95
              · have HT := Lib.hid (show letC c = true from decide_eq_true (by omega))
                subst h5
                clear h3 h1
                go_wp2_with fail
                go_meet
                exact ⟨by rw [HT.out], rfl⟩
              · have HT := Lib.hid (show letC c = false from decide_eq_false (by omega))
                by_cases h3' : 65 ≤ c
                · have h4' : ¬ c ≤ 90 := fun h => h3 ⟨h3', h⟩
                  clear h3
                  go_wp2_with fail
                  go_meet
                  (refine ⟨?_, rfl⟩; rw [HT.out]; first | rfl | (refine congrArg Value.bool ?_; simp; done) | (refine congrArg Value.bool ?_; simp; omega))
                · clear h3
                  go_wp2_with fail
                  go_meet
                  (refine ⟨?_, rfl⟩; rw [HT.out]; first | rfl | (refine congrArg Value.bool ?_; simp; done) | (refine congrArg Value.bool ?_; simp; omega))
        case rest =>
          obtain ⟨rfl, rfl⟩ := hcut
          cases hl : letC c with
          | true =>
            have HT := Lib.hid (show nameC j c = true from by rw [HNC.out, hl]; rfl)
            clear hl
            go_wp2_with fail
            go_roundw
            case rel => exact ⟨j + 1, by omega, by go_num, True.intro, HFT.out HT.out⟩
            case measure => simp [intOf]; omega
          | false =>
            have HNC2 := Lib.hid (show nameC j c = decide (0 < j ∧ 48 ≤ c ∧ c ≤ 57) from by rw [HNC.out, hl]; rfl)
            clear hl HNC
            by_cases hj0 : j = 0
            · have HT := Lib.hid (show nameC j c = false from by rw [HNC2.out]; exact decide_eq_false (by omega))
              subst hj0
              go_wp2_with fail
              go_ret
              exact ⟨by rw [HFF.out HT.out]; rfl, Ext.refl _⟩
            have hjb : ((j : Int) == 0) = false := by simpa using hj0
            by_cases h48 : 48 ≤ c
            · by_cases h57 : c ≤ 57
              · have HT := Lib.hid (show nameC j c = true from by rw [HNC2.out]; exact decide_eq_true (by omega))
                go_wp2_with fail
                go_roundw
                case rel => exact ⟨j + 1, by omega, by go_num, True.intro, HFT.out HT.out⟩
                case measure => simp [intOf]; omega
              · have HT := Lib.hid (show nameC j c = false from by rw [HNC2.out]; exact decide_eq_false (by omega))
                go_wp2_with fail
                all_goals first
                  | (exfalso; omega)
                  | (go_ret; exact ⟨by rw [HFF.out HT.out]; rfl, Ext.refl _⟩)
            · have HT := Lib.hid (show nameC j c = false from by rw [HNC2.out]; exact decide_eq_false (by omega))
              go_wp2_with fail
              all_goals first
                | (exfalso; omega)
                | (go_ret; exact ⟨by rw [HFF.out HT.out]; rfl, Ext.refl _⟩)
      · have HE := Lib.hid (show nameB s = true from by
          rw [HF.out, ← hR.out, List.drop_of_length_le (by simp; exact Nat.le_of_not_lt hlt), nameL])
        clear hR
        go_wp2_with fail
        go_ret
        exact ⟨by rw [HE.out]; rfl, Ext.refl _⟩
  · have HF := Lib.hid (show nameB s = false from by simp [nameB, h0, h32])
    go_enter Try.func43, Try.ntmps43
    go_wp2_with fail
    go_ret
    exact ⟨by rw [HF.out]; rfl, Ext.refl _⟩
end Go.Proofs.Ytddeelepaiklgaa
/- The document's Check of a policy with queries. -/
namespace Go.Proofs.Ytddeelepaiklgaa
open Go.RowKit Go.Maps
set_option linter.unusedSimpArgs false

theorem beq_toList (a b : ByteArray) : (a.toList == b.toList) = decide (a = b) := by
  rw [Bool.eq_iff_iff, beq_iff_eq, decide_eq_true_iff]
  refine ⟨fun h => ?_, fun h => by rw [h]⟩
  rw [ByteArray.toList_eq, ByteArray.toList_eq] at h
  exact ByteArray.ext (Array.toList_inj.1 h)
set_option maxHeartbeats 4000000 in
set_option maxRecDepth 100000 in
theorem refCheckQ_any (t : Tm) (qs : List Qr) (v : Value) (w : World) (hv : PVal w t qs v) :
    Calls Try.prog 25 #[v] w fun e w' => e = .returned (.int .i64 (checkP t qs)) ∧ Ext w w' := by
  have HPV := Lib.hid hv
  obtain ⟨p, len, cap, _, rfl, hvt, pq, lq, cq, rfl, hlen, hlc, hcm, hks⟩ := hv
  have HL := Lib.hid hlen
  obtain ⟨wA, hA⟩ : ∃ W : World, w.alloc (.cells #[.int .i8 t.op, .int .i8 t.fld, .int .u64 t.n, .slice p len cap, .slice pq lq cq] 34) = W := ⟨_, rfl⟩
  have xA : Ext w wA := hA ▸ Ext.alloc _ _
  have rA : wA.rangeAt w.heap.size 0 [.int .i8 t.op, .int .i8 t.fld, .int .u64 t.n, .slice p len cap, .slice pq lq cq] := by
    have := rangeAt_new w #[.int .i8 t.op, .int .i8 t.fld, .int .u64 t.n, .slice p len cap, .slice pq lq cq] 34
    rw [hA] at this
    exact this
  have HRA := Lib.hid (fun W (hW : Ext wA W) => World.rangeAt.later hW.later rA)
  have HVA := Lib.hid (fun W (hW : Ext wA W) => hvt.later (xA.trans hW).later)
  have HQ := Lib.hid (show qs = [] ∨ ∃ b o, pq = some ⟨b, o, none⟩ ∧ ∀ W, Ext wA W → QsAt W qs b o from hks.imp id fun ⟨b, o, hp, hq⟩ => ⟨b, o, hp, fun W hW => hq.later (xA.trans hW).later⟩)
  have HBIG := Lib.hid (refBigQ_any t qs _ wA (HPV.out.later xA.later))
  have HZ := Lib.hid xA
  have HEQ := Lib.hid hA
  clear xA rA hA hvt hks hlen
  go_enter Try.func25, Try.ntmps25
  go_upto_region 1 with fail
  rw [HEQ.out]
  clear HEQ
  obtain ⟨c0, c1, c2, c3, c4⟩ := cells5 (HRA.out _ (Ext.refl _))
  by_cases h32 : 32 < lq
  · have HF := Lib.hid (show checkP t qs = 200 from by unfold checkP; rw [if_pos (by have := HL.out; omega)])
    go_wp2_with fail
    go_ret
    exact ⟨by rw [HF.out]; rfl, HZ.out⟩
  have HP := Lib.hid (show checkP t qs = if bigB (t :: qs.map (·.2)) then 200 else if t.right false then (if qsB [] qs then 0 else 170) else 170 from by unfold checkP; rw [if_neg (by have := HL.out; omega)])
  go_wp2_with fail
  refine HBIG.out.mono ?_
  rintro e w1 ⟨rfl, hx1⟩
  clear c0 c1 c2 c3 c4
  obtain ⟨c0, c1, c2, c3, c4⟩ := cells5 (HRA.out _ hx1)
  have HX1 := Lib.hid hx1
  cases hb : bigB (t :: qs.map (·.2)) with
  | true =>
    have HF := Lib.hid (show checkP t qs = 200 from by rw [HP.out, hb]; rfl)
    clear hb
    go_wp2_with fail
    go_ret
    exact ⟨by rw [HF.out]; rfl, HZ.out.trans HX1.out⟩
  | false =>
  have HP2 := Lib.hid (show checkP t qs = if t.right false then (if qsB [] qs then 0 else 170) else 170 from by rw [HP.out, hb]; rfl)
  have HR := Lib.hid (refRight_any t false _ w1 (HVA.out _ hx1))
  clear hb HP
  go_wp2_with fail
  refine HR.out.mono ?_
  rintro e w2 ⟨rfl, hx2⟩
  have HX2 := Lib.hid (hx1.trans hx2)
  clear c0 c1 c2 c3 c4
  cases hr : t.right false with
  | false =>
    have HF := Lib.hid (show checkP t qs = 170 from by rw [HP2.out, hr]; rfl)
    clear hr
    go_wp2_with fail
    go_ret
    exact ⟨by rw [HF.out]; rfl, HZ.out.trans HX2.out⟩
  | true =>
  have HP3 := Lib.hid (show checkP t qs = if qsB [] qs then 0 else 170 from by rw [HP2.out, hr]; rfl)
  clear hr HP2
  go_wp2_with fail
  go_loopw [3] (fun i wr => ∃ (j : Nat), j ≤ lq ∧ i = .int .i64 j ∧ Hid (qsB ((qs.take j).map (·.1)) (qs.drop j) = qsB [] qs) ∧ Hid (Ext wA wr)) (fun i _ => lq - (intOf i).toNat)
  case atStart => exact ⟨0, Nat.zero_le _, rfl, rfl, HX2.out⟩
  case round =>
    obtain ⟨wo, rfl⟩ : ∃ wo : World, wo = wr := ⟨_, rfl⟩
    obtain ⟨j, hj, rfl, hB, hx⟩ := hrel
    obtain ⟨c0, c1, c2, c3, c4⟩ := cells5 (HRA.out _ hx.out)
    by_cases hjl : j < lq
    · have hjq : j < qs.length := by rw [← HL.out]; exact hjl
      rcases HQ.out with hq | ⟨b, o, rfl, hq⟩
      · exfalso; subst hq; simp at hjq
      have HQQ := Lib.hid hq
      obtain ⟨p2, l2, k2, d0, d1, d2, d3, d4, hvq⟩ := qs_cells (QsAt_get (hq wo hx.out) j hjq)
      have hB2 := hB.out
      rw [drop_get hjq, qsB] at hB2
      have HTK := Lib.hid (show (qs.take (j + 1)).map (·.1) = (qs.take j).map (·.1) ++ [(qs[j]).1] from by
        rw [List.take_succ_eq_append_getElem hjq, List.map_append]; rfl)
      rw [← HTK.out] at hB2
      have HB2 := Lib.hid hB2
      obtain ⟨q, hqe⟩ : ∃ q, q = qs[j] := ⟨_, rfl⟩
      rw [← hqe] at d0 d1 d2 d3 hvq hB2 HB2 HTK
      obtain ⟨⟨qn, hqn⟩, q⟩ := q
      simp only at d0 d1 d2 d3 d4 hvq
      obtain ⟨wS, hS⟩ : ∃ W : World, wo.alloc (.cells #[.string qn, .int .i8 q.op, .int .i8 q.fld, .int .u64 q.n, .slice p2 l2 k2] 79) = W := ⟨_, rfl⟩
      have xS : Ext wo wS := hS ▸ Ext.alloc _ _
      have rS : wS.rangeAt wo.heap.size 0 [.string qn, .int .i8 q.op, .int .i8 q.fld, .int .u64 q.n, .slice p2 l2 k2] := by
        have := rangeAt_new wo #[.string qn, .int .i8 q.op, .int .i8 q.fld, .int .u64 q.n, .slice p2 l2 k2] 79
        rw [hS] at this
        exact this
      have HRS := Lib.hid (fun W (hW : Ext wS W) => cells5 (World.rangeAt.later hW.later rS))
      have HXS := Lib.hid (hx.out.trans xS)
      have HNM := Lib.hid (refName_any qn wS)
      have HRQ := Lib.hid (fun W (hW : Ext wS W) => refRight_any q true _ W (hvq.later (xS.trans hW).later))
      have HEQ := Lib.hid hS
      have HQE := Lib.hid hqe
      clear hB2 hvq hqe rS hS xS hq
      go_upto_region 9 with (first
        | (refine wpList_store_new rfl 79 _ _ rfl _ #[.string qn, .int .i8 q.op, .int .i8 q.fld, .int .u64 q.n, .slice p2 l2 k2] rfl rfl (by kernel_rfl) rfl (by rfl) ?_))
      rw [HEQ.out]
      clear HEQ d0 d1 d2 d3 d4 c0 c1 c2 c3 c4
      try simp only [Act.put]
      obtain ⟨d0, d1, d2, d3, d4⟩ := HRS.out _ (Ext.refl _)
      go_wp2_with fail
      refine HNM.out.mono ?_
      rintro e w3 ⟨rfl, hx3⟩
      have HX3 := Lib.hid hx3
      clear d0 d1 d2 d3 d4
      obtain ⟨d0, d1, d2, d3, d4⟩ := HRS.out _ hx3
      cases hn : nameB qn with
      | false =>
        have HF := Lib.hid (show checkP t qs = 170 from by rw [HP3.out, ← HB2.out]; simp [hn])
        clear hn
        go_wp2_with fail
        go_ret
        exact ⟨by rw [HF.out]; rfl, HZ.out.trans (HXS.out.trans HX3.out)⟩
      | true =>
      have HRq := Lib.hid (HRQ.out w3 hx3)
      have HNT := Lib.hid hn
      clear hn
      go_wp2_with fail
      refine HRq.out.mono ?_
      rintro e w4 ⟨rfl, hx4⟩
      have HX4 := Lib.hid (HX3.out.trans hx4)
      clear d0 d1 d2 d3 d4
      cases hrq : q.right true with
      | false =>
        have HF := Lib.hid (show checkP t qs = 170 from by rw [HP3.out, ← HB2.out]; simp [hrq])
        clear hrq
        go_wp2_with fail
        go_ret
        exact ⟨by rw [HF.out]; rfl, HZ.out.trans (HXS.out.trans HX4.out)⟩
      | true =>
      have HRT := Lib.hid hrq
      clear hrq
      go_wp2_with fail
      go_loopw [5] (fun i wr => ∃ (k : Nat), k ≤ j ∧ i = .int .i64 k ∧ Hid (∀ m (h : m < qs.length), m < k → (qs[m]).1.1 ≠ qn) ∧ Hid (Ext w4 wr)) (fun i _ => j - (intOf i).toNat)
      case atStart => exact ⟨0, Nat.zero_le _, rfl, fun k _ h => absurd h (Nat.not_lt_zero _), Ext.refl _⟩
      case round =>
        obtain ⟨wn, rfl⟩ : ∃ wn : World, wn = wr := ⟨_, rfl⟩
        obtain ⟨k, hk, rfl, hall, hxn⟩ := hrel
        have HXN := Lib.hid (HXS.out.trans (HX4.out.trans hxn.out))
        by_cases hkj : k < j
        · have hkq : k < qs.length := by omega
          have hkl : k < lq := by omega
          obtain ⟨p3, l3, k3, e0, -, -, -, -, -⟩ := qs_cells (QsAt_get (HQQ.out wn.drew (HXN.out.andDrew)) k hkq)
          obtain ⟨d0, d1, d2, d3, d4⟩ := HRS.out _ ((HX4.out.trans hxn.out).andDrew)
          obtain ⟨c0, c1, c2, c3, c4⟩ := cells5 (HRA.out _ HXN.out.andDrew)
          obtain ⟨kn, hkn⟩ : ∃ s, s = (qs[k]).1.1 := ⟨_, rfl⟩
          rw [← hkn] at e0
          have HKN := Lib.hid hkn
          clear hkn
          go_upto_region 14 with fail
          go_cut [53] from 40 to 53 (fun s53 wx => s53 = .bool (decide (kn = qn)) ∧ Hid (Ext wn wx))
          case first =>
            go_region
            all_goals go_wp2_with fail
            all_goals go_meet
            all_goals exact ⟨congrArg Value.bool (beq_toList kn qn), Ext.drew _⟩
          case rest =>
            obtain ⟨rfl, hxc⟩ := hcut
            clear c0 c1 c2 c3 c4 d0 d1 d2 d3 d4 e0
            have HQB := Lib.hid (show decide (kn = qn) = true ↔ kn = qn from decide_eq_true_iff)
            generalize decide (kn = qn) = bq at *
            cases bq with
            | true =>
              have he := HQB.out.1 rfl
              have HF := Lib.hid (show checkP t qs = 170 from by
                rw [HP3.out, ← HB2.out]
                have : ((qs.take j).map (·.1)).any (fun s => decide (s = ⟨qn, hqn⟩)) = true := by
                  rw [List.any_eq_true]
                  refine ⟨(qs[k]).1, List.mem_map.2 ⟨qs[k], ?_, rfl⟩, decide_eq_true (Subtype.ext (by rw [← HKN.out]; exact he))⟩
                  rw [List.mem_take_iff_getElem]
                  exact ⟨k, by omega, rfl⟩
                rw [this]; simp)
              clear he HQB
              go_wp2_with fail
              go_ret
              exact ⟨by rw [HF.out]; rfl, HZ.out.trans (HXN.out.trans hxc.out)⟩
            | false =>
              have he : ¬ kn = qn := fun e => by have := HQB.out.2 e; cases this
              have HA := Lib.hid (show ∀ m (h : m < qs.length), m < k + 1 → (qs[m]).1.1 ≠ qn from fun m h hm => by
                rcases Nat.lt_succ_iff_lt_or_eq.1 hm with h1 | rfl
                · exact hall.out m h h1
                · rw [← HKN.out]; exact he)
              clear he HQB
              go_wp2_with fail
              go_roundw
              case rel => exact ⟨k + 1, by omega, by go_num, HA.out, hxn.out.trans hxc.out⟩
              case measure => simp [intOf]; omega
        · have HNX := Lib.hid (show qsB ((qs.take (j + 1)).map (·.1)) (qs.drop (j + 1)) = qsB [] qs from by
            rw [← HB2.out]
            have : ((qs.take j).map (·.1)).any (fun s => decide (s = ⟨qn, hqn⟩)) = false := by
              rw [List.any_eq_false]
              intro s hs
              obtain ⟨q', hq', rfl⟩ := List.mem_map.1 hs
              obtain ⟨m, hm, rfl⟩ := List.mem_take_iff_getElem.1 hq'
              have := hall.out m (by omega) (by omega)
              simpa using fun e => this (congrArg Subtype.val e)
            rw [this, HNT.out, HRT.out]; simp)
          clear hall
          go_wp2_with fail
          go_roundw
          case rel => exact ⟨j + 1, by omega, by go_num, HNX.out, HXN.out⟩
          case measure => simp [intOf]; omega
    · have HF := Lib.hid (show checkP t qs = 0 from by
        have h := hB.out
        rw [List.drop_of_length_le (by have := HL.out; omega), qsB] at h
        rw [HP3.out, ← h]; rfl)
      clear hB
      go_wp2_with fail
      go_ret
      exact ⟨by rw [HF.out]; rfl, HZ.out.trans hx.out⟩
end Go.Proofs.Ytddeelepaiklgaa
/- The document's Hop. -/
namespace Go.Proofs.Ytddeelepaiklgaa
open Go.RowKit Go.Maps Go.Sort Go.Lib
set_option linter.unusedSimpArgs false

set_option maxHeartbeats 8000000 in
set_option maxRecDepth 100000 in
theorem refHop_any (t : Tm) (qs : List Qr) (step pol : Int) (x : Hdr) (out : List Hdr) (hv pv : Value) (w : World) (hh : HopVal w step pol x out hv) (hp : PVal w t qs pv) :
    Calls Try.prog 11 #[hv, pv] w fun e w' => e = .returned (.bool (hopP t qs x out)) ∧ Ext w w' := by
  have HPV := Lib.hid hp
  obtain ⟨ov, rfl, ⟨po, lo, co, rfl, hlo, hout⟩, hmax⟩ := hh
  have HLO := Lib.hid hlo
  have hlm : lo ≤ 9223372036854775807 := by omega
  obtain ⟨p, len, cap, qv, rfl, hvt, -⟩ := hp
  have HVT := Lib.hid hvt
  obtain ⟨wA, hA⟩ : ∃ W : World, w.alloc (.cells (hopCs step pol x (.slice po lo co)).toArray 27) = W := ⟨_, rfl⟩
  have xA : Ext w wA := hA ▸ Ext.alloc _ _
  have sA : wA.heap.size = w.heap.size + 1 := by rw [← hA, World.size_alloc]
  have rA : wA.rangeAt w.heap.size 0 (hopCs step pol x (.slice po lo co)) := by
    have := rangeAt_new w (hopCs step pol x (.slice po lo co)).toArray 27
    rw [hA] at this
    exact this
  obtain ⟨wB, hB⟩ : ∃ W : World, wA.alloc (.cells #[.int .i8 t.op, .int .i8 t.fld, .int .u64 t.n, .slice p len cap, qv] 34) = W := ⟨_, rfl⟩
  have xB : Ext wA wB := hB ▸ Ext.alloc _ _
  have rB : wB.rangeAt (w.heap.size + 1) 0 [.int .i8 t.op, .int .i8 t.fld, .int .u64 t.n, .slice p len cap, qv] := by
    have := rangeAt_new wA #[.int .i8 t.op, .int .i8 t.fld, .int .u64 t.n, .slice p len cap, qv] 34
    rw [hB, sA] at this
    exact this
  have HX := Lib.hid (xA.trans xB)
  have HHC := Lib.hid (fun W (hW : Ext wB W) => hop_cells (World.rangeAt.later (xB.trans hW).later rA))
  have HPC := Lib.hid (fun W (hW : Ext wB W) => cells5 (World.rangeAt.later hW.later rB))
  have HO := Lib.hid (show out = [] ∨ ∃ b o, po = some ⟨b, o, none⟩ ∧ ∀ W, Ext wB W → W.rangeAt b o (flatH out) from
    hout.imp id fun ⟨b, o, hp, _, hr⟩ => ⟨b, o, hp, fun W hW => World.rangeAt.later ((xA.trans xB).trans hW).later hr⟩)
  have HEQ := Lib.hid (show w.alloc (.cells (hopCs step pol x (.slice po lo co)).toArray 27) = wA ∧ wA.alloc (.cells #[.int .i8 t.op, .int .i8 t.fld, .int .u64 t.n, .slice p len cap, qv] 34) = wB from ⟨hA, hB⟩)
  have HCK := Lib.hid (refCheckQ_any t qs _ wB (HPV.out.later HX.out.later))
  obtain ⟨b0, b1, b2, b3, b4⟩ := HPC.out _ (Ext.refl _)
  clear xA sA rA hA xB rB hB hlo hout hmax hvt
  go_enter Try.func11, Try.ntmps11
  go_upto_region 1 with fail
  rw [HEQ.out.1, HEQ.out.2]
  clear HEQ
  go_wp2_with fail
  refine HCK.out.mono ?_
  rintro e w1 ⟨rfl, hx1⟩
  clear b0 b1 b2 b3 b4
  obtain ⟨b0, b1, b2, b3, b4⟩ := HPC.out _ hx1
  have hhc := HHC.out _ hx1
  have HRX := Lib.hid hhc.2.2.1
  have c3 := cellAt hhc.2.2.1 3 (by omega)
  have c13 := hhc.2.2.2
  simp only [Nat.zero_add, Nat.reduceAdd] at c3 c13
  have HX1 := Lib.hid hx1
  clear hhc
  by_cases h0 : checkP t qs = 0
  case neg =>
    have HF := Lib.hid (show hopP t qs x out = false from by simp [hopP, h0])
    have hd : (checkP t qs == 0) = false := by simpa using h0
    generalize checkP t qs = y at *
    go_wp2_with fail
    go_ret
    exact ⟨by rw [HF.out]; rfl, HX.out.trans HX1.out⟩
  have HP1 := Lib.hid (show hopP t qs x out = (decide (x.f 3 = 0) && (decide ((ofC t x).1 = 0) && hopL (ofC t x).2 [] out)) from by simp [hopP, h0])
  rw [h0]
  clear h0
  by_cases h3 : x.f 3 = 0
  case neg =>
    have HF := Lib.hid (show hopP t qs x out = false from by rw [HP1.out]; simp [h3])
    have hd : (x.f 3 == 0) = false := by simpa using h3
    generalize x.f 3 = y at *
    go_wp2_with fail
    go_ret
    exact ⟨by rw [HF.out]; rfl, HX.out.trans HX1.out⟩
  have HP2 := Lib.hid (show hopP t qs x out = (decide ((ofC t x).1 = 0) && hopL (ofC t x).2 [] out) from by rw [HP1.out]; simp [h3])
  rw [h3] at c3
  clear h3 HP1
  have HOF := Lib.hid (refOf_any t _ x w1 (HVT.out.later (HX.out.trans HX1.out).later))
  generalize ofC t x = R at *
  obtain ⟨c, l⟩ := R
  go_upto_region 3 with fail
  go_wp2_with (first | (refine wpList_load_H rfl _ rfl w.heap.size 2 rfl x HRX.out ?_))
  refine HOF.out.mono ?_
  rintro e w2 ⟨hx2, h64, v2, rfl, hs2⟩
  have HX2 := Lib.hid (HX1.out.trans hx2)
  obtain ⟨p2, len2, cap2, rfl, hlen2, hl2⟩ := hs2
  have HL2 := Lib.hid (show len2 = l.length from hlen2)
  have hlen64 : len2 ≤ 64 := by rw [hlen2]; exact h64
  clear b0 b1 b2 b3 b4 c3 c13 hlen2
  by_cases hc0 : c = 0
  case neg =>
    have HF := Lib.hid (show hopP t qs x out = false from by rw [HP2.out]; simp [hc0])
    have hd : (c == 0) = false := by simpa using hc0
    go_wp2_with fail
    go_ret
    exact ⟨by rw [HF.out]; rfl, HX.out.trans HX2.out⟩
  have HP3 := Lib.hid (show hopP t qs x out = hopL l [] out from by rw [HP2.out]; simp [hc0])
  subst hc0
  have HLR := Lib.hid (show l = [] ∨ ∃ b o, p2 = some ⟨b, o, none⟩ ∧ ∀ W, Ext w2 W → W.rangeAt b o (flatH l) from
    hl2.imp id fun ⟨b, o, hp, _, hr⟩ => ⟨b, o, hp, fun W hW => World.rangeAt.later hW.later hr⟩)
  clear hl2 HP2
  go_wp2_with fail
  go_loopw [7] (fun i wr => ∃ j : Nat, j ≤ lo ∧ i = .int .i64 j ∧ Hid (hopL l (out.take j) (out.drop j) = hopL l [] out) ∧ Hid (Ext w2 wr)) (fun i _ => lo - (intOf i).toNat)
  case atStart => exact ⟨0, Nat.zero_le _, rfl, rfl, Ext.refl _⟩
  case round =>
    obtain ⟨wo, rfl⟩ : ∃ wo : World, wo = wr := ⟨_, rfl⟩
    obtain ⟨j, hj, rfl, hH, hx⟩ := hrel
    have c13 := (HHC.out _ (HX2.out.trans hx.out)).2.2.2
    simp only [Nat.zero_add, Nat.reduceAdd] at c13
    by_cases hlt : j < lo
    case neg =>
      have HF := Lib.hid (show hopP t qs x out = true from by
        rw [HP3.out, ← hH.out, List.drop_of_length_le (by have := HLO.out; omega), hopL])
      clear hH
      go_wp2_with fail
      go_ret
      exact ⟨by rw [HF.out]; rfl, HX.out.trans (HX2.out.trans hx.out)⟩
    have hjl : j < out.length := by rw [← HLO.out]; exact hlt
    rcases HO.out with hl | ⟨b, o, rfl, hr⟩
    · exfalso; subst hl; simp at hjl
    have HTk := Lib.hid (List.take_succ_eq_append_getElem hjl)
    have hH2 := hH.out
    rw [drop_get hjl, hopL] at hH2
    have HRO := Lib.hid (fun W (hW : Ext wB W) k (hk : k < out.length) => rangeAt_get Hdr.len_cs (hr W hW) k hk)
    obtain ⟨y, hy⟩ : ∃ y, y = out[j] := ⟨_, rfl⟩
    rw [← hy] at hH2
    have HRY := Lib.hid (fun W (hW : Ext wB W) => show W.rangeAt b (o + j * 11) y.cs.toList from by rw [hy]; exact HRO.out W hW j hjl)
    have HH2 := Lib.hid hH2
    have HY := Lib.hid hy
    clear hH2 hr hy
    have huH := Try.underlying24
    have hiH : ∀ x : Hdr, (Try.prog.info? 24).map (·.size) = some x.cs.toList.length := fun x => by rw [x.len_cs]; kernel_rfl
    have hg := guardH
    have HUS := Lib.hid (And.intro huH (And.intro hiH hg))
    clear huH hiH hg
    go_wp2_with fail
    clear c13
    go_loopw [8, 9] (fun th i wr => ∃ k : Nat, k ≤ len2 ∧ i = .int .i64 k ∧ Hid (th = .bool (decide (y ∈ l.take k))) ∧ Hid (Ext wo wr)) (fun _ i _ => len2 - (intOf i).toNat)
    case atStart => exact ⟨0, Nat.zero_le _, rfl, by show Value.bool false = .bool (decide (y ∈ l.take 0)); simp, Ext.refl _⟩
    case round =>
      obtain ⟨wn, rfl⟩ : ∃ wn : World, wn = wr := ⟨_, rfl⟩
      obtain ⟨k, hk, rfl, hth, hxn⟩ := hrel
      have HXN := Lib.hid (HX2.out.trans (hx.out.trans hxn.out))
      by_cases hlt2 : k < len2
      · have hkl : k < l.length := by rw [← HL2.out]; exact hlt2
        rcases HLR.out with h | ⟨b3, o3, rfl, hr3⟩
        · exfalso; subst h; simp at hkl
        have HTK := Lib.hid (show (y ∈ l.take (k + 1)) ↔ (y ∈ l.take k ∨ l[k] = y) from by
          rw [List.take_succ_eq_append_getElem hkl, List.mem_append, List.mem_singleton]
          exact ⟨fun h => h.imp id Eq.symm, fun h => h.imp id Eq.symm⟩)
        have hrz := fun W (hW : Ext w2 W) => rangeAt_get Hdr.len_cs (hr3 W hW) k hkl
        generalize l[k] = z at *
        have HSS := Lib.hid (fun W (hW : Ext wn W) => (show (fun W => W.rangeAt b3 (o3 + k * 11) z.cs.toList ∧ W.rangeAt b (o + j * 11) y.cs.toList ∧ W.cell? ⟨w.heap.size, 13, none⟩ = some (.slice (some ⟨b, o, none⟩) lo co)) W from
          ⟨hrz W (hx.out.trans (hxn.out.trans hW)), HRY.out W (HXN.out.trans hW), by simpa using (HHC.out W (HXN.out.trans hW)).2.2.2⟩))
        have huH := HUS.out.1
        have hiH := HUS.out.2.1
        have hg := HUS.out.2.2
        have hz0 : Ext wn wn.drew := Ext.drew _
        have he : ∀ W, (Op.equalIn 10000 24 (.agg z.cs) (.agg y.cs)).run Try.prog W = .ok (decide (z = y)) W := fun W => eqH z y W
        clear hrz hr3
        have hth' := hth.out
        subst hth'
        cases hin : decide (y ∈ l.take k) with
        | true =>
          have HD := Lib.hid (show decide (y ∈ l.take (k + 1)) = true from by
            rw [decide_eq_true_eq, HTK.out]; exact .inl (of_decide_eq_true hin))
          clear hin hth
          go_upto_region 13 with fail
          refine wp_region_noPanic ?_
          refine wp_region_held_drew (S := (fun W => W.rangeAt b3 (o3 + k * 11) z.cs.toList ∧ W.rangeAt b (o + j * 11) y.cs.toList ∧ W.cell? ⟨w.heap.size, 13, none⟩ = some (.slice (some ⟨b, o, none⟩) lo co))) (by kernel_rfl) (HSS.out _ (Ext.drew _)) (fun hHeld => ?_)
          refine wpAnyH_take (i := 0) (v := .bool true) rfl (by kernel_rfl) (by kernel_rfl) (by kernel_rfl) (fun _ _ _ h => h) (Or.inl ⟨by rfl, by (intro w hSw; (try dsimp only at hSw); go_simp)⟩) (by assumption) ?_
          try simp only [List.getElem_toArray, List.getElem_cons_zero, List.getElem_cons_succ, Act.put, List.setIfInBounds_toArray, List.set_cons_zero, List.set_cons_succ, Array.toArray_toList]
          refine wpAnyH_take (i := 1) (v := .bool true) rfl (by kernel_rfl) (by kernel_rfl) (by kernel_rfl) (fun _ _ _ h => h) (Or.inl ⟨by rfl, by (intro w hSw; (try dsimp only at hSw); go_simp)⟩) (by assumption) ?_
          try simp only [List.getElem_toArray, List.getElem_cons_zero, List.getElem_cons_succ, Act.put, List.setIfInBounds_toArray, List.set_cons_zero, List.set_cons_succ, Array.toArray_toList]
          refine wpAnyH_take (i := 2) (v := undef) rfl (by kernel_rfl) (by kernel_rfl) (by kernel_rfl) (fun _ _ _ h => h) (Or.inr ⟨by rfl, rfl⟩) (by assumption) ?_
          try simp only [List.getElem_toArray, List.getElem_cons_zero, List.getElem_cons_succ, Act.put, List.setIfInBounds_toArray, List.set_cons_zero, List.set_cons_succ, Array.toArray_toList]
          refine wpAnyH_take (i := 3) (v := undef) rfl (by kernel_rfl) (by kernel_rfl) (by kernel_rfl) (fun _ _ _ h => h) (Or.inr ⟨by rfl, rfl⟩) (by assumption) ?_
          try simp only [List.getElem_toArray, List.getElem_cons_zero, List.getElem_cons_succ, Act.put, List.setIfInBounds_toArray, List.set_cons_zero, List.set_cons_succ, Array.toArray_toList]
          refine wpAnyH_take (i := 4) (v := undef) rfl (by kernel_rfl) (by kernel_rfl) (by kernel_rfl) (fun _ _ _ h => h) (Or.inr ⟨by rfl, rfl⟩) (by assumption) ?_
          try simp only [List.getElem_toArray, List.getElem_cons_zero, List.getElem_cons_succ, Act.put, List.setIfInBounds_toArray, List.set_cons_zero, List.set_cons_succ, Array.toArray_toList]
          refine wpAnyH_take (i := 5) (v := undef) rfl (by kernel_rfl) (by kernel_rfl) (by kernel_rfl) (fun _ _ _ h => h) (Or.inr ⟨by rfl, rfl⟩) (by assumption) ?_
          try simp only [List.getElem_toArray, List.getElem_cons_zero, List.getElem_cons_succ, Act.put, List.setIfInBounds_toArray, List.set_cons_zero, List.set_cons_succ, Array.toArray_toList]
          refine wpAnyH_take (i := 6) (v := undef) rfl (by kernel_rfl) (by kernel_rfl) (by kernel_rfl) (fun _ _ _ h => h) (Or.inr ⟨by rfl, rfl⟩) (by assumption) ?_
          try simp only [List.getElem_toArray, List.getElem_cons_zero, List.getElem_cons_succ, Act.put, List.setIfInBounds_toArray, List.set_cons_zero, List.set_cons_succ, Array.toArray_toList]
          refine wpAnyH_take (i := 7) (v := undef) rfl (by kernel_rfl) (by kernel_rfl) (by kernel_rfl) (fun _ _ _ h => h) (Or.inr ⟨by rfl, rfl⟩) (by assumption) ?_
          try simp only [List.getElem_toArray, List.getElem_cons_zero, List.getElem_cons_succ, Act.put, List.setIfInBounds_toArray, List.set_cons_zero, List.set_cons_succ, Array.toArray_toList]
          refine wpAnyH_take (i := 8) (v := undef) rfl (by kernel_rfl) (by kernel_rfl) (by kernel_rfl) (fun _ _ _ h => h) (Or.inr ⟨by rfl, rfl⟩) (by assumption) ?_
          try simp only [List.getElem_toArray, List.getElem_cons_zero, List.getElem_cons_succ, Act.put, List.setIfInBounds_toArray, List.set_cons_zero, List.set_cons_succ, Array.toArray_toList]
          refine wpAnyH_take (i := 9) (v := undef) rfl (by kernel_rfl) (by kernel_rfl) (by kernel_rfl) (fun _ _ _ h => h) (Or.inr ⟨by rfl, rfl⟩) (by assumption) ?_
          try simp only [List.getElem_toArray, List.getElem_cons_zero, List.getElem_cons_succ, Act.put, List.setIfInBounds_toArray, List.set_cons_zero, List.set_cons_succ, Array.toArray_toList]
          refine wpAnyH_take (i := 10) (v := undef) rfl (by kernel_rfl) (by kernel_rfl) (by kernel_rfl) (fun _ _ _ h => h) (Or.inr ⟨by rfl, rfl⟩) (by assumption) ?_
          try simp only [List.getElem_toArray, List.getElem_cons_zero, List.getElem_cons_succ, Act.put, List.setIfInBounds_toArray, List.set_cons_zero, List.set_cons_succ, Array.toArray_toList]
          refine wpAnyH_take (i := 11) (v := undef) rfl (by kernel_rfl) (by kernel_rfl) (by kernel_rfl) (fun _ _ _ h => h) (Or.inr ⟨by rfl, rfl⟩) (by assumption) ?_
          try simp only [List.getElem_toArray, List.getElem_cons_zero, List.getElem_cons_succ, Act.put, List.setIfInBounds_toArray, List.set_cons_zero, List.set_cons_succ, Array.toArray_toList]
          refine wpAnyH_take (i := 12) (v := .bool true) rfl (by kernel_rfl) (by kernel_rfl) (by kernel_rfl) (fun _ _ _ h => h) (Or.inl ⟨by rfl, by (intro w hSw; (try dsimp only at hSw); go_simp)⟩) (by assumption) ?_
          try simp only [List.getElem_toArray, List.getElem_cons_zero, List.getElem_cons_succ, Act.put, List.setIfInBounds_toArray, List.set_cons_zero, List.set_cons_succ, Array.toArray_toList]
          refine wpAnyH_take (i := 13) (v := .bool true) rfl (by kernel_rfl) (by kernel_rfl) (by kernel_rfl) (fun _ _ _ h => h) (Or.inl ⟨by rfl, by (intro w hSw; (try dsimp only at hSw); go_simp)⟩) (by assumption) ?_
          try simp only [List.getElem_toArray, List.getElem_cons_zero, List.getElem_cons_succ, Act.put, List.setIfInBounds_toArray, List.set_cons_zero, List.set_cons_succ, Array.toArray_toList]
          refine wpAnyH_done (by kernel_rfl) ?_ _
          refine NoPanic.normal ?_
          go_wp2_with fail
          go_roundw
          case rel => exact ⟨k + 1, by omega, by go_num, by rw [HD.out]; rfl, hxn.out.trans hz0⟩
          case measure => simp [intOf]; omega
        | false =>
          have HD := Lib.hid (show decide (y ∈ l.take (k + 1)) = decide (z = y) from by
            apply decide_eq_decide.2
            rw [HTK.out]
            exact ⟨fun h => h.elim (fun h => absurd h (of_decide_eq_false hin)) id, .inr⟩)
          clear hin hth
          go_upto_region 13 with fail
          refine wp_region_noPanic ?_
          refine wp_region_held_drew (S := (fun W => W.rangeAt b3 (o3 + k * 11) z.cs.toList ∧ W.rangeAt b (o + j * 11) y.cs.toList ∧ W.cell? ⟨w.heap.size, 13, none⟩ = some (.slice (some ⟨b, o, none⟩) lo co))) (by kernel_rfl) (HSS.out _ (Ext.drew _)) (fun hHeld => ?_)
          refine wpAnyH_take (i := 0) (v := .bool false) rfl (by kernel_rfl) (by kernel_rfl) (by kernel_rfl) (fun _ _ _ h => h) (Or.inl ⟨by rfl, by (intro w hSw; (try dsimp only at hSw); go_simp)⟩) (by assumption) ?_
          try simp only [List.getElem_toArray, List.getElem_cons_zero, List.getElem_cons_succ, Act.put, List.setIfInBounds_toArray, List.set_cons_zero, List.set_cons_succ, Array.toArray_toList]
          refine wpAnyH_take (i := 1) (v := .bool false) rfl (by kernel_rfl) (by kernel_rfl) (by kernel_rfl) (fun _ _ _ h => h) (Or.inl ⟨by rfl, by (intro w hSw; (try dsimp only at hSw); go_simp)⟩) (by assumption) ?_
          try simp only [List.getElem_toArray, List.getElem_cons_zero, List.getElem_cons_succ, Act.put, List.setIfInBounds_toArray, List.set_cons_zero, List.set_cons_succ, Array.toArray_toList]
          refine wpAnyH_take (i := 2) (v := .slice (some ⟨b3, o3, none⟩) len2 cap2) rfl (by kernel_rfl) (by kernel_rfl) (by kernel_rfl) (fun _ _ _ h => h) (Or.inl ⟨by rfl, by (intro w hSw; (try dsimp only at hSw); go_simp)⟩) (by assumption) ?_
          try simp only [List.getElem_toArray, List.getElem_cons_zero, List.getElem_cons_succ, Act.put, List.setIfInBounds_toArray, List.set_cons_zero, List.set_cons_succ, Array.toArray_toList]
          refine wpAnyH_take (i := 3) (v := .int .i64 k) rfl (by kernel_rfl) (by kernel_rfl) (by kernel_rfl) (fun _ _ _ h => h) (Or.inl ⟨by rfl, by (intro w hSw; (try dsimp only at hSw); go_simp)⟩) (by assumption) ?_
          try simp only [List.getElem_toArray, List.getElem_cons_zero, List.getElem_cons_succ, Act.put, List.setIfInBounds_toArray, List.set_cons_zero, List.set_cons_succ, Array.toArray_toList]
          refine wpAnyH_take (i := 4) (v := .pointer (some ⟨b3, o3 + k * 11, none⟩)) rfl (by kernel_rfl) (by kernel_rfl) (by kernel_rfl) (fun _ _ _ h => h) (Or.inl ⟨by rfl, by (intro w hSw; (try dsimp only at hSw); go_simp)⟩) (by assumption) ?_
          try simp only [List.getElem_toArray, List.getElem_cons_zero, List.getElem_cons_succ, Act.put, List.setIfInBounds_toArray, List.set_cons_zero, List.set_cons_succ, Array.toArray_toList]
          refine wpAnyH_take (i := 5) (v := .agg z.cs.toList.toArray) rfl (by kernel_rfl) (by kernel_rfl) (by kernel_rfl) (fun _ _ _ h => h) ?_ (by assumption) ?_
          · try simp only [List.getElem_toArray, List.getElem_cons_zero, List.getElem_cons_succ]
            exact yieldsIf_load_mid (by rfl) _ _ rfl (b3) (o3 + k * 11) rfl z.cs.toList _ (fun w hSw => hSw.1) huH rfl (hiH z)
          try simp only [List.getElem_toArray, List.getElem_cons_zero, List.getElem_cons_succ, Act.put, List.setIfInBounds_toArray, List.set_cons_zero, List.set_cons_succ, Array.toArray_toList]
          refine wpAnyH_take (i := 6) (v := .pointer (some ⟨w.heap.size, 13, none⟩)) rfl (by kernel_rfl) (by kernel_rfl) (by kernel_rfl) (fun _ _ _ h => h) (Or.inl ⟨by rfl, by (intro w hSw; (try dsimp only at hSw); go_simp)⟩) (by assumption) ?_
          try simp only [List.getElem_toArray, List.getElem_cons_zero, List.getElem_cons_succ, Act.put, List.setIfInBounds_toArray, List.set_cons_zero, List.set_cons_succ, Array.toArray_toList]
          refine wpAnyH_take (i := 7) (v := .slice (some ⟨b, o, none⟩) lo co) rfl (by kernel_rfl) (by kernel_rfl) (by kernel_rfl) (fun _ _ _ h => h) (Or.inl ⟨by rfl, by (intro w hSw; (try dsimp only at hSw); go_simp)⟩) (by assumption) ?_
          try simp only [List.getElem_toArray, List.getElem_cons_zero, List.getElem_cons_succ, Act.put, List.setIfInBounds_toArray, List.set_cons_zero, List.set_cons_succ, Array.toArray_toList]
          refine wpAnyH_take (i := 8) (v := .int .i64 j) rfl (by kernel_rfl) (by kernel_rfl) (by kernel_rfl) (fun _ _ _ h => h) (Or.inl ⟨by rfl, by (intro w hSw; (try dsimp only at hSw); go_simp)⟩) (by assumption) ?_
          try simp only [List.getElem_toArray, List.getElem_cons_zero, List.getElem_cons_succ, Act.put, List.setIfInBounds_toArray, List.set_cons_zero, List.set_cons_succ, Array.toArray_toList]
          refine wpAnyH_take (i := 9) (v := .pointer (some ⟨b, o + j * 11, none⟩)) rfl (by kernel_rfl) (by kernel_rfl) (by kernel_rfl) (fun _ _ _ h => h) (Or.inl ⟨by rfl, by (intro w hSw; (try dsimp only at hSw); go_simp)⟩) (by assumption) ?_
          try simp only [List.getElem_toArray, List.getElem_cons_zero, List.getElem_cons_succ, Act.put, List.setIfInBounds_toArray, List.set_cons_zero, List.set_cons_succ, Array.toArray_toList]
          refine wpAnyH_take (i := 10) (v := .agg y.cs.toList.toArray) rfl (by kernel_rfl) (by kernel_rfl) (by kernel_rfl) (fun _ _ _ h => h) ?_ (by assumption) ?_
          · try simp only [List.getElem_toArray, List.getElem_cons_zero, List.getElem_cons_succ]
            exact yieldsIf_load_mid (by rfl) _ _ rfl (b) (o + j * 11) rfl y.cs.toList _ (fun w hSw => hSw.2.1) huH rfl (hiH y)
          try simp only [List.getElem_toArray, List.getElem_cons_zero, List.getElem_cons_succ, Act.put, List.setIfInBounds_toArray, List.set_cons_zero, List.set_cons_succ, Array.toArray_toList]
          refine wpAnyH_take (i := 11) (v := .bool (decide (z = y))) rfl (by kernel_rfl) (by kernel_rfl) (by kernel_rfl) (fun _ _ _ h => h) (Or.inl ⟨by rfl, by (intro w hSw; (try dsimp only at hSw); go_simp)⟩) (by assumption) ?_
          try simp only [List.getElem_toArray, List.getElem_cons_zero, List.getElem_cons_succ, Act.put, List.setIfInBounds_toArray, List.set_cons_zero, List.set_cons_succ, Array.toArray_toList]
          refine wpAnyH_take (i := 12) (v := .bool (decide (z = y))) rfl (by kernel_rfl) (by kernel_rfl) (by kernel_rfl) (fun _ _ _ h => h) (Or.inl ⟨by rfl, by (intro w hSw; (try dsimp only at hSw); go_simp)⟩) (by assumption) ?_
          try simp only [List.getElem_toArray, List.getElem_cons_zero, List.getElem_cons_succ, Act.put, List.setIfInBounds_toArray, List.set_cons_zero, List.set_cons_succ, Array.toArray_toList]
          refine wpAnyH_take (i := 13) (v := .bool (decide (z = y))) rfl (by kernel_rfl) (by kernel_rfl) (by kernel_rfl) (fun _ _ _ h => h) (Or.inl ⟨by rfl, by (intro w hSw; (try dsimp only at hSw); go_simp)⟩) (by assumption) ?_
          try simp only [List.getElem_toArray, List.getElem_cons_zero, List.getElem_cons_succ, Act.put, List.setIfInBounds_toArray, List.set_cons_zero, List.set_cons_succ, Array.toArray_toList]
          refine wpAnyH_done (by kernel_rfl) ?_ _
          refine NoPanic.normal ?_
          go_wp2_with fail
          go_roundw
          case rel => exact ⟨k + 1, by omega, by go_num, by rw [HD.out]; rfl, hxn.out.trans hz0⟩
          case measure => simp [intOf]; omega
      · have hth' := hth.out
        rw [List.take_of_length_le (by have := HL2.out; omega)] at hth'
        subst hth'
        clear hth
        go_wp2_with fail
        go_loopw [8, 10] (fun th i wr => ∃ k : Nat, k ≤ j ∧ i = .int .i64 k ∧ Hid (th = .bool (decide (y ∈ l) && !decide (y ∈ out.take k))) ∧ Hid (Ext wn wr)) (fun _ i _ => j - (intOf i).toNat)
        case atStart => exact ⟨0, Nat.zero_le _, rfl, by show Value.bool (decide (y ∈ l)) = .bool (decide (y ∈ l) && !decide (y ∈ out.take 0)); simp, Ext.refl _⟩
        case round =>
          obtain ⟨wm, rfl⟩ : ∃ wm : World, wm = wr := ⟨_, rfl⟩
          obtain ⟨m, hm, rfl, hth, hxm⟩ := hrel
          have HXM := Lib.hid (HXN.out.trans hxm.out)
          by_cases hlt3 : m < j
          · have hml : m < out.length := by omega
            have hmo : m < lo := by omega
            have HTK := Lib.hid (show (y ∈ out.take (m + 1)) ↔ (y ∈ out.take m ∨ out[m] = y) from by
              rw [List.take_succ_eq_append_getElem hml, List.mem_append, List.mem_singleton]
              exact ⟨fun h => h.imp id Eq.symm, fun h => h.imp id Eq.symm⟩)
            obtain ⟨z, hz⟩ : ∃ z, z = out[m] := ⟨_, rfl⟩
            rw [← hz] at HTK
            have HRZ := Lib.hid (fun W (hW : Ext wB W) => show W.rangeAt b (o + m * 11) z.cs.toList from by rw [hz]; exact HRO.out W hW m hml)
            clear hz
            have HSS := Lib.hid (fun W (hW : Ext wm W) => (show (fun W => W.rangeAt b (o + m * 11) z.cs.toList ∧ W.rangeAt b (o + j * 11) y.cs.toList ∧ W.cell? ⟨w.heap.size, 13, none⟩ = some (.slice (some ⟨b, o, none⟩) lo co)) W from
              ⟨HRZ.out W (HXM.out.trans hW), HRY.out W (HXM.out.trans hW), by simpa using (HHC.out W (HXM.out.trans hW)).2.2.2⟩))
            have huH := HUS.out.1
            have hiH := HUS.out.2.1
            have hg := HUS.out.2.2
            have hz0 : Ext wm wm.drew := Ext.drew _
            have he : ∀ W, (Op.equalIn 10000 24 (.agg z.cs) (.agg y.cs)).run Try.prog W = .ok (decide (z = y)) W := fun W => eqH z y W
            have hth' := hth.out
            subst hth'
            have HBR := Lib.hid (show (decide (y ∈ l) && !decide (y ∈ out.take (m + 1))) = ((decide (y ∈ l) && !decide (y ∈ out.take m)) && !decide (z = y)) from by
              rw [Bool.and_assoc]
              congr 1
              by_cases h1 : y ∈ out.take m
              · simp [h1, HTK.out]
              · simp [h1, HTK.out])
            generalize (decide (y ∈ l) && !decide (y ∈ out.take m)) = bt at *
            cases bt with
            | false =>
              clear hth
              go_upto_region 17 with fail
              refine wp_region_noPanic ?_
              refine wp_region_held_drew (S := (fun W => W.rangeAt b (o + m * 11) z.cs.toList ∧ W.rangeAt b (o + j * 11) y.cs.toList ∧ W.cell? ⟨w.heap.size, 13, none⟩ = some (.slice (some ⟨b, o, none⟩) lo co))) (by kernel_rfl) (HSS.out _ (Ext.drew _)) (fun hHeld => ?_)
              refine wpAnyH_take (i := 0) (v := .bool false) rfl (by kernel_rfl) (by kernel_rfl) (by kernel_rfl) (fun _ _ _ h => h) (Or.inl ⟨by rfl, by (intro w hSw; (try dsimp only at hSw); go_simp)⟩) (by assumption) ?_
              try simp only [List.getElem_toArray, List.getElem_cons_zero, List.getElem_cons_succ, Act.put, List.setIfInBounds_toArray, List.set_cons_zero, List.set_cons_succ, Array.toArray_toList]
              refine wpAnyH_take (i := 1) (v := .bool false) rfl (by kernel_rfl) (by kernel_rfl) (by kernel_rfl) (fun _ _ _ h => h) (Or.inl ⟨by rfl, by (intro w hSw; (try dsimp only at hSw); go_simp)⟩) (by assumption) ?_
              try simp only [List.getElem_toArray, List.getElem_cons_zero, List.getElem_cons_succ, Act.put, List.setIfInBounds_toArray, List.set_cons_zero, List.set_cons_succ, Array.toArray_toList]
              refine wpAnyH_take (i := 2) (v := undef) rfl (by kernel_rfl) (by kernel_rfl) (by kernel_rfl) (fun _ _ _ h => h) (Or.inr ⟨by rfl, rfl⟩) (by assumption) ?_
              try simp only [List.getElem_toArray, List.getElem_cons_zero, List.getElem_cons_succ, Act.put, List.setIfInBounds_toArray, List.set_cons_zero, List.set_cons_succ, Array.toArray_toList]
              refine wpAnyH_take (i := 3) (v := undef) rfl (by kernel_rfl) (by kernel_rfl) (by kernel_rfl) (fun _ _ _ h => h) (Or.inr ⟨by rfl, rfl⟩) (by assumption) ?_
              try simp only [List.getElem_toArray, List.getElem_cons_zero, List.getElem_cons_succ, Act.put, List.setIfInBounds_toArray, List.set_cons_zero, List.set_cons_succ, Array.toArray_toList]
              refine wpAnyH_take (i := 4) (v := undef) rfl (by kernel_rfl) (by kernel_rfl) (by kernel_rfl) (fun _ _ _ h => h) (Or.inr ⟨by rfl, rfl⟩) (by assumption) ?_
              try simp only [List.getElem_toArray, List.getElem_cons_zero, List.getElem_cons_succ, Act.put, List.setIfInBounds_toArray, List.set_cons_zero, List.set_cons_succ, Array.toArray_toList]
              refine wpAnyH_take (i := 5) (v := undef) rfl (by kernel_rfl) (by kernel_rfl) (by kernel_rfl) (fun _ _ _ h => h) (Or.inr ⟨by rfl, rfl⟩) (by assumption) ?_
              try simp only [List.getElem_toArray, List.getElem_cons_zero, List.getElem_cons_succ, Act.put, List.setIfInBounds_toArray, List.set_cons_zero, List.set_cons_succ, Array.toArray_toList]
              refine wpAnyH_take (i := 6) (v := undef) rfl (by kernel_rfl) (by kernel_rfl) (by kernel_rfl) (fun _ _ _ h => h) (Or.inr ⟨by rfl, rfl⟩) (by assumption) ?_
              try simp only [List.getElem_toArray, List.getElem_cons_zero, List.getElem_cons_succ, Act.put, List.setIfInBounds_toArray, List.set_cons_zero, List.set_cons_succ, Array.toArray_toList]
              refine wpAnyH_take (i := 7) (v := undef) rfl (by kernel_rfl) (by kernel_rfl) (by kernel_rfl) (fun _ _ _ h => h) (Or.inr ⟨by rfl, rfl⟩) (by assumption) ?_
              try simp only [List.getElem_toArray, List.getElem_cons_zero, List.getElem_cons_succ, Act.put, List.setIfInBounds_toArray, List.set_cons_zero, List.set_cons_succ, Array.toArray_toList]
              refine wpAnyH_take (i := 8) (v := undef) rfl (by kernel_rfl) (by kernel_rfl) (by kernel_rfl) (fun _ _ _ h => h) (Or.inr ⟨by rfl, rfl⟩) (by assumption) ?_
              try simp only [List.getElem_toArray, List.getElem_cons_zero, List.getElem_cons_succ, Act.put, List.setIfInBounds_toArray, List.set_cons_zero, List.set_cons_succ, Array.toArray_toList]
              refine wpAnyH_take (i := 9) (v := undef) rfl (by kernel_rfl) (by kernel_rfl) (by kernel_rfl) (fun _ _ _ h => h) (Or.inr ⟨by rfl, rfl⟩) (by assumption) ?_
              try simp only [List.getElem_toArray, List.getElem_cons_zero, List.getElem_cons_succ, Act.put, List.setIfInBounds_toArray, List.set_cons_zero, List.set_cons_succ, Array.toArray_toList]
              refine wpAnyH_take (i := 10) (v := undef) rfl (by kernel_rfl) (by kernel_rfl) (by kernel_rfl) (fun _ _ _ h => h) (Or.inr ⟨by rfl, rfl⟩) (by assumption) ?_
              try simp only [List.getElem_toArray, List.getElem_cons_zero, List.getElem_cons_succ, Act.put, List.setIfInBounds_toArray, List.set_cons_zero, List.set_cons_succ, Array.toArray_toList]
              refine wpAnyH_take (i := 11) (v := undef) rfl (by kernel_rfl) (by kernel_rfl) (by kernel_rfl) (fun _ _ _ h => h) (Or.inr ⟨by rfl, rfl⟩) (by assumption) ?_
              try simp only [List.getElem_toArray, List.getElem_cons_zero, List.getElem_cons_succ, Act.put, List.setIfInBounds_toArray, List.set_cons_zero, List.set_cons_succ, Array.toArray_toList]
              refine wpAnyH_take (i := 12) (v := undef) rfl (by kernel_rfl) (by kernel_rfl) (by kernel_rfl) (fun _ _ _ h => h) (Or.inr ⟨by rfl, rfl⟩) (by assumption) ?_
              try simp only [List.getElem_toArray, List.getElem_cons_zero, List.getElem_cons_succ, Act.put, List.setIfInBounds_toArray, List.set_cons_zero, List.set_cons_succ, Array.toArray_toList]
              refine wpAnyH_take (i := 13) (v := .bool false) rfl (by kernel_rfl) (by kernel_rfl) (by kernel_rfl) (fun _ _ _ h => h) (Or.inl ⟨by rfl, by (intro w hSw; (try dsimp only at hSw); go_simp)⟩) (by assumption) ?_
              try simp only [List.getElem_toArray, List.getElem_cons_zero, List.getElem_cons_succ, Act.put, List.setIfInBounds_toArray, List.set_cons_zero, List.set_cons_succ, Array.toArray_toList]
              refine wpAnyH_take (i := 14) (v := .bool false) rfl (by kernel_rfl) (by kernel_rfl) (by kernel_rfl) (fun _ _ _ h => h) (Or.inl ⟨by rfl, by (intro w hSw; (try dsimp only at hSw); go_simp)⟩) (by assumption) ?_
              try simp only [List.getElem_toArray, List.getElem_cons_zero, List.getElem_cons_succ, Act.put, List.setIfInBounds_toArray, List.set_cons_zero, List.set_cons_succ, Array.toArray_toList]
              refine wpAnyH_done (by kernel_rfl) ?_ _
              refine NoPanic.normal ?_
              go_wp2_with fail
              go_roundw
              case rel => exact ⟨m + 1, by omega, by go_num, by rw [HBR.out]; rfl, hxm.out.trans hz0⟩
              case measure => simp [intOf]; omega
            | true =>
              clear hth
              go_upto_region 17 with fail
              refine wp_region_noPanic ?_
              refine wp_region_held_drew (S := (fun W => W.rangeAt b (o + m * 11) z.cs.toList ∧ W.rangeAt b (o + j * 11) y.cs.toList ∧ W.cell? ⟨w.heap.size, 13, none⟩ = some (.slice (some ⟨b, o, none⟩) lo co))) (by kernel_rfl) (HSS.out _ (Ext.drew _)) (fun hHeld => ?_)
              refine wpAnyH_take (i := 0) (v := .bool true) rfl (by kernel_rfl) (by kernel_rfl) (by kernel_rfl) (fun _ _ _ h => h) (Or.inl ⟨by rfl, by (intro w hSw; (try dsimp only at hSw); go_simp)⟩) (by assumption) ?_
              try simp only [List.getElem_toArray, List.getElem_cons_zero, List.getElem_cons_succ, Act.put, List.setIfInBounds_toArray, List.set_cons_zero, List.set_cons_succ, Array.toArray_toList]
              refine wpAnyH_take (i := 1) (v := .bool true) rfl (by kernel_rfl) (by kernel_rfl) (by kernel_rfl) (fun _ _ _ h => h) (Or.inl ⟨by rfl, by (intro w hSw; (try dsimp only at hSw); go_simp)⟩) (by assumption) ?_
              try simp only [List.getElem_toArray, List.getElem_cons_zero, List.getElem_cons_succ, Act.put, List.setIfInBounds_toArray, List.set_cons_zero, List.set_cons_succ, Array.toArray_toList]
              refine wpAnyH_take (i := 2) (v := .pointer (some ⟨w.heap.size, 13, none⟩)) rfl (by kernel_rfl) (by kernel_rfl) (by kernel_rfl) (fun _ _ _ h => h) (Or.inl ⟨by rfl, by (intro w hSw; (try dsimp only at hSw); go_simp)⟩) (by assumption) ?_
              try simp only [List.getElem_toArray, List.getElem_cons_zero, List.getElem_cons_succ, Act.put, List.setIfInBounds_toArray, List.set_cons_zero, List.set_cons_succ, Array.toArray_toList]
              refine wpAnyH_take (i := 3) (v := .slice (some ⟨b, o, none⟩) lo co) rfl (by kernel_rfl) (by kernel_rfl) (by kernel_rfl) (fun _ _ _ h => h) (Or.inl ⟨by rfl, by (intro w hSw; (try dsimp only at hSw); go_simp)⟩) (by assumption) ?_
              try simp only [List.getElem_toArray, List.getElem_cons_zero, List.getElem_cons_succ, Act.put, List.setIfInBounds_toArray, List.set_cons_zero, List.set_cons_succ, Array.toArray_toList]
              refine wpAnyH_take (i := 4) (v := .int .i64 m) rfl (by kernel_rfl) (by kernel_rfl) (by kernel_rfl) (fun _ _ _ h => h) (Or.inl ⟨by rfl, by (intro w hSw; (try dsimp only at hSw); go_simp)⟩) (by assumption) ?_
              try simp only [List.getElem_toArray, List.getElem_cons_zero, List.getElem_cons_succ, Act.put, List.setIfInBounds_toArray, List.set_cons_zero, List.set_cons_succ, Array.toArray_toList]
              refine wpAnyH_take (i := 5) (v := .pointer (some ⟨b, o + m * 11, none⟩)) rfl (by kernel_rfl) (by kernel_rfl) (by kernel_rfl) (fun _ _ _ h => h) (Or.inl ⟨by rfl, by (intro w hSw; (try dsimp only at hSw); go_simp)⟩) (by assumption) ?_
              try simp only [List.getElem_toArray, List.getElem_cons_zero, List.getElem_cons_succ, Act.put, List.setIfInBounds_toArray, List.set_cons_zero, List.set_cons_succ, Array.toArray_toList]
              refine wpAnyH_take (i := 6) (v := .agg z.cs.toList.toArray) rfl (by kernel_rfl) (by kernel_rfl) (by kernel_rfl) (fun _ _ _ h => h) ?_ (by assumption) ?_
              · try simp only [List.getElem_toArray, List.getElem_cons_zero, List.getElem_cons_succ]
                exact yieldsIf_load_mid (by rfl) _ _ rfl (b) (o + m * 11) rfl z.cs.toList _ (fun w hSw => hSw.1) huH rfl (hiH z)
              try simp only [List.getElem_toArray, List.getElem_cons_zero, List.getElem_cons_succ, Act.put, List.setIfInBounds_toArray, List.set_cons_zero, List.set_cons_succ, Array.toArray_toList]
              refine wpAnyH_take (i := 7) (v := .pointer (some ⟨w.heap.size, 13, none⟩)) rfl (by kernel_rfl) (by kernel_rfl) (by kernel_rfl) (fun _ _ _ h => h) (Or.inl ⟨by rfl, by (intro w hSw; (try dsimp only at hSw); go_simp)⟩) (by assumption) ?_
              try simp only [List.getElem_toArray, List.getElem_cons_zero, List.getElem_cons_succ, Act.put, List.setIfInBounds_toArray, List.set_cons_zero, List.set_cons_succ, Array.toArray_toList]
              refine wpAnyH_take (i := 8) (v := .slice (some ⟨b, o, none⟩) lo co) rfl (by kernel_rfl) (by kernel_rfl) (by kernel_rfl) (fun _ _ _ h => h) (Or.inl ⟨by rfl, by (intro w hSw; (try dsimp only at hSw); go_simp)⟩) (by assumption) ?_
              try simp only [List.getElem_toArray, List.getElem_cons_zero, List.getElem_cons_succ, Act.put, List.setIfInBounds_toArray, List.set_cons_zero, List.set_cons_succ, Array.toArray_toList]
              refine wpAnyH_take (i := 9) (v := .int .i64 j) rfl (by kernel_rfl) (by kernel_rfl) (by kernel_rfl) (fun _ _ _ h => h) (Or.inl ⟨by rfl, by (intro w hSw; (try dsimp only at hSw); go_simp)⟩) (by assumption) ?_
              try simp only [List.getElem_toArray, List.getElem_cons_zero, List.getElem_cons_succ, Act.put, List.setIfInBounds_toArray, List.set_cons_zero, List.set_cons_succ, Array.toArray_toList]
              refine wpAnyH_take (i := 10) (v := .pointer (some ⟨b, o + j * 11, none⟩)) rfl (by kernel_rfl) (by kernel_rfl) (by kernel_rfl) (fun _ _ _ h => h) (Or.inl ⟨by rfl, by (intro w hSw; (try dsimp only at hSw); go_simp)⟩) (by assumption) ?_
              try simp only [List.getElem_toArray, List.getElem_cons_zero, List.getElem_cons_succ, Act.put, List.setIfInBounds_toArray, List.set_cons_zero, List.set_cons_succ, Array.toArray_toList]
              refine wpAnyH_take (i := 11) (v := .agg y.cs.toList.toArray) rfl (by kernel_rfl) (by kernel_rfl) (by kernel_rfl) (fun _ _ _ h => h) ?_ (by assumption) ?_
              · try simp only [List.getElem_toArray, List.getElem_cons_zero, List.getElem_cons_succ]
                exact yieldsIf_load_mid (by rfl) _ _ rfl (b) (o + j * 11) rfl y.cs.toList _ (fun w hSw => hSw.2.1) huH rfl (hiH y)
              try simp only [List.getElem_toArray, List.getElem_cons_zero, List.getElem_cons_succ, Act.put, List.setIfInBounds_toArray, List.set_cons_zero, List.set_cons_succ, Array.toArray_toList]
              refine wpAnyH_take (i := 12) (v := .bool (!decide (z = y))) rfl (by kernel_rfl) (by kernel_rfl) (by kernel_rfl) (fun _ _ _ h => h) (Or.inl ⟨by rfl, by (intro w hSw; (try dsimp only at hSw); go_simp)⟩) (by assumption) ?_
              try simp only [List.getElem_toArray, List.getElem_cons_zero, List.getElem_cons_succ, Act.put, List.setIfInBounds_toArray, List.set_cons_zero, List.set_cons_succ, Array.toArray_toList]
              refine wpAnyH_take (i := 13) (v := .bool (!decide (z = y))) rfl (by kernel_rfl) (by kernel_rfl) (by kernel_rfl) (fun _ _ _ h => h) (Or.inl ⟨by rfl, by (intro w hSw; (try dsimp only at hSw); go_simp)⟩) (by assumption) ?_
              try simp only [List.getElem_toArray, List.getElem_cons_zero, List.getElem_cons_succ, Act.put, List.setIfInBounds_toArray, List.set_cons_zero, List.set_cons_succ, Array.toArray_toList]
              refine wpAnyH_take (i := 14) (v := .bool (!decide (z = y))) rfl (by kernel_rfl) (by kernel_rfl) (by kernel_rfl) (fun _ _ _ h => h) (Or.inl ⟨by rfl, by (intro w hSw; (try dsimp only at hSw); go_simp)⟩) (by assumption) ?_
              try simp only [List.getElem_toArray, List.getElem_cons_zero, List.getElem_cons_succ, Act.put, List.setIfInBounds_toArray, List.set_cons_zero, List.set_cons_succ, Array.toArray_toList]
              refine wpAnyH_done (by kernel_rfl) ?_ _
              refine NoPanic.normal ?_
              go_wp2_with fail
              go_roundw
              case rel => exact ⟨m + 1, by omega, by go_num, by rw [HBR.out]; rfl, hxm.out.trans hz0⟩
              case measure => simp [intOf]; omega
          · have hth' := hth.out
            obtain rfl : m = j := by omega
            subst hth'
            clear hth
            have HG := Lib.hid (show ((decide (y ∈ l) && !decide (y ∈ out.take m)) && hopL l (out.take m ++ [y]) (out.drop (m + 1))) = hopL l [] out from by rw [← HH2.out, Bool.and_assoc])
            generalize (decide (y ∈ l) && !decide (y ∈ out.take m)) = bt at *
            cases bt with
            | false =>
              have HF := Lib.hid (show hopP t qs x out = false from by rw [HP3.out, ← HG.out]; rfl)
              go_wp2_with fail
              go_ret
              exact ⟨by rw [HF.out]; rfl, HX.out.trans HXM.out⟩
            | true =>
              have HG2 := Lib.hid (show hopL l (out.take (m + 1)) (out.drop (m + 1)) = hopL l [] out from by
                rw [HTk.out, ← HY.out, ← HG.out]; rfl)
              go_wp2_with fail
              go_roundw
              case rel => exact ⟨m + 1, by omega, by go_num, HG2.out, hx.out.trans (hxn.out.trans hxm.out)⟩
              case measure => simp [intOf]; omega
end Go.Proofs.Ytddeelepaiklgaa
