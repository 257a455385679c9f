/- The document's holds and terms. -/
import Derived.Test.YtddeelepaiklgaaLSets0
import Derived.Test.YtddeelepaiklgaaHolds4
namespace Go.Proofs.Ytddeelepaiklgaa
open Go.RowKit Go.Maps

theorem cellAtH {w : World} {b o : Nat} {x : Hdr} (h : w.rangeAt b o x.cs.toList) (i : Nat) (hi : i < 11) : w.cell? ⟨b, o + i, none⟩ = some (.int .u64 (x.f i)) :=
  h i _ (by rw [Array.getElem?_toList]; exact x.cell i hi)

set_option maxHeartbeats 4000000 in
set_option maxRecDepth 100000 in
theorem refHolds_aux (m : Nat) : ∀ (t : Tm) (x : Hdr) (v : Value) (w : World), t.sz ≤ m → t.Val w v → t.right true = true →
    Calls Try.prog 66 #[v, .agg x.cs] w fun e w' => e = .returned (.bool (t.holds x)) ∧ Ext w w' := by
  induction m with
  | zero => intro t _ _ _ hm; have := t.sz_pos; omega
  | succ m ih =>
    intro t x v w hm hv hr
    obtain ⟨p, len, cap, rfl⟩ := hv.cs'
    obtain ⟨_, he, s, rfl, h1, h2, h3, _, _, _, rfl, hlen, hlc, hcm, hks⟩ := hv
    cases he
    cases t with | mk op f n ks =>
    simp only [Tm.op, Tm.fld, Tm.n, Tm.kids] at *
    have IH := Lib.hid (fun i (h : i < ks.length) v W => ih (ks[i]) x v W (Tm.sz_kid hm i h))
    have HL := Lib.hid hlen
    have HK := Lib.hid hks
    clear ih hm hlen hks h1 h3
    obtain ⟨wA, hA⟩ : ∃ W : World, w.alloc (.cells #[.int .i8 op, .int .i8 f, .int .u64 n, .slice p len cap] 31) = W := ⟨_, rfl⟩
    have xA : Ext w wA := hA ▸ Ext.alloc _ _
    have sA : wA.heap.size = w.heap.size + 1 := by rw [← hA, World.size_alloc]
    have rA : wA.rangeAt (w.heap.size) 0 [.int .i8 op, .int .i8 f, .int .u64 n, .slice p len cap] := by
      have := rangeAt_new w #[.int .i8 op, .int .i8 f, .int .u64 n, .slice p len cap] 31
      rw [hA] at this
      exact this
    obtain ⟨wB, hB⟩ : ∃ W : World, wA.alloc (.cells x.cs 24) = W := ⟨_, rfl⟩
    have xB : Ext wA wB := hB ▸ Ext.alloc _ _
    have rB : wB.rangeAt (w.heap.size + 1) 0 x.cs.toList := by
      have := rangeAt_new wA x.cs 24
      rw [hB, sA] at this
      exact this
    have HRA := Lib.hid (fun W (hW : Ext wB W) => World.rangeAt.later (xB.trans hW).later rA)
    have HRX := Lib.hid (fun W (hW : Ext wB W) => World.rangeAt.later hW.later rB)
    have HZ := Lib.hid (xA.trans xB)
    have HEQ := Lib.hid (And.intro hA hB)
    clear xA xB sA rA rB hA hB
    have hu28 : Try.prog.underlying 24 = some (.array 11 22) := Try.underlying24
    have hi28 : (Try.prog.info? 24).map (·.size) = some x.cs.toList.length := by rw [x.len_cs]; kernel_rfl
    go_enter Try.func66, Try.ntmps66
    go_upto_region 1 with fail
    rw [HEQ.out.1, HEQ.out.2]
    clear HEQ
    obtain ⟨a0, a1, a2, a3⟩ := cells4' (HRA.out _ (Ext.refl _))
    rcases Tm.right_pred hr with (rfl | rfl) | ⟨rfl, hf0, hf1⟩ | ⟨h345, hk1, hra⟩
    · have HF := Lib.hid (show (Tm.mk 0 f n ks).holds x = false from by simp [Tm.holds])
      clear hr
      go_wp2_with fail
      go_ret
      exact ⟨by rw [HF.out]; rfl, HZ.out⟩
    · have HF := Lib.hid (show (Tm.mk 1 f n ks).holds x = true from by simp [Tm.holds])
      clear hr
      go_wp2_with fail
      go_ret
      exact ⟨by rw [HF.out]; rfl, HZ.out⟩
    · obtain ⟨k, rfl⟩ := Int.eq_ofNat_of_zero_le (a := f) (by omega)
      have HF := Lib.hid (show (Tm.mk 2 k n ks).holds x = (x.f k == n) from by simp [Tm.holds])
      have hk : k < 11 := by omega
      have hcx : wB.cell? ⟨w.heap.size + 1, k, none⟩ = some (.int .u64 (x.f k)) := by
        have := cellAtH (HRX.out _ (Ext.refl _)) k hk
        rwa [Nat.zero_add] at this
      clear hr hf0 hf1
      go_wp2_with fail
      go_quiet (fail)
      go_wp2_with fail
      go_ret
      exact ⟨by rw [HF.out]; rfl, HZ.out.trans (Ext.drewN _ _)⟩
    · have hk1' : 1 ≤ len := by rw [HL.out]; exact hk1
      have HRA2 := Lib.hid hra
      rcases h345 with rfl | rfl | rfl
      · have HF := Lib.hid (show (Tm.mk 3 f n ks).holds x = !(Tm.holdsHead ks x) from by rw [Tm.holds, if_neg (by omega), if_neg (by omega), if_pos rfl])
        clear hr hra a0 a1 a2 a3
        obtain ⟨a0, _, _, _⟩ := cells4' (HRA.out _ (Ext.refl _))
        have HAT := Lib.hid (((HK.out.resolve_left (fun hk => by have := HL.out; rw [hk] at this; simp at this; omega))))
        obtain ⟨b', o', rfl, hall⟩ := HAT.out
        have hjl : 0 < ks.length := by rw [← HL.out]; omega
        have HKid := Lib.hid (fun W (hW : Ext wB W) => (Tm.AllAt_get hall 0 hjl).later (HZ.out.trans hW).later)
        obtain ⟨csk, hvk, hrk, -⟩ := (HKid.out _ (Ext.refl wB)).val
        have HVk := Lib.hid (fun W (hW : Ext wB W) => hvk.later hW.later)
        have HRk := Lib.hid (fun W (hW : Ext wB W) => World.rangeAt.later hW.later hrk)
        have HI := Lib.hid (fun W (hW : Ext wB W) => IH.out 0 hjl _ W (hvk.later hW.later))
        obtain ⟨p2, l2, k2, he2⟩ := hvk.cs'
        cases he2
        clear hall HAT hvk hrk
        generalize hkk : ks[0] = k at *
        have HSS := Lib.hid (fun W (hW : Ext wB W) => (show (fun W => W.cell? ⟨w.heap.size, 3, none⟩ = some (.slice (some ⟨b', o', none⟩) len cap) ∧ W.cell? ⟨b', o', none⟩ = some (.int .i8 k.op) ∧ W.cell? ⟨b', o' + 1, none⟩ = some (.int .i8 k.fld) ∧ W.cell? ⟨b', o' + 2, none⟩ = some (.int .u64 k.n) ∧ W.cell? ⟨b', o' + 3, none⟩ = some (.slice p2 l2 k2) ∧ W.rangeAt (w.heap.size + 1) 0 x.cs.toList) W from by
          obtain ⟨d0, d1, d2, d3⟩ := cells4' (HRk.out _ hW)
          have hw := ((Ext.refl wB)).trans hW
          obtain ⟨_, _, _, a3⟩ := cells4' (HRA.out _ hw)
          exact ⟨by simpa using a3, by simpa using d0, by simpa using d1, by simpa using d2, by simpa using d3, HRX.out _ hw⟩))
        obtain ⟨a3, d0, d1, d2, d3, hrx⟩ := HSS.out _ (Ext.refl _)
        have hxd := Ext.drew wB
        have HRI := Lib.hid (show k.right true = true from by rw [← hkk]; exact Tm.rightAll_get HRA2.out 0 hjl)
        have hlp : 0 < len := by rw [HL.out]; exact hjl
        have HF2 := Lib.hid (show (Tm.mk 3 f n ks).holds x = !(k.holds x) from by
          rw [HF.out, ← hkk]
          cases ks with
          | nil => simp at hjl
          | cons u us => rfl)
        clear HF hkk
        go_upto_region 7 with fail
        go_region_held3 (fun W => W.cell? ⟨w.heap.size, 3, none⟩ = some (.slice (some ⟨b', o', none⟩) len cap) ∧ W.cell? ⟨b', o', none⟩ = some (.int .i8 k.op) ∧ W.cell? ⟨b', o' + 1, none⟩ = some (.int .i8 k.fld) ∧ W.cell? ⟨b', o' + 2, none⟩ = some (.int .u64 k.n) ∧ W.cell? ⟨b', o' + 3, none⟩ = some (.slice p2 l2 k2) ∧ W.rangeAt (w.heap.size + 1) 0 x.cs.toList) (first | exact HSS.out _ hxd | exact HSS.out _ (hxd.trans hx5)) (first
          | (go_at_call 66; refine (HI.out _ hxd HRI.out).mono ?_; rintro e w5 ⟨rfl, hx5⟩))
        go_wp2_with fail
        go_ret
        exact ⟨by rw [HF2.out]; rfl, HZ.out.trans (hxd.trans hx5)⟩
      · have HF := Lib.hid (show (Tm.mk 4 f n ks).holds x = Tm.holdsAll ks x from by rw [Tm.holds, if_neg (by omega), if_neg (by omega), if_neg (by omega), if_pos rfl])
        clear hr hra
        go_wp2_with fail
        clear a0 a1 a2 a3
        go_loopw [5] (fun i wr => ∃ j : Nat, j ≤ len ∧ i = .int .i64 j ∧ Hid (∀ m (h : m < ks.length), m < j → (ks[m]).holds x = true) ∧ Hid (Ext wB wr)) (fun i _ => len - (intOf i).toNat)
        case atStart => exact ⟨0, Nat.zero_le _, rfl, fun m h hm => by omega, Ext.refl _⟩
        case round =>
          obtain ⟨wo, rfl⟩ : ∃ wo : World, wo = wr := ⟨_, rfl⟩
          obtain ⟨j, hj, rfl, hd, hx⟩ := hrel
          by_cases hlt : j < len
          · have hd2 := hd
            have HAT := Lib.hid (((HK.out.resolve_left (fun hk => by have := HL.out; rw [hk] at this; simp at this; omega))))
            obtain ⟨b', o', rfl, hall⟩ := HAT.out
            have hjl : j < ks.length := by rw [← HL.out]; omega
            have HKid := Lib.hid (fun W (hW : Ext wB W) => (Tm.AllAt_get hall j hjl).later (HZ.out.trans hW).later)
            obtain ⟨csk, hvk, hrk, -⟩ := (HKid.out _ hx.out).val
            have HVk := Lib.hid (fun W (hW : Ext wo W) => hvk.later hW.later)
            have HRk := Lib.hid (fun W (hW : Ext wo W) => World.rangeAt.later hW.later hrk)
            have HI := Lib.hid (fun W (hW : Ext wo W) => IH.out j hjl _ W (hvk.later hW.later))
            obtain ⟨p2, l2, k2, he2⟩ := hvk.cs'
            cases he2
            clear hall HAT hvk hrk
            generalize hkk : ks[j] = k at *
            have HSS := Lib.hid (fun W (hW : Ext wo W) => (show (fun W => W.cell? ⟨w.heap.size, 3, none⟩ = some (.slice (some ⟨b', o', none⟩) len cap) ∧ W.cell? ⟨b', o' + j * 4, none⟩ = some (.int .i8 k.op) ∧ W.cell? ⟨b', o' + j * 4 + 1, none⟩ = some (.int .i8 k.fld) ∧ W.cell? ⟨b', o' + j * 4 + 2, none⟩ = some (.int .u64 k.n) ∧ W.cell? ⟨b', o' + j * 4 + 3, none⟩ = some (.slice p2 l2 k2) ∧ W.rangeAt (w.heap.size + 1) 0 x.cs.toList) W from by
              obtain ⟨d0, d1, d2, d3⟩ := cells4' (HRk.out _ hW)
              have hw := (hx.out).trans hW
              obtain ⟨_, _, _, a3⟩ := cells4' (HRA.out _ hw)
              exact ⟨by simpa using a3, by simpa using d0, by simpa using d1, by simpa using d2, by simpa using d3, HRX.out _ hw⟩))
            obtain ⟨a3, d0, d1, d2, d3, hrx⟩ := HSS.out _ (Ext.refl _)
            have hxd := Ext.drew wo
            have HRI := Lib.hid (show k.right true = true from by rw [← hkk]; exact Tm.rightAll_get HRA2.out j hjl)
            go_upto_region 12 with fail
            go_region_held3 (fun W => W.cell? ⟨w.heap.size, 3, none⟩ = some (.slice (some ⟨b', o', none⟩) len cap) ∧ W.cell? ⟨b', o' + j * 4, none⟩ = some (.int .i8 k.op) ∧ W.cell? ⟨b', o' + j * 4 + 1, none⟩ = some (.int .i8 k.fld) ∧ W.cell? ⟨b', o' + j * 4 + 2, none⟩ = some (.int .u64 k.n) ∧ W.cell? ⟨b', o' + j * 4 + 3, none⟩ = some (.slice p2 l2 k2) ∧ W.rangeAt (w.heap.size + 1) 0 x.cs.toList) (first | exact HSS.out _ hxd | exact HSS.out _ (hxd.trans hx5)) (first
              | (go_at_call 66; refine (HI.out _ hxd HRI.out).mono ?_; rintro e w5 ⟨rfl, hx5⟩))
            cases hq : k.holds x with
            | false =>
              have HT := Lib.hid (HF.out.trans (Tm.holdsAll_false j hjl (by rw [hkk]; exact hq)))
              clear hq
              go_wp2_with fail
              go_ret
              exact ⟨by rw [HT.out]; rfl, HZ.out.trans (hx.out.trans (hxd.trans hx5))⟩
            | true =>
              have HT := Lib.hid (show (ks[j]).holds x = true from by rw [hkk]; exact hq)
              clear hq
              go_wp2_with fail
              go_roundw
              case rel => exact ⟨j + 1, by omega, by go_num, fun m h hm => by
                rcases Nat.lt_succ_iff_lt_or_eq.1 hm with h1 | rfl
                · exact hd2.out m h h1
                · exact HT.out, hx.out.trans (hxd.trans hx5)⟩
              case measure => simp [intOf]; omega
          · have HT := Lib.hid (HF.out.trans (Tm.holdsAll_true (fun m h => hd.out m h (by have := HL.out; omega))))
            obtain ⟨_, _, _, a3⟩ := cells4' (HRA.out _ hx.out)
            go_wp2_with fail
            go_ret
            exact ⟨by rw [HT.out]; rfl, HZ.out.trans hx.out⟩
      · have HF := Lib.hid (show (Tm.mk 5 f n ks).holds x = Tm.holdsAny ks x from by rw [Tm.holds, if_neg (by omega), if_neg (by omega), if_neg (by omega), if_neg (by omega), if_pos rfl])
        clear hr hra
        go_wp2_with fail
        clear a0 a1 a2 a3
        go_loopw [6] (fun i wr => ∃ j : Nat, j ≤ len ∧ i = .int .i64 j ∧ Hid (∀ m (h : m < ks.length), m < j → (ks[m]).holds x = false) ∧ Hid (Ext wB wr)) (fun i _ => len - (intOf i).toNat)
        case atStart => exact ⟨0, Nat.zero_le _, rfl, fun m h hm => by omega, Ext.refl _⟩
        case round =>
          obtain ⟨wo, rfl⟩ : ∃ wo : World, wo = wr := ⟨_, rfl⟩
          obtain ⟨j, hj, rfl, hd, hx⟩ := hrel
          by_cases hlt : j < len
          · have hd2 := hd
            have HAT := Lib.hid (((HK.out.resolve_left (fun hk => by have := HL.out; rw [hk] at this; simp at this; omega))))
            obtain ⟨b', o', rfl, hall⟩ := HAT.out
            have hjl : j < ks.length := by rw [← HL.out]; omega
            have HKid := Lib.hid (fun W (hW : Ext wB W) => (Tm.AllAt_get hall j hjl).later (HZ.out.trans hW).later)
            obtain ⟨csk, hvk, hrk, -⟩ := (HKid.out _ hx.out).val
            have HVk := Lib.hid (fun W (hW : Ext wo W) => hvk.later hW.later)
            have HRk := Lib.hid (fun W (hW : Ext wo W) => World.rangeAt.later hW.later hrk)
            have HI := Lib.hid (fun W (hW : Ext wo W) => IH.out j hjl _ W (hvk.later hW.later))
            obtain ⟨p2, l2, k2, he2⟩ := hvk.cs'
            cases he2
            clear hall HAT hvk hrk
            generalize hkk : ks[j] = k at *
            have HSS := Lib.hid (fun W (hW : Ext wo W) => (show (fun W => W.cell? ⟨w.heap.size, 3, none⟩ = some (.slice (some ⟨b', o', none⟩) len cap) ∧ W.cell? ⟨b', o' + j * 4, none⟩ = some (.int .i8 k.op) ∧ W.cell? ⟨b', o' + j * 4 + 1, none⟩ = some (.int .i8 k.fld) ∧ W.cell? ⟨b', o' + j * 4 + 2, none⟩ = some (.int .u64 k.n) ∧ W.cell? ⟨b', o' + j * 4 + 3, none⟩ = some (.slice p2 l2 k2) ∧ W.rangeAt (w.heap.size + 1) 0 x.cs.toList) W from by
              obtain ⟨d0, d1, d2, d3⟩ := cells4' (HRk.out _ hW)
              have hw := (hx.out).trans hW
              obtain ⟨_, _, _, a3⟩ := cells4' (HRA.out _ hw)
              exact ⟨by simpa using a3, by simpa using d0, by simpa using d1, by simpa using d2, by simpa using d3, HRX.out _ hw⟩))
            obtain ⟨a3, d0, d1, d2, d3, hrx⟩ := HSS.out _ (Ext.refl _)
            have hxd := Ext.drew wo
            have HRI := Lib.hid (show k.right true = true from by rw [← hkk]; exact Tm.rightAll_get HRA2.out j hjl)
            go_upto_region 19 with fail
            go_region_held3 (fun W => W.cell? ⟨w.heap.size, 3, none⟩ = some (.slice (some ⟨b', o', none⟩) len cap) ∧ W.cell? ⟨b', o' + j * 4, none⟩ = some (.int .i8 k.op) ∧ W.cell? ⟨b', o' + j * 4 + 1, none⟩ = some (.int .i8 k.fld) ∧ W.cell? ⟨b', o' + j * 4 + 2, none⟩ = some (.int .u64 k.n) ∧ W.cell? ⟨b', o' + j * 4 + 3, none⟩ = some (.slice p2 l2 k2) ∧ W.rangeAt (w.heap.size + 1) 0 x.cs.toList) (first | exact HSS.out _ hxd | exact HSS.out _ (hxd.trans hx5)) (first
              | (go_at_call 66; refine (HI.out _ hxd HRI.out).mono ?_; rintro e w5 ⟨rfl, hx5⟩))
            cases hq : k.holds x with
            | true =>
              have HT := Lib.hid (HF.out.trans (Tm.holdsAny_true j hjl (by rw [hkk]; exact hq)))
              clear hq
              go_wp2_with fail
              go_ret
              exact ⟨by rw [HT.out]; rfl, HZ.out.trans (hx.out.trans (hxd.trans hx5))⟩
            | false =>
              have HT := Lib.hid (show (ks[j]).holds x = false from by rw [hkk]; exact hq)
              clear hq
              go_wp2_with fail
              go_roundw
              case rel => exact ⟨j + 1, by omega, by go_num, fun m h hm => by
                rcases Nat.lt_succ_iff_lt_or_eq.1 hm with h1 | rfl
                · exact hd2.out m h h1
                · exact HT.out, hx.out.trans (hxd.trans hx5)⟩
              case measure => simp [intOf]; omega
          · have HT := Lib.hid (HF.out.trans (Tm.holdsAny_false (fun m h => hd.out m h (by have := HL.out; omega))))
            obtain ⟨_, _, _, a3⟩ := cells4' (HRA.out _ hx.out)
            go_wp2_with fail
            go_ret
            exact ⟨by rw [HT.out]; rfl, HZ.out.trans hx.out⟩
theorem refHolds_any (t : Tm) (x : Hdr) (v : Value) (w : World) (hv : t.Val w v) (hr : t.right true = true) :
    Calls Try.prog 66 #[v, .agg x.cs] w fun e w' => e = .returned (.bool (t.holds x)) ∧ Ext w w' := refHolds_aux t.sz t x v w (Nat.le_refl _) hv hr
end Go.Proofs.Ytddeelepaiklgaa
