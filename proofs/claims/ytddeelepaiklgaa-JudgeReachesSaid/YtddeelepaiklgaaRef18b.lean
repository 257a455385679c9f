/- The document's right and all, walked. -/
import Derived.Test.YtddeelepaiklgaaRef18
import Derived.Test.YtddeelepaiklgaaLSets0
namespace Go.Proofs.Ytddeelepaiklgaa
open Go.RowKit

def RightOf (t : Tm) : Prop := ∀ (pred : Bool) (v : Value) (w : World), t.Val w v →
    Calls Try.prog 42 #[v, .bool pred] w fun e w' => e = .returned (.bool (t.right pred)) ∧ Ext w w'

set_option maxHeartbeats 1000000 in
theorem refAll_of (ks : List Tm) (pred : Bool) (v : Value) (w : World) (ih : ∀ i (h : i < ks.length), RightOf (ks[i])) (hv : Tms w ks v) :
    Calls Try.prog 64 #[v, .bool pred] w fun e w' => e = .returned (.bool (Tm.rightAll ks pred)) ∧ Ext w w' := by
  obtain ⟨p, len, cap, rfl, hlen, hlc, hcm, hks⟩ := hv
  have HL := Lib.hid hlen
  have IH := Lib.hid ih
  clear hlen ih
  go_enter Try.func64, Try.ntmps64
  go_wp2_with fail
  go_loopw [5] (fun i wr => ∃ j : Nat, j ≤ len ∧ i = .int .i64 j ∧ Hid (∀ m (h : m < ks.length), m < j → (ks[m]).right pred = true) ∧ Hid (Ext w wr)) (fun i _ => len - (intOf i).toNat)
  case atStart => exact ⟨0, Nat.zero_le _, rfl, fun m h hm => by omega, Ext.refl _⟩
  case round =>
    obtain ⟨wo, rfl⟩ : ∃ wo : World, wo = wr := ⟨_, rfl⟩
    obtain ⟨j, hj, rfl, hd, hx⟩ := hrel
    by_cases hlt : j < len
    · rcases hks with hks | ⟨b', o', rfl, hall⟩
      · exfalso; have := HL.out; subst hks; simp at this; omega
      have hjl : j < ks.length := by rw [← HL.out]; exact hlt
      have HT := Lib.hid ((Tm.AllAt_get hall j hjl).later hx.out.later)
      have HI := Lib.hid (fun cs (h : (ks[j]).Val wo (.agg cs)) => IH.out j hjl pred (.agg cs) wo h)
      clear hall
      go_wp2_with (first | (refine wpList_load_T rfl _ rfl b' (o' + j * 4) rfl _ HT.out ?_; intro cs hcs _ _))
      refine (HI.out cs hcs).mono ?_
      rintro e w1 ⟨rfl, hx1⟩
      clear hcs
      cases hq : (ks[j]).right pred with
      | true =>
        have HF := Lib.hid hq
        clear hq
        go_wp2_with fail
        go_roundw
        case rel => exact ⟨j + 1, by omega, by go_num, fun m h hm => by
          rcases Nat.lt_succ_iff_lt_or_eq.1 hm with h1 | rfl
          · exact hd.out m h h1
          · exact HF.out, hx.out.trans hx1⟩
        case measure => simp [intOf]; omega
      | false =>
        have HF := Lib.hid (Tm.rightAll_false j hjl hq)
        clear hq
        go_wp2_with fail
        go_ret
        exact ⟨by rw [HF.out]; rfl, hx.out.trans hx1⟩
    · have HF := Lib.hid (show Tm.rightAll ks pred = true from Tm.rightAll_true (fun m h => hd.out m h (by have := HL.out; omega)))
      go_wp2_with fail
      go_ret
      exact ⟨by rw [HF.out]; rfl, hx.out⟩

set_option maxHeartbeats 40000000 in
set_option maxRecDepth 100000 in
theorem refRight_aux (m : Nat) : ∀ t : Tm, t.sz ≤ m → RightOf t := by
  induction m with
  | zero => intro t hm; have := t.sz_pos; omega
  | succ m ih =>
    intro t hm pred v w hv
    have HV := Lib.hid hv
    obtain ⟨p, len, cap, rfl⟩ := hv.cs'
    obtain ⟨_, he, s, rfl, h1, h2, h3, _, _, _, rfl, hlen, hlc, hcm, hks⟩ := hv
    cases he
    cases t with | mk op f n ks =>
    simp only [Tm.op, Tm.fld, Tm.n, Tm.kids] at *
    have HK := Lib.hid (fun (q : Bool) W (hW : Ext w W) => refAll_of ks q _ W (fun i h => ih (ks[i]) (Tm.sz_kid hm i h)) ⟨_, _, _, rfl, hlen, hlc, hcm, hks.imp id fun ⟨b', o', hp, hall⟩ => ⟨b', o', hp, Tm.AllAt.later hW.later hall⟩⟩)
    have HL := Lib.hid hlen
    have HU := Lib.hid (right_plain op f n ks pred)
    have HFI := Lib.hid (fun s W => fits_any op f n s W h2 h3)
    clear ih hm hlen hks HV h1 h2 h3
    obtain ⟨wA, hA⟩ : ∃ W : World, w.alloc (.cells #[.int .i8 op, .int .i8 f, .int .u64 n, .slice p len cap] 31) = W := ⟨_, rfl⟩
    have xA : Ext w wA := hA ▸ Ext.alloc _ _
    have rA : wA.rangeAt (w.heap.size) 0 [.int .i8 op, .int .i8 f, .int .u64 n, .slice p len cap] := by
      have := rangeAt_new w #[.int .i8 op, .int .i8 f, .int .u64 n, .slice p len cap] 31
      rw [hA] at this
      exact this
    obtain ⟨c0, c1, c2, c3⟩ := cells4' rA
    have HXA := Lib.hid xA
    have HEQ := Lib.hid hA
    clear xA hA rA
    go_enter Try.func42, Try.ntmps42
    go_upto_region 1 with fail
    rw [HEQ.out]
    clear HEQ
    go_cut [5] (fun s5 wx => s5 = .bool (bareB f n) ∧ wA = wx)
    case first =>
      by_cases hf : f = 0
      · subst hf
        by_cases hn : n = 0
        · subst hn
          go_wp2_with fail
          go_meet
          exact ⟨by rfl, rfl⟩
        · have hn' : (n == 0) = false := by simpa using hn
          go_wp2_with fail
          go_meet
          exact ⟨by simp [bareB, hn'], rfl⟩
      · have hf' : (f == 0) = false := by simpa using hf
        go_wp2_with fail
        go_meet
        exact ⟨by simp [bareB, hf'], rfl⟩
    case rest =>
      obtain ⟨rfl, rfl⟩ := hcut
      generalize hbare : bareB f n = bare
      by_cases hop : op = 0
      · subst hop
        have HU2 := Lib.hid (show (Tm.mk 0 f n ks).right pred = (pred && bare && ks.length == 0) from by rw [HU.out, ← hbare]; simp [refR])
        clear HU HFI
        go_upto_region 6 with fail
        cases pred with
        | false =>
          have HF := Lib.hid (show (Tm.mk 0 f n ks).right false = false from by rw [HU2.out]; rfl)
          clear HU2 HK hbare
          go_wp2_with fail
          go_ret
          exact ⟨by rw [HF.out]; rfl, HXA.out⟩
        | true =>
          cases bare with
          | false =>
            have HF := Lib.hid (show (Tm.mk 0 f n ks).right true = false from by rw [HU2.out]; rfl)
            clear HU2 HK hbare
            go_wp2_with fail
            go_ret
            exact ⟨by rw [HF.out]; rfl, HXA.out⟩
          | true =>
            by_cases hl : len = 0
            · have hl3 : (ks.length == 0) = true := by rw [← HL.out]; simpa using hl
              have hl2 : ((len : Int) == 0) = true := by simpa using hl
              have HF := Lib.hid (show (Tm.mk 0 f n ks).right true = true from by rw [HU2.out, hl3]; rfl)
              clear HU2 HK hbare hl3 hl
              go_wp2_with fail
              go_ret
              exact ⟨by rw [HF.out]; rfl, HXA.out⟩
            · have hl3 : (ks.length == 0) = false := by rw [← HL.out]; simpa using hl
              have hl2 : ((len : Int) == 0) = false := by simpa using hl
              have HF := Lib.hid (show (Tm.mk 0 f n ks).right true = false from by rw [HU2.out, hl3]; simp)
              clear HU2 HK hbare hl3 hl
              go_wp2_with fail
              go_ret
              exact ⟨by rw [HF.out]; rfl, HXA.out⟩
      by_cases hop : op = 1
      · subst hop
        have HU2 := Lib.hid (show (Tm.mk 1 f n ks).right pred = (pred && bare && ks.length == 0) from by rw [HU.out, ← hbare]; simp [refR])
        clear HU HFI
        go_upto_region 6 with fail
        cases pred with
        | false =>
          have HF := Lib.hid (show (Tm.mk 1 f n ks).right false = false from by rw [HU2.out]; rfl)
          clear HU2 HK hbare
          go_wp2_with fail
          go_ret
          exact ⟨by rw [HF.out]; rfl, HXA.out⟩
        | true =>
          cases bare with
          | false =>
            have HF := Lib.hid (show (Tm.mk 1 f n ks).right true = false from by rw [HU2.out]; rfl)
            clear HU2 HK hbare
            go_wp2_with fail
            go_ret
            exact ⟨by rw [HF.out]; rfl, HXA.out⟩
          | true =>
            by_cases hl : len = 0
            · have hl3 : (ks.length == 0) = true := by rw [← HL.out]; simpa using hl
              have hl2 : ((len : Int) == 0) = true := by simpa using hl
              have HF := Lib.hid (show (Tm.mk 1 f n ks).right true = true from by rw [HU2.out, hl3]; rfl)
              clear HU2 HK hbare hl3 hl
              go_wp2_with fail
              go_ret
              exact ⟨by rw [HF.out]; rfl, HXA.out⟩
            · have hl3 : (ks.length == 0) = false := by rw [← HL.out]; simpa using hl
              have hl2 : ((len : Int) == 0) = false := by simpa using hl
              have HF := Lib.hid (show (Tm.mk 1 f n ks).right true = false from by rw [HU2.out, hl3]; simp)
              clear HU2 HK hbare hl3 hl
              go_wp2_with fail
              go_ret
              exact ⟨by rw [HF.out]; rfl, HXA.out⟩
      by_cases hop : op = 3
      · subst hop
        have HU2 := Lib.hid (show (Tm.mk 3 f n ks).right pred = (pred && bare && ks.length == 1 && Tm.rightAll ks true) from by rw [HU.out, ← hbare]; simp [refR])
        clear HU HFI
        go_upto_region 10 with fail
        cases pred with
        | false =>
          have HF := Lib.hid (show (Tm.mk 3 f n ks).right false = false from by rw [HU2.out]; rfl)
          clear HU2 HK hbare
          go_wp2_with fail
          go_ret
          exact ⟨by rw [HF.out]; rfl, HXA.out⟩
        | true =>
          cases bare with
          | false =>
            have HF := Lib.hid (show (Tm.mk 3 f n ks).right true = false from by rw [HU2.out]; rfl)
            clear HU2 HK hbare
            go_wp2_with fail
            go_ret
            exact ⟨by rw [HF.out]; rfl, HXA.out⟩
          | true =>
            by_cases hl : len = 1
            · have hl3 : (ks.length == 1) = true := by rw [← HL.out]; simpa using hl
              have hl2 : ((len : Int) == 1) = true := by simp [hl]
              have HF := Lib.hid (show (Tm.mk 3 f n ks).right true = Tm.rightAll ks true from by rw [HU2.out, hl3]; simp)
              have HKc := Lib.hid (HK.out true _ HXA.out)
              clear HU2 HK hbare hl3 hl
              go_wp2_with fail
              refine HKc.out.mono ?_
              rintro e w1 ⟨rfl, hx1⟩
              go_wp2_with fail
              go_ret
              exact ⟨by rw [HF.out]; rfl, HXA.out.trans hx1⟩
            · have hl3 : (ks.length == 1) = false := by rw [← HL.out]; simpa using hl
              have hl2 : ((len : Int) == 1) = false := by simp; omega
              have HF := Lib.hid (show (Tm.mk 3 f n ks).right true = false from by rw [HU2.out, hl3]; simp)
              clear HU2 HK hbare hl3 hl
              go_wp2_with fail
              go_ret
              exact ⟨by rw [HF.out]; rfl, HXA.out⟩
      by_cases hop : op = 4
      · subst hop
        have HU2 := Lib.hid (show (Tm.mk 4 f n ks).right pred = (pred && bare && decide (0 < ks.length) && Tm.rightAll ks true) from by rw [HU.out, ← hbare]; simp [refR])
        clear HU HFI
        go_upto_region 13 with fail
        cases pred with
        | false =>
          have HF := Lib.hid (show (Tm.mk 4 f n ks).right false = false from by rw [HU2.out]; rfl)
          clear HU2 HK hbare
          go_wp2_with fail
          go_ret
          exact ⟨by rw [HF.out]; rfl, HXA.out⟩
        | true =>
          cases bare with
          | false =>
            have HF := Lib.hid (show (Tm.mk 4 f n ks).right true = false from by rw [HU2.out]; rfl)
            clear HU2 HK hbare
            go_wp2_with fail
            go_ret
            exact ⟨by rw [HF.out]; rfl, HXA.out⟩
          | true =>
            by_cases hl : 0 < len
            · have hl3 : decide (0 < ks.length) = true := by rw [← HL.out]; simpa using hl
              skip
              have HF := Lib.hid (show (Tm.mk 4 f n ks).right true = Tm.rightAll ks true from by rw [HU2.out, hl3]; simp)
              have HKc := Lib.hid (HK.out true _ HXA.out)
              clear HU2 HK hbare hl3
              go_wp2_with fail
              refine HKc.out.mono ?_
              rintro e w1 ⟨rfl, hx1⟩
              go_wp2_with fail
              go_ret
              exact ⟨by rw [HF.out]; rfl, HXA.out.trans hx1⟩
            · have hl3 : decide (0 < ks.length) = false := by rw [← HL.out]; simpa using hl
              skip
              have HF := Lib.hid (show (Tm.mk 4 f n ks).right true = false from by rw [HU2.out, hl3]; simp)
              clear HU2 HK hbare hl3
              go_wp2_with fail
              go_ret
              exact ⟨by rw [HF.out]; rfl, HXA.out⟩
      by_cases hop : op = 5
      · subst hop
        have HU2 := Lib.hid (show (Tm.mk 5 f n ks).right pred = (pred && bare && decide (0 < ks.length) && Tm.rightAll ks true) from by rw [HU.out, ← hbare]; simp [refR])
        clear HU HFI
        go_upto_region 13 with fail
        cases pred with
        | false =>
          have HF := Lib.hid (show (Tm.mk 5 f n ks).right false = false from by rw [HU2.out]; rfl)
          clear HU2 HK hbare
          go_wp2_with fail
          go_ret
          exact ⟨by rw [HF.out]; rfl, HXA.out⟩
        | true =>
          cases bare with
          | false =>
            have HF := Lib.hid (show (Tm.mk 5 f n ks).right true = false from by rw [HU2.out]; rfl)
            clear HU2 HK hbare
            go_wp2_with fail
            go_ret
            exact ⟨by rw [HF.out]; rfl, HXA.out⟩
          | true =>
            by_cases hl : 0 < len
            · have hl3 : decide (0 < ks.length) = true := by rw [← HL.out]; simpa using hl
              skip
              have HF := Lib.hid (show (Tm.mk 5 f n ks).right true = Tm.rightAll ks true from by rw [HU2.out, hl3]; simp)
              have HKc := Lib.hid (HK.out true _ HXA.out)
              clear HU2 HK hbare hl3
              go_wp2_with fail
              refine HKc.out.mono ?_
              rintro e w1 ⟨rfl, hx1⟩
              go_wp2_with fail
              go_ret
              exact ⟨by rw [HF.out]; rfl, HXA.out.trans hx1⟩
            · have hl3 : decide (0 < ks.length) = false := by rw [← HL.out]; simpa using hl
              skip
              have HF := Lib.hid (show (Tm.mk 5 f n ks).right true = false from by rw [HU2.out, hl3]; simp)
              clear HU2 HK hbare hl3
              go_wp2_with fail
              go_ret
              exact ⟨by rw [HF.out]; rfl, HXA.out⟩
      by_cases hop : op = 6
      · subst hop
        have HU2 := Lib.hid (show (Tm.mk 6 f n ks).right pred = (!pred && bare && ks.length == 1 && Tm.rightAll ks true) from by rw [HU.out, ← hbare]; simp [refR])
        clear HU HFI
        go_upto_region 15 with fail
        cases pred with
        | true =>
          have HF := Lib.hid (show (Tm.mk 6 f n ks).right true = false from by rw [HU2.out]; rfl)
          clear HU2 HK hbare
          go_wp2_with fail
          go_ret
          exact ⟨by rw [HF.out]; rfl, HXA.out⟩
        | false =>
          cases bare with
          | false =>
            have HF := Lib.hid (show (Tm.mk 6 f n ks).right false = false from by rw [HU2.out]; rfl)
            clear HU2 HK hbare
            go_wp2_with fail
            go_ret
            exact ⟨by rw [HF.out]; rfl, HXA.out⟩
          | true =>
            by_cases hl : len = 1
            · have hl3 : (ks.length == 1) = true := by rw [← HL.out]; simpa using hl
              have hl2 : ((len : Int) == 1) = true := by simp [hl]
              have HF := Lib.hid (show (Tm.mk 6 f n ks).right false = Tm.rightAll ks true from by rw [HU2.out, hl3]; simp)
              have HKc := Lib.hid (HK.out true _ HXA.out)
              clear HU2 HK hbare hl3 hl
              go_wp2_with fail
              refine HKc.out.mono ?_
              rintro e w1 ⟨rfl, hx1⟩
              go_wp2_with fail
              go_ret
              exact ⟨by rw [HF.out]; rfl, HXA.out.trans hx1⟩
            · have hl3 : (ks.length == 1) = false := by rw [← HL.out]; simpa using hl
              have hl2 : ((len : Int) == 1) = false := by simp; omega
              have HF := Lib.hid (show (Tm.mk 6 f n ks).right false = false from by rw [HU2.out, hl3]; simp)
              clear HU2 HK hbare hl3 hl
              go_wp2_with fail
              go_ret
              exact ⟨by rw [HF.out]; rfl, HXA.out⟩
      by_cases hop : op = 8
      · subst hop
        have HU2 := Lib.hid (show (Tm.mk 8 f n ks).right pred = (!pred && bare && decide (0 < ks.length) && Tm.rightAll ks false) from by rw [HU.out, ← hbare]; simp [refR])
        clear HU HFI
        go_upto_region 22 with fail
        cases pred with
        | true =>
          have HF := Lib.hid (show (Tm.mk 8 f n ks).right true = false from by rw [HU2.out]; rfl)
          clear HU2 HK hbare
          go_wp2_with fail
          go_ret
          exact ⟨by rw [HF.out]; rfl, HXA.out⟩
        | false =>
          cases bare with
          | false =>
            have HF := Lib.hid (show (Tm.mk 8 f n ks).right false = false from by rw [HU2.out]; rfl)
            clear HU2 HK hbare
            go_wp2_with fail
            go_ret
            exact ⟨by rw [HF.out]; rfl, HXA.out⟩
          | true =>
            by_cases hl : 0 < len
            · have hl3 : decide (0 < ks.length) = true := by rw [← HL.out]; simpa using hl
              skip
              have HF := Lib.hid (show (Tm.mk 8 f n ks).right false = Tm.rightAll ks false from by rw [HU2.out, hl3]; simp)
              have HKc := Lib.hid (HK.out false _ HXA.out)
              clear HU2 HK hbare hl3
              go_wp2_with fail
              refine HKc.out.mono ?_
              rintro e w1 ⟨rfl, hx1⟩
              go_wp2_with fail
              go_ret
              exact ⟨by rw [HF.out]; rfl, HXA.out.trans hx1⟩
            · have hl3 : decide (0 < ks.length) = false := by rw [← HL.out]; simpa using hl
              skip
              have HF := Lib.hid (show (Tm.mk 8 f n ks).right false = false from by rw [HU2.out, hl3]; simp)
              clear HU2 HK hbare hl3
              go_wp2_with fail
              go_ret
              exact ⟨by rw [HF.out]; rfl, HXA.out⟩
      by_cases hop : op = 9
      · subst hop
        have HU2 := Lib.hid (show (Tm.mk 9 f n ks).right pred = (!pred && bare && decide (0 < ks.length) && Tm.rightAll ks false) from by rw [HU.out, ← hbare]; simp [refR])
        clear HU HFI
        go_upto_region 22 with fail
        cases pred with
        | true =>
          have HF := Lib.hid (show (Tm.mk 9 f n ks).right true = false from by rw [HU2.out]; rfl)
          clear HU2 HK hbare
          go_wp2_with fail
          go_ret
          exact ⟨by rw [HF.out]; rfl, HXA.out⟩
        | false =>
          cases bare with
          | false =>
            have HF := Lib.hid (show (Tm.mk 9 f n ks).right false = false from by rw [HU2.out]; rfl)
            clear HU2 HK hbare
            go_wp2_with fail
            go_ret
            exact ⟨by rw [HF.out]; rfl, HXA.out⟩
          | true =>
            by_cases hl : 0 < len
            · have hl3 : decide (0 < ks.length) = true := by rw [← HL.out]; simpa using hl
              skip
              have HF := Lib.hid (show (Tm.mk 9 f n ks).right false = Tm.rightAll ks false from by rw [HU2.out, hl3]; simp)
              have HKc := Lib.hid (HK.out false _ HXA.out)
              clear HU2 HK hbare hl3
              go_wp2_with fail
              refine HKc.out.mono ?_
              rintro e w1 ⟨rfl, hx1⟩
              go_wp2_with fail
              go_ret
              exact ⟨by rw [HF.out]; rfl, HXA.out.trans hx1⟩
            · have hl3 : decide (0 < ks.length) = false := by rw [← HL.out]; simpa using hl
              skip
              have HF := Lib.hid (show (Tm.mk 9 f n ks).right false = false from by rw [HU2.out, hl3]; simp)
              clear HU2 HK hbare hl3
              go_wp2_with fail
              go_ret
              exact ⟨by rw [HF.out]; rfl, HXA.out⟩
      by_cases hop : op = 10
      · subst hop
        have HU2 := Lib.hid (show (Tm.mk 10 f n ks).right pred = (!pred && bare && ks.length == 1 && Tm.rightAll ks false) from by rw [HU.out, ← hbare]; simp [refR])
        clear HU HFI
        go_upto_region 24 with fail
        cases pred with
        | true =>
          have HF := Lib.hid (show (Tm.mk 10 f n ks).right true = false from by rw [HU2.out]; rfl)
          clear HU2 HK hbare
          go_wp2_with fail
          go_ret
          exact ⟨by rw [HF.out]; rfl, HXA.out⟩
        | false =>
          cases bare with
          | false =>
            have HF := Lib.hid (show (Tm.mk 10 f n ks).right false = false from by rw [HU2.out]; rfl)
            clear HU2 HK hbare
            go_wp2_with fail
            go_ret
            exact ⟨by rw [HF.out]; rfl, HXA.out⟩
          | true =>
            by_cases hl : len = 1
            · have hl3 : (ks.length == 1) = true := by rw [← HL.out]; simpa using hl
              have hl2 : ((len : Int) == 1) = true := by simp [hl]
              have HF := Lib.hid (show (Tm.mk 10 f n ks).right false = Tm.rightAll ks false from by rw [HU2.out, hl3]; simp)
              have HKc := Lib.hid (HK.out false _ HXA.out)
              clear HU2 HK hbare hl3 hl
              go_wp2_with fail
              refine HKc.out.mono ?_
              rintro e w1 ⟨rfl, hx1⟩
              go_wp2_with fail
              go_ret
              exact ⟨by rw [HF.out]; rfl, HXA.out.trans hx1⟩
            · have hl3 : (ks.length == 1) = false := by rw [← HL.out]; simpa using hl
              have hl2 : ((len : Int) == 1) = false := by simp; omega
              have HF := Lib.hid (show (Tm.mk 10 f n ks).right false = false from by rw [HU2.out, hl3]; simp)
              clear HU2 HK hbare hl3 hl
              go_wp2_with fail
              go_ret
              exact ⟨by rw [HF.out]; rfl, HXA.out⟩
      by_cases hop : op = 2
      · subst hop
        have HU2 := Lib.hid (show (Tm.mk 2 f n ks).right pred = (pred && ks.length == 0 && (fitsB f n && f != 3)) from by rw [HU.out]; simp [refR, Bool.and_assoc])
        clear HU HK hbare
        go_upto_region 8 with fail
        cases pred with
        | false =>
          have HF := Lib.hid (show (Tm.mk 2 f n ks).right false = false from by rw [HU2.out]; rfl)
          clear HU2 HFI
          go_wp2_with fail
          go_ret
          exact ⟨by rw [HF.out]; rfl, HXA.out⟩
        | true =>
          by_cases hl : len = 0
          · have hl2 : ((len : Int) == 0) = true := by simpa using hl
            have hl3 : (ks.length == 0) = true := by rw [← HL.out]; simpa using hl
            have HFW := Lib.hid (HFI.out (.slice p len cap) wA)
            clear HFI hl
            go_wp2_with fail
            refine HFW.out.mono ?_
            rintro e w1 ⟨rfl, hx1⟩
            have d1 := hx1.later _ _ c1
            have HUx := Lib.hid (show (Tm.mk 2 f n ks).right true = (fitsB f n && f != 3) from by rw [HU2.out, hl3]; rfl)
            clear HU2 hl3 c0 c1 c2 c3
            cases hq : fitsB f n with
            | false =>
              have HF := Lib.hid (show (Tm.mk 2 f n ks).right true = false from by rw [HUx.out, hq]; rfl)
              clear hq HUx
              go_wp2_with fail
              go_ret
              exact ⟨by rw [HF.out]; rfl, HXA.out.trans hx1⟩
            | true =>
              have HF := Lib.hid (show (Tm.mk 2 f n ks).right true = (f != 3) from by rw [HUx.out, hq]; rfl)
              clear hq HUx
              go_wp2_with fail
              go_ret
              exact ⟨by rw [HF.out]; rfl, HXA.out.trans hx1⟩
          · have hl2 : ((len : Int) == 0) = false := by simpa using hl
            have HF := Lib.hid (show (Tm.mk 2 f n ks).right true = false from by rw [HU2.out, show (ks.length == 0) = false from by rw [← HL.out]; simpa using hl]; rfl)
            clear HU2 HFI
            go_wp2_with fail
            go_ret
            exact ⟨by rw [HF.out]; rfl, HXA.out⟩
      by_cases hop : op = 7
      · subst hop
        have HU2 := Lib.hid (show (Tm.mk 7 f n ks).right pred = (!pred && ks.length == 0 && (mayB f n && fitsB f n)) from by rw [HU.out]; simp [refR, Bool.and_assoc])
        clear HU HK hbare
        go_upto_region 18 with fail
        go_cut [8] (fun s8 wx => s8 = .bool (mayB f n) ∧ wA = wx)
        case first =>
          clear HU2 HFI
          by_cases hr : f = 0 ∨ f = 1 ∨ f = 4 ∨ f = 5 ∨ f = 7 ∨ f = 8
          · rcases hr with rfl | rfl | rfl | rfl | rfl | rfl
            all_goals
              go_wp2_with fail
              go_meet
              exact ⟨by rfl, rfl⟩
          · have g0 : (f == 0) = false := by simp; omega
            have g1 : (f == 1) = false := by simp; omega
            have g4 : (f == 4) = false := by simp; omega
            have g5 : (f == 5) = false := by simp; omega
            have g7 : (f == 7) = false := by simp; omega
            have g8 : (f == 8) = false := by simp; omega
            by_cases h9 : f = 9
            · subst h9
              have HM := Lib.hid (show mayB 9 n = (n != 0) from by simp [mayB])
              go_wp2_with fail
              go_meet
              exact ⟨by rw [HM.out], rfl⟩
            · have g9 : (f == 9) = false := by simp; omega
              have HM := Lib.hid (show mayB f n = false from by simp [mayB, g0, g1, g4, g5, g7, g8, g9])
              go_wp2_with fail
              go_meet
              exact ⟨by rw [HM.out], rfl⟩
        case rest =>
          obtain ⟨rfl, rfl⟩ := hcut
          generalize hmay : mayB f n = may at *
          cases pred with
          | true =>
            have HF := Lib.hid (show (Tm.mk 7 f n ks).right true = false from by rw [HU2.out]; rfl)
            clear HU2 HFI
            go_wp2_with fail
            go_ret
            exact ⟨by rw [HF.out]; rfl, HXA.out⟩
          | false =>
            by_cases hl : len = 0
            · have hl2 : ((len : Int) == 0) = true := by simpa using hl
              have hl3 : (ks.length == 0) = true := by rw [← HL.out]; simpa using hl
              have HUx := Lib.hid (show (Tm.mk 7 f n ks).right false = (may && fitsB f n) from by rw [HU2.out, hl3]; rfl)
              have HFW := Lib.hid (HFI.out (.slice p len cap) wA)
              clear HU2 hl3 HFI hl
              cases may with
              | false =>
                have HF := Lib.hid (show (Tm.mk 7 f n ks).right false = false from by rw [HUx.out]; rfl)
                clear HUx HFW
                go_wp2_with fail
                go_ret
                exact ⟨by rw [HF.out]; rfl, HXA.out⟩
              | true =>
                have HF := Lib.hid (show (Tm.mk 7 f n ks).right false = fitsB f n from by rw [HUx.out]; rfl)
                clear HUx
                go_wp2_with fail
                refine HFW.out.mono ?_
                rintro e w1 ⟨rfl, hx1⟩
                go_wp2_with fail
                go_ret
                exact ⟨by rw [HF.out]; rfl, HXA.out.trans hx1⟩
            · have hl2 : ((len : Int) == 0) = false := by simpa using hl
              have HF := Lib.hid (show (Tm.mk 7 f n ks).right false = false from by rw [HU2.out, show (ks.length == 0) = false from by rw [← HL.out]; simpa using hl]; rfl)
              clear HU2 HFI
              go_wp2_with fail
              go_ret
              exact ⟨by rw [HF.out]; rfl, HXA.out⟩
      have HF := Lib.hid (show (Tm.mk op f n ks).right pred = false from by
        rw [HU.out]
        unfold refR
        rw [if_neg (by omega), if_neg (by omega), if_neg (by omega), if_neg (by omega), if_neg (by omega), if_neg (by omega), if_neg (by omega), if_neg (by omega)])
      have g0 : (op == 0) = false := by simp; omega
      have g1 : (op == 1) = false := by simp; omega
      have g2 : (op == 2) = false := by simp; omega
      have g3 : (op == 3) = false := by simp; omega
      have g4 : (op == 4) = false := by simp; omega
      have g5 : (op == 5) = false := by simp; omega
      have g6 : (op == 6) = false := by simp; omega
      have g7 : (op == 7) = false := by simp; omega
      have g8 : (op == 8) = false := by simp; omega
      have g9 : (op == 9) = false := by simp; omega
      have g10 : (op == 10) = false := by simp; omega
      clear HU HK HFI hbare
      go_wp2_with fail
      go_ret
      exact ⟨by rw [HF.out]; rfl, HXA.out⟩
theorem refRight_any (t : Tm) : RightOf t := refRight_aux t.sz t (Nat.le_refl _)
end Go.Proofs.Ytddeelepaiklgaa
