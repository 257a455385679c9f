/- The law's own function sets, walked: does a term set a field to a number? -/
import Derived.Test.YtpjmdjddgnaddaaHolds
namespace Go.Proofs.Ytpjmdjddgnaddaa
open Go.RowKit Go.Maps

mutual
/-- some Set of t names the field i and the number m -/
def Tm.setsT : Tm → Int → Int → Bool
  | .mk op f n ks, i, m => (op == 7 && f == i && n == m) || Tm.setsAny ks i m
def Tm.setsAny : List Tm → Int → Int → Bool
  | [], _, _ => false
  | t :: ts, i, m => t.setsT i m || Tm.setsAny ts i m
end
theorem Tm.Val.cs' {w : World} {t : Tm} {v : Value} (h : t.Val w v) : ∃ p len cap, v = .agg #[.int .i8 t.op, .int .i8 t.fld, .int .u64 t.n, .slice p len cap] := by
  obtain ⟨cs, rfl, s, rfl, -, -, -, p, len, cap, rfl, -⟩ := h
  exact ⟨p, len, cap, rfl⟩
theorem cells4' {w : World} {b o : Nat} {a0 a1 a2 a3 : Value} (h : w.rangeAt b o [a0, a1, a2, a3]) : w.cell? ⟨b, o, none⟩ = some a0 ∧ w.cell? ⟨b, o + 1, none⟩ = some a1 ∧ w.cell? ⟨b, o + 2, none⟩ = some a2 ∧ w.cell? ⟨b, o + 3, none⟩ = some a3 :=
  ⟨h 0 _ rfl, h 1 _ rfl, h 2 _ rfl, h 3 _ rfl⟩
theorem Tm.setsAny_true : ∀ {ks : List Tm} {i m : Int} (j : Nat) (h : j < ks.length), (ks[j]).setsT i m = true → Tm.setsAny ks i m = true
  | t :: ts, i, m, 0, _, hv => by rw [List.getElem_cons_zero] at hv; simp [Tm.setsAny, hv]
  | t :: ts, i, m, j + 1, h, hv => by rw [List.getElem_cons_succ] at hv; simp [Tm.setsAny, Tm.setsAny_true j (by simpa using h) hv]
theorem Tm.setsAny_false : ∀ {ks : List Tm} {i m : Int}, (∀ j (h : j < ks.length), (ks[j]).setsT i m = false) → Tm.setsAny ks i m = false
  | [], _, _, _ => rfl
  | t :: ts, i, m, hv => by
    have h0 := hv 0 (by simp)
    have h1 := Tm.setsAny_false (i := i) (m := m) (ks := ts) (fun j h => by have := hv (j + 1) (by simpa using h); rwa [List.getElem_cons_succ] at this)
    rw [List.getElem_cons_zero] at h0
    simp only [Tm.setsAny, h0, h1, Bool.or_self]

set_option maxHeartbeats 2000000 in
set_option maxRecDepth 100000 in
theorem sets_aux (m : Nat) : ∀ (t : Tm) (i n : Int) (v : Value) (w : World), t.sz ≤ m → t.Val w v →
    Calls Try.prog 21 #[v, .int .i8 i, .int .u64 n] w fun e w' => e = .returned (.bool (t.setsT i n)) ∧ Ext w w' := by
  induction m with
  | zero => intro t _ _ _ _ hm; have := t.sz_pos; omega
  | succ m ih =>
    intro t i n v w hm hv
    have HE := Lib.hid hv
    obtain ⟨p, len, cap, rfl⟩ := hv.cs'
    obtain ⟨_, he, s, rfl, _, _, _, _, _, _, rfl, hlen, hlc, hcm, hks⟩ := hv
    cases he
    cases t with | mk op f nn ks =>
    simp only [Tm.op, Tm.fld, Tm.n, Tm.kids] at *
    have IH := Lib.hid (fun j (hj : j < ks.length) => fun v w => ih (ks[j]) i n v w (Tm.sz_kid hm j hj))
    have HL := Lib.hid hlen
    have HU := Lib.hid (show (Tm.mk op f nn ks).setsT i n = ((op == 7 && f == i && nn == n) || Tm.setsAny ks i n) from by rw [Tm.setsT])
    clear ih hm hlen
    obtain ⟨wA, hA⟩ : ∃ W : World, w.alloc (.cells #[.int .i8 op, .int .i8 f, .int .u64 nn, .slice p len cap] 26) = W := ⟨_, rfl⟩
    have xA : Ext w wA := hA ▸ Ext.alloc _ _
    have rA : wA.rangeAt (w.heap.size) 0 [.int .i8 op, .int .i8 f, .int .u64 nn, .slice p len cap] := by
      have := rangeAt_new w #[.int .i8 op, .int .i8 f, .int .u64 nn, .slice p len cap] 26
      rw [hA] at this
      exact this
    obtain ⟨c0, c1, c2, c3⟩ := cells4' rA
    have HXA := Lib.hid xA
    have HEQ := Lib.hid hA
    clear xA hA rA
    go_enter Try.func21, Try.ntmps21
    go_upto_region 1 with fail
    rw [HEQ.out]
    go_cut [23] (fun s23 wx => s23 = .bool (op == 7 && f == i && nn == n) ∧ wA = wx)
    case first =>
      by_cases h7 : op = 7
      · subst h7
        by_cases hf : f = i
        · subst hf
          by_cases hn : nn = n
          · subst hn
            go_wp2_with fail
            go_meet
            exact ⟨by simp, rfl⟩
          · have hn' : (nn == n) = false := by simpa using hn
            go_wp2_with fail
            go_meet
            exact ⟨by simp [hn'], rfl⟩
        · have hf' : (f == i) = false := by simpa using hf
          go_wp2_with fail
          go_meet
          exact ⟨by simp [hf'], rfl⟩
      · have h7' : (op == 7) = false := by simpa using h7
        go_wp2_with fail
        go_meet
        exact ⟨by simp [h7'], rfl⟩
    case rest =>
      obtain ⟨rfl, rfl⟩ := hcut
      cases hq : (op == 7 && f == i && nn == n) with
      | true =>
        have HF := Lib.hid (show (Tm.mk op f nn ks).setsT i n = true from by rw [HU.out, hq]; rfl)
        clear hq
        go_wp2_with fail
        go_ret
        exact ⟨by rw [HF.out]; rfl, HXA.out⟩
      | false =>
        have HF := Lib.hid (show (Tm.mk op f nn ks).setsT i n = Tm.setsAny ks i n from by rw [HU.out, hq]; rfl)
        clear hq HU
        go_wp2_with fail
        go_loopw [27] (fun s wr => ∃ j : Nat, j ≤ len ∧ s = .int .i64 j ∧ Hid (∀ m (h : m < ks.length), m < j → (ks[m]).setsT i n = false) ∧ Hid (Ext wA wr)) (fun s _ => len - (intOf s).toNat)
        case atStart => exact ⟨0, Nat.zero_le _, rfl, fun m h hm => by omega, Ext.refl _⟩
        case round =>
          rename_i wr
          obtain ⟨j, hj, rfl, hd, hx⟩ := hrel
          by_cases hlt : j < len
          · rcases hks with hks | ⟨b', o', rfl, hall⟩
            · exfalso; have := HL.out; subst hks; simp at this; omega
            have hjl : j < ks.length := by rw [← HL.out]; exact hlt
            have HAT := Lib.hid (((Tm.AllAt_get hall j hjl).later (HXA.out.trans hx.out).later).val)
            obtain ⟨cs, hv, hr, hsz⟩ := HAT.out
            have HVj := Lib.hid hv
            obtain ⟨p2, l2, k2, he⟩ := hv.cs'
            cases he
            obtain ⟨d0, d1, d2, d3⟩ := cells4' hr
            have HC := Lib.hid (fun W (hW : Ext wr W) => IH.out j hjl _ W (HVj.out.later hW.later))
            clear hv hr hsz HAT
            generalize hk : ks[j] = k at *
            go_wp2_with fail
            refine (HC.out _ (Ext.alloc _ _)).mono ?_
            rintro e w1 ⟨rfl, hx1⟩
            cases hq : k.setsT i n with
            | true =>
              have HT := Lib.hid (HF.out.trans (Tm.setsAny_true j hjl (by rw [hk]; exact hq)))
              clear hq
              go_wp2_with fail
              go_ret
              exact ⟨by rw [HT.out]; rfl, (HXA.out.trans hx.out).trans ((Ext.alloc _ _).trans hx1)⟩
            | false =>
              have HT := Lib.hid (show (ks[j]).setsT i n = false from by rw [hk]; exact hq)
              clear hq
              go_wp2_with fail
              go_roundw
              case rel => exact ⟨j + 1, by omega, by go_num, fun m h hm => by
                rcases Nat.lt_succ_iff_lt_or_eq.1 hm with h1 | rfl
                · exact hd.out m h h1
                · exact HT.out, hx.out.trans ((Ext.alloc _ _).trans hx1)⟩
              case measure => simp [intOf]; omega
          · have HT := Lib.hid (HF.out.trans (Tm.setsAny_false (fun m h => hd.out m h (by have := HL.out; omega))))
            go_wp2_with fail
            go_ret
            exact ⟨by rw [HT.out]; rfl, HXA.out.trans hx.out⟩
theorem sets_any (t : Tm) (i n : Int) (v : Value) (w : World) (hv : t.Val w v) :
    Calls Try.prog 21 #[v, .int .i8 i, .int .u64 n] w fun e w' => e = .returned (.bool (t.setsT i n)) ∧ Ext w w' := sets_aux t.sz t i n v w (Nat.le_refl _) hv
end Go.Proofs.Ytpjmdjddgnaddaa
