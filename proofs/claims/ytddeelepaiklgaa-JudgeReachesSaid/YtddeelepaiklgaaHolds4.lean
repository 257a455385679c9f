/- meaning.holds and meaning.Holds; meaning.terms; work.ask. -/
import Derived.Test.YtddeelepaiklgaaHolds3
namespace Go.Proofs.Ytddeelepaiklgaa
open Go.RowKit

theorem fieldA (g : Nat) (w : World) : (Instr.field 126 (.agg #[.func (.func g) #[] #[]]) 0).run Try.prog w = .ok (.func (.func g) #[] #[]) w := by kernel_rfl
theorem kinds_at (k : Nat) (hk : k < 6) (op : Int) (h : op = k) (w : World) : Calls Try.prog 74 #[.int .i8 op] w fun e w' => e = .returned (.agg #[.func (.func (kindF k)) #[] #[]]) ∧ Ext w w' := by
  rw [h]
  exact kinds_any k hk w

set_option maxHeartbeats 2000000 in
set_option maxRecDepth 100000 in
theorem holds_aux (m : Nat) : ∀ t : Tm, t.sz ≤ m → HoldsOf t := by
  induction m with
  | zero => intro t hm; have := t.sz_pos; omega
  | succ m ih =>
    intro t hm x b o hb ho w hr h hx
    cases t with | mk op f n ks =>
    have IH := Lib.hid (fun i (hi : i < ks.length) => ih (ks[i]) (Tm.sz_kid hm i hi))
    clear ih hm
    have hfa := fieldA
    have HA := Lib.hid h
    have HXR := Lib.hid hx
    have c0 : w.cell? ⟨b, o, none⟩ = some (.int .i8 op) := h.2.2.2.1
    have hfb : 0 ≤ n ∧ n ≤ 18446744073709551615 := h.2.2.1
    rcases Tm.right_pred hr with (rfl | rfl) | ⟨rfl, hf1, hf2⟩ | ⟨h345, hlen, hra⟩
    · have HK := Lib.hid (kinds_at 0 (by omega) 0 (by rfl) w)
      clear h hx hr
      go_enter Try.func52, Try.ntmps52
      go_wp2_with fail
      refine HK.out.mono ?_
      rintro e w1 ⟨rfl, hx1⟩
      simp only [kindF]
      go_wp2_with fail
      refine (no_any _ _ _).mono ?_
      rintro e w2 ⟨rfl, rfl⟩
      go_wp2_with fail
      go_ret
      exact ⟨rfl, hx1⟩
    · have HK := Lib.hid (kinds_at 1 (by omega) 1 (by rfl) w)
      clear h hx hr
      go_enter Try.func52, Try.ntmps52
      go_wp2_with fail
      refine HK.out.mono ?_
      rintro e w1 ⟨rfl, hx1⟩
      simp only [kindF]
      go_wp2_with fail
      refine (yes_any _ _ _).mono ?_
      rintro e w2 ⟨rfl, rfl⟩
      go_wp2_with fail
      go_ret
      exact ⟨rfl, hx1⟩
    · have HK := Lib.hid (kinds_at 2 (by omega) 2 (by rfl) w)
      obtain ⟨fk, rfl⟩ := Int.eq_ofNat_of_zero_le hf1
      obtain ⟨nk, rfl⟩ := Int.eq_ofNat_of_zero_le hfb.1
      have hfk : fk < 11 := by omega
      have HF := Lib.hid (show (Tm.mk 2 fk nk ks).holds x = (x.f fk == nk) from by rw [Tm.holds, if_neg (by omega), if_pos rfl, Int.toNat_natCast])
      clear h hx hr
      go_enter Try.func52, Try.ntmps52
      go_wp2_with fail
      refine HK.out.mono ?_
      rintro e w1 ⟨rfl, hx1⟩
      simp only [kindF]
      go_wp2_with fail
      refine (is_any fk nk 2 ks x b o hb ho w1 hfk (HA.out.later hx1.later) (World.rangeAt.later hx1.later HXR.out)).mono ?_
      rintro e w2 ⟨rfl, hx2⟩
      go_wp2_with fail
      go_ret
      exact ⟨by rw [HF.out]; rfl, hx1.trans hx2⟩
    · rcases h345 with rfl | rfl | rfl
      · have HK := Lib.hid (kinds_at 3 (by omega) 3 (by rfl) w)
        cases ks with
        | nil => simp at hlen
        | cons t r =>
          have hr0 : t.right true = true := by simp only [Tm.rightAll, Bool.and_eq_true] at hra; exact hra.1
          have HT := Lib.hid (show HoldsOf t from by have := IH.out 0 (by simp); rwa [List.getElem_cons_zero] at this)
          have HF := Lib.hid (show (Tm.mk 3 f n (t :: r)).holds x = !(t.holds x) from by rw [Tm.holds, if_neg (by omega), if_neg (by omega), if_pos rfl, Tm.holdsHead])
          clear h hx hr hra
          go_enter Try.func52, Try.ntmps52
          go_wp2_with fail
          refine HK.out.mono ?_
          rintro e w1 ⟨rfl, hx1⟩
          simp only [kindF]
          go_wp2_with fail
          refine (not_any r t x 3 f n b o hb ho w1 HT.out hr0 (HA.out.later hx1.later) (World.rangeAt.later hx1.later HXR.out)).mono ?_
          rintro e w2 ⟨rfl, hx2⟩
          go_wp2_with fail
          go_ret
          exact ⟨by rw [HF.out]; rfl, hx1.trans hx2⟩
      · have HK := Lib.hid (kinds_at 4 (by omega) 4 (by rfl) w)
        have HF := Lib.hid (show (Tm.mk 4 f n ks).holds x = Tm.holdsAll ks x from by rw [Tm.holds, if_neg (by omega), if_neg (by omega), if_neg (by omega), if_pos rfl])
        have HRA := Lib.hid hra
        clear h hx hr hra
        go_enter Try.func52, Try.ntmps52
        go_wp2_with fail
        refine HK.out.mono ?_
        rintro e w1 ⟨rfl, hx1⟩
        simp only [kindF]
        go_wp2_with fail
        refine (and_any ks x 4 f n b o hb ho w1 IH.out HRA.out (HA.out.later hx1.later) (World.rangeAt.later hx1.later HXR.out)).mono ?_
        rintro e w2 ⟨rfl, hx2⟩
        go_wp2_with fail
        go_ret
        exact ⟨by rw [HF.out]; rfl, hx1.trans hx2⟩
      · have HK := Lib.hid (kinds_at 5 (by omega) 5 (by rfl) w)
        have HF := Lib.hid (show (Tm.mk 5 f n ks).holds x = Tm.holdsAny ks x from by rw [Tm.holds, if_neg (by omega), if_neg (by omega), if_neg (by omega), if_neg (by omega), if_pos rfl])
        have HRA := Lib.hid hra
        clear h hx hr hra
        go_enter Try.func52, Try.ntmps52
        go_wp2_with fail
        refine HK.out.mono ?_
        rintro e w1 ⟨rfl, hx1⟩
        simp only [kindF]
        go_wp2_with fail
        refine (or_any ks x 5 f n b o hb ho w1 IH.out HRA.out (HA.out.later hx1.later) (World.rangeAt.later hx1.later HXR.out)).mono ?_
        rintro e w2 ⟨rfl, hx2⟩
        go_wp2_with fail
        go_ret
        exact ⟨by rw [HF.out]; rfl, hx1.trans hx2⟩

theorem holds_any (t : Tm) : HoldsOf t := holds_aux t.sz t (Nat.le_refl _)

/-- P19.1 -/
def holdsT (t : Tm) (x : Hdr) : Bool := decide (predT t = 0) && t.holds x
theorem predT_zero {t : Tm} (h : predT t = 0) : t.right true = true ∧ bigB [t] = false := by
  unfold predT at h
  split at h
  · cases h
  · rename_i hb
    split at h
    · rename_i hr; exact ⟨hr, by simpa using hb⟩
    · cases h

set_option maxHeartbeats 1000000 in
theorem terms_aux (m : Nat) : ∀ (t : Tm) (b o : Nat) (w : World), t.sz ≤ m → t.sz ≤ 4096 → t.At w b o →
    Calls Try.prog 51 #[.pointer (some ⟨b, o, none⟩)] w fun e w' => e = .returned (.int .i64 t.sz) ∧ w = w' := by
  induction m with
  | zero => intro t _ _ _ hm; have := t.sz_pos; omega
  | succ m ih =>
    intro t b o w hm h4 h
    cases t with | mk op f n ks =>
    have IH := Lib.hid (fun i (hi : i < ks.length) => fun b o w (h4 : (ks[i]).sz ≤ 4096) => ih (ks[i]) b o w (Tm.sz_kid hm i hi) h4)
    have hsz : (Tm.mk op f n ks).sz = Tm.szAll ks + 1 := by simp only [Tm.sz]
    have HS := Lib.hid hsz
    have h4' : Tm.szAll ks ≤ 4095 := by omega
    clear ih hm hsz
    obtain ⟨_, _, _, _, _, _, p, len, cap, c3, hlen, hlc, hcm, hks⟩ := h
    have HL := Lib.hid hlen
    clear hlen
    go_enter Try.func51, Try.ntmps51
    go_wp2_with fail
    go_loop [3, 10] (fun n i => ∃ j : Nat, j ≤ len ∧ i = .int .i64 j ∧ n = .int .i64 (1 + Tm.szAll (ks.take j) : Nat)) (fun _ i => len - (intOf i).toNat)
    case atStart => exact ⟨0, Nat.zero_le _, rfl, by simp [Tm.szAll]⟩
    case round =>
      obtain ⟨j, hj, rfl, rfl⟩ := hrel
      by_cases hlt : j < len
      · rcases hks with hks | ⟨b', o', rfl, hall⟩
        · exfalso; have := HL.out; subst hks; simp at this; omega
        have hjl : j < ks.length := by rw [← HL.out]; exact hlt
        have HT := Lib.hid (Tm.szAll_take ks j hjl)
        have hle := Tm.szAll_take_le ks (j + 1)
        have hle0 := Tm.sz_get j hjl
        have hsum : Tm.szAll (ks.take j) + (ks[j]).sz ≤ 4095 := by have := HT.out; omega
        have IHj := Lib.hid (IH.out j hjl b' (o' + j * 4) w (by omega) (Tm.AllAt_get hall j hjl))
        generalize Tm.szAll (ks.take j) = x at *
        generalize (ks[j]).sz = y at *
        clear hle hle0
        go_wp2_with fail
        refine IHj.out.mono ?_
        rintro e w' ⟨rfl, rfl⟩
        go_wp2_with fail
        go_round
        case rel => exact ⟨j + 1, by omega, by go_num, by rw [HT.out]; congr 1; omega⟩
        case measure => simp [intOf]; omega
      · have HF := Lib.hid (show (Tm.mk op f n ks).sz = 1 + Tm.szAll (ks.take j) from by rw [HS.out, List.take_of_length_le (by have := HL.out; omega)]; omega)
        go_wp2_with fail
        go_ret
        exact ⟨by rw [HF.out]; rfl, rfl⟩

theorem terms_any (t : Tm) (b o : Nat) (w : World) (h4 : t.sz ≤ 4096) (h : t.At w b o) :
    Calls Try.prog 51 #[.pointer (some ⟨b, o, none⟩)] w fun e w' => e = .returned (.int .i64 t.sz) ∧ w = w' := terms_aux t.sz t b o w (Nat.le_refl _) h4 h

set_option maxHeartbeats 1000000 in
set_option maxRecDepth 100000 in
theorem ask_any (n k : Int) (b : Nat) (w : World) (hn : 0 ≤ n ∧ n ≤ 65536) (hk : 0 ≤ k ∧ k ≤ 4096) (hc : w.cell? ⟨b, 0, none⟩ = some (.int .i64 n)) (hf : w.frozen? ⟨b, 0, none⟩ = false) :
    Calls Try.prog 50 #[.pointer (some ⟨b, 0, none⟩), .int .i64 k] w fun e w' => Keep (· = b) w w' ∧ w'.cell? ⟨b, 0, none⟩ = some (.int .i64 (n + k)) ∧ w'.frozen? ⟨b, 0, none⟩ = false ∧
      ((n + k ≤ 65536 ∧ e = .returned (.tuple #[])) ∨ (65536 < n + k ∧ e = .panicked tooBig)) := by
  have hs := World.cell?_setCell_same w ⟨b, 0, none⟩ (.int .i64 (n + k)) hc
  have HK := Lib.hid (Keep.set (S := (· = b)) w ⟨b, 0, none⟩ (.int .i64 (n + k)) rfl)
  by_cases h : n + k ≤ 65536
  · go_enter Try.func50, Try.ntmps50
    go_wp2_with fail
    go_end0
    exact ⟨HK.out, hs, by simpa using hf, .inl ⟨h, rfl⟩⟩
  · have h' : 65536 < n + k := by omega
    go_enter Try.func50, Try.ntmps50
    go_wp2_with fail
    exact ⟨rfl, HK.out, hs, by simpa using hf, by first | exact .inr ⟨h', rfl⟩ | exact .inr rfl⟩
end Go.Proofs.Ytddeelepaiklgaa
