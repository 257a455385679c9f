/- The laws' own small functions: Same, alike. -/
import Derived.Test.YtpjmdjddgnaddaaTop
import Derived.Laws.StructEq
import Derived.DeepKeys
import Derived.BigQuiet
namespace Go.Proofs.Ytpjmdjddgnaddaa
open Go.RowKit Go.Maps

theorem eqH (x y : Hdr) (w : World) : (Op.equalIn 10000 28 (.agg x.cs) (.agg y.cs)).run Try.prog w = .ok (decide (x = y)) w := by
  obtain ⟨lx, hx⟩ := keyH x
  obtain ⟨ly, hy⟩ := keyH y
  obtain ⟨r, hr, hiff⟩ := run_equal_deep (P := Try.prog) w (m := 3) (by omega) (k := 28) (by kernel_rfl) (by kernel_rfl) hx hy
  have hd : r = decide (x = y) := by
    rw [Bool.eq_iff_iff, hiff, decide_eq_true_iff]
    constructor
    · rintro rfl
      exact codedH.inj (codedH.keyed.inj hx hy)
    · rintro rfl
      exact Option.some.inj (hx.symm.trans hy)
  rw [hd] at hr
  exact hr
theorem cellAt {w : World} {b o : Nat} {x : Hdr} (h : w.rangeAt b o x.cs.toList) (i : Nat) (hi : i < 11) : w.cell? ⟨b, o + i, none⟩ = some (.int .u64 (x.f i)) :=
  h i _ (by rw [Array.getElem?_toList]; exact x.cell i hi)
theorem guardH : Program.eqGuardType Try.prog Try.prog.depth 28 = false := by kernel_rfl

set_option maxRecDepth 100000 in
set_option maxHeartbeats 2000000 in
theorem same_any (l m : List Hdr) (u v : Value) (lo lo' : Nat) (w : World) (hu : HSl w lo l u) (hv : HSl w lo' m v) (h64 : l.length ≤ 64) :
    Calls Try.prog 10 #[u, v] w fun e w' => e = .returned (.bool (decide (l = m))) ∧ Ext w w' := by
  obtain ⟨p, len, cap, rfl, hlen, hl⟩ := hu
  obtain ⟨p', len', cap', rfl, hlen', hm⟩ := hv
  have HL := Lib.hid hlen
  have HL' := Lib.hid hlen'
  clear hlen hlen'
  have hlen64 : len ≤ 64 := by have := HL.out; omega
  by_cases hn : len = len'
  · subst hn
    have hd : ((len : Int) != len) = false := by simp
    go_enter Try.func10, Try.ntmps10
    go_wp2_with fail
    go_loopw [13] (fun i wr => ∃ (j n : Nat), j ≤ len ∧ i = .int .i64 j ∧ Hid (decide (l = m) = decide (l.drop j = m.drop j)) ∧ wr = w.drewN n) (fun i _ => len - (intOf i).toNat)
    case atStart => exact ⟨0, 0, Nat.zero_le _, rfl, rfl, rfl⟩
    case round =>
      obtain ⟨j, n, hj, rfl, hR, rfl⟩ := hrel
      by_cases hlt : j < len
      · have hjl : j < l.length := by rw [← HL.out]; exact hlt
        have hjm : j < m.length := by rw [← HL'.out]; exact hlt
        rcases hl with hl | ⟨b, o, rfl, -, hr⟩
        · exfalso; subst hl; simp at hjl
        rcases hm with hm | ⟨b', o', rfl, -, hr'⟩
        · exfalso; subst hm; simp at hjm
        have hrj := rangeAt_get Hdr.len_cs hr j hjl
        have hrj' := rangeAt_get Hdr.len_cs hr' j hjm
        have p0 : w.cell? ⟨b, o + j * 11, none⟩ = some (.int .u64 ((l[j]).f 0)) := cellAt hrj 0 (by omega)
        have p1 : w.cell? ⟨b, o + j * 11 + 1, none⟩ = some (.int .u64 ((l[j]).f 1)) := cellAt hrj 1 (by omega)
        have p2 : w.cell? ⟨b, o + j * 11 + 2, none⟩ = some (.int .u64 ((l[j]).f 2)) := cellAt hrj 2 (by omega)
        have p3 : w.cell? ⟨b, o + j * 11 + 3, none⟩ = some (.int .u64 ((l[j]).f 3)) := cellAt hrj 3 (by omega)
        have p4 : w.cell? ⟨b, o + j * 11 + 4, none⟩ = some (.int .u64 ((l[j]).f 4)) := cellAt hrj 4 (by omega)
        have p5 : w.cell? ⟨b, o + j * 11 + 5, none⟩ = some (.int .u64 ((l[j]).f 5)) := cellAt hrj 5 (by omega)
        have p6 : w.cell? ⟨b, o + j * 11 + 6, none⟩ = some (.int .u64 ((l[j]).f 6)) := cellAt hrj 6 (by omega)
        have p7 : w.cell? ⟨b, o + j * 11 + 7, none⟩ = some (.int .u64 ((l[j]).f 7)) := cellAt hrj 7 (by omega)
        have p8 : w.cell? ⟨b, o + j * 11 + 8, none⟩ = some (.int .u64 ((l[j]).f 8)) := cellAt hrj 8 (by omega)
        have p9 : w.cell? ⟨b, o + j * 11 + 9, none⟩ = some (.int .u64 ((l[j]).f 9)) := cellAt hrj 9 (by omega)
        have p10 : w.cell? ⟨b, o + j * 11 + 10, none⟩ = some (.int .u64 ((l[j]).f 10)) := cellAt hrj 10 (by omega)
        have q0 : w.cell? ⟨b', o' + j * 11, none⟩ = some (.int .u64 ((m[j]).f 0)) := cellAt hrj' 0 (by omega)
        have q1 : w.cell? ⟨b', o' + j * 11 + 1, none⟩ = some (.int .u64 ((m[j]).f 1)) := cellAt hrj' 1 (by omega)
        have q2 : w.cell? ⟨b', o' + j * 11 + 2, none⟩ = some (.int .u64 ((m[j]).f 2)) := cellAt hrj' 2 (by omega)
        have q3 : w.cell? ⟨b', o' + j * 11 + 3, none⟩ = some (.int .u64 ((m[j]).f 3)) := cellAt hrj' 3 (by omega)
        have q4 : w.cell? ⟨b', o' + j * 11 + 4, none⟩ = some (.int .u64 ((m[j]).f 4)) := cellAt hrj' 4 (by omega)
        have q5 : w.cell? ⟨b', o' + j * 11 + 5, none⟩ = some (.int .u64 ((m[j]).f 5)) := cellAt hrj' 5 (by omega)
        have q6 : w.cell? ⟨b', o' + j * 11 + 6, none⟩ = some (.int .u64 ((m[j]).f 6)) := cellAt hrj' 6 (by omega)
        have q7 : w.cell? ⟨b', o' + j * 11 + 7, none⟩ = some (.int .u64 ((m[j]).f 7)) := cellAt hrj' 7 (by omega)
        have q8 : w.cell? ⟨b', o' + j * 11 + 8, none⟩ = some (.int .u64 ((m[j]).f 8)) := cellAt hrj' 8 (by omega)
        have q9 : w.cell? ⟨b', o' + j * 11 + 9, none⟩ = some (.int .u64 ((m[j]).f 9)) := cellAt hrj' 9 (by omega)
        have q10 : w.cell? ⟨b', o' + j * 11 + 10, none⟩ = some (.int .u64 ((m[j]).f 10)) := cellAt hrj' 10 (by omega)
        have hg := guardH
        have HE := Lib.hid (show decide (l = m) = if l[j] = m[j] then decide (l.drop (j + 1) = m.drop (j + 1)) else false from by
          rw [hR.out, drop_get hjl, drop_get hjm]
          rw [Bool.eq_iff_iff]
          by_cases h : l[j] = m[j]
          · rw [if_pos h, decide_eq_true_iff, decide_eq_true_iff, List.cons.injEq]; exact ⟨fun a => a.2, fun a => ⟨h, a⟩⟩
          · rw [if_neg h, decide_eq_true_iff, List.cons.injEq]; exact ⟨fun a => absurd a.1 h, fun a => by cases a⟩)
        have he := eqH (l[j]) (m[j])
        simp only [Hdr.cs_eq] at he
        generalize l[j] = x at *
        generalize m[j] = y at *
        by_cases hxy : x = y
        · have HF := Lib.hid (HE.out.trans (if_pos hxy))
          rw [show decide (x = y) = true from by simpa using hxy] at he
          clear hxy HE
          go_wp2_with fail
          go_quiet (fail)
          go_wp2_with fail
          go_roundw
          case rel => exact ⟨j + 1, _, by omega, by go_num, HF.out, rfl⟩
          case measure => simp [intOf]; omega
        · have HF := Lib.hid (HE.out.trans (if_neg hxy))
          rw [show decide (x = y) = false from by simpa using hxy] at he
          clear hxy HE
          go_wp2_with fail
          go_quiet (fail)
          go_wp2_with fail
          go_ret
          exact ⟨by rw [HF.out]; rfl, (Ext.drewN _ _).andDrewN _⟩
      · have HF := Lib.hid (show decide (l = m) = true from by
          rw [hR.out, List.drop_of_length_le (by have := HL.out; omega), List.drop_of_length_le (by have := HL'.out; omega)]; rfl)
        go_wp2_with fail
        go_ret
        exact ⟨by rw [HF.out]; rfl, Ext.drewN _ _⟩
  · have HF := Lib.hid (show decide (l = m) = false from by
      simp only [decide_eq_false_iff_not]
      rintro rfl
      exact hn (HL.out.trans HL'.out.symm))
    have hd : ((len : Int) != len') = true := by simp; omega
    go_enter Try.func10, Try.ntmps10
    go_wp2_with fail
    go_ret
    exact ⟨by rw [HF.out]; rfl, Ext.refl _⟩
end Go.Proofs.Ytpjmdjddgnaddaa
