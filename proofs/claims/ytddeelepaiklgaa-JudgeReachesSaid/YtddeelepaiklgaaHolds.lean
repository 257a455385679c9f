/- meaning.holds: whether a right predicate holds of a header; slices.ContainsFunc at terms. -/
import Derived.Test.YtddeelepaiklgaaPol
namespace Go.Proofs.Ytddeelepaiklgaa
open Go.RowKit

/-- a term out of the place where it lies -/
theorem wpList_load_T {ops : Array Oper} {rest : List Oper} {op : Oper} {a : Act} {w : World} {Q : Exit → Act → World → Prop} (hgd : op.guard = none) (x : Operand) (ho : op.op = .load 31 x)
    (b o : Nat) (hx : a.eval x = .pointer (some ⟨b, o, none⟩)) (t : Tm) (h : t.At w b o)
    (hK : ∀ cs : Array Value, t.Val w (.agg cs) → w.rangeAt b o cs.toList → cs.size = 4 → wpList Try.prog ops Q rest (a.put op.dst (.agg cs)) w) : wpList Try.prog ops Q (op :: rest) a w := by
  obtain ⟨cs, h1, h2, h3⟩ := h.val
  exact wpList_load_mid hgd 31 x ho b o hx cs.toList _ h2 Try.underlying31 rfl (by rw [Array.length_toList, h3]; kernel_rfl) (by rw [Array.toArray_toList]; exact hK cs h1 h2 h3)

def Idx (n : Nat) (q : Nat → Bool) (e : Ending) : Prop := (∃ j : Nat, j < n ∧ q j = true ∧ e = .returned (.int .i64 j)) ∨ ((∀ j, j < n → q j = false) ∧ e = .returned (.int .i64 (-1)))

set_option maxHeartbeats 1000000 in
set_option maxRecDepth 100000 in
theorem indexFunc_any (g : Nat) (c : Value) (eg : ∀ args w, (callFunc g args).run Try.prog w = .ok (.enter g args) w) (ks : List Tm) (q : Nat → Bool) (v : Value) (w : World) (hv : Tms w ks v)
    (hcall : ∀ (i : Nat) (h : i < ks.length) (cs : Array Value) (W : World), cs.size = 4 → (ks[i]).Val W (.agg cs) → Ext w W → Calls Try.prog g #[.agg cs, c] W fun e w' => e = .returned (.bool (q i)) ∧ Ext W w') :
    Calls Try.prog 103 #[v, .func (.func g) #[] #[c]] w fun e w' => Idx ks.length q e ∧ Ext w w' := by
  obtain ⟨p, len, cap, rfl, hlen, hlc, hcm, hks⟩ := hv
  have HL := Lib.hid hlen
  have HC := Lib.hid hcall
  clear hlen hcall
  go_enter Try.func103, Try.ntmps103
  go_wp2_with fail
  go_loopw [8] (fun i wr => ∃ j : Nat, j ≤ len ∧ i = .int .i64 j ∧ Hid (∀ m, m < j → q m = false) ∧ Hid (Ext w wr)) (fun i _ => len - (intOf i).toNat)
  case atStart => exact ⟨0, Nat.zero_le _, rfl, fun m hm => by omega, Ext.refl _⟩
  case round =>
    rename_i wr
    obtain ⟨j, hj, rfl, hd, hx⟩ := hrel
    by_cases hlt : j < len
    · rcases hks with hks | ⟨b', o', rfl, hall⟩
      · exfalso; have := HL.out; subst hks; simp at this; omega
      have hjl : j < ks.length := by rw [← HL.out]; exact hlt
      have HA := Lib.hid ((Tm.AllAt_get hall j hjl).later hx.out.later)
      have HCj := Lib.hid (fun cs W h0 h1 h2 => HC.out j hjl cs W h0 h1 h2)
      clear hall
      go_wp2_with (refine wpList_load_T rfl _ rfl b' (o' + j * 4) rfl _ HA.out ?_; intro cs hv hr hsz)
      refine (HCj.out cs wr hsz hv hx.out).mono ?_
      rintro e w1 ⟨rfl, hx1⟩
      cases hq : q j with
      | true =>
        have HF := Lib.hid hq
        clear hq
        go_wp2_with fail
        go_ret
        exact ⟨.inl ⟨j, by rw [← HL.out]; exact hlt, HF.out, rfl⟩, hx.out.trans hx1⟩
      | false =>
        have HF := Lib.hid hq
        clear hq
        go_wp2_with fail
        go_roundw
        case rel => exact ⟨j + 1, by omega, by go_num, fun m hm => by
          rcases Nat.lt_succ_iff_lt_or_eq.1 hm with h1 | rfl
          · exact hd.out m h1
          · exact HF.out, hx.out.trans hx1⟩
        case measure => simp [intOf]; omega
    · go_wp2_with fail
      go_ret
      exact ⟨.inr ⟨fun m hm => hd.out m (by have := HL.out; omega), rfl⟩, hx.out⟩

set_option maxHeartbeats 1000000 in
theorem containsFunc_any (g : Nat) (c : Value) (eg : ∀ args w, (callFunc g args).run Try.prog w = .ok (.enter g args) w) (ks : List Tm) (q : Nat → Bool) (v : Value) (w : World) (hv : Tms w ks v)
    (hcall : ∀ (i : Nat) (h : i < ks.length) (cs : Array Value) (W : World), cs.size = 4 → (ks[i]).Val W (.agg cs) → Ext w W → Calls Try.prog g #[.agg cs, c] W fun e w' => e = .returned (.bool (q i)) ∧ Ext W w')
    (r : Bool) (h1 : (∃ j, j < ks.length ∧ q j = true) → r = true) (h2 : (∀ j, j < ks.length → q j = false) → r = false) :
    Calls Try.prog 94 #[v, .func (.func g) #[] #[c]] w fun e w' => e = .returned (.bool r) ∧ Ext w w' := by
  have HC := Lib.hid (indexFunc_any g c eg ks q v w hv hcall)
  have H1 := Lib.hid h1
  have H2 := Lib.hid h2
  clear hcall hv h1 h2
  go_enter Try.func94, Try.ntmps94
  go_wp2_with fail
  refine HC.out.mono ?_
  rintro e w1 ⟨⟨j, hj, hq, rfl⟩ | ⟨hq, rfl⟩, hx⟩
  · have HF := Lib.hid (H1.out ⟨j, hj, hq⟩)
    clear hq
    go_wp2_with fail
    go_ret
    exact ⟨by rw [HF.out]; rfl, hx⟩
  · have HF := Lib.hid (H2.out hq)
    clear hq
    go_wp2_with fail
    go_ret
    exact ⟨by rw [HF.out]; rfl, hx⟩
end Go.Proofs.Ytddeelepaiklgaa
