/- The laws' own small functions: two, step, alike. -/
import Derived.Test.YtpjmdjddgnaddaaSame
namespace Go.Proofs.Ytpjmdjddgnaddaa
open Go.RowKit Go.Maps

theorem Tm.Val.cs {w : World} {t : Tm} {v : Value} (h : t.Val w v) : ∃ p len cap, v = .agg #[.int .i8 t.op, .int .i8 t.fld, .int .u64 t.n, .slice p len cap] := by
  obtain ⟨cs, rfl, s, rfl, -, -, -, p, len, cap, rfl, -⟩ := h
  exact ⟨p, len, cap, rfl⟩

/-- a term in the middle of a new block -/
theorem Tm.Val.at_part {w : World} {t : Tm} {cs : Array Value} (h : t.Val w (.agg cs)) {C : Array Value} (ty : TypeId) (o : Nat) (hC : ∀ j v, cs[j]? = some v → C[o + j]? = some v) : t.At (w.alloc (.cells C ty)) w.heap.size o := by
  refine (h.later (Ext.alloc _ _).later).at fun j v hv => ?_
  rw [World.cell?_alloc_new]
  exact hC j v (by simpa using hv)
theorem val_mk {w : World} {op f n : Int} {ks : List Tm} (ho : -128 ≤ op ∧ op ≤ 127) (hf : -128 ≤ f ∧ f ≤ 127) (hn : 0 ≤ n ∧ n ≤ 18446744073709551615) (b len cap : Nat) (hl : len = ks.length) (hlc : len ≤ cap) (hc : cap ≤ 9223372036854775807) (h : Tm.AllAt w ks b 0) :
    (Tm.mk op f n ks).Val w (.agg #[.int .i8 op, .int .i8 f, .int .u64 n, .slice (some ⟨b, 0, none⟩) len cap]) :=
  ⟨_, rfl, _, rfl, ho, hf, hn, _, _, _, rfl, hl, hlc, hc, .inr ⟨_, _, rfl, h⟩⟩

theorem val_leaf {w : World} {op f n : Int} (ho : -128 ≤ op ∧ op ≤ 127) (hf : -128 ≤ f ∧ f ≤ 127) (hn : 0 ≤ n ∧ n ≤ 18446744073709551615) :
    (Tm.mk op f n []).Val w (.agg #[.int .i8 op, .int .i8 f, .int .u64 n, .slice none 0 0]) :=
  ⟨_, rfl, _, rfl, ho, hf, hn, _, _, _, rfl, rfl, Nat.le_refl _, by omega, .inl rfl⟩
/-- a slice of one term, of two terms, in a new block -/
theorem allAt_one {w : World} {t : Tm} {a b c d : Value} (h : t.Val w (.agg #[a, b, c, d])) (ty : TypeId) : Tm.AllAt (w.alloc (.cells #[a, b, c, d] ty)) [t] w.heap.size 0 :=
  ⟨h.at_part _ 0 fun j v hv => by rw [Nat.zero_add]; exact hv, trivial⟩
theorem allAt_two {w : World} {t u : Tm} {a b c d a' b' c' d' : Value} (h : t.Val w (.agg #[a, b, c, d])) (k : u.Val w (.agg #[a', b', c', d'])) (ty : TypeId) : Tm.AllAt (w.alloc (.cells #[a, b, c, d, a', b', c', d'] ty)) [t, u] w.heap.size 0 := by
  refine ⟨h.at_part _ 0 fun j v hv => ?_, k.at_part _ 4 fun j v hv => ?_, trivial⟩
  · match j, hv with
    | 0, hv | 1, hv | 2, hv | 3, hv => simpa using hv
    | j + 4, hv => simp at hv
  · match j, hv with
    | 0, hv | 1, hv | 2, hv | 3, hv => simpa using hv
    | j + 4, hv => simp at hv

set_option maxHeartbeats 1000000 in
theorem two_any (op : Int) (ta tb : Tm) (va vb : Value) (w : World) (ho : 0 ≤ op ∧ op ≤ 10) (ha : ta.Val w va) (hb : tb.Val w vb) :
    Calls Try.prog 15 #[.int .i8 op, va, vb] w fun e w' => ∃ v, e = .returned v ∧ (Tm.mk op 0 0 [ta, tb]).Val w' v ∧ Ext w w' := by
  have HA := Lib.hid ha
  have HB := Lib.hid hb
  obtain ⟨p, len, cap, rfl⟩ := ha.cs
  obtain ⟨p', len', cap', rfl⟩ := hb.cs
  clear ha hb
  go_enter Try.func15, Try.ntmps15
  go_wp2_with fail
  generalize hw1 : (((w.alloc (.cells #[.int .i8 ta.op, .int .i8 ta.fld, .int .u64 ta.n, .slice p len cap] 26)).alloc (.cells #[.int .i8 tb.op, .int .i8 tb.fld, .int .u64 tb.n, .slice p' len' cap'] 26)).alloc (.cells #[.int .i8 op, .int .i8 0, .int .u64 0, .slice (some ⟨w.heap.size + 1 + 1 + 1, 0, none⟩) 2 2] 26)) = w1
  have hx1 : Ext w w1 := by rw [← hw1]; exact ((Ext.alloc _ _).andAlloc _).andAlloc _
  have hs1 : w1.heap.size = w.heap.size + 1 + 1 + 1 := by rw [← hw1]; simp
  have hc1 : ∀ i, w1.cell? ⟨w.heap.size + 1 + 1, i, none⟩ = #[Value.int .i8 op, .int .i8 0, .int .u64 0, .slice (some ⟨w.heap.size + 1 + 1 + 1, 0, none⟩) 2 2][i]? := fun i => by
    rw [← hw1]
    have := World.cell?_alloc_new ((w.alloc (.cells #[.int .i8 ta.op, .int .i8 ta.fld, .int .u64 ta.n, .slice p len cap] 26)).alloc (.cells #[.int .i8 tb.op, .int .i8 tb.fld, .int .u64 tb.n, .slice p' len' cap'] 26)) #[.int .i8 op, .int .i8 0, .int .u64 0, .slice (some ⟨w.heap.size + 1 + 1 + 1, 0, none⟩) 2 2] 26 i
    simpa using this
  have hat : Tm.AllAt (w1.alloc (.cells #[.int .i8 ta.op, .int .i8 ta.fld, .int .u64 ta.n, .slice p len cap, .int .i8 tb.op, .int .i8 tb.fld, .int .u64 tb.n, .slice p' len' cap'] 26)) [ta, tb] (w.heap.size + 1 + 1 + 1) 0 := by
    rw [← hs1]
    refine ⟨(HA.out.later hx1.later).at_part _ 0 fun j v hv => ?_, (HB.out.later hx1.later).at_part _ 4 fun j v hv => ?_, trivial⟩
    · match j, hv with
      | 0, hv | 1, hv | 2, hv | 3, hv => simpa using hv
      | j + 4, hv => simp at hv
    · match j, hv with
      | 0, hv | 1, hv | 2, hv | 3, hv => simpa using hv
      | j + 4, hv => simp at hv
  have hcf := fun i v (hv : #[Value.int .i8 op, .int .i8 0, .int .u64 0, .slice (some ⟨w.heap.size + 1 + 1 + 1, 0, none⟩) 2 2][i]? = some v) => (Ext.alloc w1 (.cells #[.int .i8 ta.op, .int .i8 ta.fld, .int .u64 ta.n, .slice p len cap, .int .i8 tb.op, .int .i8 tb.fld, .int .u64 tb.n, .slice p' len' cap'] 26)).later _ _ ((hc1 i).trans hv)
  have c0 := hcf 0 _ rfl
  have c1 := hcf 1 _ rfl
  have c2 := hcf 2 _ rfl
  have c3 := hcf 3 _ rfl
  exact bodyPost_ret (v := .agg #[.int .i8 op, .int .i8 0, .int .u64 0, .slice (some ⟨w.heap.size + 1 + 1 + 1, 0, none⟩) 2 2]) (by simp [results, Try.results15, go_sem, c0, c1, c2, c3]) rfl ⟨_, rfl, val_mk (by omega) (by omega) (by omega) _ 2 2 rfl (by omega) (by omega) hat, hx1.andAlloc _⟩

set_option maxHeartbeats 2000000 in
theorem step_any (a b : Nat) (w : World) (ha : a < 10) (hb : b < 10) :
    Calls Try.prog 29 #[.int .u64 a, .int .u64 b] w fun e w' => ∃ v, e = .returned v ∧ (Tm.mk 9 0 0 [.mk 6 0 0 [.mk 2 9 a []], .mk 7 9 b []]).Val w' v ∧ Ext w w' := by
  go_enter Try.func29, Try.ntmps29
  go_wp2_with fail
  have h1 := allAt_one (val_leaf (w := w.alloc (.cells #[.int .i8 9, .int .i8 0, .int .u64 0, .slice (some ⟨w.heap.size + 1 + 1, 0, none⟩) 2 2] 26)) (op := 2) (f := 9) (n := a) (by omega) (by omega) (by omega)) 26
  rw [World.size_alloc] at h1
  have h2 := val_mk (op := 6) (f := 0) (n := 0) (by omega) (by omega) (by omega) _ 1 1 rfl (by omega) (by omega) h1
  have h3 := allAt_two h2 (val_leaf (op := 7) (f := 9) (n := b) (by omega) (by omega) (by omega)) 26
  rw [World.size_alloc, World.size_alloc] at h3
  have h4 := val_mk (op := 9) (f := 0) (n := 0) (by omega) (by omega) (by omega) _ 2 2 rfl (by omega) (by omega) h3
  exact bodyPost_ret (v := .agg #[.int .i8 9, .int .i8 0, .int .u64 0, .slice (some ⟨w.heap.size + 1 + 1, 0, none⟩) 2 2]) (by simp [results, Try.results29, go_sem]) rfl ⟨_, rfl, h4, ((Ext.alloc _ _).andAlloc _).andAlloc _⟩

set_option maxHeartbeats 1000000 in
theorem alike_any (l m : List Hdr) (u v : Value) (a b : Bool) (lo lo' : Nat) (w : World) (hu : HSl w lo l u) (hv : HSl w lo' m v) (h64 : l.length ≤ 64) :
    Calls Try.prog 17 #[u, .bool a, v, .bool b] w fun e w' => e = .returned (.bool (!a || !b || decide (l = m))) ∧ Ext w w' := by
  have HC := Lib.hid (same_any l m u v lo lo' w hu hv h64)
  obtain ⟨p, len, cap, rfl, -, -⟩ := hu
  obtain ⟨p', len', cap', rfl, -, -⟩ := hv
  cases a with
  | false =>
    go_enter Try.func17, Try.ntmps17
    go_wp2_with fail
    go_ret
    exact ⟨rfl, Ext.refl _⟩
  | true =>
    cases b with
    | false =>
      go_enter Try.func17, Try.ntmps17
      go_wp2_with fail
      go_ret
      exact ⟨rfl, Ext.refl _⟩
    | true =>
      go_enter Try.func17, Try.ntmps17
      go_wp2_with fail
      refine HC.out.mono ?_
      rintro e w1 ⟨rfl, hx⟩
      go_wp2_with fail
      go_ret
      exact ⟨rfl, hx⟩
end Go.Proofs.Ytpjmdjddgnaddaa
