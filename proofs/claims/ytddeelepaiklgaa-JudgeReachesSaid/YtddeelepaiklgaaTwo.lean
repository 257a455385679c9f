/- The laws' own small functions: two, step, alike. -/
import Derived.Test.YtddeelepaiklgaaSame
namespace Go.Proofs.Ytddeelepaiklgaa
open Go.RowKit Go.Maps

theorem Tm.Val.cs {w : World} {t : Tm} {v : Value} (h : t.Val w v) : ∃ p len cap, v = .agg #[.int .i8 t.op, .int .i8 t.fld, .int .u64 t.n, .slice p len cap] := by
  obtain ⟨cs, rfl, s, rfl, -, -, -, p, len, cap, rfl, -⟩ := h
  exact ⟨p, len, cap, rfl⟩

/-- a term in the middle of a new block -/
theorem Tm.Val.at_part {w : World} {t : Tm} {cs : Array Value} (h : t.Val w (.agg cs)) {C : Array Value} (ty : TypeId) (o : Nat) (hC : ∀ j v, cs[j]? = some v → C[o + j]? = some v) : t.At (w.alloc (.cells C ty)) w.heap.size o := by
  refine (h.later (Ext.alloc _ _).later).at fun j v hv => ?_
  rw [World.cell?_alloc_new]
  exact hC j v (by simpa using hv)
theorem val_mk {w : World} {op f n : Int} {ks : List Tm} (ho : -128 ≤ op ∧ op ≤ 127) (hf : -128 ≤ f ∧ f ≤ 127) (hn : 0 ≤ n ∧ n ≤ 18446744073709551615) (b len cap : Nat) (hl : len = ks.length) (hlc : len ≤ cap) (hc : cap ≤ 9223372036854775807) (h : Tm.AllAt w ks b 0) :
    (Tm.mk op f n ks).Val w (.agg #[.int .i8 op, .int .i8 f, .int .u64 n, .slice (some ⟨b, 0, none⟩) len cap]) :=
  ⟨_, rfl, _, rfl, ho, hf, hn, _, _, _, rfl, hl, hlc, hc, .inr ⟨_, _, rfl, h⟩⟩

theorem val_leaf {w : World} {op f n : Int} (ho : -128 ≤ op ∧ op ≤ 127) (hf : -128 ≤ f ∧ f ≤ 127) (hn : 0 ≤ n ∧ n ≤ 18446744073709551615) :
    (Tm.mk op f n []).Val w (.agg #[.int .i8 op, .int .i8 f, .int .u64 n, .slice none 0 0]) :=
  ⟨_, rfl, _, rfl, ho, hf, hn, _, _, _, rfl, rfl, Nat.le_refl _, by omega, .inl rfl⟩
/-- a slice of one term, of two terms, in a new block -/
theorem allAt_one {w : World} {t : Tm} {a b c d : Value} (h : t.Val w (.agg #[a, b, c, d])) (ty : TypeId) : Tm.AllAt (w.alloc (.cells #[a, b, c, d] ty)) [t] w.heap.size 0 :=
  ⟨h.at_part _ 0 fun j v hv => by rw [Nat.zero_add]; exact hv, trivial⟩
theorem allAt_two {w : World} {t u : Tm} {a b c d a' b' c' d' : Value} (h : t.Val w (.agg #[a, b, c, d])) (k : u.Val w (.agg #[a', b', c', d'])) (ty : TypeId) : Tm.AllAt (w.alloc (.cells #[a, b, c, d, a', b', c', d'] ty)) [t, u] w.heap.size 0 := by
  refine ⟨h.at_part _ 0 fun j v hv => ?_, k.at_part _ 4 fun j v hv => ?_, trivial⟩
  · match j, hv with
    | 0, hv | 1, hv | 2, hv | 3, hv => simpa using hv
    | j + 4, hv => simp at hv
  · match j, hv with
    | 0, hv | 1, hv | 2, hv | 3, hv => simpa using hv
    | j + 4, hv => simp at hv

end Go.Proofs.Ytddeelepaiklgaa
