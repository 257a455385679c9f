/- The store's maps: keys of tests, keys of leaves. -/
import Derived.Test.YtehdddilcakmlaaDoorNKey
import Derived.Test.YtehdddilcakmlaaDoorMap
import Derived.Test.YtehdddilcakmlaaDoorJMap
import Derived.StringKeys
namespace Go.Proofs.YtehdddilcakmlaaDoor
open Go.RowKit Go.Sort Go.Maps Go.Lib Go.WideMaps
set_option linter.unusedSimpArgs false

/-- a test's key -/
structure TkD where
  f : Int
  n : Int
  hi : Int
  lo : Int
  deriving DecidableEq
def TkD.ok (k : TkD) : Prop := (-128 ≤ k.f ∧ k.f ≤ 127) ∧ (0 ≤ k.n ∧ k.n ≤ 18446744073709551615) ∧ (-9223372036854775808 ≤ k.hi ∧ k.hi ≤ 9223372036854775807) ∧ (-9223372036854775808 ≤ k.lo ∧ k.lo ≤ 9223372036854775807)
abbrev Tk := { k : TkD // k.ok }
def kvT (k : Tk) : Value := .agg #[.int .i8 k.1.f, .int .u64 k.1.n, .int .i64 k.1.hi, .int .i64 k.1.lo]
instance decB : DecidableEq ByteArray := fun a b => decidable_of_iff (a.data = b.data) ⟨fun h => ByteArray.ext h, fun h => by rw [h]⟩
abbrev Sk := { s : List UInt8 // s.length ≤ 9223372036854775807 }
def kvS (s : Sk) : Value := .string ⟨s.1.toArray⟩
def vvI (n : Int) : Value := .int .i64 n
theorem typesN : ∃ m, Tryd.prog.types.size = m + 1 := ⟨_, rfl⟩
theorem laidT : laidOutB Tryd.prog = true := by kernel_rfl
theorem keyT (k : Tk) : ∃ l, keyOf Tryd.prog 71 (kvT k) = some l := by
  obtain ⟨⟨f, n, hi, lo⟩, h1, h2, h3, h4⟩ := k
  have hkt : Tryd.prog.keyType 71 = true := by kernel_rfl
  have w1 : (Lit.int .i8 f).wf = true := by simp [Lit.wf, IntKind.min, IntKind.max, IntKind.bits, IntKind.signed]; exact h1
  have w2 : (Lit.int .u64 n).wf = true := by simp [Lit.wf, IntKind.min, IntKind.max, IntKind.bits, IntKind.signed]; exact h2
  have w3 : (Lit.int .i64 hi).wf = true := by simp [Lit.wf, IntKind.min, IntKind.max, IntKind.bits, IntKind.signed]; exact h3
  have w4 : (Lit.int .i64 lo).wf = true := by simp [Lit.wf, IntKind.min, IntKind.max, IntKind.bits, IntKind.signed]; exact h4
  have hf : (kvT ⟨⟨f, n, hi, lo⟩, h1, h2, h3, h4⟩).formed Tryd.prog 71 = true := by
    unfold kvT
    kernel_rfl
  obtain ⟨m, hm⟩ := typesN
  unfold keyOf
  simp only [Tryd.underlying71]
  rw [if_pos (by rw [hkt, hf]; rfl), hm]
  have q : ∀ (t : TypeId) (k : IntKind) (x : Int), Tryd.prog.underlying t = some (.int k) → (Lit.int k x).wf = true → Tryd.prog.keyLits (m + 1) t [.int k x] = some [.int k x] := fun t k x ht hw => by
    unfold Program.keyLits
    simp [ht, hw]
  unfold Program.keyLits
  simp only [Tryd.underlying71, kvT, Value.cells]
  rw [if_pos ⟨by kernel_rfl, by kernel_rfl⟩]
  have z8 : Tryd.prog.cellsOf 32 = 1 := by kernel_rfl
  have z64 : Tryd.prog.cellsOf 33 = 1 := by kernel_rfl
  have zi : Tryd.prog.cellsOf 3 = 1 := by kernel_rfl
  simp [List.mapM_cons, z8, z64, zi, q _ _ _ Tryd.underlying32 w1, q _ _ _ Tryd.underlying33 w2, q _ _ _ Tryd.underlying3 w3, q _ _ _ Tryd.underlying3 w4]
theorem codedT : Coded Tryd.prog 71 kvT where
  keyed := Keyed.of_law (deep_law_laid laidT (m := 2) (by omega) (of_decide_eq_true (by kernel_rfl)) (by kernel_rfl) (by kernel_rfl))
  key := keyT
  inj := fun {x y} h => by
    obtain ⟨⟨f, n, hi, lo⟩, hx⟩ := x
    obtain ⟨⟨f', n', hi', lo'⟩, hy⟩ := y
    simp [kvT] at h
    obtain ⟨rfl, rfl, rfl, rfl⟩ := h
    rfl
theorem codedS : Coded Tryd.prog 9 kvS where
  keyed := string_keyed Tryd.underlying9
  key := fun x => ⟨_, keyOf_string_mk Tryd.underlying9 (by have := x.2; simpa [maxLen, ByteArray.size] using this)⟩
  inj := fun {x y} h => by
    obtain ⟨x, hx⟩ := x
    obtain ⟨y, hy⟩ := y
    simp [kvS] at h
    subst h; rfl
theorem zeroIv (w : World) : (zeroValue 3).run Tryd.prog w = .ok (vvI 0) w := by kernel_rfl
end Go.Proofs.YtehdddilcakmlaaDoor
