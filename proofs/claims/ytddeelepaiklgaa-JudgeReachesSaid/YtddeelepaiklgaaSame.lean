/- The laws' own small functions: Same, alike. -/
import Derived.Test.YtddeelepaiklgaaTop
import Derived.Laws.StructEq
import Derived.DeepKeys
import Derived.BigQuiet
namespace Go.Proofs.Ytddeelepaiklgaa
open Go.RowKit Go.Maps

theorem eqH (x y : Hdr) (w : World) : (Op.equalIn 10000 24 (.agg x.cs) (.agg y.cs)).run Try.prog w = .ok (decide (x = y)) w := by
  obtain ⟨lx, hx⟩ := keyH x
  obtain ⟨ly, hy⟩ := keyH y
  obtain ⟨r, hr, hiff⟩ := run_equal_deep (P := Try.prog) w (m := 3) (by omega) (k := 24) (by kernel_rfl) (by kernel_rfl) hx hy
  have hd : r = decide (x = y) := by
    rw [Bool.eq_iff_iff, hiff, decide_eq_true_iff]
    constructor
    · rintro rfl
      exact codedH.inj (codedH.keyed.inj hx hy)
    · rintro rfl
      exact Option.some.inj (hx.symm.trans hy)
  rw [hd] at hr
  exact hr
theorem cellAt {w : World} {b o : Nat} {x : Hdr} (h : w.rangeAt b o x.cs.toList) (i : Nat) (hi : i < 11) : w.cell? ⟨b, o + i, none⟩ = some (.int .u64 (x.f i)) :=
  h i _ (by rw [Array.getElem?_toList]; exact x.cell i hi)
theorem guardH : Program.eqGuardType Try.prog Try.prog.depth 24 = false := by kernel_rfl

end Go.Proofs.Ytddeelepaiklgaa
