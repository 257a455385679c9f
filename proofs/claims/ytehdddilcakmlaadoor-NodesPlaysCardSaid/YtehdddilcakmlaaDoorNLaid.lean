/- The rows of law 20: what their premises on the tables give; a start that meets them. -/
import Derived.Test.YtehdddilcakmlaaDoorRow
import Derived.Test.YtehdddilcakmlaaDoorNKey
import Derived.Lib.LaidTab
import Derived.LaidLaws
namespace Go.Proofs.YtehdddilcakmlaaDoor
open Go.ChangeShapes Go.WideShapes Go.ChangeAt Go.RowKit Go.Lib

abbrev laid20 : List (String × DataW Unit) := [("math/bits.deBruijn32tab", Rows.laid_math_bits_deBruijn32tab), ("math/bits.deBruijn64tab", Rows.laid_math_bits_deBruijn64tab), ("internal/strconv.uint64pow10", Rows.laid_internal_strconv_uint64pow10)]
theorem pow_data : (Rows.laid_internal_strconv_uint64pow10 : DataW Unit) = tabData .u64 Lib.pow10Tab := by kernel_rfl
theorem gPow : (Tryd.prog.globalNamed "internal/strconv.uint64pow10").isSome = true := by kernel_rfl
theorem tb_of_laid {W : World} (h : laidMet Tryd.prog laid20 W) : Tb W := by
  obtain ⟨ps, ⟨_, _, _, _, _, _, _, _, _, _, ⟨_, _, _, _, _, _, _, _, _, _, ⟨g', t', cs, fuel, p, q, hg', ht', hvar, hd, _, _⟩, _⟩, _⟩, _⟩ := h
  obtain ⟨g, hg⟩ := Option.isSome_iff_exists.1 gPow
  have hgg : (Tryd.prog.globalNamed "internal/strconv.uint64pow10").bind (fun g => (Tryd.prog.globals[g]?).map (·.type)) = some 120 := by kernel_rfl
  rw [hg'] at hgg
  obtain rfl := Option.some.inj (ht'.symm.trans hgg)
  rw [pow_data] at hd
  unfold Tb TabIs
  rw [hvar, ← cells_of_tab Tryd.underlying120 Tryd.underlying33 (by kernel_rfl) (by kernel_rfl) hd]

def intsOf {H : Type} : DataW H → Array Value
  | .agg l => (l.map fun d => match d with | .lit (.int k n) => Value.int k n | _ => Value.int .i64 0).toArray
  | _ => #[]
noncomputable def laidWorld (os : Os) : World :=
  let w0 := World.holding Tryd.prog os ⟨#[], #[], []⟩
  let put (h : Array Obj) (name : String) (cs : Array Value) : Array Obj := h.modify ((Tryd.prog.globalNamed name).getD 0) fun
    | .cells _ t frozen => .cells cs t frozen
    | o => o
  { w0 with heap := put (put (put w0.heap "math/bits.deBruijn32tab" (intsOf (H := Unit) Rows.laid_math_bits_deBruijn32tab)) "math/bits.deBruijn64tab" (intsOf (H := Unit) Rows.laid_math_bits_deBruijn64tab)) "internal/strconv.uint64pow10" (intsOf (H := Unit) Rows.laid_internal_strconv_uint64pow10) }
set_option maxRecDepth 1000000 in
theorem laid_met (os : Os) (args : Array Value) : laidMet Tryd.prog laid20 ((laidWorld os).forCall (fun _ _ => 0) ⟨#[], args, []⟩).memory :=
  laidMet_of_run' 8 (by kernel_rfl) (by kernel_rfl)
end Go.Proofs.YtehdddilcakmlaaDoor
