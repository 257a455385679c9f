/-
  NARROWER THAN 'FOR EVERY INPUT', by the rows' own cells (each row's printed sentence says how): MeaningTells: loops · MeaningAlgebra: loops · MeaningStar: loops · MeaningFilters: loops · MeaningSets: loops.
  DERIVED. THE GIVEN ROWS OF THIS SEAT. 5 by the template 'for every input the law returns true; each argument reads behind the call as it read before'; 0 by the template 'total and deterministic' (their statements: YtpjmdjddgnaddaaTotals.lean).
  GIVEN WITH THE SEED: the statements are not yours to turn. If you find one false, say at which input.
  Laid BY PROGRAM, IN A SANDBOX (cutbox-rows.mjs): the forced cells as the released guide's own fill.sh prints them over the translation 0371c93e4f59f547… (all of the seat's roots in one cut). By AI agents, Wed Nov 11 2026. No macro, syntax, notation, axiom, sorry.
-/
import Derived.Test.YtpjmdjddgnaddaaChecked
import GoSem.Claim
import GoSem.ClaimJoined
import GoSem.ClaimMapViews
import Derived.JoinedTies
import Derived.KernelRfl
namespace Go.Proofs.Ytpjmdjddgnaddaa
/- THE CELL 'sum', in the pinned program and in every row, IS THE sha256 OF THE DUMP (.gsa) THAT YtpjmdjddgnaddaaProg.lean LOADS. Nothing in Lean hashes anything: it is a label: what it is worth is what the hold of that sum in a sandbox is worth. -/
noncomputable def Try.pinned : Pinned := { name := "ytpjmdjddgnaddaa", sum := "0371c93e4f59f5470df1c23fe59926f99a1ac3a1d7b4e13847d8cbe2e4fa0127", checked := Try.checked }
namespace Rows
def none {H : Type} : Left H := { results := [], args := [] }

/-- 'tollbridgelaw19.MeaningTells': WHATEVER THE INPUT: true; the input reads as it did. -/
def meaningTellsSpec : ChangeSpec := { name := "meaningTells", fn := fun _ => fun
  | [d1, d2] => { results := [.lit (.bool true)], args := [d1, d2] }
  | _ => none }
def meaningTellsRow : OpenClaim := { program := "ytpjmdjddgnaddaa", sum := "0371c93e4f59f5470df1c23fe59926f99a1ac3a1d7b4e13847d8cbe2e4fa0127", func := "tollbridge/tollbridgelaw19.MeaningTells", spec := "meaningTells", unfollowed := true, recurses := true, loops := true, plainKeys := false, apart := false }
def MeaningTellsSaid : Prop := meaningTellsRow.holds Try.pinned (OpenSpec.ofChange meaningTellsSpec)

/-- ITS FALSE NEIGHBOUR: 'it returns false'. Refute it at one input. -/
def meaningTellsWrong : ChangeSpec := { name := "meaningTells", fn := fun _ => fun
  | [d1, d2] => { results := [.lit (.bool false)], args := [d1, d2] }
  | _ => none }
def MeaningTellsWrongFalsely : Prop := meaningTellsRow.holds Try.pinned (OpenSpec.ofChange meaningTellsWrong)

/-- 'tollbridgelaw19.MeaningAlgebra': WHATEVER THE INPUT: true; the input reads as it did. -/
def meaningAlgebraSpec : ChangeSpec := { name := "meaningAlgebra", fn := fun _ => fun
  | [d1, d2, d3, d4] => { results := [.lit (.bool true)], args := [d1, d2, d3, d4] }
  | _ => none }
def meaningAlgebraRow : OpenClaim := { program := "ytpjmdjddgnaddaa", sum := "0371c93e4f59f5470df1c23fe59926f99a1ac3a1d7b4e13847d8cbe2e4fa0127", func := "tollbridge/tollbridgelaw19.MeaningAlgebra", spec := "meaningAlgebra", unfollowed := true, recurses := true, loops := true, plainKeys := false, apart := false }
def MeaningAlgebraSaid : Prop := meaningAlgebraRow.holds Try.pinned (OpenSpec.ofChange meaningAlgebraSpec)

/-- ITS FALSE NEIGHBOUR: 'it returns false'. Refute it at one input. -/
def meaningAlgebraWrong : ChangeSpec := { name := "meaningAlgebra", fn := fun _ => fun
  | [d1, d2, d3, d4] => { results := [.lit (.bool false)], args := [d1, d2, d3, d4] }
  | _ => none }
def MeaningAlgebraWrongFalsely : Prop := meaningAlgebraRow.holds Try.pinned (OpenSpec.ofChange meaningAlgebraWrong)

/-- 'tollbridgelaw19.MeaningStar': WHATEVER THE INPUT: true; the input reads as it did. -/
def meaningStarSpec : ChangeSpec := { name := "meaningStar", fn := fun _ => fun
  | [d1, d2] => { results := [.lit (.bool true)], args := [d1, d2] }
  | _ => none }
def meaningStarRow : OpenClaim := { program := "ytpjmdjddgnaddaa", sum := "0371c93e4f59f5470df1c23fe59926f99a1ac3a1d7b4e13847d8cbe2e4fa0127", func := "tollbridge/tollbridgelaw19.MeaningStar", spec := "meaningStar", unfollowed := true, recurses := true, loops := true, plainKeys := false, apart := false }
def MeaningStarSaid : Prop := meaningStarRow.holds Try.pinned (OpenSpec.ofChange meaningStarSpec)

/-- ITS FALSE NEIGHBOUR: 'it returns false'. Refute it at one input. -/
def meaningStarWrong : ChangeSpec := { name := "meaningStar", fn := fun _ => fun
  | [d1, d2] => { results := [.lit (.bool false)], args := [d1, d2] }
  | _ => none }
def MeaningStarWrongFalsely : Prop := meaningStarRow.holds Try.pinned (OpenSpec.ofChange meaningStarWrong)

/-- 'tollbridgelaw19.MeaningFilters': WHATEVER THE INPUT: true; the input reads as it did. -/
def meaningFiltersSpec : ChangeSpec := { name := "meaningFilters", fn := fun _ => fun
  | [d1, d2, d3] => { results := [.lit (.bool true)], args := [d1, d2, d3] }
  | _ => none }
def meaningFiltersRow : OpenClaim := { program := "ytpjmdjddgnaddaa", sum := "0371c93e4f59f5470df1c23fe59926f99a1ac3a1d7b4e13847d8cbe2e4fa0127", func := "tollbridge/tollbridgelaw19.MeaningFilters", spec := "meaningFilters", unfollowed := true, recurses := true, loops := true, plainKeys := false, apart := false }
def MeaningFiltersSaid : Prop := meaningFiltersRow.holds Try.pinned (OpenSpec.ofChange meaningFiltersSpec)

/-- ITS FALSE NEIGHBOUR: 'it returns false'. Refute it at one input. -/
def meaningFiltersWrong : ChangeSpec := { name := "meaningFilters", fn := fun _ => fun
  | [d1, d2, d3] => { results := [.lit (.bool false)], args := [d1, d2, d3] }
  | _ => none }
def MeaningFiltersWrongFalsely : Prop := meaningFiltersRow.holds Try.pinned (OpenSpec.ofChange meaningFiltersWrong)

/-- 'tollbridgelaw19.MeaningSets': WHATEVER THE INPUT: true; the input reads as it did. -/
def meaningSetsSpec : ChangeSpec := { name := "meaningSets", fn := fun _ => fun
  | [d1, d2] => { results := [.lit (.bool true)], args := [d1, d2] }
  | _ => none }
def meaningSetsRow : OpenClaim := { program := "ytpjmdjddgnaddaa", sum := "0371c93e4f59f5470df1c23fe59926f99a1ac3a1d7b4e13847d8cbe2e4fa0127", func := "tollbridge/tollbridgelaw19.MeaningSets", spec := "meaningSets", unfollowed := true, recurses := true, loops := true, plainKeys := false, apart := false }
def MeaningSetsSaid : Prop := meaningSetsRow.holds Try.pinned (OpenSpec.ofChange meaningSetsSpec)

/-- ITS FALSE NEIGHBOUR: 'it returns false'. Refute it at one input. -/
def meaningSetsWrong : ChangeSpec := { name := "meaningSets", fn := fun _ => fun
  | [d1, d2] => { results := [.lit (.bool false)], args := [d1, d2] }
  | _ => none }
def MeaningSetsWrongFalsely : Prop := meaningSetsRow.holds Try.pinned (OpenSpec.ofChange meaningSetsWrong)

/- THE SECOND FORM. 'bulk': how many values and letters a reading holds, each counted each time it is reached (what is shared counts as often as it is met; a slice's spare places count too). A statement '..UptoSaid' is the law's where the arguments, and the package variables that the reading takes, are together of bulk at most 1048576: NARROWER than '..Said'. Prove '..Said' where nothing that the law and all that it calls make is longer than what came in: it says more and counts as full. Else prove '..UptoSaid'. A law counts once. -/
mutual
def uptoBulk {H : Type} : DataW H → Nat
  | .lit (.string bytes) => bytes.length + 1
  | .lit _ => 1
  | .nil => 1
  | .ptr d => uptoBulk d + 1
  | .slice elems spare => uptoBulkAll elems + uptoBulkAll spare + 1
  | .agg parts => uptoBulkAll parts + 1
  | .iface _ d => uptoBulk d + 1
  | .map entries => uptoBulkEntries entries + 1
  | .held _ => 1
def uptoBulkAll {H : Type} : List (DataW H) → Nat
  | [] => 0
  | d :: r => uptoBulk d + uptoBulkAll r
def uptoBulkEntries {H : Type} : List (Lit × DataW H) → Nat
  | [] => 0
  | x :: r => uptoBulkEntry x + uptoBulkEntries r
def uptoBulkEntry {H : Type} : Lit × DataW H → Nat
  | (.string bytes, d) => bytes.length + uptoBulk d + 1
  | (_, d) => uptoBulk d + 1
 end
def uptoSmall : (H : Type) → List (DataW H) → Bool := fun _ ds => decide (uptoBulkAll ds ≤ 1048576)
def OpenSpec.upto (s : _root_.Go.ChangeSpec) : _root_.Go.OpenSpec := { _root_.Go.OpenSpec.ofChange s with cond := some uptoSmall }

/-- 'tollbridgelaw19.MeaningTells', WHERE WHAT IT READS IS OF BULK AT MOST 1048576: true; the input reads as it did. -/
def meaningTellsUptoRow : OpenClaim := { program := "ytpjmdjddgnaddaa", sum := "0371c93e4f59f5470df1c23fe59926f99a1ac3a1d7b4e13847d8cbe2e4fa0127", func := "tollbridge/tollbridgelaw19.MeaningTells", spec := "meaningTells", unfollowed := true, recurses := true, loops := true, plainKeys := false, apart := false, narrowed := true }
def MeaningTellsUptoSaid : Prop := meaningTellsUptoRow.holds Try.pinned (OpenSpec.upto meaningTellsSpec)

/-- 'tollbridgelaw19.MeaningAlgebra', WHERE WHAT IT READS IS OF BULK AT MOST 1048576: true; the input reads as it did. -/
def meaningAlgebraUptoRow : OpenClaim := { program := "ytpjmdjddgnaddaa", sum := "0371c93e4f59f5470df1c23fe59926f99a1ac3a1d7b4e13847d8cbe2e4fa0127", func := "tollbridge/tollbridgelaw19.MeaningAlgebra", spec := "meaningAlgebra", unfollowed := true, recurses := true, loops := true, plainKeys := false, apart := false, narrowed := true }
def MeaningAlgebraUptoSaid : Prop := meaningAlgebraUptoRow.holds Try.pinned (OpenSpec.upto meaningAlgebraSpec)

/-- 'tollbridgelaw19.MeaningStar', WHERE WHAT IT READS IS OF BULK AT MOST 1048576: true; the input reads as it did. -/
def meaningStarUptoRow : OpenClaim := { program := "ytpjmdjddgnaddaa", sum := "0371c93e4f59f5470df1c23fe59926f99a1ac3a1d7b4e13847d8cbe2e4fa0127", func := "tollbridge/tollbridgelaw19.MeaningStar", spec := "meaningStar", unfollowed := true, recurses := true, loops := true, plainKeys := false, apart := false, narrowed := true }
def MeaningStarUptoSaid : Prop := meaningStarUptoRow.holds Try.pinned (OpenSpec.upto meaningStarSpec)

/-- 'tollbridgelaw19.MeaningFilters', WHERE WHAT IT READS IS OF BULK AT MOST 1048576: true; the input reads as it did. -/
def meaningFiltersUptoRow : OpenClaim := { program := "ytpjmdjddgnaddaa", sum := "0371c93e4f59f5470df1c23fe59926f99a1ac3a1d7b4e13847d8cbe2e4fa0127", func := "tollbridge/tollbridgelaw19.MeaningFilters", spec := "meaningFilters", unfollowed := true, recurses := true, loops := true, plainKeys := false, apart := false, narrowed := true }
def MeaningFiltersUptoSaid : Prop := meaningFiltersUptoRow.holds Try.pinned (OpenSpec.upto meaningFiltersSpec)

/-- 'tollbridgelaw19.MeaningSets', WHERE WHAT IT READS IS OF BULK AT MOST 1048576: true; the input reads as it did. -/
def meaningSetsUptoRow : OpenClaim := { program := "ytpjmdjddgnaddaa", sum := "0371c93e4f59f5470df1c23fe59926f99a1ac3a1d7b4e13847d8cbe2e4fa0127", func := "tollbridge/tollbridgelaw19.MeaningSets", spec := "meaningSets", unfollowed := true, recurses := true, loops := true, plainKeys := false, apart := false, narrowed := true }
def MeaningSetsUptoSaid : Prop := meaningSetsUptoRow.holds Try.pinned (OpenSpec.upto meaningSetsSpec)

end Rows
end Go.Proofs.Ytpjmdjddgnaddaa
