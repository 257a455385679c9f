/-
  NARROWER THAN 'FOR EVERY INPUT', by the rows' own cells (each row's printed sentence says how): JudgeHops: loops · JudgeTraces: loops · JudgeReaches: loops · JudgeFewer: loops · JudgeEnds: loops · JudgeUnion: loops.
  DERIVED. THE GIVEN ROWS OF THIS SEAT. 6 by the template 'for every input the law returns true; each argument reads behind the call as it read before'; 0 by the template 'total and deterministic' (their statements: YtddeelepaiklgaaTotals.lean).
  GIVEN WITH THE SEED: the statements are not yours to turn. If you find one false, say at which input.
  Laid BY PROGRAM, IN A SANDBOX (cutbox-rows.mjs): the forced cells as the released guide's own fill.sh prints them over the translation c83b4f06e43bfa75… (all of the seat's roots in one cut). By AI agents, Wed Nov 11 2026. No macro, syntax, notation, axiom, sorry.
-/
import Derived.Test.YtddeelepaiklgaaChecked
import GoSem.Claim
import GoSem.ClaimJoined
import GoSem.ClaimMapViews
import Derived.JoinedTies
import Derived.KernelRfl
namespace Go.Proofs.Ytddeelepaiklgaa
/- THE CELL 'sum', in the pinned program and in every row, IS THE sha256 OF THE DUMP (.gsa) THAT YtddeelepaiklgaaProg.lean LOADS. Nothing in Lean hashes anything: it is a label: what it is worth is what the hold of that sum in a sandbox is worth. -/
noncomputable def Try.pinned : Pinned := { name := "ytddeelepaiklgaa", sum := "c83b4f06e43bfa75c166a738b1264bd423c906bd2aa01530c055ac7594aa4359", checked := Try.checked }
namespace Rows
def none {H : Type} : Left H := { results := [], args := [] }

/-- 'tollbridgelaw30.JudgeHops': WHATEVER THE INPUT: true; the input reads as it did. -/
def judgeHopsSpec : ChangeSpec := { name := "judgeHops", fn := fun _ => fun
  | [d1, d2] => { results := [.lit (.bool true)], args := [d1, d2] }
  | _ => none }
def judgeHopsRow : OpenClaim := { program := "ytddeelepaiklgaa", sum := "c83b4f06e43bfa75c166a738b1264bd423c906bd2aa01530c055ac7594aa4359", func := "tollbridge/tollbridgelaw30.JudgeHops", spec := "judgeHops", unfollowed := true, recurses := true, loops := true, plainKeys := false, apart := false }
def JudgeHopsSaid : Prop := judgeHopsRow.holds Try.pinned (OpenSpec.ofChange judgeHopsSpec)

/-- ITS FALSE NEIGHBOUR: 'it returns false'. Refute it at one input. -/
def judgeHopsWrong : ChangeSpec := { name := "judgeHops", fn := fun _ => fun
  | [d1, d2] => { results := [.lit (.bool false)], args := [d1, d2] }
  | _ => none }
def JudgeHopsWrongFalsely : Prop := judgeHopsRow.holds Try.pinned (OpenSpec.ofChange judgeHopsWrong)

/-- 'tollbridgelaw30.JudgeTraces': WHATEVER THE INPUT: true; the input reads as it did. -/
def judgeTracesSpec : ChangeSpec := { name := "judgeTraces", fn := fun _ => fun
  | [d1, d2] => { results := [.lit (.bool true)], args := [d1, d2] }
  | _ => none }
def judgeTracesRow : OpenClaim := { program := "ytddeelepaiklgaa", sum := "c83b4f06e43bfa75c166a738b1264bd423c906bd2aa01530c055ac7594aa4359", func := "tollbridge/tollbridgelaw30.JudgeTraces", spec := "judgeTraces", unfollowed := true, recurses := true, loops := true, plainKeys := false, apart := false }
def JudgeTracesSaid : Prop := judgeTracesRow.holds Try.pinned (OpenSpec.ofChange judgeTracesSpec)

/-- ITS FALSE NEIGHBOUR: 'it returns false'. Refute it at one input. -/
def judgeTracesWrong : ChangeSpec := { name := "judgeTraces", fn := fun _ => fun
  | [d1, d2] => { results := [.lit (.bool false)], args := [d1, d2] }
  | _ => none }
def JudgeTracesWrongFalsely : Prop := judgeTracesRow.holds Try.pinned (OpenSpec.ofChange judgeTracesWrong)

/-- 'tollbridgelaw30.JudgeReaches': WHATEVER THE INPUT: true; the input reads as it did. -/
def judgeReachesSpec : ChangeSpec := { name := "judgeReaches", fn := fun _ => fun
  | [d1, d2, d3] => { results := [.lit (.bool true)], args := [d1, d2, d3] }
  | _ => none }
def judgeReachesRow : OpenClaim := { program := "ytddeelepaiklgaa", sum := "c83b4f06e43bfa75c166a738b1264bd423c906bd2aa01530c055ac7594aa4359", func := "tollbridge/tollbridgelaw30.JudgeReaches", spec := "judgeReaches", unfollowed := true, recurses := true, loops := true, plainKeys := false, apart := false }
def JudgeReachesSaid : Prop := judgeReachesRow.holds Try.pinned (OpenSpec.ofChange judgeReachesSpec)

/-- ITS FALSE NEIGHBOUR: 'it returns false'. Refute it at one input. -/
def judgeReachesWrong : ChangeSpec := { name := "judgeReaches", fn := fun _ => fun
  | [d1, d2, d3] => { results := [.lit (.bool false)], args := [d1, d2, d3] }
  | _ => none }
def JudgeReachesWrongFalsely : Prop := judgeReachesRow.holds Try.pinned (OpenSpec.ofChange judgeReachesWrong)

/-- 'tollbridgelaw30.JudgeFewer': WHATEVER THE INPUT: true; the input reads as it did. -/
def judgeFewerSpec : ChangeSpec := { name := "judgeFewer", fn := fun _ => fun
  | [d1, d2, d3] => { results := [.lit (.bool true)], args := [d1, d2, d3] }
  | _ => none }
def judgeFewerRow : OpenClaim := { program := "ytddeelepaiklgaa", sum := "c83b4f06e43bfa75c166a738b1264bd423c906bd2aa01530c055ac7594aa4359", func := "tollbridge/tollbridgelaw30.JudgeFewer", spec := "judgeFewer", unfollowed := true, recurses := true, loops := true, plainKeys := false, apart := false }
def JudgeFewerSaid : Prop := judgeFewerRow.holds Try.pinned (OpenSpec.ofChange judgeFewerSpec)

/-- ITS FALSE NEIGHBOUR: 'it returns false'. Refute it at one input. -/
def judgeFewerWrong : ChangeSpec := { name := "judgeFewer", fn := fun _ => fun
  | [d1, d2, d3] => { results := [.lit (.bool false)], args := [d1, d2, d3] }
  | _ => none }
def JudgeFewerWrongFalsely : Prop := judgeFewerRow.holds Try.pinned (OpenSpec.ofChange judgeFewerWrong)

/-- 'tollbridgelaw30.JudgeEnds': WHATEVER THE INPUT: true; the input reads as it did. -/
def judgeEndsSpec : ChangeSpec := { name := "judgeEnds", fn := fun _ => fun
  | [d1, d2, d3] => { results := [.lit (.bool true)], args := [d1, d2, d3] }
  | _ => none }
def judgeEndsRow : OpenClaim := { program := "ytddeelepaiklgaa", sum := "c83b4f06e43bfa75c166a738b1264bd423c906bd2aa01530c055ac7594aa4359", func := "tollbridge/tollbridgelaw30.JudgeEnds", spec := "judgeEnds", unfollowed := true, recurses := true, loops := true, plainKeys := false, apart := false }
def JudgeEndsSaid : Prop := judgeEndsRow.holds Try.pinned (OpenSpec.ofChange judgeEndsSpec)

/-- ITS FALSE NEIGHBOUR: 'it returns false'. Refute it at one input. -/
def judgeEndsWrong : ChangeSpec := { name := "judgeEnds", fn := fun _ => fun
  | [d1, d2, d3] => { results := [.lit (.bool false)], args := [d1, d2, d3] }
  | _ => none }
def JudgeEndsWrongFalsely : Prop := judgeEndsRow.holds Try.pinned (OpenSpec.ofChange judgeEndsWrong)

/-- 'tollbridgelaw30.JudgeUnion': WHATEVER THE INPUT: true; the input reads as it did. -/
def judgeUnionSpec : ChangeSpec := { name := "judgeUnion", fn := fun _ => fun
  | [d1, d2, d3, d4] => { results := [.lit (.bool true)], args := [d1, d2, d3, d4] }
  | _ => none }
def judgeUnionRow : OpenClaim := { program := "ytddeelepaiklgaa", sum := "c83b4f06e43bfa75c166a738b1264bd423c906bd2aa01530c055ac7594aa4359", func := "tollbridge/tollbridgelaw30.JudgeUnion", spec := "judgeUnion", unfollowed := true, recurses := true, loops := true, plainKeys := false, apart := false }
def JudgeUnionSaid : Prop := judgeUnionRow.holds Try.pinned (OpenSpec.ofChange judgeUnionSpec)

/-- ITS FALSE NEIGHBOUR: 'it returns false'. Refute it at one input. -/
def judgeUnionWrong : ChangeSpec := { name := "judgeUnion", fn := fun _ => fun
  | [d1, d2, d3, d4] => { results := [.lit (.bool false)], args := [d1, d2, d3, d4] }
  | _ => none }
def JudgeUnionWrongFalsely : Prop := judgeUnionRow.holds Try.pinned (OpenSpec.ofChange judgeUnionWrong)

/- THE SECOND FORM. 'bulk': how many values and letters a reading holds, each counted each time it is reached (what is shared counts as often as it is met; a slice's spare places count too). A statement '..UptoSaid' is the law's where the arguments, and the package variables that the reading takes, are together of bulk at most 1048576: NARROWER than '..Said'. Prove '..Said' where nothing that the law and all that it calls make is longer than what came in: it says more and counts as full. Else prove '..UptoSaid'. A law counts once. -/
mutual
def uptoBulk {H : Type} : DataW H → Nat
  | .lit (.string bytes) => bytes.length + 1
  | .lit _ => 1
  | .nil => 1
  | .ptr d => uptoBulk d + 1
  | .slice elems spare => uptoBulkAll elems + uptoBulkAll spare + 1
  | .agg parts => uptoBulkAll parts + 1
  | .iface _ d => uptoBulk d + 1
  | .map entries => uptoBulkEntries entries + 1
  | .held _ => 1
def uptoBulkAll {H : Type} : List (DataW H) → Nat
  | [] => 0
  | d :: r => uptoBulk d + uptoBulkAll r
def uptoBulkEntries {H : Type} : List (Lit × DataW H) → Nat
  | [] => 0
  | x :: r => uptoBulkEntry x + uptoBulkEntries r
def uptoBulkEntry {H : Type} : Lit × DataW H → Nat
  | (.string bytes, d) => bytes.length + uptoBulk d + 1
  | (_, d) => uptoBulk d + 1
 end
def uptoSmall : (H : Type) → List (DataW H) → Bool := fun _ ds => decide (uptoBulkAll ds ≤ 1048576)
def OpenSpec.upto (s : _root_.Go.ChangeSpec) : _root_.Go.OpenSpec := { _root_.Go.OpenSpec.ofChange s with cond := some uptoSmall }

/-- 'tollbridgelaw30.JudgeHops', WHERE WHAT IT READS IS OF BULK AT MOST 1048576: true; the input reads as it did. -/
def judgeHopsUptoRow : OpenClaim := { program := "ytddeelepaiklgaa", sum := "c83b4f06e43bfa75c166a738b1264bd423c906bd2aa01530c055ac7594aa4359", func := "tollbridge/tollbridgelaw30.JudgeHops", spec := "judgeHops", unfollowed := true, recurses := true, loops := true, plainKeys := false, apart := false, narrowed := true }
def JudgeHopsUptoSaid : Prop := judgeHopsUptoRow.holds Try.pinned (OpenSpec.upto judgeHopsSpec)

/-- 'tollbridgelaw30.JudgeTraces', WHERE WHAT IT READS IS OF BULK AT MOST 1048576: true; the input reads as it did. -/
def judgeTracesUptoRow : OpenClaim := { program := "ytddeelepaiklgaa", sum := "c83b4f06e43bfa75c166a738b1264bd423c906bd2aa01530c055ac7594aa4359", func := "tollbridge/tollbridgelaw30.JudgeTraces", spec := "judgeTraces", unfollowed := true, recurses := true, loops := true, plainKeys := false, apart := false, narrowed := true }
def JudgeTracesUptoSaid : Prop := judgeTracesUptoRow.holds Try.pinned (OpenSpec.upto judgeTracesSpec)

/-- 'tollbridgelaw30.JudgeReaches', WHERE WHAT IT READS IS OF BULK AT MOST 1048576: true; the input reads as it did. -/
def judgeReachesUptoRow : OpenClaim := { program := "ytddeelepaiklgaa", sum := "c83b4f06e43bfa75c166a738b1264bd423c906bd2aa01530c055ac7594aa4359", func := "tollbridge/tollbridgelaw30.JudgeReaches", spec := "judgeReaches", unfollowed := true, recurses := true, loops := true, plainKeys := false, apart := false, narrowed := true }
def JudgeReachesUptoSaid : Prop := judgeReachesUptoRow.holds Try.pinned (OpenSpec.upto judgeReachesSpec)

/-- 'tollbridgelaw30.JudgeFewer', WHERE WHAT IT READS IS OF BULK AT MOST 1048576: true; the input reads as it did. -/
def judgeFewerUptoRow : OpenClaim := { program := "ytddeelepaiklgaa", sum := "c83b4f06e43bfa75c166a738b1264bd423c906bd2aa01530c055ac7594aa4359", func := "tollbridge/tollbridgelaw30.JudgeFewer", spec := "judgeFewer", unfollowed := true, recurses := true, loops := true, plainKeys := false, apart := false, narrowed := true }
def JudgeFewerUptoSaid : Prop := judgeFewerUptoRow.holds Try.pinned (OpenSpec.upto judgeFewerSpec)

/-- 'tollbridgelaw30.JudgeEnds', WHERE WHAT IT READS IS OF BULK AT MOST 1048576: true; the input reads as it did. -/
def judgeEndsUptoRow : OpenClaim := { program := "ytddeelepaiklgaa", sum := "c83b4f06e43bfa75c166a738b1264bd423c906bd2aa01530c055ac7594aa4359", func := "tollbridge/tollbridgelaw30.JudgeEnds", spec := "judgeEnds", unfollowed := true, recurses := true, loops := true, plainKeys := false, apart := false, narrowed := true }
def JudgeEndsUptoSaid : Prop := judgeEndsUptoRow.holds Try.pinned (OpenSpec.upto judgeEndsSpec)

/-- 'tollbridgelaw30.JudgeUnion', WHERE WHAT IT READS IS OF BULK AT MOST 1048576: true; the input reads as it did. -/
def judgeUnionUptoRow : OpenClaim := { program := "ytddeelepaiklgaa", sum := "c83b4f06e43bfa75c166a738b1264bd423c906bd2aa01530c055ac7594aa4359", func := "tollbridge/tollbridgelaw30.JudgeUnion", spec := "judgeUnion", unfollowed := true, recurses := true, loops := true, plainKeys := false, apart := false, narrowed := true }
def JudgeUnionUptoSaid : Prop := judgeUnionUptoRow.holds Try.pinned (OpenSpec.upto judgeUnionSpec)

end Rows
end Go.Proofs.Ytddeelepaiklgaa
