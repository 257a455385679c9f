/-
  DERIVED. GIVEN WITH THE SEED: THE CARDS: each row of YtehdddilcakmlaaDoorRows.lean that lists a variable, with what it lists TIED to the program's text (the seventh form; the later family's looks); each row that meets fmt, with fmt's text TOLD by the authors' own Lean function (tested against real Go, not proved from fmt's source: count such statements apart). THE CARD IS WHAT COUNTS. Prove the row's statement (the work); the ties are given (YtehdddilcakmlaaDoorTie.lean); close each card by the builder's one call (the guide's Derived/Test/ToyasCard.lean, 'card_holds'). Laid BY PROGRAM, IN A SANDBOX (cutbox-door.mjs). By AI agents, Wed Nov 11 2026. No macro, syntax, notation, axiom, sorry.
-/
import Derived.Test.YtehdddilcakmlaaDoorRows
import GoSem.ClaimSeven
namespace Go.Proofs.YtehdddilcakmlaaDoor
namespace Rows

/-- THE TIED CARD OF 'tollbridgelaw20.NodesPlays'. -/
def nodesPlaysCard : Claim7 := { stood := { row := nodesPlaysRow, standIns := [], harness := (true, "63fa9edb3eca7390a7232eef0cdf06a3b1cdecc528b32b9dcf59a93e21928276"), looks := false }, kinds := [], alts := [], laidByText := true, laidKinds := [.data, .data, .data], laidTests := true, laidLooks := .later }
def NodesPlaysCardSaid : Prop := Claim7.holds Tryd.pinned (.plain (OpenSpec.ofChange nodesPlaysSpec)) nodesPlaysCard

/-- THE TIED CARD OF 'tollbridgelaw20.NodesNil'. -/
def nodesNilCard : Claim7 := { stood := { row := nodesNilRow, standIns := [], harness := (true, "63fa9edb3eca7390a7232eef0cdf06a3b1cdecc528b32b9dcf59a93e21928276"), looks := false }, kinds := [], alts := [], laidByText := true, laidKinds := [.data, .data, .data], laidTests := true, laidLooks := .later }
def NodesNilCardSaid : Prop := Claim7.holds Tryd.pinned (.plain (OpenSpec.ofChange nodesNilSpec)) nodesNilCard

/-- THE TIED CARD OF 'tollbridgelaw20.NodesOnce'. -/
def nodesOnceCard : Claim7 := { stood := { row := nodesOnceRow, standIns := [], harness := (true, "63fa9edb3eca7390a7232eef0cdf06a3b1cdecc528b32b9dcf59a93e21928276"), looks := false }, kinds := [], alts := [], laidByText := true, laidKinds := [.data, .data, .data], laidTests := true, laidLooks := .later }
def NodesOnceCardSaid : Prop := Claim7.holds Tryd.pinned (.plain (OpenSpec.ofChange nodesOnceSpec)) nodesOnceCard

/-- THE TIED CARD OF 'tollbridgelaw20.NodesAgain'. -/
def nodesAgainCard : Claim7 := { stood := { row := nodesAgainRow, standIns := [], harness := (true, "63fa9edb3eca7390a7232eef0cdf06a3b1cdecc528b32b9dcf59a93e21928276"), looks := false }, kinds := [], alts := [], laidByText := true, laidKinds := [.data, .data, .data], laidTests := true, laidLooks := .later }
def NodesAgainCardSaid : Prop := Claim7.holds Tryd.pinned (.plain (OpenSpec.ofChange nodesAgainSpec)) nodesAgainCard

/-- THE TIED CARD OF 'tollbridgelaw20.NodesRows'. -/
def nodesRowsCard : Claim7 := { stood := { row := nodesRowsRow, standIns := [], harness := (true, "63fa9edb3eca7390a7232eef0cdf06a3b1cdecc528b32b9dcf59a93e21928276"), looks := false }, kinds := [], alts := [], laidByText := true, laidKinds := [.data, .data, .data], laidTests := true, laidLooks := .later }
def NodesRowsCardSaid : Prop := Claim7.holds Tryd.pinned (.plain (OpenSpec.ofChange nodesRowsSpec)) nodesRowsCard

/-- THE SECOND FORM's CARD OF 'tollbridgelaw20.NodesPlays'. -/
def nodesPlaysUptoCard : Claim7 := { stood := { row := nodesPlaysUptoRow, standIns := [], harness := (true, "63fa9edb3eca7390a7232eef0cdf06a3b1cdecc528b32b9dcf59a93e21928276"), looks := false }, kinds := [], alts := [], laidByText := true, laidKinds := [.data, .data, .data], laidTests := true, laidLooks := .later }
def NodesPlaysUptoCardSaid : Prop := Claim7.holds Tryd.pinned (.plain (OpenSpec.upto nodesPlaysSpec)) nodesPlaysUptoCard

/-- THE SECOND FORM's CARD OF 'tollbridgelaw20.NodesNil'. -/
def nodesNilUptoCard : Claim7 := { stood := { row := nodesNilUptoRow, standIns := [], harness := (true, "63fa9edb3eca7390a7232eef0cdf06a3b1cdecc528b32b9dcf59a93e21928276"), looks := false }, kinds := [], alts := [], laidByText := true, laidKinds := [.data, .data, .data], laidTests := true, laidLooks := .later }
def NodesNilUptoCardSaid : Prop := Claim7.holds Tryd.pinned (.plain (OpenSpec.upto nodesNilSpec)) nodesNilUptoCard

/-- THE SECOND FORM's CARD OF 'tollbridgelaw20.NodesOnce'. -/
def nodesOnceUptoCard : Claim7 := { stood := { row := nodesOnceUptoRow, standIns := [], harness := (true, "63fa9edb3eca7390a7232eef0cdf06a3b1cdecc528b32b9dcf59a93e21928276"), looks := false }, kinds := [], alts := [], laidByText := true, laidKinds := [.data, .data, .data], laidTests := true, laidLooks := .later }
def NodesOnceUptoCardSaid : Prop := Claim7.holds Tryd.pinned (.plain (OpenSpec.upto nodesOnceSpec)) nodesOnceUptoCard

/-- THE SECOND FORM's CARD OF 'tollbridgelaw20.NodesAgain'. -/
def nodesAgainUptoCard : Claim7 := { stood := { row := nodesAgainUptoRow, standIns := [], harness := (true, "63fa9edb3eca7390a7232eef0cdf06a3b1cdecc528b32b9dcf59a93e21928276"), looks := false }, kinds := [], alts := [], laidByText := true, laidKinds := [.data, .data, .data], laidTests := true, laidLooks := .later }
def NodesAgainUptoCardSaid : Prop := Claim7.holds Tryd.pinned (.plain (OpenSpec.upto nodesAgainSpec)) nodesAgainUptoCard

/-- THE SECOND FORM's CARD OF 'tollbridgelaw20.NodesRows'. -/
def nodesRowsUptoCard : Claim7 := { stood := { row := nodesRowsUptoRow, standIns := [], harness := (true, "63fa9edb3eca7390a7232eef0cdf06a3b1cdecc528b32b9dcf59a93e21928276"), looks := false }, kinds := [], alts := [], laidByText := true, laidKinds := [.data, .data, .data], laidTests := true, laidLooks := .later }
def NodesRowsUptoCardSaid : Prop := Claim7.holds Tryd.pinned (.plain (OpenSpec.upto nodesRowsSpec)) nodesRowsUptoCard
end Rows
end Go.Proofs.YtehdddilcakmlaaDoor
