/-
  DERIVED. GIVEN WITH THE SEED: THE CARDS: each row of YtdijlnibmeapbaaGreatDoorRows.lean that lists a variable, with what it lists TIED to the program's text (the seventh form; the later family's looks); each row that meets fmt, with fmt's text TOLD by the authors' own Lean function (tested against real Go, not proved from fmt's source: count such statements apart). THE CARD IS WHAT COUNTS. Prove the row's statement (the work); the ties are given (YtdijlnibmeapbaaGreatDoorTie.lean); close each card by the builder's one call (the guide's Derived/Test/ToyasCard.lean, 'card_holds'). Laid BY PROGRAM, IN A SANDBOX (cutbox-door.mjs). By AI agents, Wed Nov 11 2026. No macro, syntax, notation, axiom, sorry.
-/
import Derived.Test.YtdijlnibmeapbaaGreatDoorRows
import GoSem.ClaimSeven
namespace Go.Proofs.YtdijlnibmeapbaaGreatDoor
namespace Rows

/-- THE TIED CARD OF 'tollbridgelaw21.DiagramStars'. -/
def diagramStarsCard : Claim7 := { stood := { row := diagramStarsRow, standIns := [], harness := (true, "cb09d7aea95a5ae10bb86d4a414370ef927c5762b6b929fdd2cb4d876293af36"), looks := true }, kinds := [], alts := [], laidByText := true, laidKinds := [.data, .data, .data], laidTests := true, laidLooks := .later }
def DiagramStarsCardSaid : Prop := Claim7.holds Tryz.pinned (.plain (OpenSpec.ofChange diagramStarsSpec)) diagramStarsCard

/-- THE TIED CARD OF 'tollbridgelaw21.DiagramJoins'. -/
def diagramJoinsCard : Claim7 := { stood := { row := diagramJoinsRow, standIns := [], harness := (true, "cb09d7aea95a5ae10bb86d4a414370ef927c5762b6b929fdd2cb4d876293af36"), looks := true }, kinds := [], alts := [], laidByText := true, laidKinds := [.data, .data, .data], laidTests := true, laidLooks := .later }
def DiagramJoinsCardSaid : Prop := Claim7.holds Tryz.pinned (.plain (OpenSpec.ofChange diagramJoinsSpec)) diagramJoinsCard

/-- THE TIED CARD OF 'tollbridgelaw21.DiagramSame'. -/
def diagramSameCard : Claim7 := { stood := { row := diagramSameRow, standIns := [], harness := (true, "cb09d7aea95a5ae10bb86d4a414370ef927c5762b6b929fdd2cb4d876293af36"), looks := true }, kinds := [], alts := [], laidByText := true, laidKinds := [.data, .data, .data], laidTests := true, laidLooks := .later }
def DiagramSameCardSaid : Prop := Claim7.holds Tryz.pinned (.plain (OpenSpec.ofChange diagramSameSpec)) diagramSameCard

/-- THE TIED CARD OF 'tollbridgelaw21.DiagramNil'. -/
def diagramNilCard : Claim7 := { stood := { row := diagramNilRow, standIns := [], harness := (true, "cb09d7aea95a5ae10bb86d4a414370ef927c5762b6b929fdd2cb4d876293af36"), looks := true }, kinds := [], alts := [], laidByText := true, laidKinds := [.data, .data, .data], laidTests := true, laidLooks := .later }
def DiagramNilCardSaid : Prop := Claim7.holds Tryz.pinned (.plain (OpenSpec.ofChange diagramNilSpec)) diagramNilCard

/-- THE SECOND FORM's CARD OF 'tollbridgelaw21.DiagramStars'. -/
def diagramStarsUptoCard : Claim7 := { stood := { row := diagramStarsUptoRow, standIns := [], harness := (true, "cb09d7aea95a5ae10bb86d4a414370ef927c5762b6b929fdd2cb4d876293af36"), looks := true }, kinds := [], alts := [], laidByText := true, laidKinds := [.data, .data, .data], laidTests := true, laidLooks := .later }
def DiagramStarsUptoCardSaid : Prop := Claim7.holds Tryz.pinned (.plain (OpenSpec.upto diagramStarsSpec)) diagramStarsUptoCard

/-- THE SECOND FORM's CARD OF 'tollbridgelaw21.DiagramJoins'. -/
def diagramJoinsUptoCard : Claim7 := { stood := { row := diagramJoinsUptoRow, standIns := [], harness := (true, "cb09d7aea95a5ae10bb86d4a414370ef927c5762b6b929fdd2cb4d876293af36"), looks := true }, kinds := [], alts := [], laidByText := true, laidKinds := [.data, .data, .data], laidTests := true, laidLooks := .later }
def DiagramJoinsUptoCardSaid : Prop := Claim7.holds Tryz.pinned (.plain (OpenSpec.upto diagramJoinsSpec)) diagramJoinsUptoCard

/-- THE SECOND FORM's CARD OF 'tollbridgelaw21.DiagramSame'. -/
def diagramSameUptoCard : Claim7 := { stood := { row := diagramSameUptoRow, standIns := [], harness := (true, "cb09d7aea95a5ae10bb86d4a414370ef927c5762b6b929fdd2cb4d876293af36"), looks := true }, kinds := [], alts := [], laidByText := true, laidKinds := [.data, .data, .data], laidTests := true, laidLooks := .later }
def DiagramSameUptoCardSaid : Prop := Claim7.holds Tryz.pinned (.plain (OpenSpec.upto diagramSameSpec)) diagramSameUptoCard

/-- THE SECOND FORM's CARD OF 'tollbridgelaw21.DiagramNil'. -/
def diagramNilUptoCard : Claim7 := { stood := { row := diagramNilUptoRow, standIns := [], harness := (true, "cb09d7aea95a5ae10bb86d4a414370ef927c5762b6b929fdd2cb4d876293af36"), looks := true }, kinds := [], alts := [], laidByText := true, laidKinds := [.data, .data, .data], laidTests := true, laidLooks := .later }
def DiagramNilUptoCardSaid : Prop := Claim7.holds Tryz.pinned (.plain (OpenSpec.upto diagramNilSpec)) diagramNilUptoCard
end Rows
end Go.Proofs.YtdijlnibmeapbaaGreatDoor
