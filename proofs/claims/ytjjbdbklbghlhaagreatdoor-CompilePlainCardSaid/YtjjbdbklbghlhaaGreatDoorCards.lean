/-
  DERIVED. GIVEN WITH THE SEED: THE CARDS: each row of YtjjbdbklbghlhaaGreatDoorRows.lean that lists a variable, with what it lists TIED to the program's text (the seventh form; the later family's looks); each row that meets fmt, with fmt's text TOLD by the authors' own Lean function (tested against real Go, not proved from fmt's source: count such statements apart). THE CARD IS WHAT COUNTS. Prove the row's statement (the work); the ties are given (YtjjbdbklbghlhaaGreatDoorTie.lean); close each card by the builder's one call (the guide's Derived/Test/ToyasCard.lean, 'card_holds'). Laid BY PROGRAM, IN A SANDBOX (cutbox-door.mjs). By AI agents, Wed Nov 11 2026. No macro, syntax, notation, axiom, sorry.
-/
import Derived.Test.YtjjbdbklbghlhaaGreatDoorRows
import GoSem.ClaimSeven
namespace Go.Proofs.YtjjbdbklbghlhaaGreatDoor
namespace Rows

/-- THE TIED CARD OF 'tollbridgelaw22.CompileSmall'. -/
def compileSmallCard : Claim7 := { stood := { row := compileSmallRow, standIns := [], harness := (true, "897f12f2e920dbc4282a1e707cc9a5a53cb8e2ee45049fbcb54b6b014209edab"), looks := true }, kinds := [], alts := [], laidByText := true, laidKinds := [.data, .data, .data], laidTests := true, laidLooks := .later }
def CompileSmallCardSaid : Prop := Claim7.holds Tryz.pinned (.plain (OpenSpec.ofChange compileSmallSpec)) compileSmallCard

/-- THE TIED CARD OF 'tollbridgelaw22.CompileNil'. -/
def compileNilCard : Claim7 := { stood := { row := compileNilRow, standIns := [], harness := (true, "897f12f2e920dbc4282a1e707cc9a5a53cb8e2ee45049fbcb54b6b014209edab"), looks := true }, kinds := [], alts := [], laidByText := true, laidKinds := [.data, .data, .data], laidTests := true, laidLooks := .later }
def CompileNilCardSaid : Prop := Claim7.holds Tryz.pinned (.plain (OpenSpec.ofChange compileNilSpec)) compileNilCard

/-- THE TIED CARD OF 'tollbridgelaw22.CompileKeeps'. -/
def compileKeepsCard : Claim7 := { stood := { row := compileKeepsRow, standIns := [], harness := (true, "897f12f2e920dbc4282a1e707cc9a5a53cb8e2ee45049fbcb54b6b014209edab"), looks := true }, kinds := [], alts := [], laidByText := true, laidKinds := [.data, .data, .data], laidTests := true, laidLooks := .later }
def CompileKeepsCardSaid : Prop := Claim7.holds Tryz.pinned (.plain (OpenSpec.ofChange compileKeepsSpec)) compileKeepsCard

/-- THE TIED CARD OF 'tollbridgelaw22.CompileChoice'. -/
def compileChoiceCard : Claim7 := { stood := { row := compileChoiceRow, standIns := [], harness := (true, "897f12f2e920dbc4282a1e707cc9a5a53cb8e2ee45049fbcb54b6b014209edab"), looks := true }, kinds := [], alts := [], laidByText := true, laidKinds := [.data, .data, .data], laidTests := true, laidLooks := .later }
def CompileChoiceCardSaid : Prop := Claim7.holds Tryz.pinned (.plain (OpenSpec.ofChange compileChoiceSpec)) compileChoiceCard

/-- THE TIED CARD OF 'tollbridgelaw22.CompileRuns'. -/
def compileRunsCard : Claim7 := { stood := { row := compileRunsRow, standIns := [], harness := (true, "897f12f2e920dbc4282a1e707cc9a5a53cb8e2ee45049fbcb54b6b014209edab"), looks := true }, kinds := [], alts := [], laidByText := true, laidKinds := [.data, .data, .data], laidTests := true, laidLooks := .later }
def CompileRunsCardSaid : Prop := Claim7.holds Tryz.pinned (.plain (OpenSpec.ofChange compileRunsSpec)) compileRunsCard

/-- THE TIED CARD OF 'tollbridgelaw22.CompilePlain'. -/
def compilePlainCard : Claim7 := { stood := { row := compilePlainRow, standIns := [], harness := (true, "897f12f2e920dbc4282a1e707cc9a5a53cb8e2ee45049fbcb54b6b014209edab"), looks := true }, kinds := [], alts := [], laidByText := true, laidKinds := [.data, .data, .data], laidTests := true, laidLooks := .later }
def CompilePlainCardSaid : Prop := Claim7.holds Tryz.pinned (.plain (OpenSpec.ofChange compilePlainSpec)) compilePlainCard

/-- THE SECOND FORM's CARD OF 'tollbridgelaw22.CompileSmall'. -/
def compileSmallUptoCard : Claim7 := { stood := { row := compileSmallUptoRow, standIns := [], harness := (true, "897f12f2e920dbc4282a1e707cc9a5a53cb8e2ee45049fbcb54b6b014209edab"), looks := true }, kinds := [], alts := [], laidByText := true, laidKinds := [.data, .data, .data], laidTests := true, laidLooks := .later }
def CompileSmallUptoCardSaid : Prop := Claim7.holds Tryz.pinned (.plain (OpenSpec.upto compileSmallSpec)) compileSmallUptoCard

/-- THE SECOND FORM's CARD OF 'tollbridgelaw22.CompileNil'. -/
def compileNilUptoCard : Claim7 := { stood := { row := compileNilUptoRow, standIns := [], harness := (true, "897f12f2e920dbc4282a1e707cc9a5a53cb8e2ee45049fbcb54b6b014209edab"), looks := true }, kinds := [], alts := [], laidByText := true, laidKinds := [.data, .data, .data], laidTests := true, laidLooks := .later }
def CompileNilUptoCardSaid : Prop := Claim7.holds Tryz.pinned (.plain (OpenSpec.upto compileNilSpec)) compileNilUptoCard

/-- THE SECOND FORM's CARD OF 'tollbridgelaw22.CompileKeeps'. -/
def compileKeepsUptoCard : Claim7 := { stood := { row := compileKeepsUptoRow, standIns := [], harness := (true, "897f12f2e920dbc4282a1e707cc9a5a53cb8e2ee45049fbcb54b6b014209edab"), looks := true }, kinds := [], alts := [], laidByText := true, laidKinds := [.data, .data, .data], laidTests := true, laidLooks := .later }
def CompileKeepsUptoCardSaid : Prop := Claim7.holds Tryz.pinned (.plain (OpenSpec.upto compileKeepsSpec)) compileKeepsUptoCard

/-- THE SECOND FORM's CARD OF 'tollbridgelaw22.CompileChoice'. -/
def compileChoiceUptoCard : Claim7 := { stood := { row := compileChoiceUptoRow, standIns := [], harness := (true, "897f12f2e920dbc4282a1e707cc9a5a53cb8e2ee45049fbcb54b6b014209edab"), looks := true }, kinds := [], alts := [], laidByText := true, laidKinds := [.data, .data, .data], laidTests := true, laidLooks := .later }
def CompileChoiceUptoCardSaid : Prop := Claim7.holds Tryz.pinned (.plain (OpenSpec.upto compileChoiceSpec)) compileChoiceUptoCard

/-- THE SECOND FORM's CARD OF 'tollbridgelaw22.CompileRuns'. -/
def compileRunsUptoCard : Claim7 := { stood := { row := compileRunsUptoRow, standIns := [], harness := (true, "897f12f2e920dbc4282a1e707cc9a5a53cb8e2ee45049fbcb54b6b014209edab"), looks := true }, kinds := [], alts := [], laidByText := true, laidKinds := [.data, .data, .data], laidTests := true, laidLooks := .later }
def CompileRunsUptoCardSaid : Prop := Claim7.holds Tryz.pinned (.plain (OpenSpec.upto compileRunsSpec)) compileRunsUptoCard

/-- THE SECOND FORM's CARD OF 'tollbridgelaw22.CompilePlain'. -/
def compilePlainUptoCard : Claim7 := { stood := { row := compilePlainUptoRow, standIns := [], harness := (true, "897f12f2e920dbc4282a1e707cc9a5a53cb8e2ee45049fbcb54b6b014209edab"), looks := true }, kinds := [], alts := [], laidByText := true, laidKinds := [.data, .data, .data], laidTests := true, laidLooks := .later }
def CompilePlainUptoCardSaid : Prop := Claim7.holds Tryz.pinned (.plain (OpenSpec.upto compilePlainSpec)) compilePlainUptoCard
end Rows
end Go.Proofs.YtjjbdbklbghlhaaGreatDoor
