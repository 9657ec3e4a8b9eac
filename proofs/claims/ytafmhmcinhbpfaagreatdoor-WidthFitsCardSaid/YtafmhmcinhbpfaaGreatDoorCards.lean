/-
  DERIVED. GIVEN WITH THE SEED: THE CARDS: each row of YtafmhmcinhbpfaaGreatDoorRows.lean that lists a variable, with what it lists TIED to the program's text (the seventh form; the later family's looks); each row that meets fmt, with fmt's text TOLD by the authors' own Lean function (tested against real Go, not proved from fmt's source: count such statements apart). THE CARD IS WHAT COUNTS. Prove the row's statement (the work); the ties are given (YtafmhmcinhbpfaaGreatDoorTie.lean); close each card by the builder's one call (the guide's Derived/Test/ToyasCard.lean, 'card_holds'). Laid BY PROGRAM, IN A SANDBOX (cutbox-door.mjs). By AI agents, Wed Nov 11 2026. No macro, syntax, notation, axiom, sorry.
-/
import Derived.Test.YtafmhmcinhbpfaaGreatDoorRows
import GoSem.ClaimSeven
namespace Go.Proofs.YtafmhmcinhbpfaaGreatDoor
namespace Rows

/-- THE TIED CARD OF 'kerflaw15.WidthTexts'. -/
def widthTextsCard : Claim7 := { stood := { row := widthTextsRow, standIns := [], harness := (true, "59e12c10522461e230ff13de61c22be16c301172c06692eb55be6615ed52a4df"), looks := true }, kinds := [], alts := [], laidByText := true, laidKinds := [.data, .data, .data, .data, .sentinel, .sentinel, .pinned], laidTests := true, laidLooks := .later }
def WidthTextsCardSaid : Prop := Claim7.holds Tryz.pinned (.plain (OpenSpec.ofChange widthTextsSpec)) widthTextsCard

/-- THE TIED CARD OF 'kerflaw15.WidthCells'. -/
def widthCellsCard : Claim7 := { stood := { row := widthCellsRow, standIns := [], harness := (true, "59e12c10522461e230ff13de61c22be16c301172c06692eb55be6615ed52a4df"), looks := true }, kinds := [], alts := [], laidByText := true, laidKinds := [.data, .data, .data, .data, .sentinel, .sentinel, .pinned], laidTests := true, laidLooks := .later }
def WidthCellsCardSaid : Prop := Claim7.holds Tryz.pinned (.plain (OpenSpec.ofChange widthCellsSpec)) widthCellsCard

/-- THE TIED CARD OF 'kerflaw15.WidthJoins'. -/
def widthJoinsCard : Claim7 := { stood := { row := widthJoinsRow, standIns := [], harness := (true, "59e12c10522461e230ff13de61c22be16c301172c06692eb55be6615ed52a4df"), looks := true }, kinds := [], alts := [], laidByText := true, laidKinds := [.data, .data, .data, .data, .sentinel, .sentinel, .pinned], laidTests := true, laidLooks := .later }
def WidthJoinsCardSaid : Prop := Claim7.holds Tryz.pinned (.plain (OpenSpec.ofChange widthJoinsSpec)) widthJoinsCard

/-- THE TIED CARD OF 'kerflaw15.WidthCuts'. -/
def widthCutsCard : Claim7 := { stood := { row := widthCutsRow, standIns := [], harness := (true, "59e12c10522461e230ff13de61c22be16c301172c06692eb55be6615ed52a4df"), looks := true }, kinds := [], alts := [], laidByText := true, laidKinds := [.data, .data, .data, .data, .sentinel, .sentinel, .pinned], laidTests := true, laidLooks := .later }
def WidthCutsCardSaid : Prop := Claim7.holds Tryz.pinned (.plain (OpenSpec.ofChange widthCutsSpec)) widthCutsCard

/-- THE TIED CARD OF 'kerflaw15.WidthFits'. -/
def widthFitsCard : Claim7 := { stood := { row := widthFitsRow, standIns := [], harness := (true, "59e12c10522461e230ff13de61c22be16c301172c06692eb55be6615ed52a4df"), looks := true }, kinds := [], alts := [], laidByText := true, laidKinds := [.data, .data, .data, .data, .sentinel, .sentinel, .pinned], laidTests := true, laidLooks := .later }
def WidthFitsCardSaid : Prop := Claim7.holds Tryz.pinned (.plain (OpenSpec.ofChange widthFitsSpec)) widthFitsCard

/-- THE SECOND FORM's CARD OF 'kerflaw15.WidthTexts'. -/
def widthTextsUptoCard : Claim7 := { stood := { row := widthTextsUptoRow, standIns := [], harness := (true, "59e12c10522461e230ff13de61c22be16c301172c06692eb55be6615ed52a4df"), looks := true }, kinds := [], alts := [], laidByText := true, laidKinds := [.data, .data, .data, .data, .sentinel, .sentinel, .pinned], laidTests := true, laidLooks := .later }
def WidthTextsUptoCardSaid : Prop := Claim7.holds Tryz.pinned (.plain (OpenSpec.upto widthTextsSpec)) widthTextsUptoCard

/-- THE SECOND FORM's CARD OF 'kerflaw15.WidthCells'. -/
def widthCellsUptoCard : Claim7 := { stood := { row := widthCellsUptoRow, standIns := [], harness := (true, "59e12c10522461e230ff13de61c22be16c301172c06692eb55be6615ed52a4df"), looks := true }, kinds := [], alts := [], laidByText := true, laidKinds := [.data, .data, .data, .data, .sentinel, .sentinel, .pinned], laidTests := true, laidLooks := .later }
def WidthCellsUptoCardSaid : Prop := Claim7.holds Tryz.pinned (.plain (OpenSpec.upto widthCellsSpec)) widthCellsUptoCard

/-- THE SECOND FORM's CARD OF 'kerflaw15.WidthJoins'. -/
def widthJoinsUptoCard : Claim7 := { stood := { row := widthJoinsUptoRow, standIns := [], harness := (true, "59e12c10522461e230ff13de61c22be16c301172c06692eb55be6615ed52a4df"), looks := true }, kinds := [], alts := [], laidByText := true, laidKinds := [.data, .data, .data, .data, .sentinel, .sentinel, .pinned], laidTests := true, laidLooks := .later }
def WidthJoinsUptoCardSaid : Prop := Claim7.holds Tryz.pinned (.plain (OpenSpec.upto widthJoinsSpec)) widthJoinsUptoCard

/-- THE SECOND FORM's CARD OF 'kerflaw15.WidthCuts'. -/
def widthCutsUptoCard : Claim7 := { stood := { row := widthCutsUptoRow, standIns := [], harness := (true, "59e12c10522461e230ff13de61c22be16c301172c06692eb55be6615ed52a4df"), looks := true }, kinds := [], alts := [], laidByText := true, laidKinds := [.data, .data, .data, .data, .sentinel, .sentinel, .pinned], laidTests := true, laidLooks := .later }
def WidthCutsUptoCardSaid : Prop := Claim7.holds Tryz.pinned (.plain (OpenSpec.upto widthCutsSpec)) widthCutsUptoCard

/-- THE SECOND FORM's CARD OF 'kerflaw15.WidthFits'. -/
def widthFitsUptoCard : Claim7 := { stood := { row := widthFitsUptoRow, standIns := [], harness := (true, "59e12c10522461e230ff13de61c22be16c301172c06692eb55be6615ed52a4df"), looks := true }, kinds := [], alts := [], laidByText := true, laidKinds := [.data, .data, .data, .data, .sentinel, .sentinel, .pinned], laidTests := true, laidLooks := .later }
def WidthFitsUptoCardSaid : Prop := Claim7.holds Tryz.pinned (.plain (OpenSpec.upto widthFitsSpec)) widthFitsUptoCard
end Rows
end Go.Proofs.YtafmhmcinhbpfaaGreatDoor
