/-
  DERIVED. GIVEN WITH THE SEED: THE CARDS: each row of YteokfknkcbmigaaGreatDoorRows.lean that lists a variable, with what it lists TIED to the program's text (the seventh form; the later family's looks); each row that meets fmt, with fmt's text TOLD by the authors' own Lean function (tested against real Go, not proved from fmt's source: count such statements apart). THE CARD IS WHAT COUNTS. Prove the row's statement (the work); the ties are given (YteokfknkcbmigaaGreatDoorTie.lean); close each card by the builder's one call (the guide's Derived/Test/ToyasCard.lean, 'card_holds'). Laid BY PROGRAM, IN A SANDBOX (cutbox-door.mjs). By AI agents, Wed Nov 11 2026. No macro, syntax, notation, axiom, sorry.
-/
import Derived.Test.YteokfknkcbmigaaGreatDoorRows
import GoSem.ClaimSeven
namespace Go.Proofs.YteokfknkcbmigaaGreatDoor
namespace Rows

/-- THE TIED CARD OF 'kerflaw18.NormForms'. -/
def normFormsCard : Claim7 := { stood := { row := normFormsRow, standIns := [], harness := (true, "95e7e00361be52936a48d6ba0c4b34d3f5d969e5d5bf3fbed6ff79052d7a5ea1"), looks := true }, kinds := [], alts := [], laidByText := true, laidKinds := [.data, .data, .data, .data, .sentinel, .sentinel, .listed, .data, .pinned], laidTests := true, laidLooks := .later }
def NormFormsCardSaid : Prop := Claim7.holds Tryz.pinned (.plain (OpenSpec.ofChange normFormsSpec)) normFormsCard

/-- THE TIED CARD OF 'kerflaw18.NormSafe'. -/
def normSafeCard : Claim7 := { stood := { row := normSafeRow, standIns := [], harness := (true, "95e7e00361be52936a48d6ba0c4b34d3f5d969e5d5bf3fbed6ff79052d7a5ea1"), looks := true }, kinds := [], alts := [], laidByText := true, laidKinds := [.data, .data, .data, .data, .sentinel, .sentinel, .listed, .data, .pinned], laidTests := true, laidLooks := .later }
def NormSafeCardSaid : Prop := Claim7.holds Tryz.pinned (.plain (OpenSpec.ofChange normSafeSpec)) normSafeCard

/-- THE TIED CARD OF 'kerflaw18.NormStreams'. -/
def normStreamsCard : Claim7 := { stood := { row := normStreamsRow, standIns := [], harness := (true, "95e7e00361be52936a48d6ba0c4b34d3f5d969e5d5bf3fbed6ff79052d7a5ea1"), looks := true }, kinds := [], alts := [], laidByText := true, laidKinds := [.data, .data, .data, .data, .sentinel, .sentinel, .listed, .data, .pinned], laidTests := true, laidLooks := .later }
def NormStreamsCardSaid : Prop := Claim7.holds Tryz.pinned (.plain (OpenSpec.ofChange normStreamsSpec)) normStreamsCard

/-- THE TIED CARD OF 'kerflaw18.NormPieces'. -/
def normPiecesCard : Claim7 := { stood := { row := normPiecesRow, standIns := [], harness := (true, "95e7e00361be52936a48d6ba0c4b34d3f5d969e5d5bf3fbed6ff79052d7a5ea1"), looks := true }, kinds := [], alts := [], laidByText := true, laidKinds := [.data, .data, .data, .data, .sentinel, .sentinel, .listed, .data, .pinned], laidTests := true, laidLooks := .later }
def NormPiecesCardSaid : Prop := Claim7.holds Tryz.pinned (.plain (OpenSpec.ofChange normPiecesSpec)) normPiecesCard

/-- THE TIED CARD OF 'kerflaw18.NormJoins'. -/
def normJoinsCard : Claim7 := { stood := { row := normJoinsRow, standIns := [], harness := (true, "95e7e00361be52936a48d6ba0c4b34d3f5d969e5d5bf3fbed6ff79052d7a5ea1"), looks := true }, kinds := [], alts := [], laidByText := true, laidKinds := [.data, .data, .data, .data, .sentinel, .sentinel, .listed, .data, .pinned], laidTests := true, laidLooks := .later }
def NormJoinsCardSaid : Prop := Claim7.holds Tryz.pinned (.plain (OpenSpec.ofChange normJoinsSpec)) normJoinsCard

/-- THE SECOND FORM's CARD OF 'kerflaw18.NormForms'. -/
def normFormsUptoCard : Claim7 := { stood := { row := normFormsUptoRow, standIns := [], harness := (true, "95e7e00361be52936a48d6ba0c4b34d3f5d969e5d5bf3fbed6ff79052d7a5ea1"), looks := true }, kinds := [], alts := [], laidByText := true, laidKinds := [.data, .data, .data, .data, .sentinel, .sentinel, .listed, .data, .pinned], laidTests := true, laidLooks := .later }
def NormFormsUptoCardSaid : Prop := Claim7.holds Tryz.pinned (.plain (OpenSpec.upto normFormsSpec)) normFormsUptoCard

/-- THE SECOND FORM's CARD OF 'kerflaw18.NormSafe'. -/
def normSafeUptoCard : Claim7 := { stood := { row := normSafeUptoRow, standIns := [], harness := (true, "95e7e00361be52936a48d6ba0c4b34d3f5d969e5d5bf3fbed6ff79052d7a5ea1"), looks := true }, kinds := [], alts := [], laidByText := true, laidKinds := [.data, .data, .data, .data, .sentinel, .sentinel, .listed, .data, .pinned], laidTests := true, laidLooks := .later }
def NormSafeUptoCardSaid : Prop := Claim7.holds Tryz.pinned (.plain (OpenSpec.upto normSafeSpec)) normSafeUptoCard

/-- THE SECOND FORM's CARD OF 'kerflaw18.NormStreams'. -/
def normStreamsUptoCard : Claim7 := { stood := { row := normStreamsUptoRow, standIns := [], harness := (true, "95e7e00361be52936a48d6ba0c4b34d3f5d969e5d5bf3fbed6ff79052d7a5ea1"), looks := true }, kinds := [], alts := [], laidByText := true, laidKinds := [.data, .data, .data, .data, .sentinel, .sentinel, .listed, .data, .pinned], laidTests := true, laidLooks := .later }
def NormStreamsUptoCardSaid : Prop := Claim7.holds Tryz.pinned (.plain (OpenSpec.upto normStreamsSpec)) normStreamsUptoCard

/-- THE SECOND FORM's CARD OF 'kerflaw18.NormPieces'. -/
def normPiecesUptoCard : Claim7 := { stood := { row := normPiecesUptoRow, standIns := [], harness := (true, "95e7e00361be52936a48d6ba0c4b34d3f5d969e5d5bf3fbed6ff79052d7a5ea1"), looks := true }, kinds := [], alts := [], laidByText := true, laidKinds := [.data, .data, .data, .data, .sentinel, .sentinel, .listed, .data, .pinned], laidTests := true, laidLooks := .later }
def NormPiecesUptoCardSaid : Prop := Claim7.holds Tryz.pinned (.plain (OpenSpec.upto normPiecesSpec)) normPiecesUptoCard

/-- THE SECOND FORM's CARD OF 'kerflaw18.NormJoins'. -/
def normJoinsUptoCard : Claim7 := { stood := { row := normJoinsUptoRow, standIns := [], harness := (true, "95e7e00361be52936a48d6ba0c4b34d3f5d969e5d5bf3fbed6ff79052d7a5ea1"), looks := true }, kinds := [], alts := [], laidByText := true, laidKinds := [.data, .data, .data, .data, .sentinel, .sentinel, .listed, .data, .pinned], laidTests := true, laidLooks := .later }
def NormJoinsUptoCardSaid : Prop := Claim7.holds Tryz.pinned (.plain (OpenSpec.upto normJoinsSpec)) normJoinsUptoCard
end Rows
end Go.Proofs.YteokfknkcbmigaaGreatDoor
