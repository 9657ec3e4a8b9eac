/-
  DERIVED. GIVEN WITH THE SEED: THE CARDS: each row of YtokeamebcdhnpaaGreatDoorRows.lean that lists a variable, with what it lists TIED to the program's text (the seventh form; the later family's looks); each row that meets fmt, with fmt's text TOLD by the authors' own Lean function (tested against real Go, not proved from fmt's source: count such statements apart). THE CARD IS WHAT COUNTS. Prove the row's statement (the work); the ties are given (YtokeamebcdhnpaaGreatDoorTie.lean); close each card by the builder's one call (the guide's Derived/Test/ToyasCard.lean, 'card_holds'). Laid BY PROGRAM, IN A SANDBOX (cutbox-door.mjs). By AI agents, Wed Nov 11 2026. No macro, syntax, notation, axiom, sorry.
-/
import Derived.Test.YtokeamebcdhnpaaGreatDoorRows
import GoSem.ClaimSeven
namespace Go.Proofs.YtokeamebcdhnpaaGreatDoor
namespace Rows

/-- THE TIED CARD OF 'kerflaw29.CollateNames'. -/
def collateNamesCard : Claim7 := { stood := { row := collateNamesRow, standIns := [], harness := (true, "24a2401cfb8f5a6198b73160e62d75e2e0597abf1b1de04fec0903d75006be64"), looks := true }, kinds := [], alts := [], laidByText := true, laidKinds := [.data, .data, .data, .data, .sentinel, .sentinel, .listed, .data, .pinned], laidTests := true, laidLooks := .later }
def CollateNamesCardSaid : Prop := Claim7.holds Tryz.pinned (.plain (OpenSpec.ofChange collateNamesSpec)) collateNamesCard

/-- THE TIED CARD OF 'kerflaw29.CollateKeys'. -/
def collateKeysCard : Claim7 := { stood := { row := collateKeysRow, standIns := [], harness := (true, "24a2401cfb8f5a6198b73160e62d75e2e0597abf1b1de04fec0903d75006be64"), looks := true }, kinds := [], alts := [], laidByText := true, laidKinds := [.data, .data, .data, .data, .sentinel, .sentinel, .listed, .data, .pinned], laidTests := true, laidLooks := .later }
def CollateKeysCardSaid : Prop := Claim7.holds Tryz.pinned (.plain (OpenSpec.ofChange collateKeysSpec)) collateKeysCard

/-- THE TIED CARD OF 'kerflaw29.CollateOrders'. -/
def collateOrdersCard : Claim7 := { stood := { row := collateOrdersRow, standIns := [], harness := (true, "24a2401cfb8f5a6198b73160e62d75e2e0597abf1b1de04fec0903d75006be64"), looks := true }, kinds := [], alts := [], laidByText := true, laidKinds := [.data, .data, .data, .data, .sentinel, .sentinel, .listed, .data, .pinned], laidTests := true, laidLooks := .later }
def CollateOrdersCardSaid : Prop := Claim7.holds Tryz.pinned (.plain (OpenSpec.ofChange collateOrdersSpec)) collateOrdersCard

/-- THE TIED CARD OF 'kerflaw29.CollateLevels'. -/
def collateLevelsCard : Claim7 := { stood := { row := collateLevelsRow, standIns := [], harness := (true, "24a2401cfb8f5a6198b73160e62d75e2e0597abf1b1de04fec0903d75006be64"), looks := true }, kinds := [], alts := [], laidByText := true, laidKinds := [.data, .data, .data, .data, .sentinel, .sentinel, .listed, .data, .pinned], laidTests := true, laidLooks := .later }
def CollateLevelsCardSaid : Prop := Claim7.holds Tryz.pinned (.plain (OpenSpec.ofChange collateLevelsSpec)) collateLevelsCard

/-- THE TIED CARD OF 'kerflaw29.CollateSorts'. -/
def collateSortsCard : Claim7 := { stood := { row := collateSortsRow, standIns := [], harness := (true, "24a2401cfb8f5a6198b73160e62d75e2e0597abf1b1de04fec0903d75006be64"), looks := true }, kinds := [], alts := [], laidByText := true, laidKinds := [.data, .data, .data, .data, .sentinel, .sentinel, .listed, .data, .pinned], laidTests := true, laidLooks := .later }
def CollateSortsCardSaid : Prop := Claim7.holds Tryz.pinned (.plain (OpenSpec.ofChange collateSortsSpec)) collateSortsCard

/-- THE SECOND FORM's CARD OF 'kerflaw29.CollateNames'. -/
def collateNamesUptoCard : Claim7 := { stood := { row := collateNamesUptoRow, standIns := [], harness := (true, "24a2401cfb8f5a6198b73160e62d75e2e0597abf1b1de04fec0903d75006be64"), looks := true }, kinds := [], alts := [], laidByText := true, laidKinds := [.data, .data, .data, .data, .sentinel, .sentinel, .listed, .data, .pinned], laidTests := true, laidLooks := .later }
def CollateNamesUptoCardSaid : Prop := Claim7.holds Tryz.pinned (.plain (OpenSpec.upto collateNamesSpec)) collateNamesUptoCard

/-- THE SECOND FORM's CARD OF 'kerflaw29.CollateKeys'. -/
def collateKeysUptoCard : Claim7 := { stood := { row := collateKeysUptoRow, standIns := [], harness := (true, "24a2401cfb8f5a6198b73160e62d75e2e0597abf1b1de04fec0903d75006be64"), looks := true }, kinds := [], alts := [], laidByText := true, laidKinds := [.data, .data, .data, .data, .sentinel, .sentinel, .listed, .data, .pinned], laidTests := true, laidLooks := .later }
def CollateKeysUptoCardSaid : Prop := Claim7.holds Tryz.pinned (.plain (OpenSpec.upto collateKeysSpec)) collateKeysUptoCard

/-- THE SECOND FORM's CARD OF 'kerflaw29.CollateOrders'. -/
def collateOrdersUptoCard : Claim7 := { stood := { row := collateOrdersUptoRow, standIns := [], harness := (true, "24a2401cfb8f5a6198b73160e62d75e2e0597abf1b1de04fec0903d75006be64"), looks := true }, kinds := [], alts := [], laidByText := true, laidKinds := [.data, .data, .data, .data, .sentinel, .sentinel, .listed, .data, .pinned], laidTests := true, laidLooks := .later }
def CollateOrdersUptoCardSaid : Prop := Claim7.holds Tryz.pinned (.plain (OpenSpec.upto collateOrdersSpec)) collateOrdersUptoCard

/-- THE SECOND FORM's CARD OF 'kerflaw29.CollateLevels'. -/
def collateLevelsUptoCard : Claim7 := { stood := { row := collateLevelsUptoRow, standIns := [], harness := (true, "24a2401cfb8f5a6198b73160e62d75e2e0597abf1b1de04fec0903d75006be64"), looks := true }, kinds := [], alts := [], laidByText := true, laidKinds := [.data, .data, .data, .data, .sentinel, .sentinel, .listed, .data, .pinned], laidTests := true, laidLooks := .later }
def CollateLevelsUptoCardSaid : Prop := Claim7.holds Tryz.pinned (.plain (OpenSpec.upto collateLevelsSpec)) collateLevelsUptoCard

/-- THE SECOND FORM's CARD OF 'kerflaw29.CollateSorts'. -/
def collateSortsUptoCard : Claim7 := { stood := { row := collateSortsUptoRow, standIns := [], harness := (true, "24a2401cfb8f5a6198b73160e62d75e2e0597abf1b1de04fec0903d75006be64"), looks := true }, kinds := [], alts := [], laidByText := true, laidKinds := [.data, .data, .data, .data, .sentinel, .sentinel, .listed, .data, .pinned], laidTests := true, laidLooks := .later }
def CollateSortsUptoCardSaid : Prop := Claim7.holds Tryz.pinned (.plain (OpenSpec.upto collateSortsSpec)) collateSortsUptoCard
end Rows
end Go.Proofs.YtokeamebcdhnpaaGreatDoor
