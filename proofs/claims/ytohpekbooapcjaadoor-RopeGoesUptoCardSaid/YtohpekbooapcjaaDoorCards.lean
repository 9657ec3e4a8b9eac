/-
  DERIVED. GIVEN WITH THE SEED: THE CARDS: each row of YtohpekbooapcjaaDoorRows.lean that lists a variable, with what it lists TIED to the program's text (the seventh form; the later family's looks); each row that meets fmt, with fmt's text TOLD by the authors' own Lean function (tested against real Go, not proved from fmt's source: count such statements apart). THE CARD IS WHAT COUNTS. Prove the row's statement (the work); the ties are given (YtohpekbooapcjaaDoorTie.lean); close each card by the builder's one call (the guide's Derived/Test/ToyasCard.lean, 'card_holds'). Laid BY PROGRAM, IN A SANDBOX (cutbox-door.mjs). By AI agents, Wed Nov 11 2026. No macro, syntax, notation, axiom, sorry.
-/
import Derived.Test.YtohpekbooapcjaaDoorRows
import GoSem.ClaimSeven
namespace Go.Proofs.YtohpekbooapcjaaDoor
namespace Rows

/-- THE TIED CARD OF 'kerflaw20.RopeThere'. -/
def ropeThereCard : Claim7 := { stood := { row := ropeThereRow, standIns := [], harness := (true, "2799476171769b4c333d9050524b1d186b7644301c4cacc36636822ab48a7e5d"), looks := true }, kinds := [], alts := [], laidByText := true, laidKinds := [.data, .pinned], laidTests := true, laidLooks := .later }
def RopeThereCardSaid : Prop := Claim7.holds Tryd.pinned (.plain (OpenSpec.ofChange ropeThereSpec)) ropeThereCard

/-- THE TIED CARD OF 'kerflaw20.RopeGoes'. -/
def ropeGoesCard : Claim7 := { stood := { row := ropeGoesRow, standIns := [], harness := (true, "2799476171769b4c333d9050524b1d186b7644301c4cacc36636822ab48a7e5d"), looks := true }, kinds := [], alts := [], laidByText := true, laidKinds := [.data, .pinned], laidTests := true, laidLooks := .later }
def RopeGoesCardSaid : Prop := Claim7.holds Tryd.pinned (.plain (OpenSpec.ofChange ropeGoesSpec)) ropeGoesCard

/-- THE TIED CARD OF 'kerflaw20.RopePlaces'. -/
def ropePlacesCard : Claim7 := { stood := { row := ropePlacesRow, standIns := [], harness := (true, "2799476171769b4c333d9050524b1d186b7644301c4cacc36636822ab48a7e5d"), looks := true }, kinds := [], alts := [], laidByText := true, laidKinds := [.data, .pinned], laidTests := true, laidLooks := .later }
def RopePlacesCardSaid : Prop := Claim7.holds Tryd.pinned (.plain (OpenSpec.ofChange ropePlacesSpec)) ropePlacesCard

/-- THE SECOND FORM's CARD OF 'kerflaw20.RopeThere'. -/
def ropeThereUptoCard : Claim7 := { stood := { row := ropeThereUptoRow, standIns := [], harness := (true, "2799476171769b4c333d9050524b1d186b7644301c4cacc36636822ab48a7e5d"), looks := true }, kinds := [], alts := [], laidByText := true, laidKinds := [.data, .pinned], laidTests := true, laidLooks := .later }
def RopeThereUptoCardSaid : Prop := Claim7.holds Tryd.pinned (.plain (OpenSpec.upto ropeThereSpec)) ropeThereUptoCard

/-- THE SECOND FORM's CARD OF 'kerflaw20.RopeGoes'. -/
def ropeGoesUptoCard : Claim7 := { stood := { row := ropeGoesUptoRow, standIns := [], harness := (true, "2799476171769b4c333d9050524b1d186b7644301c4cacc36636822ab48a7e5d"), looks := true }, kinds := [], alts := [], laidByText := true, laidKinds := [.data, .pinned], laidTests := true, laidLooks := .later }
def RopeGoesUptoCardSaid : Prop := Claim7.holds Tryd.pinned (.plain (OpenSpec.upto ropeGoesSpec)) ropeGoesUptoCard

/-- THE SECOND FORM's CARD OF 'kerflaw20.RopePlaces'. -/
def ropePlacesUptoCard : Claim7 := { stood := { row := ropePlacesUptoRow, standIns := [], harness := (true, "2799476171769b4c333d9050524b1d186b7644301c4cacc36636822ab48a7e5d"), looks := true }, kinds := [], alts := [], laidByText := true, laidKinds := [.data, .pinned], laidTests := true, laidLooks := .later }
def RopePlacesUptoCardSaid : Prop := Claim7.holds Tryd.pinned (.plain (OpenSpec.upto ropePlacesSpec)) ropePlacesUptoCard
end Rows
end Go.Proofs.YtohpekbooapcjaaDoor
