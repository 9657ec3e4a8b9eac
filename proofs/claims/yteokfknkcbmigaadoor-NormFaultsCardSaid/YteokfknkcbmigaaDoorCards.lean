/-
  DERIVED. GIVEN WITH THE SEED: THE CARDS: each row of YteokfknkcbmigaaDoorRows.lean that lists a variable, with what it lists TIED to the program's text (the seventh form; the later family's looks); each row that meets fmt, with fmt's text TOLD by the authors' own Lean function (tested against real Go, not proved from fmt's source: count such statements apart). THE CARD IS WHAT COUNTS. Prove the row's statement (the work); the ties are given (YteokfknkcbmigaaDoorTie.lean); close each card by the builder's one call (the guide's Derived/Test/ToyasCard.lean, 'card_holds'). Laid BY PROGRAM, IN A SANDBOX (cutbox-door.mjs). By AI agents, Wed Nov 11 2026. No macro, syntax, notation, axiom, sorry.
-/
import Derived.Test.YteokfknkcbmigaaDoorRows
import GoSem.ClaimSeven
namespace Go.Proofs.YteokfknkcbmigaaDoor
namespace Rows

/-- THE TIED CARD OF 'kerflaw18.NormTwice'. -/
def normTwiceCard : Claim7 := { stood := { row := normTwiceRow, standIns := [], harness := (true, "9f75a2deb34681e31c278e382bc99296709a39d8fae77f99bdb842ee7d522fa0"), looks := true }, kinds := [], alts := [], laidByText := true, laidKinds := [.data, .data, .data, .data, .sentinel, .sentinel, .listed, .data, .pinned], laidTests := true, laidLooks := .later }
def NormTwiceCardSaid : Prop := Claim7.holds Tryd.pinned (.plain (OpenSpec.ofChange normTwiceSpec)) normTwiceCard

/-- THE TIED CARD OF 'kerflaw18.NormFaults'. -/
def normFaultsCard : Claim7 := { stood := { row := normFaultsRow, standIns := [], harness := (true, "9f75a2deb34681e31c278e382bc99296709a39d8fae77f99bdb842ee7d522fa0"), looks := true }, kinds := [], alts := [], laidByText := true, laidKinds := [.data, .data, .data, .data, .sentinel, .sentinel, .listed, .data, .pinned], laidTests := true, laidLooks := .later }
def NormFaultsCardSaid : Prop := Claim7.holds Tryd.pinned (.plain (OpenSpec.ofChange normFaultsSpec)) normFaultsCard

/-- THE TIED CARD OF 'kerflaw18.NormCuts'. -/
def normCutsCard : Claim7 := { stood := { row := normCutsRow, standIns := [], harness := (true, "9f75a2deb34681e31c278e382bc99296709a39d8fae77f99bdb842ee7d522fa0"), looks := true }, kinds := [], alts := [], laidByText := true, laidKinds := [.data, .data, .data, .data, .sentinel, .sentinel, .listed, .data, .pinned], laidTests := true, laidLooks := .later }
def NormCutsCardSaid : Prop := Claim7.holds Tryd.pinned (.plain (OpenSpec.ofChange normCutsSpec)) normCutsCard

/-- THE TIED CARD OF 'kerflaw18.NormEquals'. -/
def normEqualsCard : Claim7 := { stood := { row := normEqualsRow, standIns := [], harness := (true, "9f75a2deb34681e31c278e382bc99296709a39d8fae77f99bdb842ee7d522fa0"), looks := true }, kinds := [], alts := [], laidByText := true, laidKinds := [.data, .data, .data, .data, .sentinel, .sentinel, .listed, .data, .pinned], laidTests := true, laidLooks := .later }
def NormEqualsCardSaid : Prop := Claim7.holds Tryd.pinned (.plain (OpenSpec.ofChange normEqualsSpec)) normEqualsCard

/-- THE TIED CARD OF 'kerflaw18.NormNil'. -/
def normNilCard : Claim7 := { stood := { row := normNilRow, standIns := [], harness := (true, "9f75a2deb34681e31c278e382bc99296709a39d8fae77f99bdb842ee7d522fa0"), looks := true }, kinds := [], alts := [], laidByText := true, laidKinds := [.data, .data, .data, .data, .sentinel, .sentinel, .listed, .data, .pinned], laidTests := true, laidLooks := .later }
def NormNilCardSaid : Prop := Claim7.holds Tryd.pinned (.plain (OpenSpec.ofChange normNilSpec)) normNilCard

/-- THE SECOND FORM's CARD OF 'kerflaw18.NormTwice'. -/
def normTwiceUptoCard : Claim7 := { stood := { row := normTwiceUptoRow, standIns := [], harness := (true, "9f75a2deb34681e31c278e382bc99296709a39d8fae77f99bdb842ee7d522fa0"), looks := true }, kinds := [], alts := [], laidByText := true, laidKinds := [.data, .data, .data, .data, .sentinel, .sentinel, .listed, .data, .pinned], laidTests := true, laidLooks := .later }
def NormTwiceUptoCardSaid : Prop := Claim7.holds Tryd.pinned (.plain (OpenSpec.upto normTwiceSpec)) normTwiceUptoCard

/-- THE SECOND FORM's CARD OF 'kerflaw18.NormFaults'. -/
def normFaultsUptoCard : Claim7 := { stood := { row := normFaultsUptoRow, standIns := [], harness := (true, "9f75a2deb34681e31c278e382bc99296709a39d8fae77f99bdb842ee7d522fa0"), looks := true }, kinds := [], alts := [], laidByText := true, laidKinds := [.data, .data, .data, .data, .sentinel, .sentinel, .listed, .data, .pinned], laidTests := true, laidLooks := .later }
def NormFaultsUptoCardSaid : Prop := Claim7.holds Tryd.pinned (.plain (OpenSpec.upto normFaultsSpec)) normFaultsUptoCard

/-- THE SECOND FORM's CARD OF 'kerflaw18.NormCuts'. -/
def normCutsUptoCard : Claim7 := { stood := { row := normCutsUptoRow, standIns := [], harness := (true, "9f75a2deb34681e31c278e382bc99296709a39d8fae77f99bdb842ee7d522fa0"), looks := true }, kinds := [], alts := [], laidByText := true, laidKinds := [.data, .data, .data, .data, .sentinel, .sentinel, .listed, .data, .pinned], laidTests := true, laidLooks := .later }
def NormCutsUptoCardSaid : Prop := Claim7.holds Tryd.pinned (.plain (OpenSpec.upto normCutsSpec)) normCutsUptoCard

/-- THE SECOND FORM's CARD OF 'kerflaw18.NormEquals'. -/
def normEqualsUptoCard : Claim7 := { stood := { row := normEqualsUptoRow, standIns := [], harness := (true, "9f75a2deb34681e31c278e382bc99296709a39d8fae77f99bdb842ee7d522fa0"), looks := true }, kinds := [], alts := [], laidByText := true, laidKinds := [.data, .data, .data, .data, .sentinel, .sentinel, .listed, .data, .pinned], laidTests := true, laidLooks := .later }
def NormEqualsUptoCardSaid : Prop := Claim7.holds Tryd.pinned (.plain (OpenSpec.upto normEqualsSpec)) normEqualsUptoCard

/-- THE SECOND FORM's CARD OF 'kerflaw18.NormNil'. -/
def normNilUptoCard : Claim7 := { stood := { row := normNilUptoRow, standIns := [], harness := (true, "9f75a2deb34681e31c278e382bc99296709a39d8fae77f99bdb842ee7d522fa0"), looks := true }, kinds := [], alts := [], laidByText := true, laidKinds := [.data, .data, .data, .data, .sentinel, .sentinel, .listed, .data, .pinned], laidTests := true, laidLooks := .later }
def NormNilUptoCardSaid : Prop := Claim7.holds Tryd.pinned (.plain (OpenSpec.upto normNilSpec)) normNilUptoCard
end Rows
end Go.Proofs.YteokfknkcbmigaaDoor
