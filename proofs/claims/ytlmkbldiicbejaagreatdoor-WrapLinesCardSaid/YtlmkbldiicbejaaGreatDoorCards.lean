/-
  DERIVED. GIVEN WITH THE SEED: THE CARDS: each row of YtlmkbldiicbejaaGreatDoorRows.lean that lists a variable, with what it lists TIED to the program's text (the seventh form; the later family's looks); each row that meets fmt, with fmt's text TOLD by the authors' own Lean function (tested against real Go, not proved from fmt's source: count such statements apart). THE CARD IS WHAT COUNTS. Prove the row's statement (the work); the ties are given (YtlmkbldiicbejaaGreatDoorTie.lean); close each card by the builder's one call (the guide's Derived/Test/ToyasCard.lean, 'card_holds'). Laid BY PROGRAM, IN A SANDBOX (cutbox-door.mjs). By AI agents, Wed Nov 11 2026. No macro, syntax, notation, axiom, sorry.
-/
import Derived.Test.YtlmkbldiicbejaaGreatDoorRows
import GoSem.ClaimSeven
namespace Go.Proofs.YtlmkbldiicbejaaGreatDoor
namespace Rows

/-- THE TIED CARD OF 'kerflaw16.WrapChecks'. -/
def wrapChecksCard : Claim7 := { stood := { row := wrapChecksRow, standIns := [], harness := (true, "1e1b2cd361a7da0a3146ea9aacf8637064f0b096ec678a4ff725ae087bcc982a"), looks := true }, kinds := [], alts := [], laidByText := true, laidKinds := [.data, .data, .data, .data, .sentinel, .sentinel, .pinned], laidTests := true, laidLooks := .later }
def WrapChecksCardSaid : Prop := Claim7.holds Tryz.pinned (.plain (OpenSpec.ofChange wrapChecksSpec)) wrapChecksCard

/-- THE TIED CARD OF 'kerflaw16.WrapLines'. -/
def wrapLinesCard : Claim7 := { stood := { row := wrapLinesRow, standIns := [], harness := (true, "1e1b2cd361a7da0a3146ea9aacf8637064f0b096ec678a4ff725ae087bcc982a"), looks := true }, kinds := [], alts := [], laidByText := true, laidKinds := [.data, .data, .data, .data, .sentinel, .sentinel, .pinned], laidTests := true, laidLooks := .later }
def WrapLinesCardSaid : Prop := Claim7.holds Tryz.pinned (.plain (OpenSpec.ofChange wrapLinesSpec)) wrapLinesCard

/-- THE TIED CARD OF 'kerflaw16.WrapFewest'. -/
def wrapFewestCard : Claim7 := { stood := { row := wrapFewestRow, standIns := [], harness := (true, "1e1b2cd361a7da0a3146ea9aacf8637064f0b096ec678a4ff725ae087bcc982a"), looks := true }, kinds := [], alts := [], laidByText := true, laidKinds := [.data, .data, .data, .data, .sentinel, .sentinel, .pinned], laidTests := true, laidLooks := .later }
def WrapFewestCardSaid : Prop := Claim7.holds Tryz.pinned (.plain (OpenSpec.ofChange wrapFewestSpec)) wrapFewestCard

/-- THE TIED CARD OF 'kerflaw16.WrapLeast'. -/
def wrapLeastCard : Claim7 := { stood := { row := wrapLeastRow, standIns := [], harness := (true, "1e1b2cd361a7da0a3146ea9aacf8637064f0b096ec678a4ff725ae087bcc982a"), looks := true }, kinds := [], alts := [], laidByText := true, laidKinds := [.data, .data, .data, .data, .sentinel, .sentinel, .pinned], laidTests := true, laidLooks := .later }
def WrapLeastCardSaid : Prop := Claim7.holds Tryz.pinned (.plain (OpenSpec.ofChange wrapLeastSpec)) wrapLeastCard

/-- THE TIED CARD OF 'kerflaw16.WrapAll'. -/
def wrapAllCard : Claim7 := { stood := { row := wrapAllRow, standIns := [], harness := (true, "1e1b2cd361a7da0a3146ea9aacf8637064f0b096ec678a4ff725ae087bcc982a"), looks := true }, kinds := [], alts := [], laidByText := true, laidKinds := [.data, .data, .data, .data, .sentinel, .sentinel, .pinned], laidTests := true, laidLooks := .later }
def WrapAllCardSaid : Prop := Claim7.holds Tryz.pinned (.plain (OpenSpec.ofChange wrapAllSpec)) wrapAllCard

/-- THE TIED CARD OF 'kerflaw16.WrapWider'. -/
def wrapWiderCard : Claim7 := { stood := { row := wrapWiderRow, standIns := [], harness := (true, "1e1b2cd361a7da0a3146ea9aacf8637064f0b096ec678a4ff725ae087bcc982a"), looks := true }, kinds := [], alts := [], laidByText := true, laidKinds := [.data, .data, .data, .data, .sentinel, .sentinel, .pinned], laidTests := true, laidLooks := .later }
def WrapWiderCardSaid : Prop := Claim7.holds Tryz.pinned (.plain (OpenSpec.ofChange wrapWiderSpec)) wrapWiderCard

/-- THE TIED CARD OF 'kerflaw16.WrapWhole'. -/
def wrapWholeCard : Claim7 := { stood := { row := wrapWholeRow, standIns := [], harness := (true, "1e1b2cd361a7da0a3146ea9aacf8637064f0b096ec678a4ff725ae087bcc982a"), looks := true }, kinds := [], alts := [], laidByText := true, laidKinds := [.data, .data, .data, .data, .sentinel, .sentinel, .pinned], laidTests := true, laidLooks := .later }
def WrapWholeCardSaid : Prop := Claim7.holds Tryz.pinned (.plain (OpenSpec.ofChange wrapWholeSpec)) wrapWholeCard

/-- THE SECOND FORM's CARD OF 'kerflaw16.WrapChecks'. -/
def wrapChecksUptoCard : Claim7 := { stood := { row := wrapChecksUptoRow, standIns := [], harness := (true, "1e1b2cd361a7da0a3146ea9aacf8637064f0b096ec678a4ff725ae087bcc982a"), looks := true }, kinds := [], alts := [], laidByText := true, laidKinds := [.data, .data, .data, .data, .sentinel, .sentinel, .pinned], laidTests := true, laidLooks := .later }
def WrapChecksUptoCardSaid : Prop := Claim7.holds Tryz.pinned (.plain (OpenSpec.upto wrapChecksSpec)) wrapChecksUptoCard

/-- THE SECOND FORM's CARD OF 'kerflaw16.WrapLines'. -/
def wrapLinesUptoCard : Claim7 := { stood := { row := wrapLinesUptoRow, standIns := [], harness := (true, "1e1b2cd361a7da0a3146ea9aacf8637064f0b096ec678a4ff725ae087bcc982a"), looks := true }, kinds := [], alts := [], laidByText := true, laidKinds := [.data, .data, .data, .data, .sentinel, .sentinel, .pinned], laidTests := true, laidLooks := .later }
def WrapLinesUptoCardSaid : Prop := Claim7.holds Tryz.pinned (.plain (OpenSpec.upto wrapLinesSpec)) wrapLinesUptoCard

/-- THE SECOND FORM's CARD OF 'kerflaw16.WrapFewest'. -/
def wrapFewestUptoCard : Claim7 := { stood := { row := wrapFewestUptoRow, standIns := [], harness := (true, "1e1b2cd361a7da0a3146ea9aacf8637064f0b096ec678a4ff725ae087bcc982a"), looks := true }, kinds := [], alts := [], laidByText := true, laidKinds := [.data, .data, .data, .data, .sentinel, .sentinel, .pinned], laidTests := true, laidLooks := .later }
def WrapFewestUptoCardSaid : Prop := Claim7.holds Tryz.pinned (.plain (OpenSpec.upto wrapFewestSpec)) wrapFewestUptoCard

/-- THE SECOND FORM's CARD OF 'kerflaw16.WrapLeast'. -/
def wrapLeastUptoCard : Claim7 := { stood := { row := wrapLeastUptoRow, standIns := [], harness := (true, "1e1b2cd361a7da0a3146ea9aacf8637064f0b096ec678a4ff725ae087bcc982a"), looks := true }, kinds := [], alts := [], laidByText := true, laidKinds := [.data, .data, .data, .data, .sentinel, .sentinel, .pinned], laidTests := true, laidLooks := .later }
def WrapLeastUptoCardSaid : Prop := Claim7.holds Tryz.pinned (.plain (OpenSpec.upto wrapLeastSpec)) wrapLeastUptoCard

/-- THE SECOND FORM's CARD OF 'kerflaw16.WrapAll'. -/
def wrapAllUptoCard : Claim7 := { stood := { row := wrapAllUptoRow, standIns := [], harness := (true, "1e1b2cd361a7da0a3146ea9aacf8637064f0b096ec678a4ff725ae087bcc982a"), looks := true }, kinds := [], alts := [], laidByText := true, laidKinds := [.data, .data, .data, .data, .sentinel, .sentinel, .pinned], laidTests := true, laidLooks := .later }
def WrapAllUptoCardSaid : Prop := Claim7.holds Tryz.pinned (.plain (OpenSpec.upto wrapAllSpec)) wrapAllUptoCard

/-- THE SECOND FORM's CARD OF 'kerflaw16.WrapWider'. -/
def wrapWiderUptoCard : Claim7 := { stood := { row := wrapWiderUptoRow, standIns := [], harness := (true, "1e1b2cd361a7da0a3146ea9aacf8637064f0b096ec678a4ff725ae087bcc982a"), looks := true }, kinds := [], alts := [], laidByText := true, laidKinds := [.data, .data, .data, .data, .sentinel, .sentinel, .pinned], laidTests := true, laidLooks := .later }
def WrapWiderUptoCardSaid : Prop := Claim7.holds Tryz.pinned (.plain (OpenSpec.upto wrapWiderSpec)) wrapWiderUptoCard

/-- THE SECOND FORM's CARD OF 'kerflaw16.WrapWhole'. -/
def wrapWholeUptoCard : Claim7 := { stood := { row := wrapWholeUptoRow, standIns := [], harness := (true, "1e1b2cd361a7da0a3146ea9aacf8637064f0b096ec678a4ff725ae087bcc982a"), looks := true }, kinds := [], alts := [], laidByText := true, laidKinds := [.data, .data, .data, .data, .sentinel, .sentinel, .pinned], laidTests := true, laidLooks := .later }
def WrapWholeUptoCardSaid : Prop := Claim7.holds Tryz.pinned (.plain (OpenSpec.upto wrapWholeSpec)) wrapWholeUptoCard
end Rows
end Go.Proofs.YtlmkbldiicbejaaGreatDoor
