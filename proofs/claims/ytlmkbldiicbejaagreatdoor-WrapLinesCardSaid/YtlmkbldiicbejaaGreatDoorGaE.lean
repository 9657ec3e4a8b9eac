/-
  Counts and places of letters; a rune's class.
-/
import Derived.Test.YtlmkbldiicbejaaGreatDoorGaD
import Derived.Test.YtlmkbldiicbejaaGreatDoorPlainM
import Derived.Test.YtlmkbldiicbejaaGreatDoorShelfG
namespace Go.Proofs.YtlmkbldiicbejaaGreatDoor
open Go.RowKit Go.Rp Go.Maps Go.Cl Go.Shelf Go.Gr

/-- Where the n-th letter begins. -/
noncomputable def placeG (s : ByteArray) (n : Nat) : Nat := (bdG s).getD n s.size
end Go.Proofs.YtlmkbldiicbejaaGreatDoor
