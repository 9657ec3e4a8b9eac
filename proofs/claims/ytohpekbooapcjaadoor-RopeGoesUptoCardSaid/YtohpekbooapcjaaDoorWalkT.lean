/-
  Delete; the errors of Slice and Delete; the document's Slice, Insert, Delete.
-/
import Derived.Test.YtohpekbooapcjaaDoorWalkS
namespace Go.Proofs.YtohpekbooapcjaaDoor
open Go.RowKit Go.Rp

/-- A part that is none. -/
def noPart (s : ByteArray) (i j : Int) : Prop := i < 0 ∨ (s.size : Int) < i ∨ j < 0 ∨ (s.size : Int) < j ∨ j < i
end Go.Proofs.YtohpekbooapcjaaDoor
