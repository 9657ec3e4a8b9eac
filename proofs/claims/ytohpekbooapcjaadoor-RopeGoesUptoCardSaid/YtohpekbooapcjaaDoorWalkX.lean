/-
  The document's answers: parts of a text, texts with a text between them, texts without a part.
-/
import Derived.Test.YtohpekbooapcjaaDoorWalkW
namespace Go.Proofs.YtohpekbooapcjaaDoor
open Go.RowKit Go.Rp

end Go.Proofs.YtohpekbooapcjaaDoor
