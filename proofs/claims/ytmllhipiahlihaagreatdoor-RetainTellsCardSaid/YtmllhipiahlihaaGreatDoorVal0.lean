/-
  strings.Compare: the shelf's contract at this seat's program. No condition.
-/
import Derived.Shelf.Lay
import Derived.Shelf.Small.Strs
import Derived.Ground.NamesProg
import Derived.Test.YtmllhipiahlihaaGreatDoorProg
--@auto
namespace Go.Proofs
open Go.Shelf
end Go.Proofs
