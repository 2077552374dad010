/-
  strings.Compare: the shelf's contract at this seat's program. No condition.
-/
import Derived.Shelf.Lay
import Derived.Shelf.Small.Strs
import Derived.Ground.NamesProg
import Derived.Test.YtoebncgnjbblgaaGreatDoorProg
--@auto
namespace Go.Proofs
open Go.Shelf
shelf_lay Lays.n106 Nm 106 at Tryz as Tryz.laysCompare -- F_strings_Compare
end Go.Proofs
