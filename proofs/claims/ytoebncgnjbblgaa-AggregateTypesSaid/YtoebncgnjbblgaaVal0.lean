/-
  strings.Compare: the shelf's contract at this seat's program. No condition.
-/
import Derived.Shelf.Lay
import Derived.Shelf.Small.Strs
import Derived.Ground.NamesProg
import Derived.Test.YtoebncgnjbblgaaProg
--@auto
namespace Go.Proofs
open Go.Shelf
shelf_lay Lays.n106 Nm 106 at Try as Try.laysCompare -- F_strings_Compare
end Go.Proofs
