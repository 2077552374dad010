/-
  strings.Join: the shelf's contract at this seat's program. No condition.
-/
import Derived.Shelf.Lay
import Derived.Shelf.Strings.OnBuilder
import Derived.Ground.NamesProg
import Derived.Test.YtifhbaphlmhoeaaDoorProg
namespace Go.Proofs
open Go.Shelf
shelf_lay Lays.n156 Nm 156 at Tryd as Tryd.laysJoin
end Go.Proofs
