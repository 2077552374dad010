/-
  strconv.ParseInt, strconv.FormatInt, strings.HasPrefix: the shelf's contracts at this seat's program. No condition.
-/
import Derived.Shelf.Lay
import Derived.Shelf.Strconv.ParseIntPublic10
import Derived.Shelf.Strconv.Itoa4
import Derived.Shelf.Strings.Prefix
import Derived.Lib.ParseIntBTie
import Derived.Ground.NamesProg
import Derived.Test.YtifhbaphlmhoeaaGreatDoorProg
namespace Go.Proofs
open Go.Shelf
shelf_lay LaysC.n174 Nm 174 at Tryz as Tryz.laysParseInt
shelf_lay LaysM.n173 Nm 173 at Tryz as Tryz.laysFormatInt
shelf_lay Lays.n99 Nm 99 at Tryz as Tryz.laysHasPrefix
end Go.Proofs
