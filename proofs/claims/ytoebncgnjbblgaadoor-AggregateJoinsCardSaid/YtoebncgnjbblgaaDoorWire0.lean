/-
  The library's functions that the wire encoding calls: the shelf's contracts at this seat's program. No condition.
-/
import Derived.Shelf.Lay
import Derived.Shelf.Strconv.Itoa3
import Derived.Shelf.Strconv.AtoiAll
import Derived.Shelf.Strings.BuilderK
import Derived.Shelf.Small.Strs
import Derived.Shelf.Small.Wraps
import Derived.Ground.NamesProg
import Derived.Test.YtoebncgnjbblgaaDoorProg
--@auto
namespace Go.Proofs
open Go.Shelf
shelf_lay LaysM.n171 Nm 171 at Tryd as Tryd.laysItoa -- F_strconv_Itoa
shelf_lay Lays.n169 Nm 169 at Tryd as Tryd.laysString -- F_strings_Builder_String
end Go.Proofs
