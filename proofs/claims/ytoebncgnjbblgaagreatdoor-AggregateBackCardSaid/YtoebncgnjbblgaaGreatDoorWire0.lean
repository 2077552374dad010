/-
  The library's functions that the wire encoding calls: the shelf's contracts at this seat's program. No condition.
-/
import Derived.Shelf.Lay
import Derived.Shelf.Strconv.Itoa3
import Derived.Shelf.Strconv.AtoiAll
import Derived.Shelf.Strings.BuilderK
import Derived.Shelf.Small.Strs
import Derived.Shelf.Small.Wraps
import Derived.Ground.NamesProg
import Derived.Test.YtoebncgnjbblgaaGreatDoorProg
--@auto
namespace Go.Proofs
open Go.Shelf
shelf_lay LaysM.n171 Nm 171 at Tryz as Tryz.laysItoa -- F_strconv_Itoa
shelf_lay LaysC.n172 Nm 172 at Tryz as Tryz.laysAtoi -- F_strconv_Atoi
shelf_lay Lays.n169 Nm 169 at Tryz as Tryz.laysString -- F_strings_Builder_String
shelf_lay Lays.n137 Nm 137 at Tryz as Tryz.laysIndex -- F_strings_IndexByte
shelf_lay Lays.n103 Nm 103 at Tryz as Tryz.laysCut -- F_strings_CutPrefix
end Go.Proofs
