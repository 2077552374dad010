/-
  strings.Compare: the shelf's contract at this seat's program. No condition.
-/
import Derived.Shelf.Lay
import Derived.Shelf.Small.Strs
import Derived.Ground.NamesProg
import Derived.Test.YtoebncgnjbblgaaProg
--@auto
namespace Go.Proofs
open Go.Shelf
def Try.laysCompare_ren : Go.Shelf.Ren := ⟨fun | 106 => 45 | 213 => 50 | 265 => 61 | n => n, fun | 9 => 9 | 3 => 3 | n => n, fun | n => n⟩
theorem Try.laysCompare : Go.Proofs.Lays.n106 Try.prog Try.laysCompare_ren := {
  mixed := by kernel_rfl
  f106 := Try.func45.trans (congrArg some (by kernel_rfl))
  f213 := Try.func50.trans (congrArg some (by kernel_rfl))
  f265 := Try.func61.trans (congrArg some (by kernel_rfl))
  t3 := Try.underlying3
  a3 := Try.isAgg3
  z3 := Try.sizeOf3
  v3 := Try.zeroValue3
  t9 := Try.underlying9
  a9 := Try.isAgg9
  z9 := Try.sizeOf9
  v9 := Try.zeroValue9 }
end Go.Proofs
