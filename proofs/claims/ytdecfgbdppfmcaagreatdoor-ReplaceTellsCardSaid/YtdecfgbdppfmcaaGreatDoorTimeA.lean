/-
  Timelines: what the small functions of package timeline do, and what stays right. No condition.
-/
import Derived.Test.YtdecfgbdppfmcaaGreatDoorRepG
namespace Go.Proofs.YtdecfgbdppfmcaaGreatDoor
open Go.RowKit
set_option maxRecDepth 100000
end Go.Proofs.YtdecfgbdppfmcaaGreatDoor
