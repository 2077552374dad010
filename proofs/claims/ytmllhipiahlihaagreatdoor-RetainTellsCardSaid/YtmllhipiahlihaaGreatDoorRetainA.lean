/-
  Values, rows and events: what the functions of packages value, retain and the references do with them. No condition.
-/
import Derived.Test.YtmllhipiahlihaaGreatDoorLib
import Derived.Test.YtmllhipiahlihaaGreatDoorValB
namespace Go.Proofs.YtmllhipiahlihaaGreatDoor
open Go.RowKit

abbrev Val := D_api_Value
def rightV (x : Val) : Bool := if x.kind = 0 then decide (x.s = ⟨#[]⟩) else if x.kind = 1 then decide (x.n = 0) && decide (x.s.size ≤ 200) else decide (x.kind = 2) && (decide (x.n = 0) || decide (x.n = 1)) && decide (x.s = ⟨#[]⟩)
def rightRow (l : List Val) : Bool := decide (l.length ≤ 12) && l.all rightV

set_option maxRecDepth 100000
set_option maxRecDepth 100000 in
theorem rightV_eq (v : Val) : vRight v = rightV v := by
  obtain ⟨k, n, s⟩ := v
  unfold vRight rightV vInt vText vBool
  simp only [D_api_Value.mk.injEq]
  by_cases h0 : k = 0
  · simp [h0]
  · by_cases h1 : k = 1
    · have hs : ((s.size : Int) ≤ 200) ↔ s.size ≤ 200 := by omega
      simp [h1, hs]
    · simp only [h0, h1, if_false]
      by_cases h2 : k = 2
      · by_cases h3 : n = 0
        · simp [h2, h3]
        · simp [h2, h3]
      · simp [h2]
set_option maxRecDepth 100000 in
theorem rightRow_eq (l : List Val) : rowRight l = rightRow l := by
  unfold rowRight rightRow
  have : vRight = rightV := by funext v; exact rightV_eq v
  rw [this, show decide ((l.length : Int) ≤ 12) = decide (l.length ≤ 12) from decide_eq_decide.2 (by omega)]
set_option maxRecDepth 100000 in
theorem vRightRow_g {B : Base} {v : Value} {l : List Val} (r : rowR v l B) (hs : ∀ x ∈ l, x.s.size ≤ 9223372036854775807) : Gives Tryz.prog B (sCall F_value_RightRow #[v]) (.bool (rightRow l)) := by
  rw [← rightRow_eq]; exact rowRightN_g r
end Go.Proofs.YtmllhipiahlihaaGreatDoor
