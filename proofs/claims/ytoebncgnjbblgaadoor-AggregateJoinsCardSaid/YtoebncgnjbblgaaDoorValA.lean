/-
  Values: makers, Right. No condition.
-/
import Derived.Test.YtoebncgnjbblgaaDoorLib
import Derived.Test.YtoebncgnjbblgaaDoorPlus
--@auto
namespace Go.Proofs.YtoebncgnjbblgaaDoor
open Go.RowKit
set_option maxRecDepth 100000

abbrev ValD := D_api_Value
def vInt (n : Int) : ValD := ⟨0, n, ⟨#[]⟩⟩
def vText (s : ByteArray) : ValD := ⟨1, 0, s⟩
def vBool (b : Bool) : ValD := ⟨2, if b then 1 else 0, ⟨#[]⟩⟩
def vZero : ValD := ⟨0, 0, ⟨#[]⟩⟩
def vRight (v : ValD) : Bool := if v.kind = 0 then decide (v = vInt v.n) else if v.kind = 1 then decide (v = vText v.s) && decide ((v.s.size : Int) ≤ 200) else decide (v = vBool false) || decide (v = vBool true)
def rowRight (l : List ValD) : Bool := decide ((l.length : Int) ≤ 12) && l.all vRight
section
variable {B : Base} {w : World}
theorem vInt_g (n : Int) : Gives Tryd.prog B (sCall F_value_Int #[.int .i64 n]) (vInt n).v := by
  refine Gives.intro fun B' w K base h k => ?_
  refine value_Int.up (value_Int.call ?_)
  unfold value_Int.pt
  refine h.alloc z_api_Value fun o w1 h => ?_
  rw [bd_api_Value_0_1]
  refine h.stAll 0 (ds := (vInt n).cs.toArray) rfl ag_api_Value rfl rfl (fun v hv => Enc.one (vInt n) v hv) fun w2 h => ?_
  rw [rv_ag h 0 rfl ag_api_Value rfl]
  exact k _ _ h
end
end Go.Proofs.YtoebncgnjbblgaaDoor
