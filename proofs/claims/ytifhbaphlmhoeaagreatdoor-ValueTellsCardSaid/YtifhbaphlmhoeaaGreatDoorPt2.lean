/-
  The reckoned conditions of the functions that this seat's statements reach, printed by program, each held against the translation by the kernel. No condition.
-/
import Derived.Test.YtifhbaphlmhoeaaGreatDoorNames
namespace Go.Proofs.YtifhbaphlmhoeaaGreatDoor
set_option linter.unusedVariables false

set_option maxRecDepth 100000

/-- (*strings.Builder).WriteByte -/
def strings_Builder_WriteByte.pt (b0 c1 : Value) (w : World) (K : Value → World → Prop) : Prop :=
  upK Tryz.prog (sCall F_strings_Builder_copyCheck #[b0]) w fun t6 w1 =>
  pureK Tryz.prog (sNil b0) fun t9 =>
  pureK Tryz.prog (sFieldAddr T_strings_Builder t9 1) fun t10 =>
  readK Tryz.prog (sLoad T_s_uint8 t10) w1 fun t11 =>
  upK Tryz.prog (sBuildSlice T_s_uint8 1 #[(0, c1)]) w1 fun t13 w2 =>
  upK Tryz.prog (sBlt .append #[T_s_uint8, T_s_uint8] T_s_uint8 #[false, false] #[t11, t13]) w2 fun t14 w3 =>
  pureK Tryz.prog (sNil b0) fun t15 =>
  pureK Tryz.prog (sFieldAddr T_strings_Builder t15 1) fun t16 =>
  upK Tryz.prog (sStore T_s_uint8 t16 t14) w3 fun tu w4 =>
  K .nilIface w4
theorem strings_Builder_WriteByte.pt_eq : strings_Builder_WriteByte.pt = fun b0 c1 w K => FN Tryz.prog Tryz.f78 (bodyOf Tryz.f78) [4] .leaf [b0, c1] w K := by kernel_rfl
theorem strings_Builder_WriteByte.call {b0 c1 : Value} {w : World} {K : Value → World → Prop} (h : strings_Builder_WriteByte.pt b0 c1 w K) : Calls Tryz.prog F_strings_Builder_WriteByte #[b0, c1] w (retK K) :=
  calls_FN (args := [b0, c1]) Tryz.func78 (by kernel_rfl) (by rw [strings_Builder_WriteByte.pt_eq] at h; exact h)
theorem strings_Builder_WriteByte.up {b0 c1 : Value} {w : World} {K : Value → World → Prop} (h : Calls Tryz.prog F_strings_Builder_WriteByte #[b0, c1] w (retK K)) : upK Tryz.prog (sCall F_strings_Builder_WriteByte #[b0, c1]) w K :=
  up_call (fn := Tryz.f78) Tryz.func78 (by kernel_rfl) (by kernel_rfl) h

end Go.Proofs.YtifhbaphlmhoeaaGreatDoor
