/-
  The reckoned conditions of the functions that this seat's statements reach, printed by program, each held against the translation by the kernel. No condition.
-/
import Derived.Test.YtncgdihcplhcoaaDoorNames
namespace Go.Proofs.YtncgdihcplhcoaaDoor
set_option linter.unusedVariables false
abbrev T_uint64 : TypeId := 87
set_option maxRecDepth 100000

/-- math/bits.Mul -/
def math_bits_Mul.pt (x0 vy1 : Value) (w : World) (K : Value → World → Prop) : Prop :=
  upK Tryd.prog (sCall F_math_bits_Mul64 #[x0, vy1]) w fun t25 w1 =>
  pureK Tryd.prog (sExtract t25 0) fun t26 =>
  pureK Tryd.prog (sExtract t25 1) fun t27 =>
  K (.tuple #[t26, t27]) w1
theorem math_bits_Mul.pt_eq : math_bits_Mul.pt = fun x0 vy1 w K => FN Tryd.prog Tryd.f44 (bodyOf Tryd.f44) [] .leaf [x0, vy1] w K := by kernel_rfl
theorem math_bits_Mul.call {x0 vy1 : Value} {w : World} {K : Value → World → Prop} (h : math_bits_Mul.pt x0 vy1 w K) : Calls Tryd.prog F_math_bits_Mul #[x0, vy1] w (retK K) :=
  calls_FN (args := [x0, vy1]) Tryd.func44 (by kernel_rfl) (by rw [math_bits_Mul.pt_eq] at h; exact h)
theorem math_bits_Mul.up {x0 vy1 : Value} {w : World} {K : Value → World → Prop} (h : Calls Tryd.prog F_math_bits_Mul #[x0, vy1] w (retK K)) : upK Tryd.prog (sCall F_math_bits_Mul #[x0, vy1]) w K :=
  up_call (fn := Tryd.f44) Tryd.func44 (by kernel_rfl) (by kernel_rfl) h

/-- math/bits.Mul64 -/
def math_bits_Mul64.pt (x0 vy1 : Value) (w : World) (K : Value → World → Prop) : Prop :=
  pureK Tryd.prog (sBin .and T_uint64 (.tmp 14) (.const (.int .u64 4294967295)) x0 (.int .u64 4294967295)) fun t15 =>
  pureK Tryd.prog (sBin .shr T_uint64 (.tmp 16) (.const (.int .u64 32)) x0 (.int .u64 32)) fun t17 =>
  pureK Tryd.prog (sBin .and T_uint64 (.tmp 18) (.const (.int .u64 4294967295)) vy1 (.int .u64 4294967295)) fun t19 =>
  pureK Tryd.prog (sBin .shr T_uint64 (.tmp 20) (.const (.int .u64 32)) vy1 (.int .u64 32)) fun t21 =>
  pureK Tryd.prog (sBin .mul T_uint64 (.tmp 22) (.tmp 23) t15 t19) fun t24 =>
  pureK Tryd.prog (sBin .mul T_uint64 (.tmp 25) (.tmp 26) t17 t19) fun t27 =>
  pureK Tryd.prog (sBin .shr T_uint64 (.tmp 28) (.const (.int .u64 32)) t24 (.int .u64 32)) fun t29 =>
  pureK Tryd.prog (sBin .add T_uint64 (.tmp 27) (.tmp 29) t27 t29) fun t30 =>
  pureK Tryd.prog (sBin .and T_uint64 (.tmp 31) (.const (.int .u64 4294967295)) t30 (.int .u64 4294967295)) fun t32 =>
  pureK Tryd.prog (sBin .shr T_uint64 (.tmp 33) (.const (.int .u64 32)) t30 (.int .u64 32)) fun t34 =>
  pureK Tryd.prog (sBin .mul T_uint64 (.tmp 36) (.tmp 37) t15 t21) fun t38 =>
  pureK Tryd.prog (sBin .add T_uint64 (.tmp 35) (.tmp 38) t32 t38) fun t39 =>
  pureK Tryd.prog (sBin .mul T_uint64 (.tmp 40) (.tmp 41) t17 t21) fun t42 =>
  pureK Tryd.prog (sBin .add T_uint64 (.tmp 42) (.tmp 43) t42 t34) fun t44 =>
  pureK Tryd.prog (sBin .shr T_uint64 (.tmp 45) (.const (.int .u64 32)) t39 (.int .u64 32)) fun t46 =>
  pureK Tryd.prog (sBin .add T_uint64 (.tmp 44) (.tmp 46) t44 t46) fun t47 =>
  pureK Tryd.prog (sBin .mul T_uint64 (.tmp 48) (.tmp 49) x0 vy1) fun t50 =>
  K (.tuple #[t47, t50]) w
theorem math_bits_Mul64.pt_eq : math_bits_Mul64.pt = fun x0 vy1 w K => FN Tryd.prog Tryd.f53 (bodyOf Tryd.f53) [] .leaf [x0, vy1] w K := by kernel_rfl
theorem math_bits_Mul64.call {x0 vy1 : Value} {w : World} {K : Value → World → Prop} (h : math_bits_Mul64.pt x0 vy1 w K) : Calls Tryd.prog F_math_bits_Mul64 #[x0, vy1] w (retK K) :=
  calls_FN (args := [x0, vy1]) Tryd.func53 (by kernel_rfl) (by rw [math_bits_Mul64.pt_eq] at h; exact h)
theorem math_bits_Mul64.up {x0 vy1 : Value} {w : World} {K : Value → World → Prop} (h : Calls Tryd.prog F_math_bits_Mul64 #[x0, vy1] w (retK K)) : upK Tryd.prog (sCall F_math_bits_Mul64 #[x0, vy1]) w K :=
  up_call (fn := Tryd.f53) Tryd.func53 (by kernel_rfl) (by kernel_rfl) h

end Go.Proofs.YtncgdihcplhcoaaDoor
