/-
  The reckoned conditions of the functions that this seat's statements reach, printed by program, each held against the translation by the kernel. No condition.
-/
import Derived.Test.YtefinemhfgdpdaaNames
namespace Go.Proofs.Ytefinemhfgdpdaa
set_option linter.unusedVariables false

/-- errata/value.Right -/
def value_Right.pt (v0 : Value) (w : World) (K : Value → World → Prop) : Prop :=
  upK Try.prog (sBox T_api_Value v0) w fun v1 w1 =>
  pureK Try.prog (sFieldAddr T_api_Value v1 0) fun t3 =>
  readK Try.prog (sLoad T_int t3) w1 fun t4 =>
  pureK Try.prog (sBin .eql T_int (.tmp 4) (.const (.int .i64 0)) t4 (.int .i64 0)) fun t6 =>
  ifB t6
  (readK Try.prog (sLoad T_api_Value v1) (tick w1) fun t7 =>
   pureK Try.prog (sFieldAddr T_api_Value v1 1) fun t8 =>
   readK Try.prog (sLoad T_int t8) (tick w1) fun t9 =>
   upK Try.prog (sCall F_value_Int #[t9]) (tick w1) fun t10 w2 =>
   Is Try.prog (sLoad T_api_Value v1) t7 w2 ∧ pureK Try.prog (sBin .eql T_api_Value (.tmp 7) (.tmp 10) t7 t10) fun t11 =>
   K t11 w2)
  (pureK Try.prog (sBin .eql T_int (.tmp 4) (.const (.int .i64 1)) t4 (.int .i64 1)) fun t13 =>
   ifB t13
   (readK Try.prog (sLoad T_api_Value v1) (tick w1) fun t14 =>
    pureK Try.prog (sFieldAddr T_api_Value v1 2) fun t15 =>
    readK Try.prog (sLoad T_string t15) (tick w1) fun t16 =>
    upK Try.prog (sCall F_value_Text #[t16]) (tick w1) fun t17 w3 =>
    Is Try.prog (sLoad T_api_Value v1) t14 w3 ∧ pureK Try.prog (sBin .eql T_api_Value (.tmp 14) (.tmp 17) t14 t17) fun t18 =>
    ifB t18
    (pureK Try.prog (sFieldAddr T_api_Value v1 2) fun t20 =>
     readK Try.prog (sLoad T_string t20) w3 fun t21 =>
     readK Try.prog (sBlt .len #[T_string] T_int #[false] #[t21]) w3 fun t22 =>
     pureK Try.prog (sBin .leq T_int (.tmp 22) (.const (.int .i64 200)) t22 (.int .i64 200)) fun t23 =>
     K t23 w3)
    (K (.bool false) w3))
   (readK Try.prog (sLoad T_api_Value v1) (tick w1) fun t25 =>
    upK Try.prog (sCall F_value_Bool #[(.bool false)]) (tick w1) fun t26 w4 =>
    Is Try.prog (sLoad T_api_Value v1) t25 w4 ∧ pureK Try.prog (sBin .eql T_api_Value (.tmp 25) (.tmp 26) t25 t26) fun t27 =>
    ifB t27
    (K (.bool true) w4)
    (readK Try.prog (sLoad T_api_Value v1) w4 fun t29 =>
     upK Try.prog (sCall F_value_Bool #[(.bool true)]) w4 fun t30 w5 =>
     Is Try.prog (sLoad T_api_Value v1) t29 w5 ∧ pureK Try.prog (sBin .eql T_api_Value (.tmp 29) (.tmp 30) t29 t30) fun t31 =>
     K t31 w5)))
theorem value_Right.pt_eq : value_Right.pt = fun v0 w K => FN Try.prog Try.f53 (bodyOf Try.f53) [2] .leaf [v0] w K := by kernel_rfl
theorem value_Right.call {v0 : Value} {w : World} {K : Value → World → Prop} (h : value_Right.pt v0 w K) : Calls Try.prog F_value_Right #[v0] w (retK K) :=
  calls_FN (args := [v0]) Try.func53 (by kernel_rfl) (by rw [value_Right.pt_eq] at h; exact h)
theorem value_Right.up {v0 : Value} {w : World} {K : Value → World → Prop} (h : Calls Try.prog F_value_Right #[v0] w (retK K)) : upK Try.prog (sCall F_value_Right #[v0]) w K :=
  up_call (fn := Try.f53) Try.func53 (by kernel_rfl) (by kernel_rfl) h

/-- slices.Reverse[[]errata/api.Producer,errata/api.Producer] -/
def slices_Reverse_s_api_Producer_api_Producer.pt (s0 : Value) (w : World) (K : Value → World → Prop) : Prop :=
  readK Try.prog (sBlt .len #[T_s_api_Producer] T_int #[false] #[s0]) w fun t5 =>
  pureK Try.prog (sBin .sub T_int (.tmp 5) (.const (.int .i64 1)) t5 (.int .i64 1)) fun t6 =>
  LOOP (X := Value × Value × Unit) (fun x1 w1 next1 =>
   pureK Try.prog (sBin .lss T_int (.tmp 7) (.tmp 8) x1.1 x1.2.1) fun t9 =>
   ifB t9
   (pureK Try.prog (sIdxAddr T_s_api_Producer s0 x1.2.1) fun t20 =>
    readK Try.prog (sLoad T_api_Producer t20) (tick w1) fun t21 =>
    pureK Try.prog (sIdxAddr T_s_api_Producer s0 x1.1) fun t24 =>
    readK Try.prog (sLoad T_api_Producer t24) (tick w1) fun t25 =>
    pureK Try.prog (sIdxAddr T_s_api_Producer s0 x1.1) fun t26 =>
    upK Try.prog (sStore T_api_Producer t26 t21) (tick w1) fun tu w2 =>
    pureK Try.prog (sIdxAddr T_s_api_Producer s0 x1.2.1) fun t27 =>
    upK Try.prog (sStore T_api_Producer t27 t25) w2 fun tu_1 w3 =>
    pureK Try.prog (sBin .add T_int (.tmp 10) (.const (.int .i64 1)) x1.1 (.int .i64 1)) fun t11 =>
    pureK Try.prog (sBin .sub T_int (.tmp 12) (.const (.int .i64 1)) x1.2.1 (.int .i64 1)) fun t13 =>
    next1 (t11, t13, ()) w3)
   (K (.tuple #[]) w1))
  ((.int .i64 0), t6, ()) w
theorem slices_Reverse_s_api_Producer_api_Producer.pt_eq : slices_Reverse_s_api_Producer_api_Producer.pt = fun s0 w K => FN Try.prog Try.f54 (bodyOf Try.f54) [] .leaf [s0] w K := by kernel_rfl
theorem slices_Reverse_s_api_Producer_api_Producer.call {s0 : Value} {w : World} {K : Value → World → Prop} (h : slices_Reverse_s_api_Producer_api_Producer.pt s0 w K) : Calls Try.prog F_slices_Reverse_s_api_Producer_api_Producer #[s0] w (retK K) :=
  calls_FN (args := [s0]) Try.func54 (by kernel_rfl) (by rw [slices_Reverse_s_api_Producer_api_Producer.pt_eq] at h; exact h)
theorem slices_Reverse_s_api_Producer_api_Producer.up {s0 : Value} {w : World} {K : Value → World → Prop} (h : Calls Try.prog F_slices_Reverse_s_api_Producer_api_Producer #[s0] w (retK K)) : upK Try.prog (sCall F_slices_Reverse_s_api_Producer_api_Producer #[s0]) w K :=
  up_call (fn := Try.f54) Try.func54 (by kernel_rfl) (by kernel_rfl) h

/-- slices.IndexFunc[[]errata/api.Value,errata/api.Value] -/
def slices_IndexFunc_s_api_Value_api_Value.pt (s0 f1 : Value) (w : World) (K : Value → World → Prop) : Prop :=
  readK Try.prog (sBlt .len #[T_s_api_Value] T_int #[false] #[s0]) w fun t7 =>
  LOOP (X := Value × Unit) (fun x1 w1 next1 =>
   pureK Try.prog (sBin .lss T_int (.tmp 8) (.tmp 7) x1.1 t7) fun t9 =>
   ifB t9
   (pureK Try.prog (sIdxAddr T_s_api_Value s0 x1.1) fun t14 =>
    readK Try.prog (sLoad T_api_Value t14) w1 fun t15 =>
    upK Try.prog (sCallV f1 #[t15]) w1 fun t16 w2 =>
    ifB t16
    (K x1.1 w2)
    (pureK Try.prog (sBin .add T_int (.tmp 8) (.const (.int .i64 1)) x1.1 (.int .i64 1)) fun t18 =>
     next1 (t18, ()) w2))
   (K (.int .i64 (-1)) w1))
  ((.int .i64 0), ()) w
theorem slices_IndexFunc_s_api_Value_api_Value.pt_eq : slices_IndexFunc_s_api_Value_api_Value.pt = fun s0 f1 w K => FN Try.prog Try.f55 (bodyOf Try.f55) [4] .leaf [s0, f1] w K := by kernel_rfl
theorem slices_IndexFunc_s_api_Value_api_Value.call {s0 f1 : Value} {w : World} {K : Value → World → Prop} (h : slices_IndexFunc_s_api_Value_api_Value.pt s0 f1 w K) : Calls Try.prog F_slices_IndexFunc_s_api_Value_api_Value #[s0, f1] w (retK K) :=
  calls_FN (args := [s0, f1]) Try.func55 (by kernel_rfl) (by rw [slices_IndexFunc_s_api_Value_api_Value.pt_eq] at h; exact h)
theorem slices_IndexFunc_s_api_Value_api_Value.up {s0 f1 : Value} {w : World} {K : Value → World → Prop} (h : Calls Try.prog F_slices_IndexFunc_s_api_Value_api_Value #[s0, f1] w (retK K)) : upK Try.prog (sCall F_slices_IndexFunc_s_api_Value_api_Value #[s0, f1]) w K :=
  up_call (fn := Try.f55) Try.func55 (by kernel_rfl) (by kernel_rfl) h

/-- errata/value.Int -/
def value_Int.pt (n0 : Value) (w : World) (K : Value → World → Prop) : Prop :=
  upK Try.prog (sAlloc T_api_Value) w fun t2 w1 =>
  pureK Try.prog (sBuild T_api_Value #[(0, (.int .i64 0)), (1, n0)]) fun t4 =>
  upK Try.prog (sStore T_api_Value t2 t4) w1 fun tu w2 =>
  readV Try.prog (do loadVar T_api_Value (← asAddr t2)) w2 fun t2_1 =>
  K t2_1 w2
theorem value_Int.pt_eq : value_Int.pt = fun n0 w K => FN Try.prog Try.f56 (bodyOf Try.f56) [] .leaf [n0] w K := by kernel_rfl
theorem value_Int.call {n0 : Value} {w : World} {K : Value → World → Prop} (h : value_Int.pt n0 w K) : Calls Try.prog F_value_Int #[n0] w (retK K) :=
  calls_FN (args := [n0]) Try.func56 (by kernel_rfl) (by rw [value_Int.pt_eq] at h; exact h)
theorem value_Int.up {n0 : Value} {w : World} {K : Value → World → Prop} (h : Calls Try.prog F_value_Int #[n0] w (retK K)) : upK Try.prog (sCall F_value_Int #[n0]) w K :=
  up_call (fn := Try.f56) Try.func56 (by kernel_rfl) (by kernel_rfl) h

/-- errata/value.Text -/
def value_Text.pt (s0 : Value) (w : World) (K : Value → World → Prop) : Prop :=
  upK Try.prog (sAlloc T_api_Value) w fun t2 w1 =>
  pureK Try.prog (sBuild T_api_Value #[(0, (.int .i64 1)), (2, s0)]) fun t4 =>
  upK Try.prog (sStore T_api_Value t2 t4) w1 fun tu w2 =>
  readV Try.prog (do loadVar T_api_Value (← asAddr t2)) w2 fun t2_1 =>
  K t2_1 w2
theorem value_Text.pt_eq : value_Text.pt = fun s0 w K => FN Try.prog Try.f57 (bodyOf Try.f57) [] .leaf [s0] w K := by kernel_rfl
theorem value_Text.call {s0 : Value} {w : World} {K : Value → World → Prop} (h : value_Text.pt s0 w K) : Calls Try.prog F_value_Text #[s0] w (retK K) :=
  calls_FN (args := [s0]) Try.func57 (by kernel_rfl) (by rw [value_Text.pt_eq] at h; exact h)
theorem value_Text.up {s0 : Value} {w : World} {K : Value → World → Prop} (h : Calls Try.prog F_value_Text #[s0] w (retK K)) : upK Try.prog (sCall F_value_Text #[s0]) w K :=
  up_call (fn := Try.f57) Try.func57 (by kernel_rfl) (by kernel_rfl) h

/-- errata/value.Bool -/
def value_Bool.pt (b0 : Value) (w : World) (K : Value → World → Prop) : Prop :=
  upK Try.prog (sAlloc T_api_Value) w fun t2 w1 =>
  ifB b0
  (pureK Try.prog (sBuild T_api_Value #[(0, (.int .i64 2)), (1, (.int .i64 1))]) fun t4 =>
   upK Try.prog (sStore T_api_Value t2 t4) w1 fun tu w2 =>
   readV Try.prog (do loadVar T_api_Value (← asAddr t2)) w2 fun t2_1 =>
   K t2_1 w2)
  (pureK Try.prog (sBuild T_api_Value #[(0, (.int .i64 2))]) fun t5 =>
   upK Try.prog (sStore T_api_Value t2 t5) w1 fun tu_1 w3 =>
   readV Try.prog (do loadVar T_api_Value (← asAddr t2)) w3 fun t2_2 =>
   K t2_2 w3)
theorem value_Bool.pt_eq : value_Bool.pt = fun b0 w K => FN Try.prog Try.f58 (bodyOf Try.f58) [] .leaf [b0] w K := by kernel_rfl
theorem value_Bool.call {b0 : Value} {w : World} {K : Value → World → Prop} (h : value_Bool.pt b0 w K) : Calls Try.prog F_value_Bool #[b0] w (retK K) :=
  calls_FN (args := [b0]) Try.func58 (by kernel_rfl) (by rw [value_Bool.pt_eq] at h; exact h)
theorem value_Bool.up {b0 : Value} {w : World} {K : Value → World → Prop} (h : Calls Try.prog F_value_Bool #[b0] w (retK K)) : upK Try.prog (sCall F_value_Bool #[b0]) w K :=
  up_call (fn := Try.f58) Try.func58 (by kernel_rfl) (by kernel_rfl) h

end Go.Proofs.Ytefinemhfgdpdaa
