/-
  The reckoned conditions of the functions that this seat's statements reach, printed by program, each held against the translation by the kernel. No condition.
-/
import Derived.Test.YtmllhipiahlihaaGreatDoorNames
namespace Go.Proofs.YtmllhipiahlihaaGreatDoor
set_option linter.unusedVariables false
set_option maxRecDepth 100000

/-- errata/errataref01.Open -/
def errataref01_Open.pt (s0 : Value) (w : World) (K : Value → World → Prop) : Prop :=
  pureK Tryz.prog (sBuild T_errataref01_Reader #[(0, s0)]) fun t4 =>
  upK Tryz.prog (sBox T_errataref01_Reader t4) w fun t5 w1 =>
  K t5 w1
theorem errataref01_Open.pt_eq : errataref01_Open.pt = fun s0 w K => FN Tryz.prog Tryz.f53 (bodyOf Tryz.f53) [2] .leaf [s0] w K := by kernel_rfl
theorem errataref01_Open.call {s0 : Value} {w : World} {K : Value → World → Prop} (h : errataref01_Open.pt s0 w K) : Calls Tryz.prog F_errataref01_Open #[s0] w (retK K) :=
  calls_FN (args := [s0]) Tryz.func53 (by kernel_rfl) (by rw [errataref01_Open.pt_eq] at h; exact h)
theorem errataref01_Open.up {s0 : Value} {w : World} {K : Value → World → Prop} (h : Calls Tryz.prog F_errataref01_Open #[s0] w (retK K)) : upK Tryz.prog (sCall F_errataref01_Open #[s0]) w K :=
  up_call (fn := Tryz.f53) Tryz.func53 (by kernel_rfl) (by kernel_rfl) h

/-- (*errata/errataref01.Reader).Int -/
def errataref01_Reader_Int.pt (r0 : Value) (w : World) (K : Value → World → Prop) : Prop :=
  upK Tryz.prog (sCall F_errataref01_Reader_ahead #[r0, (.int .u8 59)]) w fun t4 w1 =>
  K t4 w1
theorem errataref01_Reader_Int.pt_eq : errataref01_Reader_Int.pt = fun r0 w K => FN Tryz.prog Tryz.f54 (bodyOf Tryz.f54) [2] .leaf [r0] w K := by kernel_rfl
theorem errataref01_Reader_Int.call {r0 : Value} {w : World} {K : Value → World → Prop} (h : errataref01_Reader_Int.pt r0 w K) : Calls Tryz.prog F_errataref01_Reader_Int #[r0] w (retK K) :=
  calls_FN (args := [r0]) Tryz.func54 (by kernel_rfl) (by rw [errataref01_Reader_Int.pt_eq] at h; exact h)
theorem errataref01_Reader_Int.up {r0 : Value} {w : World} {K : Value → World → Prop} (h : Calls Tryz.prog F_errataref01_Reader_Int #[r0] w (retK K)) : upK Tryz.prog (sCall F_errataref01_Reader_Int #[r0]) w K :=
  up_call (fn := Tryz.f54) Tryz.func54 (by kernel_rfl) (by kernel_rfl) h

/-- (*errata/errataref01.Reader).Num -/
def errataref01_Reader_Num.pt (r0 : Value) (w : World) (K : Value → World → Prop) : Prop :=
  upK Tryz.prog (sCall F_errataref01_Reader_number #[r0, (.int .u8 59)]) w fun t4 w1 =>
  K t4 w1
theorem errataref01_Reader_Num.pt_eq : errataref01_Reader_Num.pt = fun r0 w K => FN Tryz.prog Tryz.f55 (bodyOf Tryz.f55) [2] .leaf [r0] w K := by kernel_rfl
theorem errataref01_Reader_Num.call {r0 : Value} {w : World} {K : Value → World → Prop} (h : errataref01_Reader_Num.pt r0 w K) : Calls Tryz.prog F_errataref01_Reader_Num #[r0] w (retK K) :=
  calls_FN (args := [r0]) Tryz.func55 (by kernel_rfl) (by rw [errataref01_Reader_Num.pt_eq] at h; exact h)
theorem errataref01_Reader_Num.up {r0 : Value} {w : World} {K : Value → World → Prop} (h : Calls Tryz.prog F_errataref01_Reader_Num #[r0] w (retK K)) : upK Tryz.prog (sCall F_errataref01_Reader_Num #[r0]) w K :=
  up_call (fn := Tryz.f55) Tryz.func55 (by kernel_rfl) (by kernel_rfl) h

/-- (*errata/errataref01.Reader).Text -/
def errataref01_Reader_Text.pt (r0 : Value) (w : World) (K : Value → World → Prop) : Prop :=
  upK Tryz.prog (sCall F_errataref01_Reader_number #[r0, (.int .u8 58)]) w fun t6 w1 =>
  pureK Tryz.prog (sNil r0) fun t8 =>
  pureK Tryz.prog (sFieldAddr T_errataref01_Reader t8 1) fun t9 =>
  readK Tryz.prog (sLoad T_bool t9) w1 fun t10 =>
  ifB t10
  (upK Tryz.prog (sCall F_errataref01_Reader_fail #[r0]) w1 fun t21 w2 =>
   K (.string ⟨#[]⟩) w2)
  (pureK Tryz.prog (sNil r0) fun t14 =>
   pureK Tryz.prog (sFieldAddr T_errataref01_Reader t14 0) fun t15 =>
   readK Tryz.prog (sLoad T_string t15) w1 fun t16 =>
   readK Tryz.prog (sBlt .len #[T_string] T_int #[false] #[t16]) w1 fun t17 =>
   pureK Tryz.prog (sBin .geq T_int (.tmp 12) (.tmp 17) t6 t17) fun t18 =>
   ifB t18
   (upK Tryz.prog (sCall F_errataref01_Reader_fail #[r0]) w1 fun t21_1 w3 =>
    K (.string ⟨#[]⟩) w3)
   (pureK Tryz.prog (sNil r0) fun t23 =>
    pureK Tryz.prog (sFieldAddr T_errataref01_Reader t23 0) fun t24 =>
    readK Tryz.prog (sLoad T_string t24) w1 fun t25 =>
    pureK Tryz.prog (sSlice T_string t25 none (some t6) none) fun t27 =>
    pureK Tryz.prog (sNil r0) fun t30 =>
    pureK Tryz.prog (sFieldAddr T_errataref01_Reader t30 0) fun t31 =>
    readK Tryz.prog (sLoad T_string t31) w1 fun t32 =>
    pureK Tryz.prog (sSlice T_string t32 (some t6) none none) fun t34 =>
    pureK Tryz.prog (sNil r0) fun t35 =>
    pureK Tryz.prog (sFieldAddr T_errataref01_Reader t35 0) fun t36 =>
    upK Tryz.prog (sStore T_string t36 t34) w1 fun tu w4 =>
    upK Tryz.prog (sCall F_errataref01_Reader_close #[r0, (.int .u8 44)]) w4 fun t38 w5 =>
    pureK Tryz.prog (sUn .not t38) fun t39 =>
    ifB t39
    (K (.string ⟨#[]⟩) w5)
    (K t27 w5)))
theorem errataref01_Reader_Text.pt_eq : errataref01_Reader_Text.pt = fun r0 w K => FN Tryz.prog Tryz.f56 (bodyOf Tryz.f56) [2] .leaf [r0] w K := by kernel_rfl
theorem errataref01_Reader_Text.call {r0 : Value} {w : World} {K : Value → World → Prop} (h : errataref01_Reader_Text.pt r0 w K) : Calls Tryz.prog F_errataref01_Reader_Text #[r0] w (retK K) :=
  calls_FN (args := [r0]) Tryz.func56 (by kernel_rfl) (by rw [errataref01_Reader_Text.pt_eq] at h; exact h)
theorem errataref01_Reader_Text.up {r0 : Value} {w : World} {K : Value → World → Prop} (h : Calls Tryz.prog F_errataref01_Reader_Text #[r0] w (retK K)) : upK Tryz.prog (sCall F_errataref01_Reader_Text #[r0]) w K :=
  up_call (fn := Tryz.f56) Tryz.func56 (by kernel_rfl) (by kernel_rfl) h

/-- errata/errataref03.ReadRow -/
def errataref03_ReadRow.pt (s0 : Value) (w : World) (K : Value → World → Prop) : Prop :=
  upK Tryz.prog (sCall F_errataref01_Open #[s0]) w fun t10 w1 =>
  upK Tryz.prog (sCall F_errataref01_Reader_Num #[t10]) w1 fun t12 w2 =>
  LETJ (X := Value × Unit) (fun jv1 w3 =>
   upK Tryz.prog (sCall F_errataref01_Reader_Done #[t10]) w3 fun t39 w4 =>
   pureK Tryz.prog (sUn .not t39) fun t40 =>
   ifB t40
   (K (.tuple #[(.slice none 0 0), (.bool false)]) w4)
   (readK Tryz.prog (sBlt .len #[T_s_api_Value] T_int #[false] #[jv1.1]) w4 fun t43 =>
    pureK Tryz.prog (sBin .neq T_int (.tmp 43) (.tmp 44) t43 t12) fun t45 =>
    ifB t45
    (K (.tuple #[(.slice none 0 0), (.bool false)]) w4)
    (K (.tuple #[jv1.1, (.bool true)]) w4)))
  (fun J1 =>
   LOOP (X := Value × Value × Unit) (fun lv5 w5 next5 =>
    pureK Tryz.prog (sBin .lss T_int (.tmp 13) (.tmp 14) lv5.2.1 t12) fun t15 =>
    ifB t15
    (readK Tryz.prog (sBlt .len #[T_string] T_int #[false] #[s0]) w5 fun t19 =>
     pureK Tryz.prog (sBin .lss T_int (.tmp 17) (.tmp 19) lv5.2.1 t19) fun t20 =>
     ifB t20
     (pureK Tryz.prog (sBuild T_api_Value #[]) fun t24 =>
      upK Tryz.prog (sAlloc T_api_Value) w5 fun v8 w6 =>
      upK Tryz.prog (sStore T_api_Value v8 t24) w6 fun tu w7 =>
      upK Tryz.prog (sCall F_errataref01_Reader_Int #[t10]) w7 fun t26 w8 =>
      pureK Tryz.prog (sFieldAddr T_api_Value v8 0) fun t27 =>
      upK Tryz.prog (sStore T_int t27 t26) w8 fun tu_1 w9 =>
      upK Tryz.prog (sCall F_errataref01_Reader_Int #[t10]) w9 fun t29 w10 =>
      pureK Tryz.prog (sFieldAddr T_api_Value v8 1) fun t30 =>
      upK Tryz.prog (sStore T_int t30 t29) w10 fun tu_2 w11 =>
      upK Tryz.prog (sCall F_errataref01_Reader_Text #[t10]) w11 fun t32 w12 =>
      pureK Tryz.prog (sFieldAddr T_api_Value v8 2) fun t33 =>
      upK Tryz.prog (sStore T_string t33 t32) w12 fun tu_3 w13 =>
      readK Tryz.prog (sLoad T_api_Value v8) w13 fun t35 =>
      upK Tryz.prog (sBuildSlice T_s_api_Value 1 #[(0, t35)]) w13 fun t36 w14 =>
      upK Tryz.prog (sBlt .append #[T_s_api_Value, T_s_api_Value] T_s_api_Value #[false, false] #[lv5.1, t36]) w14 fun t37 w15 =>
      pureK Tryz.prog (sBin .add T_int (.tmp 22) (.const (.int .i64 1)) lv5.2.1 (.int .i64 1)) fun t23 =>
      next5 (t37, t23, ()) w15)
     (J1 (lv5.1, ()) w5))
    (J1 (lv5.1, ()) w5))
   ((.slice none 0 0), (.int .i64 0), ()) w2)
theorem errataref03_ReadRow.pt_eq : errataref03_ReadRow.pt = fun s0 w K => FN Tryz.prog Tryz.f57 (bodyOf Tryz.f57) [2, 3] (.node none .leaf (.node none .leaf (.node none .leaf (.node none .leaf (.node (some [6]) .leaf .leaf))))) [s0] w K := by kernel_rfl
theorem errataref03_ReadRow.call {s0 : Value} {w : World} {K : Value → World → Prop} (h : errataref03_ReadRow.pt s0 w K) : Calls Tryz.prog F_errataref03_ReadRow #[s0] w (retK K) :=
  calls_FN (args := [s0]) Tryz.func57 (by kernel_rfl) (by rw [errataref03_ReadRow.pt_eq] at h; exact h)
theorem errataref03_ReadRow.up {s0 : Value} {w : World} {K : Value → World → Prop} (h : Calls Tryz.prog F_errataref03_ReadRow #[s0] w (retK K)) : upK Tryz.prog (sCall F_errataref03_ReadRow #[s0]) w K :=
  up_call (fn := Tryz.f57) Tryz.func57 (by kernel_rfl) (by kernel_rfl) h

/-- (*errata/errataref01.Reader).Done -/
def errataref01_Reader_Done.pt (r0 : Value) (w : World) (K : Value → World → Prop) : Prop :=
  pureK Tryz.prog (sNil r0) fun t4 =>
  pureK Tryz.prog (sFieldAddr T_errataref01_Reader t4 1) fun t5 =>
  readK Tryz.prog (sLoad T_bool t5) w fun t6 =>
  pureK Tryz.prog (sUn .not t6) fun t7 =>
  ifB t7
  (pureK Tryz.prog (sNil r0) fun t10 =>
   pureK Tryz.prog (sFieldAddr T_errataref01_Reader t10 0) fun t11 =>
   readK Tryz.prog (sLoad T_string t11) w fun t12 =>
   pureK Tryz.prog (sBin .eql T_string (.tmp 12) (.const (.string ⟨#[]⟩)) t12 (.string ⟨#[]⟩)) fun t13 =>
   K t13 w)
  (K (.bool false) w)
theorem errataref01_Reader_Done.pt_eq : errataref01_Reader_Done.pt = fun r0 w K => FN Tryz.prog Tryz.f58 (bodyOf Tryz.f58) [2] .leaf [r0] w K := by kernel_rfl
theorem errataref01_Reader_Done.call {r0 : Value} {w : World} {K : Value → World → Prop} (h : errataref01_Reader_Done.pt r0 w K) : Calls Tryz.prog F_errataref01_Reader_Done #[r0] w (retK K) :=
  calls_FN (args := [r0]) Tryz.func58 (by kernel_rfl) (by rw [errataref01_Reader_Done.pt_eq] at h; exact h)
theorem errataref01_Reader_Done.up {r0 : Value} {w : World} {K : Value → World → Prop} (h : Calls Tryz.prog F_errataref01_Reader_Done #[r0] w (retK K)) : upK Tryz.prog (sCall F_errataref01_Reader_Done #[r0]) w K :=
  up_call (fn := Tryz.f58) Tryz.func58 (by kernel_rfl) (by kernel_rfl) h

/-- errata/errataref01.Int -/
def errataref01_Int.pt (n0 : Value) (w : World) (K : Value → World → Prop) : Prop :=
  pureK Tryz.prog (sBin .lss T_int (.tmp 3) (.const (.int .i64 0)) n0 (.int .i64 0)) fun t4 =>
  ifB t4
  (upK Tryz.prog (sCall F_errataref01_digits #[n0]) w fun t6 w1 =>
   pureK Tryz.prog (sBin .add T_string (.const (.string ⟨#[45]⟩)) (.tmp 6) (.string ⟨#[45]⟩) t6) fun t7 =>
   pureK Tryz.prog (sBin .add T_string (.tmp 7) (.const (.string ⟨#[59]⟩)) t7 (.string ⟨#[59]⟩)) fun t8 =>
   K t8 w1)
  (pureK Tryz.prog (sUn .neg n0) fun t10 =>
   upK Tryz.prog (sCall F_errataref01_digits #[t10]) w fun t11 w2 =>
   pureK Tryz.prog (sBin .add T_string (.tmp 11) (.const (.string ⟨#[59]⟩)) t11 (.string ⟨#[59]⟩)) fun t12 =>
   K t12 w2)
theorem errataref01_Int.pt_eq : errataref01_Int.pt = fun n0 w K => FN Tryz.prog Tryz.f59 (bodyOf Tryz.f59) [2] .leaf [n0] w K := by kernel_rfl
theorem errataref01_Int.call {n0 : Value} {w : World} {K : Value → World → Prop} (h : errataref01_Int.pt n0 w K) : Calls Tryz.prog F_errataref01_Int #[n0] w (retK K) :=
  calls_FN (args := [n0]) Tryz.func59 (by kernel_rfl) (by rw [errataref01_Int.pt_eq] at h; exact h)
theorem errataref01_Int.up {n0 : Value} {w : World} {K : Value → World → Prop} (h : Calls Tryz.prog F_errataref01_Int #[n0] w (retK K)) : upK Tryz.prog (sCall F_errataref01_Int #[n0]) w K :=
  up_call (fn := Tryz.f59) Tryz.func59 (by kernel_rfl) (by kernel_rfl) h

/-- errata/errataref01.Num -/
def errataref01_Num.pt (n0 : Value) (w : World) (K : Value → World → Prop) : Prop :=
  pureK Tryz.prog (sBin .lss T_int (.tmp 3) (.const (.int .i64 0)) n0 (.int .i64 0)) fun t4 =>
  ifB t4
  (K (.string ⟨#[]⟩) w)
  (upK Tryz.prog (sCall F_errataref01_Int #[n0]) w fun t6 w1 =>
   K t6 w1)
theorem errataref01_Num.pt_eq : errataref01_Num.pt = fun n0 w K => FN Tryz.prog Tryz.f60 (bodyOf Tryz.f60) [2] .leaf [n0] w K := by kernel_rfl
theorem errataref01_Num.call {n0 : Value} {w : World} {K : Value → World → Prop} (h : errataref01_Num.pt n0 w K) : Calls Tryz.prog F_errataref01_Num #[n0] w (retK K) :=
  calls_FN (args := [n0]) Tryz.func60 (by kernel_rfl) (by rw [errataref01_Num.pt_eq] at h; exact h)
theorem errataref01_Num.up {n0 : Value} {w : World} {K : Value → World → Prop} (h : Calls Tryz.prog F_errataref01_Num #[n0] w (retK K)) : upK Tryz.prog (sCall F_errataref01_Num #[n0]) w K :=
  up_call (fn := Tryz.f60) Tryz.func60 (by kernel_rfl) (by kernel_rfl) h

/-- errata/errataref01.Text -/
def errataref01_Text.pt (s0 : Value) (w : World) (K : Value → World → Prop) : Prop :=
  readK Tryz.prog (sBlt .len #[T_string] T_int #[false] #[s0]) w fun t4 =>
  pureK Tryz.prog (sUn .neg t4) fun t5 =>
  upK Tryz.prog (sCall F_errataref01_digits #[t5]) w fun t6 w1 =>
  pureK Tryz.prog (sBin .add T_string (.tmp 6) (.const (.string ⟨#[58]⟩)) t6 (.string ⟨#[58]⟩)) fun t7 =>
  pureK Tryz.prog (sBin .add T_string (.tmp 7) (.tmp 8) t7 s0) fun t9 =>
  pureK Tryz.prog (sBin .add T_string (.tmp 9) (.const (.string ⟨#[44]⟩)) t9 (.string ⟨#[44]⟩)) fun t10 =>
  K t10 w1
theorem errataref01_Text.pt_eq : errataref01_Text.pt = fun s0 w K => FN Tryz.prog Tryz.f61 (bodyOf Tryz.f61) [2] .leaf [s0] w K := by kernel_rfl
theorem errataref01_Text.call {s0 : Value} {w : World} {K : Value → World → Prop} (h : errataref01_Text.pt s0 w K) : Calls Tryz.prog F_errataref01_Text #[s0] w (retK K) :=
  calls_FN (args := [s0]) Tryz.func61 (by kernel_rfl) (by rw [errataref01_Text.pt_eq] at h; exact h)
theorem errataref01_Text.up {s0 : Value} {w : World} {K : Value → World → Prop} (h : Calls Tryz.prog F_errataref01_Text #[s0] w (retK K)) : upK Tryz.prog (sCall F_errataref01_Text #[s0]) w K :=
  up_call (fn := Tryz.f61) Tryz.func61 (by kernel_rfl) (by kernel_rfl) h

/-- errata/errataref03.RowBytes -/
def errataref03_RowBytes.pt (r0 : Value) (w : World) (K : Value → World → Prop) : Prop :=
  readK Tryz.prog (sBlt .len #[T_s_api_Value] T_int #[false] #[r0]) w fun t6 =>
  upK Tryz.prog (sCall F_errataref01_Num #[t6]) w fun t7 w1 =>
  LOOP (X := Value × Value × Unit) (fun lv2 w2 next2 =>
   readK Tryz.prog (sBlt .len #[T_s_api_Value] T_int #[false] #[r0]) w2 fun t10 =>
   pureK Tryz.prog (sBin .lss T_int (.tmp 8) (.tmp 10) lv2.2.1 t10) fun t11 =>
   ifB t11
   (pureK Tryz.prog (sIdxAddr T_s_api_Value r0 lv2.2.1) fun t17 =>
    readK Tryz.prog (sLoad T_api_Value t17) w2 fun t18 =>
    upK Tryz.prog (sCall F_errataref03_Bytes #[t18]) w2 fun t19 w3 =>
    pureK Tryz.prog (sBin .add T_string (.tmp 14) (.tmp 19) lv2.1 t19) fun t20 =>
    pureK Tryz.prog (sBin .add T_int (.tmp 12) (.const (.int .i64 1)) lv2.2.1 (.int .i64 1)) fun t13 =>
    next2 (t20, t13, ()) w3)
   (K lv2.1 w2))
  (t7, (.int .i64 0), ()) w1
theorem errataref03_RowBytes.pt_eq : errataref03_RowBytes.pt = fun r0 w K => FN Tryz.prog Tryz.f62 (bodyOf Tryz.f62) [2] .leaf [r0] w K := by kernel_rfl
theorem errataref03_RowBytes.call {r0 : Value} {w : World} {K : Value → World → Prop} (h : errataref03_RowBytes.pt r0 w K) : Calls Tryz.prog F_errataref03_RowBytes #[r0] w (retK K) :=
  calls_FN (args := [r0]) Tryz.func62 (by kernel_rfl) (by rw [errataref03_RowBytes.pt_eq] at h; exact h)
theorem errataref03_RowBytes.up {r0 : Value} {w : World} {K : Value → World → Prop} (h : Calls Tryz.prog F_errataref03_RowBytes #[r0] w (retK K)) : upK Tryz.prog (sCall F_errataref03_RowBytes #[r0]) w K :=
  up_call (fn := Tryz.f62) Tryz.func62 (by kernel_rfl) (by kernel_rfl) h

/-- errata/errataref03.Same -/
def errataref03_Same.pt (a0 b1 : Value) (w : World) (K : Value → World → Prop) : Prop :=
  upK Tryz.prog (sCall F_errataref03_CompareRows #[a0, b1]) w fun t7 w1 =>
  pureK Tryz.prog (sBin .eql T_int (.tmp 7) (.const (.int .i64 0)) t7 (.int .i64 0)) fun t8 =>
  K t8 w1
theorem errataref03_Same.pt_eq : errataref03_Same.pt = fun a0 b1 w K => FN Tryz.prog Tryz.f63 (bodyOf Tryz.f63) [4] .leaf [a0, b1] w K := by kernel_rfl
theorem errataref03_Same.call {a0 b1 : Value} {w : World} {K : Value → World → Prop} (h : errataref03_Same.pt a0 b1 w K) : Calls Tryz.prog F_errataref03_Same #[a0, b1] w (retK K) :=
  calls_FN (args := [a0, b1]) Tryz.func63 (by kernel_rfl) (by rw [errataref03_Same.pt_eq] at h; exact h)
theorem errataref03_Same.up {a0 b1 : Value} {w : World} {K : Value → World → Prop} (h : Calls Tryz.prog F_errataref03_Same #[a0, b1] w (retK K)) : upK Tryz.prog (sCall F_errataref03_Same #[a0, b1]) w K :=
  up_call (fn := Tryz.f63) Tryz.func63 (by kernel_rfl) (by kernel_rfl) h

/-- errata/retain.copied[errata/api.Event] -/
def retain_copied_api_Event.pt (l0 f1 : Value) (w : World) (K : Value → World → Prop) : Prop :=
  readK Tryz.prog (sBlt .len #[T_s_api_Event] T_int #[false] #[l0]) w fun t9 =>
  upK Tryz.prog (sMkSlice T_s_api_Event (.int .i64 0) t9) w fun t10 w1 =>
  readK Tryz.prog (sBlt .len #[T_s_api_Event] T_int #[false] #[l0]) w1 fun t12 =>
  LOOP (X := Value × Value × Unit) (fun lv2 w2 next2 =>
   pureK Tryz.prog (sBin .lss T_int (.tmp 13) (.tmp 12) lv2.2.1 t12) fun t14 =>
   ifB t14
   (pureK Tryz.prog (sIdxAddr T_s_api_Event l0 lv2.2.1) fun t15 =>
    readK Tryz.prog (sLoad T_api_Event t15) w2 fun t16 =>
    upK Tryz.prog (sAlloc T_api_Event) w2 fun x7 w3 =>
    upK Tryz.prog (sStore T_api_Event x7 t16) w3 fun tu w4 =>
    readK Tryz.prog (sLoad T_api_Event x7) w4 fun t19 =>
    upK Tryz.prog (sCallV f1 #[t19]) w4 fun t20 w5 =>
    upK Tryz.prog (sBuildSlice T_s_api_Event 1 #[(0, t20)]) w5 fun t21 w6 =>
    upK Tryz.prog (sBlt .append #[T_s_api_Event, T_s_api_Event] T_s_api_Event #[false, false] #[lv2.1, t21]) w6 fun t22 w7 =>
    pureK Tryz.prog (sBin .add T_int (.tmp 13) (.const (.int .i64 1)) lv2.2.1 (.int .i64 1)) fun t23 =>
    next2 (t22, t23, ()) w7)
   (K lv2.1 w2))
  (t10, (.int .i64 0), ()) w1
theorem retain_copied_api_Event.pt_eq : retain_copied_api_Event.pt = fun l0 f1 w K => FN Tryz.prog Tryz.f64 (bodyOf Tryz.f64) [4] .leaf [l0, f1] w K := by kernel_rfl
theorem retain_copied_api_Event.call {l0 f1 : Value} {w : World} {K : Value → World → Prop} (h : retain_copied_api_Event.pt l0 f1 w K) : Calls Tryz.prog F_retain_copied_api_Event #[l0, f1] w (retK K) :=
  calls_FN (args := [l0, f1]) Tryz.func64 (by kernel_rfl) (by rw [retain_copied_api_Event.pt_eq] at h; exact h)
theorem retain_copied_api_Event.up {l0 f1 : Value} {w : World} {K : Value → World → Prop} (h : Calls Tryz.prog F_retain_copied_api_Event #[l0, f1] w (retK K)) : upK Tryz.prog (sCall F_retain_copied_api_Event #[l0, f1]) w K :=
  up_call (fn := Tryz.f64) Tryz.func64 (by kernel_rfl) (by kernel_rfl) h

/-- errata/value.all -/
def value_all.pt (r0 : Value) (w : World) (K : Value → World → Prop) : Prop :=
  upK Tryz.prog (sCall F_slices_ContainsFunc_s_api_Value_api_Value #[r0, (.func (.func 85) #[] #[])]) w fun t4 w1 =>
  pureK Tryz.prog (sUn .not t4) fun t5 =>
  K t5 w1
theorem value_all.pt_eq : value_all.pt = fun r0 w K => FN Tryz.prog Tryz.f65 (bodyOf Tryz.f65) [2] .leaf [r0] w K := by kernel_rfl
theorem value_all.call {r0 : Value} {w : World} {K : Value → World → Prop} (h : value_all.pt r0 w K) : Calls Tryz.prog F_value_all #[r0] w (retK K) :=
  calls_FN (args := [r0]) Tryz.func65 (by kernel_rfl) (by rw [value_all.pt_eq] at h; exact h)
theorem value_all.up {r0 : Value} {w : World} {K : Value → World → Prop} (h : Calls Tryz.prog F_value_all #[r0] w (retK K)) : upK Tryz.prog (sCall F_value_all #[r0]) w K :=
  up_call (fn := Tryz.f65) Tryz.func65 (by kernel_rfl) (by kernel_rfl) h

/-- slices.Clone[[]errata/api.Value,errata/api.Value] -/
def slices_Clone_s_api_Value_api_Value.pt (s0 : Value) (w : World) (K : Value → World → Prop) : Prop :=
  pureK Tryz.prog (sBin .eql T_s_api_Value (.tmp 3) (.const (.slice none 0 0)) s0 (.slice none 0 0)) fun t4 =>
  ifB t4
  (K (.slice none 0 0) w)
  (upK Tryz.prog (sBuildSlice T_s_api_Value 0 #[]) w fun t5 w1 =>
   upK Tryz.prog (sBlt .append #[T_s_api_Value, T_s_api_Value] T_s_api_Value #[false, false] #[t5, s0]) w1 fun t7 w2 =>
   K t7 w2)
theorem slices_Clone_s_api_Value_api_Value.pt_eq : slices_Clone_s_api_Value_api_Value.pt = fun s0 w K => FN Tryz.prog Tryz.f66 (bodyOf Tryz.f66) [2] .leaf [s0] w K := by kernel_rfl
theorem slices_Clone_s_api_Value_api_Value.call {s0 : Value} {w : World} {K : Value → World → Prop} (h : slices_Clone_s_api_Value_api_Value.pt s0 w K) : Calls Tryz.prog F_slices_Clone_s_api_Value_api_Value #[s0] w (retK K) :=
  calls_FN (args := [s0]) Tryz.func66 (by kernel_rfl) (by rw [slices_Clone_s_api_Value_api_Value.pt_eq] at h; exact h)
theorem slices_Clone_s_api_Value_api_Value.up {s0 : Value} {w : World} {K : Value → World → Prop} (h : Calls Tryz.prog F_slices_Clone_s_api_Value_api_Value #[s0] w (retK K)) : upK Tryz.prog (sCall F_slices_Clone_s_api_Value_api_Value #[s0]) w K :=
  up_call (fn := Tryz.f66) Tryz.func66 (by kernel_rfl) (by kernel_rfl) h

/-- errata/errataref03.All -/
def errataref03_All.pt (r0 : Value) (w : World) (K : Value → World → Prop) : Prop :=
  LOOP (X := Value × Unit) (fun lv1 w1 next1 =>
   readK Tryz.prog (sBlt .len #[T_s_api_Value] T_int #[false] #[r0]) w1 fun t6 =>
   pureK Tryz.prog (sBin .lss T_int (.tmp 4) (.tmp 6) lv1.1 t6) fun t7 =>
   ifB t7
   (pureK Tryz.prog (sIdxAddr T_s_api_Value r0 lv1.1) fun t12 =>
    readK Tryz.prog (sLoad T_api_Value t12) w1 fun t13 =>
    upK Tryz.prog (sCall F_errataref03_Right #[t13]) w1 fun t14 w2 =>
    pureK Tryz.prog (sUn .not t14) fun t15 =>
    ifB t15
    (K (.bool false) w2)
    (pureK Tryz.prog (sBin .add T_int (.tmp 8) (.const (.int .i64 1)) lv1.1 (.int .i64 1)) fun t9 =>
     next1 (t9, ()) w2))
   (K (.bool true) w1))
  ((.int .i64 0), ()) w
theorem errataref03_All.pt_eq : errataref03_All.pt = fun r0 w K => FN Tryz.prog Tryz.f67 (bodyOf Tryz.f67) [2] .leaf [r0] w K := by kernel_rfl
theorem errataref03_All.call {r0 : Value} {w : World} {K : Value → World → Prop} (h : errataref03_All.pt r0 w K) : Calls Tryz.prog F_errataref03_All #[r0] w (retK K) :=
  calls_FN (args := [r0]) Tryz.func67 (by kernel_rfl) (by rw [errataref03_All.pt_eq] at h; exact h)
theorem errataref03_All.up {r0 : Value} {w : World} {K : Value → World → Prop} (h : Calls Tryz.prog F_errataref03_All #[r0] w (retK K)) : upK Tryz.prog (sCall F_errataref03_All #[r0]) w K :=
  up_call (fn := Tryz.f67) Tryz.func67 (by kernel_rfl) (by kernel_rfl) h

/-- slices.Clone[[]errata/api.Event,errata/api.Event] -/
def slices_Clone_s_api_Event_api_Event.pt (s0 : Value) (w : World) (K : Value → World → Prop) : Prop :=
  pureK Tryz.prog (sBin .eql T_s_api_Event (.tmp 3) (.const (.slice none 0 0)) s0 (.slice none 0 0)) fun t4 =>
  ifB t4
  (K (.slice none 0 0) w)
  (upK Tryz.prog (sBuildSlice T_s_api_Event 0 #[]) w fun t5 w1 =>
   upK Tryz.prog (sBlt .append #[T_s_api_Event, T_s_api_Event] T_s_api_Event #[false, false] #[t5, s0]) w1 fun t7 w2 =>
   K t7 w2)
theorem slices_Clone_s_api_Event_api_Event.pt_eq : slices_Clone_s_api_Event_api_Event.pt = fun s0 w K => FN Tryz.prog Tryz.f68 (bodyOf Tryz.f68) [2] .leaf [s0] w K := by kernel_rfl
theorem slices_Clone_s_api_Event_api_Event.call {s0 : Value} {w : World} {K : Value → World → Prop} (h : slices_Clone_s_api_Event_api_Event.pt s0 w K) : Calls Tryz.prog F_slices_Clone_s_api_Event_api_Event #[s0] w (retK K) :=
  calls_FN (args := [s0]) Tryz.func68 (by kernel_rfl) (by rw [slices_Clone_s_api_Event_api_Event.pt_eq] at h; exact h)
theorem slices_Clone_s_api_Event_api_Event.up {s0 : Value} {w : World} {K : Value → World → Prop} (h : Calls Tryz.prog F_slices_Clone_s_api_Event_api_Event #[s0] w (retK K)) : upK Tryz.prog (sCall F_slices_Clone_s_api_Event_api_Event #[s0]) w K :=
  up_call (fn := Tryz.f68) Tryz.func68 (by kernel_rfl) (by kernel_rfl) h

/-- (*errata/wire.Reader).number -/
def wire_Reader_number.pt (r0 end1 least2 : Value) (w : World) (K : Value → World → Prop) : Prop :=
  pureK Tryz.prog (sNil r0) fun t12 =>
  pureK Tryz.prog (sFieldAddr T_wire_Reader t12 0) fun t13 =>
  readK Tryz.prog (sLoad T_string t13) (tick w) fun t14 =>
  pureK Tryz.prog (sNil r0) fun t16 =>
  pureK Tryz.prog (sFieldAddr T_wire_Reader t16 0) fun t17 =>
  readK Tryz.prog (sLoad T_string t17) (tick w) fun t18 =>
  readK Tryz.prog (sBlt .len #[T_string] T_int #[false] #[t18]) (tick w) fun t19 =>
  pureK Tryz.prog (sBlt .min #[T_int, T_int] T_int #[false, true] #[t19, (.int .i64 21)]) fun t20 =>
  pureK Tryz.prog (sSlice T_string t14 none (some t20) none) fun t21 =>
  upK Tryz.prog (sCall F_strings_IndexByte #[t21, end1]) (tick w) fun t24 w1 =>
  pureK Tryz.prog (sBin .lss T_int (.tmp 25) (.const (.int .i64 0)) t24 (.int .i64 0)) fun t26 =>
  ifB t26
  (upK Tryz.prog (sCall F_wire_Reader_fail #[r0]) w1 fun t28 w2 =>
   K (.int .i64 0) w2)
  (pureK Tryz.prog (sSlice T_string t21 none (some t24) none) fun t32 =>
   upK Tryz.prog (sCall F_strconv_Atoi #[t32]) w1 fun t33 w3 =>
   pureK Tryz.prog (sExtract t33 0) fun t34 =>
   pureK Tryz.prog (sExtract t33 1) fun t35 =>
   pureK Tryz.prog (sBin .neq T_error (.tmp 36) (.const .nilIface) t35 .nilIface) fun t37 =>
   ifB t37
   (upK Tryz.prog (sCall F_wire_Reader_fail #[r0]) (tick w3) fun t52 w4 =>
    K (.int .i64 0) w4)
   (pureK Tryz.prog (sSlice T_string t21 none (some t24) none) fun t43 =>
    upK Tryz.prog (sCall F_strconv_Itoa #[t34]) (tick w3) fun t40 w5 =>
    pureK Tryz.prog (sBin .neq T_string (.tmp 40) (.tmp 43) t40 t43) fun t44 =>
    ifB t44
    (upK Tryz.prog (sCall F_wire_Reader_fail #[r0]) w5 fun t52_1 w6 =>
     K (.int .i64 0) w6)
    (pureK Tryz.prog (sBin .lss T_int (.tmp 47) (.tmp 48) t34 least2) fun t49 =>
     ifB t49
     (upK Tryz.prog (sCall F_wire_Reader_fail #[r0]) w5 fun t52_2 w7 =>
      K (.int .i64 0) w7)
     (pureK Tryz.prog (sNil r0) fun t55 =>
      pureK Tryz.prog (sFieldAddr T_wire_Reader t55 0) fun t56 =>
      readK Tryz.prog (sLoad T_string t56) w5 fun t57 =>
      pureK Tryz.prog (sBin .add T_int (.tmp 58) (.const (.int .i64 1)) t24 (.int .i64 1)) fun t59 =>
      pureK Tryz.prog (sSlice T_string t57 (some t59) none none) fun t60 =>
      pureK Tryz.prog (sNil r0) fun t61 =>
      pureK Tryz.prog (sFieldAddr T_wire_Reader t61 0) fun t62 =>
      upK Tryz.prog (sStore T_string t62 t60) w5 fun tu w8 =>
      K t34 w8))))
theorem wire_Reader_number.pt_eq : wire_Reader_number.pt = fun r0 end1 least2 w K => FN Tryz.prog Tryz.f69 (bodyOf Tryz.f69) [6] .leaf [r0, end1, least2] w K := by kernel_rfl
theorem wire_Reader_number.call {r0 end1 least2 : Value} {w : World} {K : Value → World → Prop} (h : wire_Reader_number.pt r0 end1 least2 w K) : Calls Tryz.prog F_wire_Reader_number #[r0, end1, least2] w (retK K) :=
  calls_FN (args := [r0, end1, least2]) Tryz.func69 (by kernel_rfl) (by rw [wire_Reader_number.pt_eq] at h; exact h)
theorem wire_Reader_number.up {r0 end1 least2 : Value} {w : World} {K : Value → World → Prop} (h : Calls Tryz.prog F_wire_Reader_number #[r0, end1, least2] w (retK K)) : upK Tryz.prog (sCall F_wire_Reader_number #[r0, end1, least2]) w K :=
  up_call (fn := Tryz.f69) Tryz.func69 (by kernel_rfl) (by kernel_rfl) h

/-- (*errata/wire.Reader).fail -/
def wire_Reader_fail.pt (r0 : Value) (w : World) (K : Value → World → Prop) : Prop :=
  pureK Tryz.prog (sNil r0) fun t4 =>
  pureK Tryz.prog (sFieldAddr T_wire_Reader t4 0) fun t5 =>
  upK Tryz.prog (sStore T_string t5 (.string ⟨#[]⟩)) w fun tu w1 =>
  pureK Tryz.prog (sNil r0) fun t6 =>
  pureK Tryz.prog (sFieldAddr T_wire_Reader t6 1) fun t7 =>
  upK Tryz.prog (sStore T_bool t7 (.bool true)) w1 fun tu_1 w2 =>
  K (.tuple #[]) w2
theorem wire_Reader_fail.pt_eq : wire_Reader_fail.pt = fun r0 w K => FN Tryz.prog Tryz.f70 (bodyOf Tryz.f70) [] .leaf [r0] w K := by kernel_rfl
theorem wire_Reader_fail.call {r0 : Value} {w : World} {K : Value → World → Prop} (h : wire_Reader_fail.pt r0 w K) : Calls Tryz.prog F_wire_Reader_fail #[r0] w (retK K) :=
  calls_FN (args := [r0]) Tryz.func70 (by kernel_rfl) (by rw [wire_Reader_fail.pt_eq] at h; exact h)
theorem wire_Reader_fail.up {r0 : Value} {w : World} {K : Value → World → Prop} (h : Calls Tryz.prog F_wire_Reader_fail #[r0] w (retK K)) : upK Tryz.prog (sCall F_wire_Reader_fail #[r0]) w K :=
  up_call (fn := Tryz.f70) Tryz.func70 (by kernel_rfl) (by kernel_rfl) h

/-- (*errata/wire.Reader).close -/
def wire_Reader_close.pt (r0 end1 : Value) (w : World) (K : Value → World → Prop) : Prop :=
  pureK Tryz.prog (sNil r0) fun t8 =>
  pureK Tryz.prog (sFieldAddr T_wire_Reader t8 0) fun t9 =>
  readK Tryz.prog (sLoad T_string t9) w fun t10 =>
  upK Tryz.prog (sCall F_strings_CutPrefix #[t10, end1]) w fun t12 w1 =>
  pureK Tryz.prog (sExtract t12 0) fun t13 =>
  pureK Tryz.prog (sExtract t12 1) fun t14 =>
  pureK Tryz.prog (sNil r0) fun t17 =>
  pureK Tryz.prog (sFieldAddr T_wire_Reader t17 0) fun t18 =>
  upK Tryz.prog (sStore T_string t18 t13) w1 fun tu w2 =>
  pureK Tryz.prog (sUn .not t14) fun t20 =>
  ifB t20
  (upK Tryz.prog (sCall F_wire_Reader_fail #[r0]) w2 fun t22 w3 =>
   K (.tuple #[]) w3)
  (K (.tuple #[]) w2)
theorem wire_Reader_close.pt_eq : wire_Reader_close.pt = fun r0 end1 w K => FN Tryz.prog Tryz.f71 (bodyOf Tryz.f71) [] .leaf [r0, end1] w K := by kernel_rfl
theorem wire_Reader_close.call {r0 end1 : Value} {w : World} {K : Value → World → Prop} (h : wire_Reader_close.pt r0 end1 w K) : Calls Tryz.prog F_wire_Reader_close #[r0, end1] w (retK K) :=
  calls_FN (args := [r0, end1]) Tryz.func71 (by kernel_rfl) (by rw [wire_Reader_close.pt_eq] at h; exact h)
theorem wire_Reader_close.up {r0 end1 : Value} {w : World} {K : Value → World → Prop} (h : Calls Tryz.prog F_wire_Reader_close #[r0, end1] w (retK K)) : upK Tryz.prog (sCall F_wire_Reader_close #[r0, end1]) w K :=
  up_call (fn := Tryz.f71) Tryz.func71 (by kernel_rfl) (by kernel_rfl) h

/-- (*errata/wire.Reader).Left -/
def wire_Reader_Left.pt (r0 : Value) (w : World) (K : Value → World → Prop) : Prop :=
  pureK Tryz.prog (sNil r0) fun t4 =>
  pureK Tryz.prog (sFieldAddr T_wire_Reader t4 0) fun t5 =>
  readK Tryz.prog (sLoad T_string t5) w fun t6 =>
  readK Tryz.prog (sBlt .len #[T_string] T_int #[false] #[t6]) w fun t7 =>
  K t7 w
theorem wire_Reader_Left.pt_eq : wire_Reader_Left.pt = fun r0 w K => FN Tryz.prog Tryz.f72 (bodyOf Tryz.f72) [2] .leaf [r0] w K := by kernel_rfl
theorem wire_Reader_Left.call {r0 : Value} {w : World} {K : Value → World → Prop} (h : wire_Reader_Left.pt r0 w K) : Calls Tryz.prog F_wire_Reader_Left #[r0] w (retK K) :=
  calls_FN (args := [r0]) Tryz.func72 (by kernel_rfl) (by rw [wire_Reader_Left.pt_eq] at h; exact h)
theorem wire_Reader_Left.up {r0 : Value} {w : World} {K : Value → World → Prop} (h : Calls Tryz.prog F_wire_Reader_Left #[r0] w (retK K)) : upK Tryz.prog (sCall F_wire_Reader_Left #[r0]) w K :=
  up_call (fn := Tryz.f72) Tryz.func72 (by kernel_rfl) (by kernel_rfl) h

/-- errata/value.take -/
def value_take.pt (r0 : Value) (w : World) (K : Value → World → Prop) : Prop :=
  upK Tryz.prog (sAlloc T_api_Value) w fun t2 w1 =>
  upK Tryz.prog (sCall F_wire_Reader_Int #[r0]) w1 fun t5 w2 =>
  upK Tryz.prog (sCall F_wire_Reader_Int #[r0]) w2 fun t7 w3 =>
  pureK Tryz.prog (sBuild T_api_Value #[(0, t5), (1, t7)]) fun t8 =>
  upK Tryz.prog (sAlloc T_api_Value) w3 fun v3 w4 =>
  upK Tryz.prog (sStore T_api_Value v3 t8) w4 fun tu w5 =>
  upK Tryz.prog (sCall F_wire_Reader_Text #[r0]) w5 fun t10 w6 =>
  pureK Tryz.prog (sFieldAddr T_api_Value v3 2) fun t11 =>
  upK Tryz.prog (sStore T_string t11 t10) w6 fun tu_1 w7 =>
  readK Tryz.prog (sLoad T_api_Value v3) w7 fun t12 =>
  upK Tryz.prog (sStore T_api_Value t2 t12) w7 fun tu_2 w8 =>
  readV Tryz.prog (do loadVar T_api_Value (← asAddr t2)) w8 fun t2_1 =>
  K t2_1 w8
theorem value_take.pt_eq : value_take.pt = fun r0 w K => FN Tryz.prog Tryz.f73 (bodyOf Tryz.f73) [] .leaf [r0] w K := by kernel_rfl
theorem value_take.call {r0 : Value} {w : World} {K : Value → World → Prop} (h : value_take.pt r0 w K) : Calls Tryz.prog F_value_take #[r0] w (retK K) :=
  calls_FN (args := [r0]) Tryz.func73 (by kernel_rfl) (by rw [value_take.pt_eq] at h; exact h)
theorem value_take.up {r0 : Value} {w : World} {K : Value → World → Prop} (h : Calls Tryz.prog F_value_take #[r0] w (retK K)) : upK Tryz.prog (sCall F_value_take #[r0]) w K :=
  up_call (fn := Tryz.f73) Tryz.func73 (by kernel_rfl) (by kernel_rfl) h

/-- (*strings.Builder).copyCheck -/
def strings_Builder_copyCheck.pt (b0 : Value) (w : World) (K : Value → World → Prop) : Prop :=
  pureK Tryz.prog (sNil b0) fun t3 =>
  pureK Tryz.prog (sFieldAddr T_strings_Builder t3 0) fun t4 =>
  readK Tryz.prog (sLoad T_p_strings_Builder t4) w fun t5 =>
  pureK Tryz.prog (sBin .eql T_p_strings_Builder (.tmp 5) (.const (.pointer none)) t5 (.pointer none)) fun t6 =>
  ifB t6
  (upK Tryz.prog (sConv T_p_strings_Builder T_unsafe_Pointer b0) w fun t9 w1 =>
   upK Tryz.prog (sCall F_internal_abi_NoEscape #[t9]) w1 fun t10 w2 =>
   upK Tryz.prog (sConv T_unsafe_Pointer T_p_strings_Builder t10) w2 fun t11 w3 =>
   pureK Tryz.prog (sNil b0) fun t12 =>
   pureK Tryz.prog (sFieldAddr T_strings_Builder t12 0) fun t13 =>
   upK Tryz.prog (sStore T_p_strings_Builder t13 t11) w3 fun tu w4 =>
   K (.tuple #[]) w4)
  (pureK Tryz.prog (sNil b0) fun t15 =>
   pureK Tryz.prog (sFieldAddr T_strings_Builder t15 0) fun t16 =>
   readK Tryz.prog (sLoad T_p_strings_Builder t16) w fun t17 =>
   pureK Tryz.prog (sBin .neq T_p_strings_Builder (.tmp 17) (.tmp 18) t17 b0) fun t19 =>
   ifB t19
   (False)
   (K (.tuple #[]) w))
theorem strings_Builder_copyCheck.pt_eq : strings_Builder_copyCheck.pt = fun b0 w K => FN Tryz.prog Tryz.f74 (bodyOf Tryz.f74) [] .leaf [b0] w K := by kernel_rfl
theorem strings_Builder_copyCheck.call {b0 : Value} {w : World} {K : Value → World → Prop} (h : strings_Builder_copyCheck.pt b0 w K) : Calls Tryz.prog F_strings_Builder_copyCheck #[b0] w (retK K) :=
  calls_FN (args := [b0]) Tryz.func74 (by kernel_rfl) (by rw [strings_Builder_copyCheck.pt_eq] at h; exact h)
theorem strings_Builder_copyCheck.up {b0 : Value} {w : World} {K : Value → World → Prop} (h : Calls Tryz.prog F_strings_Builder_copyCheck #[b0] w (retK K)) : upK Tryz.prog (sCall F_strings_Builder_copyCheck #[b0]) w K :=
  up_call (fn := Tryz.f74) Tryz.func74 (by kernel_rfl) (by kernel_rfl) h

/-- strconv.Itoa -/
theorem strconv_Itoa.up {p0 : Value} {w : World} {K : Value → World → Prop} (h : Calls Tryz.prog F_strconv_Itoa #[p0] w (retK K)) : upK Tryz.prog (sCall F_strconv_Itoa #[p0]) w K :=
  up_call (fn := Tryz.f75) Tryz.func75 (by kernel_rfl) (by kernel_rfl) h

/-- errata/value.Bytes -/
def value_Bytes.pt (v0 : Value) (w : World) (K : Value → World → Prop) : Prop :=
  upK Tryz.prog (sBox T_api_Value v0) w fun v1 w1 =>
  pureK Tryz.prog (sFieldAddr T_api_Value v1 0) fun t3 =>
  readK Tryz.prog (sLoad T_int t3) (tick w1) fun t4 =>
  pureK Tryz.prog (sFieldAddr T_api_Value v1 1) fun t6 =>
  readK Tryz.prog (sLoad T_int t6) (tick w1) fun t7 =>
  pureK Tryz.prog (sFieldAddr T_api_Value v1 2) fun t10 =>
  readK Tryz.prog (sLoad T_string t10) (tick w1) fun t11 =>
  upK Tryz.prog (sCall F_wire_Int #[t4]) (tick w1) fun t5 w2 =>
  Is Tryz.prog (sLoad T_string t10) t11 w2 ∧ Is Tryz.prog (sLoad T_int t6) t7 w2 ∧ upK Tryz.prog (sCall F_wire_Int #[t7]) w2 fun t8 w3 =>
  Is Tryz.prog (sLoad T_string t10) t11 w3 ∧ pureK Tryz.prog (sBin .add T_string (.tmp 5) (.tmp 8) t5 t8) fun t9 =>
  upK Tryz.prog (sCall F_wire_Text #[t11]) w3 fun t12 w4 =>
  pureK Tryz.prog (sBin .add T_string (.tmp 9) (.tmp 12) t9 t12) fun t13 =>
  K t13 w4
theorem value_Bytes.pt_eq : value_Bytes.pt = fun v0 w K => FN Tryz.prog Tryz.f76 (bodyOf Tryz.f76) [2] .leaf [v0] w K := by kernel_rfl
theorem value_Bytes.call {v0 : Value} {w : World} {K : Value → World → Prop} (h : value_Bytes.pt v0 w K) : Calls Tryz.prog F_value_Bytes #[v0] w (retK K) :=
  calls_FN (args := [v0]) Tryz.func76 (by kernel_rfl) (by rw [value_Bytes.pt_eq] at h; exact h)
theorem value_Bytes.up {v0 : Value} {w : World} {K : Value → World → Prop} (h : Calls Tryz.prog F_value_Bytes #[v0] w (retK K)) : upK Tryz.prog (sCall F_value_Bytes #[v0]) w K :=
  up_call (fn := Tryz.f76) Tryz.func76 (by kernel_rfl) (by kernel_rfl) h

/-- (*errata/errataref01.Reader).ahead -/
def errataref01_Reader_ahead.pt (r0 end1 : Value) (w : World) (K : Value → World → Prop) : Prop :=
  LETJ (X := Value × Unit) (fun jv1 w1 =>
   pureK Tryz.prog (sNil r0) fun t33 =>
   pureK Tryz.prog (sFieldAddr T_errataref01_Reader t33 0) fun t34 =>
   readK Tryz.prog (sLoad T_string t34) w1 fun t35 =>
   readK Tryz.prog (sBlt .len #[T_string] T_int #[false] #[t35]) w1 fun t36 =>
   pureK Tryz.prog (sBin .geq T_int (.tmp 31) (.tmp 36) jv1.1 t36) fun t37 =>
   ifB t37
   (upK Tryz.prog (sCall F_errataref01_Reader_fail #[r0]) w1 fun t39 w2 =>
    K t39 w2)
   (pureK Tryz.prog (sNil r0) fun t41 =>
    pureK Tryz.prog (sFieldAddr T_errataref01_Reader t41 0) fun t42 =>
    readK Tryz.prog (sLoad T_string t42) w1 fun t43 =>
    pureK Tryz.prog (sIdx T_string t43 jv1.1) fun t45 =>
    pureK Tryz.prog (sBin .neq T_uint8 (.tmp 45) (.tmp 46) t45 end1) fun t47 =>
    ifB t47
    (upK Tryz.prog (sCall F_errataref01_Reader_fail #[r0]) w1 fun t49 w3 =>
     K t49 w3)
    (pureK Tryz.prog (sNil r0) fun t52 =>
     pureK Tryz.prog (sFieldAddr T_errataref01_Reader t52 0) fun t53 =>
     readK Tryz.prog (sLoad T_string t53) w1 fun t54 =>
     pureK Tryz.prog (sSlice T_string t54 none (some jv1.1) none) fun t56 =>
     upK Tryz.prog (sCall F_errataref01_Back #[t56]) w1 fun t57 w4 =>
     pureK Tryz.prog (sExtract t57 0) fun t58 =>
     pureK Tryz.prog (sExtract t57 1) fun t59 =>
     pureK Tryz.prog (sUn .not t59) fun t61 =>
     ifB t61
     (upK Tryz.prog (sCall F_errataref01_Reader_fail #[r0]) w4 fun t63 w5 =>
      K t63 w5)
     (pureK Tryz.prog (sNil r0) fun t66 =>
      pureK Tryz.prog (sFieldAddr T_errataref01_Reader t66 0) fun t67 =>
      readK Tryz.prog (sLoad T_string t67) w4 fun t68 =>
      pureK Tryz.prog (sBin .add T_int (.tmp 69) (.const (.int .i64 1)) jv1.1 (.int .i64 1)) fun t70 =>
      pureK Tryz.prog (sSlice T_string t68 (some t70) none none) fun t71 =>
      pureK Tryz.prog (sNil r0) fun t72 =>
      pureK Tryz.prog (sFieldAddr T_errataref01_Reader t72 0) fun t73 =>
      upK Tryz.prog (sStore T_string t73 t71) w4 fun tu w6 =>
      K t58 w6))))
  (fun J1 =>
   LOOP (X := Value × Unit) (fun lv7 w7 next7 =>
    pureK Tryz.prog (sNil r0) fun t10 =>
    pureK Tryz.prog (sFieldAddr T_errataref01_Reader t10 0) fun t11 =>
    readK Tryz.prog (sLoad T_string t11) w7 fun t12 =>
    readK Tryz.prog (sBlt .len #[T_string] T_int #[false] #[t12]) w7 fun t13 =>
    pureK Tryz.prog (sBin .lss T_int (.tmp 8) (.tmp 13) lv7.1 t13) fun t14 =>
    ifB t14
    (pureK Tryz.prog (sBin .lss T_int (.tmp 16) (.const (.int .i64 21)) lv7.1 (.int .i64 21)) fun t17 =>
     ifB t17
     (pureK Tryz.prog (sNil r0) fun t21 =>
      pureK Tryz.prog (sFieldAddr T_errataref01_Reader t21 0) fun t22 =>
      readK Tryz.prog (sLoad T_string t22) w7 fun t23 =>
      pureK Tryz.prog (sIdx T_string t23 lv7.1) fun t25 =>
      pureK Tryz.prog (sBin .neq T_uint8 (.tmp 25) (.tmp 26) t25 end1) fun t27 =>
      ifB t27
      (pureK Tryz.prog (sBin .add T_int (.tmp 29) (.const (.int .i64 1)) lv7.1 (.int .i64 1)) fun t30 =>
       next7 (t30, ()) w7)
      (J1 (lv7.1, ()) w7))
     (J1 (lv7.1, ()) w7))
    (J1 (lv7.1, ()) w7))
   ((.int .i64 0), ()) w)
theorem errataref01_Reader_ahead.pt_eq : errataref01_Reader_ahead.pt = fun r0 end1 w K => FN Tryz.prog Tryz.f77 (bodyOf Tryz.f77) [4] (.node none .leaf (.node none .leaf (.node (some [5]) .leaf .leaf))) [r0, end1] w K := by kernel_rfl
theorem errataref01_Reader_ahead.call {r0 end1 : Value} {w : World} {K : Value → World → Prop} (h : errataref01_Reader_ahead.pt r0 end1 w K) : Calls Tryz.prog F_errataref01_Reader_ahead #[r0, end1] w (retK K) :=
  calls_FN (args := [r0, end1]) Tryz.func77 (by kernel_rfl) (by rw [errataref01_Reader_ahead.pt_eq] at h; exact h)
theorem errataref01_Reader_ahead.up {r0 end1 : Value} {w : World} {K : Value → World → Prop} (h : Calls Tryz.prog F_errataref01_Reader_ahead #[r0, end1] w (retK K)) : upK Tryz.prog (sCall F_errataref01_Reader_ahead #[r0, end1]) w K :=
  up_call (fn := Tryz.f77) Tryz.func77 (by kernel_rfl) (by kernel_rfl) h

/-- (*errata/errataref01.Reader).number -/
def errataref01_Reader_number.pt (r0 end1 : Value) (w : World) (K : Value → World → Prop) : Prop :=
  upK Tryz.prog (sCall F_errataref01_Reader_ahead #[r0, end1]) w fun t8 w1 =>
  pureK Tryz.prog (sBin .lss T_int (.tmp 9) (.const (.int .i64 0)) t8 (.int .i64 0)) fun t10 =>
  ifB t10
  (upK Tryz.prog (sCall F_errataref01_Reader_fail #[r0]) w1 fun t12 w2 =>
   K t12 w2)
  (K t8 w1)
theorem errataref01_Reader_number.pt_eq : errataref01_Reader_number.pt = fun r0 end1 w K => FN Tryz.prog Tryz.f78 (bodyOf Tryz.f78) [4] .leaf [r0, end1] w K := by kernel_rfl
theorem errataref01_Reader_number.call {r0 end1 : Value} {w : World} {K : Value → World → Prop} (h : errataref01_Reader_number.pt r0 end1 w K) : Calls Tryz.prog F_errataref01_Reader_number #[r0, end1] w (retK K) :=
  calls_FN (args := [r0, end1]) Tryz.func78 (by kernel_rfl) (by rw [errataref01_Reader_number.pt_eq] at h; exact h)
theorem errataref01_Reader_number.up {r0 end1 : Value} {w : World} {K : Value → World → Prop} (h : Calls Tryz.prog F_errataref01_Reader_number #[r0, end1] w (retK K)) : upK Tryz.prog (sCall F_errataref01_Reader_number #[r0, end1]) w K :=
  up_call (fn := Tryz.f78) Tryz.func78 (by kernel_rfl) (by kernel_rfl) h

/-- (*errata/errataref01.Reader).fail -/
def errataref01_Reader_fail.pt (r0 : Value) (w : World) (K : Value → World → Prop) : Prop :=
  pureK Tryz.prog (sNil r0) fun t4 =>
  pureK Tryz.prog (sFieldAddr T_errataref01_Reader t4 0) fun t5 =>
  upK Tryz.prog (sStore T_string t5 (.string ⟨#[]⟩)) w fun tu w1 =>
  pureK Tryz.prog (sNil r0) fun t7 =>
  pureK Tryz.prog (sFieldAddr T_errataref01_Reader t7 1) fun t8 =>
  upK Tryz.prog (sStore T_bool t8 (.bool true)) w1 fun tu_1 w2 =>
  K (.int .i64 0) w2
theorem errataref01_Reader_fail.pt_eq : errataref01_Reader_fail.pt = fun r0 w K => FN Tryz.prog Tryz.f79 (bodyOf Tryz.f79) [2] .leaf [r0] w K := by kernel_rfl
theorem errataref01_Reader_fail.call {r0 : Value} {w : World} {K : Value → World → Prop} (h : errataref01_Reader_fail.pt r0 w K) : Calls Tryz.prog F_errataref01_Reader_fail #[r0] w (retK K) :=
  calls_FN (args := [r0]) Tryz.func79 (by kernel_rfl) (by rw [errataref01_Reader_fail.pt_eq] at h; exact h)
theorem errataref01_Reader_fail.up {r0 : Value} {w : World} {K : Value → World → Prop} (h : Calls Tryz.prog F_errataref01_Reader_fail #[r0] w (retK K)) : upK Tryz.prog (sCall F_errataref01_Reader_fail #[r0]) w K :=
  up_call (fn := Tryz.f79) Tryz.func79 (by kernel_rfl) (by kernel_rfl) h

/-- (*errata/errataref01.Reader).close -/
def errataref01_Reader_close.pt (r0 end1 : Value) (w : World) (K : Value → World → Prop) : Prop :=
  pureK Tryz.prog (sNil r0) fun t6 =>
  pureK Tryz.prog (sFieldAddr T_errataref01_Reader t6 0) fun t7 =>
  readK Tryz.prog (sLoad T_string t7) w fun t8 =>
  readK Tryz.prog (sBlt .len #[T_string] T_int #[false] #[t8]) w fun t9 =>
  pureK Tryz.prog (sBin .eql T_int (.tmp 9) (.const (.int .i64 0)) t9 (.int .i64 0)) fun t10 =>
  ifB t10
  (upK Tryz.prog (sCall F_errataref01_Reader_fail #[r0]) w fun t12 w1 =>
   K (.bool false) w1)
  (pureK Tryz.prog (sNil r0) fun t14 =>
   pureK Tryz.prog (sFieldAddr T_errataref01_Reader t14 0) fun t15 =>
   readK Tryz.prog (sLoad T_string t15) w fun t16 =>
   pureK Tryz.prog (sIdx T_string t16 (.int .i64 0)) fun t17 =>
   pureK Tryz.prog (sBin .neq T_uint8 (.tmp 17) (.tmp 18) t17 end1) fun t19 =>
   ifB t19
   (upK Tryz.prog (sCall F_errataref01_Reader_fail #[r0]) w fun t21 w2 =>
    K (.bool false) w2)
   (pureK Tryz.prog (sNil r0) fun t24 =>
    pureK Tryz.prog (sFieldAddr T_errataref01_Reader t24 0) fun t25 =>
    readK Tryz.prog (sLoad T_string t25) w fun t26 =>
    pureK Tryz.prog (sSlice T_string t26 (some (.int .i64 1)) none none) fun t27 =>
    pureK Tryz.prog (sNil r0) fun t28 =>
    pureK Tryz.prog (sFieldAddr T_errataref01_Reader t28 0) fun t29 =>
    upK Tryz.prog (sStore T_string t29 t27) w fun tu w3 =>
    K (.bool true) w3))
theorem errataref01_Reader_close.pt_eq : errataref01_Reader_close.pt = fun r0 end1 w K => FN Tryz.prog Tryz.f80 (bodyOf Tryz.f80) [4] .leaf [r0, end1] w K := by kernel_rfl
theorem errataref01_Reader_close.call {r0 end1 : Value} {w : World} {K : Value → World → Prop} (h : errataref01_Reader_close.pt r0 end1 w K) : Calls Tryz.prog F_errataref01_Reader_close #[r0, end1] w (retK K) :=
  calls_FN (args := [r0, end1]) Tryz.func80 (by kernel_rfl) (by rw [errataref01_Reader_close.pt_eq] at h; exact h)
theorem errataref01_Reader_close.up {r0 end1 : Value} {w : World} {K : Value → World → Prop} (h : Calls Tryz.prog F_errataref01_Reader_close #[r0, end1] w (retK K)) : upK Tryz.prog (sCall F_errataref01_Reader_close #[r0, end1]) w K :=
  up_call (fn := Tryz.f80) Tryz.func80 (by kernel_rfl) (by kernel_rfl) h

/-- errata/errataref01.digits -/
def errataref01_digits.pt (n0 : Value) (w : World) (K : Value → World → Prop) : Prop :=
  pureK Tryz.prog (sBin .rem T_int (.tmp 4) (.const (.int .i64 10)) n0 (.int .i64 10)) fun t5 =>
  pureK Tryz.prog (sBin .sub T_int (.const (.int .i64 48)) (.tmp 5) (.int .i64 48) t5) fun t6 =>
  upK Tryz.prog (sConv T_int T_uint8 t6) w fun t7 w1 =>
  upK Tryz.prog (sBuildSlice T_s_uint8 1 #[(0, t7)]) w1 fun t8 w2 =>
  upK Tryz.prog (sConv T_s_uint8 T_string t8) w2 fun t9 w3 =>
  pureK Tryz.prog (sBin .gtr T_int (.tmp 10) (.const (.int .i64 (-10))) n0 (.int .i64 (-10))) fun t11 =>
  ifB t11
  (K t9 w3)
  (pureK Tryz.prog (sBin .quo T_int (.tmp 13) (.const (.int .i64 10)) n0 (.int .i64 10)) fun t14 =>
   upK Tryz.prog (sCall F_errataref01_digits #[t14]) w3 fun t15 w4 =>
   pureK Tryz.prog (sBin .add T_string (.tmp 15) (.tmp 16) t15 t9) fun t17 =>
   K t17 w4)
theorem errataref01_digits.pt_eq : errataref01_digits.pt = fun n0 w K => FN Tryz.prog Tryz.f81 (bodyOf Tryz.f81) [2] .leaf [n0] w K := by kernel_rfl
theorem errataref01_digits.call {n0 : Value} {w : World} {K : Value → World → Prop} (h : errataref01_digits.pt n0 w K) : Calls Tryz.prog F_errataref01_digits #[n0] w (retK K) :=
  calls_FN (args := [n0]) Tryz.func81 (by kernel_rfl) (by rw [errataref01_digits.pt_eq] at h; exact h)
theorem errataref01_digits.up {n0 : Value} {w : World} {K : Value → World → Prop} (h : Calls Tryz.prog F_errataref01_digits #[n0] w (retK K)) : upK Tryz.prog (sCall F_errataref01_digits #[n0]) w K :=
  up_call (fn := Tryz.f81) Tryz.func81 (by kernel_rfl) (by kernel_rfl) h

/-- errata/errataref03.Bytes -/
def errataref03_Bytes.pt (v0 : Value) (w : World) (K : Value → World → Prop) : Prop :=
  upK Tryz.prog (sBox T_api_Value v0) w fun v1 w1 =>
  pureK Tryz.prog (sFieldAddr T_api_Value v1 0) fun t3 =>
  readK Tryz.prog (sLoad T_int t3) (tick w1) fun t4 =>
  pureK Tryz.prog (sFieldAddr T_api_Value v1 1) fun t6 =>
  readK Tryz.prog (sLoad T_int t6) (tick w1) fun t7 =>
  pureK Tryz.prog (sFieldAddr T_api_Value v1 2) fun t10 =>
  readK Tryz.prog (sLoad T_string t10) (tick w1) fun t11 =>
  upK Tryz.prog (sCall F_errataref01_Int #[t4]) (tick w1) fun t5 w2 =>
  Is Tryz.prog (sLoad T_string t10) t11 w2 ∧ Is Tryz.prog (sLoad T_int t6) t7 w2 ∧ upK Tryz.prog (sCall F_errataref01_Int #[t7]) w2 fun t8 w3 =>
  Is Tryz.prog (sLoad T_string t10) t11 w3 ∧ pureK Tryz.prog (sBin .add T_string (.tmp 5) (.tmp 8) t5 t8) fun t9 =>
  upK Tryz.prog (sCall F_errataref01_Text #[t11]) w3 fun t12 w4 =>
  pureK Tryz.prog (sBin .add T_string (.tmp 9) (.tmp 12) t9 t12) fun t13 =>
  K t13 w4
theorem errataref03_Bytes.pt_eq : errataref03_Bytes.pt = fun v0 w K => FN Tryz.prog Tryz.f82 (bodyOf Tryz.f82) [2] .leaf [v0] w K := by kernel_rfl
theorem errataref03_Bytes.call {v0 : Value} {w : World} {K : Value → World → Prop} (h : errataref03_Bytes.pt v0 w K) : Calls Tryz.prog F_errataref03_Bytes #[v0] w (retK K) :=
  calls_FN (args := [v0]) Tryz.func82 (by kernel_rfl) (by rw [errataref03_Bytes.pt_eq] at h; exact h)
theorem errataref03_Bytes.up {v0 : Value} {w : World} {K : Value → World → Prop} (h : Calls Tryz.prog F_errataref03_Bytes #[v0] w (retK K)) : upK Tryz.prog (sCall F_errataref03_Bytes #[v0]) w K :=
  up_call (fn := Tryz.f82) Tryz.func82 (by kernel_rfl) (by kernel_rfl) h

/-- errata/errataref03.CompareRows -/
def errataref03_CompareRows.pt (a0 b1 : Value) (w : World) (K : Value → World → Prop) : Prop :=
  LETJ (X := Unit) (fun jv1 w1 =>
   readK Tryz.prog (sBlt .len #[T_s_api_Value] T_int #[false] #[a0]) w1 fun t32 =>
   readK Tryz.prog (sBlt .len #[T_s_api_Value] T_int #[false] #[b1]) w1 fun t34 =>
   pureK Tryz.prog (sBin .lss T_int (.tmp 32) (.tmp 34) t32 t34) fun t35 =>
   ifB t35
   (K (.int .i64 (-1)) w1)
   (readK Tryz.prog (sBlt .len #[T_s_api_Value] T_int #[false] #[a0]) w1 fun t37 =>
    readK Tryz.prog (sBlt .len #[T_s_api_Value] T_int #[false] #[b1]) w1 fun t39 =>
    pureK Tryz.prog (sBin .gtr T_int (.tmp 37) (.tmp 39) t37 t39) fun t40 =>
    ifB t40
    (K (.int .i64 1) w1)
    (K (.int .i64 0) w1)))
  (fun J1 =>
   LOOP (X := Value × Unit) (fun lv2 w2 next2 =>
    readK Tryz.prog (sBlt .len #[T_s_api_Value] T_int #[false] #[a0]) w2 fun t9 =>
    pureK Tryz.prog (sBin .lss T_int (.tmp 7) (.tmp 9) lv2.1 t9) fun t10 =>
    ifB t10
    (readK Tryz.prog (sBlt .len #[T_s_api_Value] T_int #[false] #[b1]) w2 fun t14 =>
     pureK Tryz.prog (sBin .lss T_int (.tmp 12) (.tmp 14) lv2.1 t14) fun t15 =>
     ifB t15
     (pureK Tryz.prog (sIdxAddr T_s_api_Value a0 lv2.1) fun t21 =>
      readK Tryz.prog (sLoad T_api_Value t21) (tick w2) fun t22 =>
      pureK Tryz.prog (sIdxAddr T_s_api_Value b1 lv2.1) fun t25 =>
      readK Tryz.prog (sLoad T_api_Value t25) (tick w2) fun t26 =>
      upK Tryz.prog (sCall F_errataref03_Compare #[t22, t26]) (tick w2) fun t27 w3 =>
      pureK Tryz.prog (sBin .neq T_int (.tmp 28) (.const (.int .i64 0)) t27 (.int .i64 0)) fun t29 =>
      ifB t29
      (K t27 w3)
      (pureK Tryz.prog (sBin .add T_int (.tmp 17) (.const (.int .i64 1)) lv2.1 (.int .i64 1)) fun t18 =>
       next2 (t18, ()) w3))
     (J1 (()) w2))
    (J1 (()) w2))
   ((.int .i64 0), ()) w)
theorem errataref03_CompareRows.pt_eq : errataref03_CompareRows.pt = fun a0 b1 w K => FN Tryz.prog Tryz.f83 (bodyOf Tryz.f83) [4] (.node none .leaf (.node (some []) .leaf .leaf)) [a0, b1] w K := by kernel_rfl
theorem errataref03_CompareRows.call {a0 b1 : Value} {w : World} {K : Value → World → Prop} (h : errataref03_CompareRows.pt a0 b1 w K) : Calls Tryz.prog F_errataref03_CompareRows #[a0, b1] w (retK K) :=
  calls_FN (args := [a0, b1]) Tryz.func83 (by kernel_rfl) (by rw [errataref03_CompareRows.pt_eq] at h; exact h)
theorem errataref03_CompareRows.up {a0 b1 : Value} {w : World} {K : Value → World → Prop} (h : Calls Tryz.prog F_errataref03_CompareRows #[a0, b1] w (retK K)) : upK Tryz.prog (sCall F_errataref03_CompareRows #[a0, b1]) w K :=
  up_call (fn := Tryz.f83) Tryz.func83 (by kernel_rfl) (by kernel_rfl) h

/-- slices.ContainsFunc[[]errata/api.Value,errata/api.Value] -/
def slices_ContainsFunc_s_api_Value_api_Value.pt (s0 f1 : Value) (w : World) (K : Value → World → Prop) : Prop :=
  upK Tryz.prog (sCall F_slices_IndexFunc_s_api_Value_api_Value #[s0, f1]) w fun t7 w1 =>
  pureK Tryz.prog (sBin .geq T_int (.tmp 7) (.const (.int .i64 0)) t7 (.int .i64 0)) fun t8 =>
  K t8 w1
theorem slices_ContainsFunc_s_api_Value_api_Value.pt_eq : slices_ContainsFunc_s_api_Value_api_Value.pt = fun s0 f1 w K => FN Tryz.prog Tryz.f84 (bodyOf Tryz.f84) [4] .leaf [s0, f1] w K := by kernel_rfl
theorem slices_ContainsFunc_s_api_Value_api_Value.call {s0 f1 : Value} {w : World} {K : Value → World → Prop} (h : slices_ContainsFunc_s_api_Value_api_Value.pt s0 f1 w K) : Calls Tryz.prog F_slices_ContainsFunc_s_api_Value_api_Value #[s0, f1] w (retK K) :=
  calls_FN (args := [s0, f1]) Tryz.func84 (by kernel_rfl) (by rw [slices_ContainsFunc_s_api_Value_api_Value.pt_eq] at h; exact h)
theorem slices_ContainsFunc_s_api_Value_api_Value.up {s0 f1 : Value} {w : World} {K : Value → World → Prop} (h : Calls Tryz.prog F_slices_ContainsFunc_s_api_Value_api_Value #[s0, f1] w (retK K)) : upK Tryz.prog (sCall F_slices_ContainsFunc_s_api_Value_api_Value #[s0, f1]) w K :=
  up_call (fn := Tryz.f84) Tryz.func84 (by kernel_rfl) (by kernel_rfl) h

/-- errata/value.all$1 -/
def value_all_1.pt (v0 : Value) (w : World) (K : Value → World → Prop) : Prop :=
  upK Tryz.prog (sBox T_api_Value v0) w fun v1 w1 =>
  readK Tryz.prog (sLoad T_api_Value v1) w1 fun t3 =>
  upK Tryz.prog (sCall F_value_Right #[t3]) w1 fun t4 w2 =>
  pureK Tryz.prog (sUn .not t4) fun t5 =>
  K t5 w2
theorem value_all_1.pt_eq : value_all_1.pt = fun v0 w K => FN Tryz.prog Tryz.f85 (bodyOf Tryz.f85) [2] .leaf [v0] w K := by kernel_rfl
theorem value_all_1.call {v0 : Value} {w : World} {K : Value → World → Prop} (h : value_all_1.pt v0 w K) : Calls Tryz.prog F_value_all_1 #[v0] w (retK K) :=
  calls_FN (args := [v0]) Tryz.func85 (by kernel_rfl) (by rw [value_all_1.pt_eq] at h; exact h)
theorem value_all_1.up {v0 : Value} {w : World} {K : Value → World → Prop} (h : Calls Tryz.prog F_value_all_1 #[v0] w (retK K)) : upK Tryz.prog (sCall F_value_all_1 #[v0]) w K :=
  up_call (fn := Tryz.f85) Tryz.func85 (by kernel_rfl) (by kernel_rfl) h

/-- errata/value.Right -/
def value_Right.pt (v0 : Value) (w : World) (K : Value → World → Prop) : Prop :=
  upK Tryz.prog (sBox T_api_Value v0) w fun v1 w1 =>
  pureK Tryz.prog (sFieldAddr T_api_Value v1 0) fun t3 =>
  readK Tryz.prog (sLoad T_int t3) w1 fun t4 =>
  pureK Tryz.prog (sBin .eql T_int (.tmp 4) (.const (.int .i64 0)) t4 (.int .i64 0)) fun t6 =>
  ifB t6
  (readK Tryz.prog (sLoad T_api_Value v1) (tick w1) fun t7 =>
   pureK Tryz.prog (sFieldAddr T_api_Value v1 1) fun t8 =>
   readK Tryz.prog (sLoad T_int t8) (tick w1) fun t9 =>
   upK Tryz.prog (sCall F_value_Int #[t9]) (tick w1) fun t10 w2 =>
   Is Tryz.prog (sLoad T_api_Value v1) t7 w2 ∧ pureK Tryz.prog (sBin .eql T_api_Value (.tmp 7) (.tmp 10) t7 t10) fun t11 =>
   K t11 w2)
  (pureK Tryz.prog (sBin .eql T_int (.tmp 4) (.const (.int .i64 1)) t4 (.int .i64 1)) fun t13 =>
   ifB t13
   (readK Tryz.prog (sLoad T_api_Value v1) (tick w1) fun t14 =>
    pureK Tryz.prog (sFieldAddr T_api_Value v1 2) fun t15 =>
    readK Tryz.prog (sLoad T_string t15) (tick w1) fun t16 =>
    upK Tryz.prog (sCall F_value_Text #[t16]) (tick w1) fun t17 w3 =>
    Is Tryz.prog (sLoad T_api_Value v1) t14 w3 ∧ pureK Tryz.prog (sBin .eql T_api_Value (.tmp 14) (.tmp 17) t14 t17) fun t18 =>
    ifB t18
    (pureK Tryz.prog (sFieldAddr T_api_Value v1 2) fun t20 =>
     readK Tryz.prog (sLoad T_string t20) w3 fun t21 =>
     readK Tryz.prog (sBlt .len #[T_string] T_int #[false] #[t21]) w3 fun t22 =>
     pureK Tryz.prog (sBin .leq T_int (.tmp 22) (.const (.int .i64 200)) t22 (.int .i64 200)) fun t23 =>
     K t23 w3)
    (K (.bool false) w3))
   (readK Tryz.prog (sLoad T_api_Value v1) (tick w1) fun t25 =>
    upK Tryz.prog (sCall F_value_Bool #[(.bool false)]) (tick w1) fun t26 w4 =>
    Is Tryz.prog (sLoad T_api_Value v1) t25 w4 ∧ pureK Tryz.prog (sBin .eql T_api_Value (.tmp 25) (.tmp 26) t25 t26) fun t27 =>
    ifB t27
    (K (.bool true) w4)
    (readK Tryz.prog (sLoad T_api_Value v1) w4 fun t29 =>
     upK Tryz.prog (sCall F_value_Bool #[(.bool true)]) w4 fun t30 w5 =>
     Is Tryz.prog (sLoad T_api_Value v1) t29 w5 ∧ pureK Tryz.prog (sBin .eql T_api_Value (.tmp 29) (.tmp 30) t29 t30) fun t31 =>
     K t31 w5)))
theorem value_Right.pt_eq : value_Right.pt = fun v0 w K => FN Tryz.prog Tryz.f86 (bodyOf Tryz.f86) [2] .leaf [v0] w K := by kernel_rfl
theorem value_Right.call {v0 : Value} {w : World} {K : Value → World → Prop} (h : value_Right.pt v0 w K) : Calls Tryz.prog F_value_Right #[v0] w (retK K) :=
  calls_FN (args := [v0]) Tryz.func86 (by kernel_rfl) (by rw [value_Right.pt_eq] at h; exact h)
theorem value_Right.up {v0 : Value} {w : World} {K : Value → World → Prop} (h : Calls Tryz.prog F_value_Right #[v0] w (retK K)) : upK Tryz.prog (sCall F_value_Right #[v0]) w K :=
  up_call (fn := Tryz.f86) Tryz.func86 (by kernel_rfl) (by kernel_rfl) h

/-- errata/errataref03.Right -/
def errataref03_Right.pt (v0 : Value) (w : World) (K : Value → World → Prop) : Prop :=
  upK Tryz.prog (sBox T_api_Value v0) w fun v1 w1 =>
  pureK Tryz.prog (sFieldAddr T_api_Value v1 0) fun t3 =>
  readK Tryz.prog (sLoad T_int t3) w1 fun t4 =>
  pureK Tryz.prog (sBin .eql T_int (.tmp 4) (.const (.int .i64 0)) t4 (.int .i64 0)) fun t5 =>
  ifB t5
  (pureK Tryz.prog (sFieldAddr T_api_Value v1 2) fun t6 =>
   readK Tryz.prog (sLoad T_string t6) w1 fun t7 =>
   pureK Tryz.prog (sBin .eql T_string (.tmp 7) (.const (.string ⟨#[]⟩)) t7 (.string ⟨#[]⟩)) fun t8 =>
   K t8 w1)
  (pureK Tryz.prog (sFieldAddr T_api_Value v1 0) fun t9 =>
   readK Tryz.prog (sLoad T_int t9) w1 fun t10 =>
   pureK Tryz.prog (sBin .eql T_int (.tmp 10) (.const (.int .i64 1)) t10 (.int .i64 1)) fun t11 =>
   ifB t11
   (pureK Tryz.prog (sFieldAddr T_api_Value v1 1) fun t12 =>
    readK Tryz.prog (sLoad T_int t12) w1 fun t13 =>
    pureK Tryz.prog (sBin .eql T_int (.tmp 13) (.const (.int .i64 0)) t13 (.int .i64 0)) fun t14 =>
    ifB t14
    (pureK Tryz.prog (sFieldAddr T_api_Value v1 2) fun t16 =>
     readK Tryz.prog (sLoad T_string t16) w1 fun t17 =>
     readK Tryz.prog (sBlt .len #[T_string] T_int #[false] #[t17]) w1 fun t18 =>
     pureK Tryz.prog (sBin .leq T_int (.tmp 18) (.const (.int .i64 200)) t18 (.int .i64 200)) fun t19 =>
     K t19 w1)
    (K (.bool false) w1))
   (pureK Tryz.prog (sFieldAddr T_api_Value v1 0) fun t21 =>
    readK Tryz.prog (sLoad T_int t21) w1 fun t22 =>
    pureK Tryz.prog (sBin .eql T_int (.tmp 22) (.const (.int .i64 2)) t22 (.int .i64 2)) fun t23 =>
    ifB t23
    (pureK Tryz.prog (sFieldAddr T_api_Value v1 1) fun t25 =>
     readK Tryz.prog (sLoad T_int t25) w1 fun t26 =>
     pureK Tryz.prog (sBin .eql T_int (.tmp 26) (.const (.int .i64 0)) t26 (.int .i64 0)) fun t27 =>
     ifB t27
     (pureK Tryz.prog (sFieldAddr T_api_Value v1 2) fun t35 =>
      readK Tryz.prog (sLoad T_string t35) w1 fun t36 =>
      pureK Tryz.prog (sBin .eql T_string (.tmp 36) (.const (.string ⟨#[]⟩)) t36 (.string ⟨#[]⟩)) fun t37 =>
      K t37 w1)
     (pureK Tryz.prog (sFieldAddr T_api_Value v1 1) fun t29 =>
      readK Tryz.prog (sLoad T_int t29) w1 fun t30 =>
      pureK Tryz.prog (sBin .eql T_int (.tmp 30) (.const (.int .i64 1)) t30 (.int .i64 1)) fun t31 =>
      ifB t31
      (pureK Tryz.prog (sFieldAddr T_api_Value v1 2) fun t35_1 =>
       readK Tryz.prog (sLoad T_string t35_1) w1 fun t36_1 =>
       pureK Tryz.prog (sBin .eql T_string (.tmp 36) (.const (.string ⟨#[]⟩)) t36_1 (.string ⟨#[]⟩)) fun t37_1 =>
       K t37_1 w1)
      (K (.bool false) w1)))
    (K (.bool false) w1)))
theorem errataref03_Right.pt_eq : errataref03_Right.pt = fun v0 w K => FN Tryz.prog Tryz.f87 (bodyOf Tryz.f87) [2] .leaf [v0] w K := by kernel_rfl
theorem errataref03_Right.call {v0 : Value} {w : World} {K : Value → World → Prop} (h : errataref03_Right.pt v0 w K) : Calls Tryz.prog F_errataref03_Right #[v0] w (retK K) :=
  calls_FN (args := [v0]) Tryz.func87 (by kernel_rfl) (by rw [errataref03_Right.pt_eq] at h; exact h)
theorem errataref03_Right.up {v0 : Value} {w : World} {K : Value → World → Prop} (h : Calls Tryz.prog F_errataref03_Right #[v0] w (retK K)) : upK Tryz.prog (sCall F_errataref03_Right #[v0]) w K :=
  up_call (fn := Tryz.f87) Tryz.func87 (by kernel_rfl) (by kernel_rfl) h

/-- strings.IndexByte -/
theorem strings_IndexByte.up {p0 p1 : Value} {w : World} {K : Value → World → Prop} (h : Calls Tryz.prog F_strings_IndexByte #[p0, p1] w (retK K)) : upK Tryz.prog (sCall F_strings_IndexByte #[p0, p1]) w K :=
  up_call (fn := Tryz.f88) Tryz.func88 (by kernel_rfl) (by kernel_rfl) h

/-- strconv.Atoi -/
theorem strconv_Atoi.up {p0 : Value} {w : World} {K : Value → World → Prop} (h : Calls Tryz.prog F_strconv_Atoi #[p0] w (retK K)) : upK Tryz.prog (sCall F_strconv_Atoi #[p0]) w K :=
  up_call (fn := Tryz.f89) Tryz.func89 (by kernel_rfl) (by kernel_rfl) h

/-- strings.CutPrefix -/
theorem strings_CutPrefix.up {p0 p1 : Value} {w : World} {K : Value → World → Prop} (h : Calls Tryz.prog F_strings_CutPrefix #[p0, p1] w (retK K)) : upK Tryz.prog (sCall F_strings_CutPrefix #[p0, p1]) w K :=
  up_call (fn := Tryz.f90) Tryz.func90 (by kernel_rfl) (by kernel_rfl) h

/-- internal/strconv.Itoa -/
theorem internal_strconv_Itoa.up {p0 : Value} {w : World} {K : Value → World → Prop} (h : Calls Tryz.prog F_internal_strconv_Itoa #[p0] w (retK K)) : upK Tryz.prog (sCall F_internal_strconv_Itoa #[p0]) w K :=
  up_call (fn := Tryz.f92) Tryz.func92 (by kernel_rfl) (by kernel_rfl) h

/-- errata/errataref01.Back -/
def errataref01_Back.pt (s0 : Value) (w : World) (K : Value → World → Prop) : Prop :=
  LETJ (X := Value × Unit) (fun jv1 w1 =>
   LOOP (X := Value × Value × Unit) (fun lv2 w2 next2 =>
    readK Tryz.prog (sBlt .len #[T_string] T_int #[false] #[s0]) w2 fun t18 =>
    pureK Tryz.prog (sBin .lss T_int (.tmp 16) (.tmp 18) lv2.2.1 t18) fun t19 =>
    ifB t19
    (pureK Tryz.prog (sIdx T_string s0 lv2.2.1) fun t24 =>
     pureK Tryz.prog (sBin .lss T_uint8 (.tmp 24) (.const (.int .u8 48)) t24 (.int .u8 48)) fun t25 =>
     ifB t25
     (K (.tuple #[(.int .i64 0), (.bool false)]) w2)
     (pureK Tryz.prog (sIdx T_string s0 lv2.2.1) fun t29 =>
      pureK Tryz.prog (sBin .gtr T_uint8 (.tmp 29) (.const (.int .u8 57)) t29 (.int .u8 57)) fun t30 =>
      ifB t30
      (K (.tuple #[(.int .i64 0), (.bool false)]) w2)
      (pureK Tryz.prog (sBin .gtr T_int (.tmp 33) (.const (.int .i64 20)) lv2.2.1 (.int .i64 20)) fun t34 =>
       ifB t34
       (K (.tuple #[(.int .i64 0), (.bool false)]) w2)
       (pureK Tryz.prog (sBin .mul T_int (.const (.int .i64 10)) (.tmp 36) (.int .i64 10) lv2.1) fun t37 =>
        pureK Tryz.prog (sIdx T_string s0 lv2.2.1) fun t40 =>
        pureK Tryz.prog (sBin .sub T_uint8 (.tmp 40) (.const (.int .u8 48)) t40 (.int .u8 48)) fun t41 =>
        upK Tryz.prog (sConv T_uint8 T_int t41) w2 fun t42 w3 =>
        pureK Tryz.prog (sBin .sub T_int (.tmp 37) (.tmp 42) t37 t42) fun t43 =>
        pureK Tryz.prog (sBin .add T_int (.tmp 20) (.const (.int .i64 1)) lv2.2.1 (.int .i64 1)) fun t21 =>
        next2 (t43, t21, ()) w3))))
    (LETJ (X := Value × Unit) (fun jv2 w4 =>
      upK Tryz.prog (sCall F_errataref01_Int #[jv2.1]) w4 fun t50 w5 =>
      pureK Tryz.prog (sBin .add T_string (.tmp 51) (.const (.string ⟨#[59]⟩)) s0 (.string ⟨#[59]⟩)) fun t52 =>
      pureK Tryz.prog (sBin .eql T_string (.tmp 50) (.tmp 52) t50 t52) fun t53 =>
      K (.tuple #[jv2.1, t53]) w5)
     (fun J2 =>
      pureK Tryz.prog (sBin .eql T_int (.tmp 44) (.const (.int .i64 0)) jv1.1 (.int .i64 0)) fun t45 =>
      ifB t45
      (pureK Tryz.prog (sUn .neg lv2.1) fun t47 =>
       J2 (t47, ()) w2)
      (J2 (lv2.1, ()) w2))))
   ((.int .i64 0), jv1.1, ()) w1)
  (fun J1 =>
   readK Tryz.prog (sBlt .len #[T_string] T_int #[false] #[s0]) w fun t8 =>
   pureK Tryz.prog (sBin .gtr T_int (.tmp 8) (.const (.int .i64 0)) t8 (.int .i64 0)) fun t9 =>
   ifB t9
   (pureK Tryz.prog (sIdx T_string s0 (.int .i64 0)) fun t12 =>
    pureK Tryz.prog (sBin .eql T_uint8 (.tmp 12) (.const (.int .u8 45)) t12 (.int .u8 45)) fun t13 =>
    ifB t13
    (J1 ((.int .i64 1), ()) w)
    (J1 ((.int .i64 0), ()) w))
   (J1 ((.int .i64 0), ()) w))
theorem errataref01_Back.pt_eq : errataref01_Back.pt = fun s0 w K => FN Tryz.prog Tryz.f93 (bodyOf Tryz.f93) [2, 3] (.node none .leaf (.node none .leaf (.node (some [4]) .leaf (.node none .leaf (.node none .leaf (.node (some [5]) .leaf .leaf)))))) [s0] w K := by kernel_rfl
theorem errataref01_Back.call {s0 : Value} {w : World} {K : Value → World → Prop} (h : errataref01_Back.pt s0 w K) : Calls Tryz.prog F_errataref01_Back #[s0] w (retK K) :=
  calls_FN (args := [s0]) Tryz.func93 (by kernel_rfl) (by rw [errataref01_Back.pt_eq] at h; exact h)
theorem errataref01_Back.up {s0 : Value} {w : World} {K : Value → World → Prop} (h : Calls Tryz.prog F_errataref01_Back #[s0] w (retK K)) : upK Tryz.prog (sCall F_errataref01_Back #[s0]) w K :=
  up_call (fn := Tryz.f93) Tryz.func93 (by kernel_rfl) (by kernel_rfl) h

/-- errata/errataref03.Compare -/
def errataref03_Compare.pt (a0 b1 : Value) (w : World) (K : Value → World → Prop) : Prop :=
  upK Tryz.prog (sBox T_api_Value a0) w fun a2 w1 =>
  upK Tryz.prog (sBox T_api_Value b1) w1 fun b3 w2 =>
  pureK Tryz.prog (sFieldAddr T_api_Value a2 0) fun t5 =>
  readK Tryz.prog (sLoad T_int t5) w2 fun t6 =>
  pureK Tryz.prog (sFieldAddr T_api_Value b3 0) fun t7 =>
  readK Tryz.prog (sLoad T_int t7) w2 fun t8 =>
  pureK Tryz.prog (sBin .lss T_int (.tmp 6) (.tmp 8) t6 t8) fun t9 =>
  ifB t9
  (K (.int .i64 (-1)) w2)
  (pureK Tryz.prog (sFieldAddr T_api_Value a2 0) fun t10 =>
   readK Tryz.prog (sLoad T_int t10) w2 fun t11 =>
   pureK Tryz.prog (sFieldAddr T_api_Value b3 0) fun t12 =>
   readK Tryz.prog (sLoad T_int t12) w2 fun t13 =>
   pureK Tryz.prog (sBin .gtr T_int (.tmp 11) (.tmp 13) t11 t13) fun t14 =>
   ifB t14
   (K (.int .i64 1) w2)
   (pureK Tryz.prog (sFieldAddr T_api_Value a2 1) fun t15 =>
    readK Tryz.prog (sLoad T_int t15) w2 fun t16 =>
    pureK Tryz.prog (sFieldAddr T_api_Value b3 1) fun t17 =>
    readK Tryz.prog (sLoad T_int t17) w2 fun t18 =>
    pureK Tryz.prog (sBin .lss T_int (.tmp 16) (.tmp 18) t16 t18) fun t19 =>
    ifB t19
    (K (.int .i64 (-1)) w2)
    (pureK Tryz.prog (sFieldAddr T_api_Value a2 1) fun t20 =>
     readK Tryz.prog (sLoad T_int t20) w2 fun t21 =>
     pureK Tryz.prog (sFieldAddr T_api_Value b3 1) fun t22 =>
     readK Tryz.prog (sLoad T_int t22) w2 fun t23 =>
     pureK Tryz.prog (sBin .gtr T_int (.tmp 21) (.tmp 23) t21 t23) fun t24 =>
     ifB t24
     (K (.int .i64 1) w2)
     (pureK Tryz.prog (sFieldAddr T_api_Value a2 2) fun t25 =>
      readK Tryz.prog (sLoad T_string t25) w2 fun t26 =>
      pureK Tryz.prog (sFieldAddr T_api_Value b3 2) fun t27 =>
      readK Tryz.prog (sLoad T_string t27) w2 fun t28 =>
      pureK Tryz.prog (sBin .lss T_string (.tmp 26) (.tmp 28) t26 t28) fun t29 =>
      ifB t29
      (K (.int .i64 (-1)) w2)
      (pureK Tryz.prog (sFieldAddr T_api_Value a2 2) fun t30 =>
       readK Tryz.prog (sLoad T_string t30) w2 fun t31 =>
       pureK Tryz.prog (sFieldAddr T_api_Value b3 2) fun t32 =>
       readK Tryz.prog (sLoad T_string t32) w2 fun t33 =>
       pureK Tryz.prog (sBin .gtr T_string (.tmp 31) (.tmp 33) t31 t33) fun t34 =>
       ifB t34
       (K (.int .i64 1) w2)
       (K (.int .i64 0) w2))))))
theorem errataref03_Compare.pt_eq : errataref03_Compare.pt = fun a0 b1 w K => FN Tryz.prog Tryz.f94 (bodyOf Tryz.f94) [4] .leaf [a0, b1] w K := by kernel_rfl
theorem errataref03_Compare.call {a0 b1 : Value} {w : World} {K : Value → World → Prop} (h : errataref03_Compare.pt a0 b1 w K) : Calls Tryz.prog F_errataref03_Compare #[a0, b1] w (retK K) :=
  calls_FN (args := [a0, b1]) Tryz.func94 (by kernel_rfl) (by rw [errataref03_Compare.pt_eq] at h; exact h)
theorem errataref03_Compare.up {a0 b1 : Value} {w : World} {K : Value → World → Prop} (h : Calls Tryz.prog F_errataref03_Compare #[a0, b1] w (retK K)) : upK Tryz.prog (sCall F_errataref03_Compare #[a0, b1]) w K :=
  up_call (fn := Tryz.f94) Tryz.func94 (by kernel_rfl) (by kernel_rfl) h

/-- slices.IndexFunc[[]errata/api.Value,errata/api.Value] -/
def slices_IndexFunc_s_api_Value_api_Value.pt (s0 f1 : Value) (w : World) (K : Value → World → Prop) : Prop :=
  readK Tryz.prog (sBlt .len #[T_s_api_Value] T_int #[false] #[s0]) w fun t7 =>
  LOOP (X := Value × Unit) (fun lv1 w1 next1 =>
   pureK Tryz.prog (sBin .lss T_int (.tmp 8) (.tmp 7) lv1.1 t7) fun t9 =>
   ifB t9
   (pureK Tryz.prog (sIdxAddr T_s_api_Value s0 lv1.1) fun t14 =>
    readK Tryz.prog (sLoad T_api_Value t14) w1 fun t15 =>
    upK Tryz.prog (sCallV f1 #[t15]) w1 fun t16 w2 =>
    ifB t16
    (K lv1.1 w2)
    (pureK Tryz.prog (sBin .add T_int (.tmp 8) (.const (.int .i64 1)) lv1.1 (.int .i64 1)) fun t18 =>
     next1 (t18, ()) w2))
   (K (.int .i64 (-1)) w1))
  ((.int .i64 0), ()) w
theorem slices_IndexFunc_s_api_Value_api_Value.pt_eq : slices_IndexFunc_s_api_Value_api_Value.pt = fun s0 f1 w K => FN Tryz.prog Tryz.f95 (bodyOf Tryz.f95) [4] .leaf [s0, f1] w K := by kernel_rfl
theorem slices_IndexFunc_s_api_Value_api_Value.call {s0 f1 : Value} {w : World} {K : Value → World → Prop} (h : slices_IndexFunc_s_api_Value_api_Value.pt s0 f1 w K) : Calls Tryz.prog F_slices_IndexFunc_s_api_Value_api_Value #[s0, f1] w (retK K) :=
  calls_FN (args := [s0, f1]) Tryz.func95 (by kernel_rfl) (by rw [slices_IndexFunc_s_api_Value_api_Value.pt_eq] at h; exact h)
theorem slices_IndexFunc_s_api_Value_api_Value.up {s0 f1 : Value} {w : World} {K : Value → World → Prop} (h : Calls Tryz.prog F_slices_IndexFunc_s_api_Value_api_Value #[s0, f1] w (retK K)) : upK Tryz.prog (sCall F_slices_IndexFunc_s_api_Value_api_Value #[s0, f1]) w K :=
  up_call (fn := Tryz.f95) Tryz.func95 (by kernel_rfl) (by kernel_rfl) h

/-- errata/value.Int -/
def value_Int.pt (n0 : Value) (w : World) (K : Value → World → Prop) : Prop :=
  upK Tryz.prog (sAlloc T_api_Value) w fun t2 w1 =>
  pureK Tryz.prog (sBuild T_api_Value #[(0, (.int .i64 0)), (1, n0)]) fun t4 =>
  upK Tryz.prog (sStore T_api_Value t2 t4) w1 fun tu w2 =>
  readV Tryz.prog (do loadVar T_api_Value (← asAddr t2)) w2 fun t2_1 =>
  K t2_1 w2
theorem value_Int.pt_eq : value_Int.pt = fun n0 w K => FN Tryz.prog Tryz.f96 (bodyOf Tryz.f96) [] .leaf [n0] w K := by kernel_rfl
theorem value_Int.call {n0 : Value} {w : World} {K : Value → World → Prop} (h : value_Int.pt n0 w K) : Calls Tryz.prog F_value_Int #[n0] w (retK K) :=
  calls_FN (args := [n0]) Tryz.func96 (by kernel_rfl) (by rw [value_Int.pt_eq] at h; exact h)
theorem value_Int.up {n0 : Value} {w : World} {K : Value → World → Prop} (h : Calls Tryz.prog F_value_Int #[n0] w (retK K)) : upK Tryz.prog (sCall F_value_Int #[n0]) w K :=
  up_call (fn := Tryz.f96) Tryz.func96 (by kernel_rfl) (by kernel_rfl) h

/-- errata/value.Text -/
def value_Text.pt (s0 : Value) (w : World) (K : Value → World → Prop) : Prop :=
  upK Tryz.prog (sAlloc T_api_Value) w fun t2 w1 =>
  pureK Tryz.prog (sBuild T_api_Value #[(0, (.int .i64 1)), (2, s0)]) fun t4 =>
  upK Tryz.prog (sStore T_api_Value t2 t4) w1 fun tu w2 =>
  readV Tryz.prog (do loadVar T_api_Value (← asAddr t2)) w2 fun t2_1 =>
  K t2_1 w2
theorem value_Text.pt_eq : value_Text.pt = fun s0 w K => FN Tryz.prog Tryz.f97 (bodyOf Tryz.f97) [] .leaf [s0] w K := by kernel_rfl
theorem value_Text.call {s0 : Value} {w : World} {K : Value → World → Prop} (h : value_Text.pt s0 w K) : Calls Tryz.prog F_value_Text #[s0] w (retK K) :=
  calls_FN (args := [s0]) Tryz.func97 (by kernel_rfl) (by rw [value_Text.pt_eq] at h; exact h)
theorem value_Text.up {s0 : Value} {w : World} {K : Value → World → Prop} (h : Calls Tryz.prog F_value_Text #[s0] w (retK K)) : upK Tryz.prog (sCall F_value_Text #[s0]) w K :=
  up_call (fn := Tryz.f97) Tryz.func97 (by kernel_rfl) (by kernel_rfl) h

/-- errata/value.Bool -/
def value_Bool.pt (b0 : Value) (w : World) (K : Value → World → Prop) : Prop :=
  upK Tryz.prog (sAlloc T_api_Value) w fun t2 w1 =>
  ifB b0
  (pureK Tryz.prog (sBuild T_api_Value #[(0, (.int .i64 2)), (1, (.int .i64 1))]) fun t4 =>
   upK Tryz.prog (sStore T_api_Value t2 t4) w1 fun tu w2 =>
   readV Tryz.prog (do loadVar T_api_Value (← asAddr t2)) w2 fun t2_1 =>
   K t2_1 w2)
  (pureK Tryz.prog (sBuild T_api_Value #[(0, (.int .i64 2))]) fun t5 =>
   upK Tryz.prog (sStore T_api_Value t2 t5) w1 fun tu_1 w3 =>
   readV Tryz.prog (do loadVar T_api_Value (← asAddr t2)) w3 fun t2_2 =>
   K t2_2 w3)
theorem value_Bool.pt_eq : value_Bool.pt = fun b0 w K => FN Tryz.prog Tryz.f98 (bodyOf Tryz.f98) [] .leaf [b0] w K := by kernel_rfl
theorem value_Bool.call {b0 : Value} {w : World} {K : Value → World → Prop} (h : value_Bool.pt b0 w K) : Calls Tryz.prog F_value_Bool #[b0] w (retK K) :=
  calls_FN (args := [b0]) Tryz.func98 (by kernel_rfl) (by rw [value_Bool.pt_eq] at h; exact h)
theorem value_Bool.up {b0 : Value} {w : World} {K : Value → World → Prop} (h : Calls Tryz.prog F_value_Bool #[b0] w (retK K)) : upK Tryz.prog (sCall F_value_Bool #[b0]) w K :=
  up_call (fn := Tryz.f98) Tryz.func98 (by kernel_rfl) (by kernel_rfl) h

/-- internal/stringslite.IndexByte -/
theorem internal_stringslite_IndexByte.up {p0 p1 : Value} {w : World} {K : Value → World → Prop} (h : Calls Tryz.prog F_internal_stringslite_IndexByte #[p0, p1] w (retK K)) : upK Tryz.prog (sCall F_internal_stringslite_IndexByte #[p0, p1]) w K :=
  up_call (fn := Tryz.f99) Tryz.func99 (by kernel_rfl) (by kernel_rfl) h

/-- internal/strconv.Atoi -/
theorem internal_strconv_Atoi.up {p0 : Value} {w : World} {K : Value → World → Prop} (h : Calls Tryz.prog F_internal_strconv_Atoi #[p0] w (retK K)) : upK Tryz.prog (sCall F_internal_strconv_Atoi #[p0]) w K :=
  up_call (fn := Tryz.f100) Tryz.func100 (by kernel_rfl) (by kernel_rfl) h

/-- strconv.toError -/
theorem strconv_toError.up {p0 p1 p2 p3 p4 : Value} {w : World} {K : Value → World → Prop} (h : Calls Tryz.prog F_strconv_toError #[p0, p1, p2, p3, p4] w (retK K)) : upK Tryz.prog (sCall F_strconv_toError #[p0, p1, p2, p3, p4]) w K :=
  up_call (fn := Tryz.f101) Tryz.func101 (by kernel_rfl) (by kernel_rfl) h

/-- internal/stringslite.CutPrefix -/
theorem internal_stringslite_CutPrefix.up {p0 p1 : Value} {w : World} {K : Value → World → Prop} (h : Calls Tryz.prog F_internal_stringslite_CutPrefix #[p0, p1] w (retK K)) : upK Tryz.prog (sCall F_internal_stringslite_CutPrefix #[p0, p1]) w K :=
  up_call (fn := Tryz.f102) Tryz.func102 (by kernel_rfl) (by kernel_rfl) h

/-- internal/strconv.FormatInt -/
theorem internal_strconv_FormatInt.up {p0 p1 : Value} {w : World} {K : Value → World → Prop} (h : Calls Tryz.prog F_internal_strconv_FormatInt #[p0, p1] w (retK K)) : upK Tryz.prog (sCall F_internal_strconv_FormatInt #[p0, p1]) w K :=
  up_call (fn := Tryz.f103) Tryz.func103 (by kernel_rfl) (by kernel_rfl) h

/-- internal/strconv.ParseInt -/
theorem internal_strconv_ParseInt.up {p0 p1 p2 : Value} {w : World} {K : Value → World → Prop} (h : Calls Tryz.prog F_internal_strconv_ParseInt #[p0, p1, p2] w (retK K)) : upK Tryz.prog (sCall F_internal_strconv_ParseInt #[p0, p1, p2]) w K :=
  up_call (fn := Tryz.f105) Tryz.func105 (by kernel_rfl) (by kernel_rfl) h

/-- strconv.syntaxError -/
theorem strconv_syntaxError.up {p0 p1 : Value} {w : World} {K : Value → World → Prop} (h : Calls Tryz.prog F_strconv_syntaxError #[p0, p1] w (retK K)) : upK Tryz.prog (sCall F_strconv_syntaxError #[p0, p1]) w K :=
  up_call (fn := Tryz.f106) Tryz.func106 (by kernel_rfl) (by kernel_rfl) h

/-- strconv.rangeError -/
theorem strconv_rangeError.up {p0 p1 : Value} {w : World} {K : Value → World → Prop} (h : Calls Tryz.prog F_strconv_rangeError #[p0, p1] w (retK K)) : upK Tryz.prog (sCall F_strconv_rangeError #[p0, p1]) w K :=
  up_call (fn := Tryz.f107) Tryz.func107 (by kernel_rfl) (by kernel_rfl) h

/-- strconv.baseError -/
theorem strconv_baseError.up {p0 p1 p2 : Value} {w : World} {K : Value → World → Prop} (h : Calls Tryz.prog F_strconv_baseError #[p0, p1, p2] w (retK K)) : upK Tryz.prog (sCall F_strconv_baseError #[p0, p1, p2]) w K :=
  up_call (fn := Tryz.f108) Tryz.func108 (by kernel_rfl) (by kernel_rfl) h

/-- strconv.bitSizeError -/
theorem strconv_bitSizeError.up {p0 p1 p2 : Value} {w : World} {K : Value → World → Prop} (h : Calls Tryz.prog F_strconv_bitSizeError #[p0, p1, p2] w (retK K)) : upK Tryz.prog (sCall F_strconv_bitSizeError #[p0, p1, p2]) w K :=
  up_call (fn := Tryz.f109) Tryz.func109 (by kernel_rfl) (by kernel_rfl) h

/-- internal/stringslite.HasPrefix -/
theorem internal_stringslite_HasPrefix.up {p0 p1 : Value} {w : World} {K : Value → World → Prop} (h : Calls Tryz.prog F_internal_stringslite_HasPrefix #[p0, p1] w (retK K)) : upK Tryz.prog (sCall F_internal_stringslite_HasPrefix #[p0, p1]) w K :=
  up_call (fn := Tryz.f110) Tryz.func110 (by kernel_rfl) (by kernel_rfl) h

/-- internal/strconv.small -/
theorem internal_strconv_small.up {p0 : Value} {w : World} {K : Value → World → Prop} (h : Calls Tryz.prog F_internal_strconv_small #[p0] w (retK K)) : upK Tryz.prog (sCall F_internal_strconv_small #[p0]) w K :=
  up_call (fn := Tryz.f111) Tryz.func111 (by kernel_rfl) (by kernel_rfl) h

/-- internal/strconv.numDigits -/
theorem internal_strconv_numDigits.up {p0 : Value} {w : World} {K : Value → World → Prop} (h : Calls Tryz.prog F_internal_strconv_numDigits #[p0] w (retK K)) : upK Tryz.prog (sCall F_internal_strconv_numDigits #[p0]) w K :=
  up_call (fn := Tryz.f112) Tryz.func112 (by kernel_rfl) (by kernel_rfl) h

/-- internal/strconv.formatBase10 -/
theorem internal_strconv_formatBase10.up {p0 p1 : Value} {w : World} {K : Value → World → Prop} (h : Calls Tryz.prog F_internal_strconv_formatBase10 #[p0, p1] w (retK K)) : upK Tryz.prog (sCall F_internal_strconv_formatBase10 #[p0, p1]) w K :=
  up_call (fn := Tryz.f113) Tryz.func113 (by kernel_rfl) (by kernel_rfl) h

/-- internal/strconv.formatBits -/
theorem internal_strconv_formatBits.up {p0 p1 p2 p3 p4 : Value} {w : World} {K : Value → World → Prop} (h : Calls Tryz.prog F_internal_strconv_formatBits #[p0, p1, p2, p3, p4] w (retK K)) : upK Tryz.prog (sCall F_internal_strconv_formatBits #[p0, p1, p2, p3, p4]) w K :=
  up_call (fn := Tryz.f114) Tryz.func114 (by kernel_rfl) (by kernel_rfl) h

/-- internal/strconv.ParseUint -/
theorem internal_strconv_ParseUint.up {p0 p1 p2 : Value} {w : World} {K : Value → World → Prop} (h : Calls Tryz.prog F_internal_strconv_ParseUint #[p0, p1, p2] w (retK K)) : upK Tryz.prog (sCall F_internal_strconv_ParseUint #[p0, p1, p2]) w K :=
  up_call (fn := Tryz.f115) Tryz.func115 (by kernel_rfl) (by kernel_rfl) h

/-- internal/stringslite.Clone -/
theorem internal_stringslite_Clone.up {p0 : Value} {w : World} {K : Value → World → Prop} (h : Calls Tryz.prog F_internal_stringslite_Clone #[p0] w (retK K)) : upK Tryz.prog (sCall F_internal_stringslite_Clone #[p0]) w K :=
  up_call (fn := Tryz.f116) Tryz.func116 (by kernel_rfl) (by kernel_rfl) h

/-- errors.New -/
theorem errors_New.up {p0 : Value} {w : World} {K : Value → World → Prop} (h : Calls Tryz.prog F_errors_New #[p0] w (retK K)) : upK Tryz.prog (sCall F_errors_New #[p0]) w K :=
  up_call (fn := Tryz.f117) Tryz.func117 (by kernel_rfl) (by kernel_rfl) h

/-- internal/strconv.log10Pow2 -/
theorem internal_strconv_log10Pow2.up {p0 : Value} {w : World} {K : Value → World → Prop} (h : Calls Tryz.prog F_internal_strconv_log10Pow2 #[p0] w (retK K)) : upK Tryz.prog (sCall F_internal_strconv_log10Pow2 #[p0]) w K :=
  up_call (fn := Tryz.f118) Tryz.func118 (by kernel_rfl) (by kernel_rfl) h

/-- math/bits.Len64 -/
theorem math_bits_Len64.up {p0 : Value} {w : World} {K : Value → World → Prop} (h : Calls Tryz.prog F_math_bits_Len64 #[p0] w (retK K)) : upK Tryz.prog (sCall F_math_bits_Len64 #[p0]) w K :=
  up_call (fn := Tryz.f119) Tryz.func119 (by kernel_rfl) (by kernel_rfl) h

/-- internal/strconv.bool2[int] -/
theorem internal_strconv_bool2_int.up {p0 : Value} {w : World} {K : Value → World → Prop} (h : Calls Tryz.prog F_internal_strconv_bool2_int #[p0] w (retK K)) : upK Tryz.prog (sCall F_internal_strconv_bool2_int #[p0]) w K :=
  up_call (fn := Tryz.f120) Tryz.func120 (by kernel_rfl) (by kernel_rfl) h

/-- internal/strconv.isPowerOfTwo -/
theorem internal_strconv_isPowerOfTwo.up {p0 : Value} {w : World} {K : Value → World → Prop} (h : Calls Tryz.prog F_internal_strconv_isPowerOfTwo #[p0] w (retK K)) : upK Tryz.prog (sCall F_internal_strconv_isPowerOfTwo #[p0]) w K :=
  up_call (fn := Tryz.f121) Tryz.func121 (by kernel_rfl) (by kernel_rfl) h

/-- math/bits.TrailingZeros -/
theorem math_bits_TrailingZeros.up {p0 : Value} {w : World} {K : Value → World → Prop} (h : Calls Tryz.prog F_math_bits_TrailingZeros #[p0] w (retK K)) : upK Tryz.prog (sCall F_math_bits_TrailingZeros #[p0]) w K :=
  up_call (fn := Tryz.f122) Tryz.func122 (by kernel_rfl) (by kernel_rfl) h

/-- internal/strconv.lower -/
theorem internal_strconv_lower.up {p0 : Value} {w : World} {K : Value → World → Prop} (h : Calls Tryz.prog F_internal_strconv_lower #[p0] w (retK K)) : upK Tryz.prog (sCall F_internal_strconv_lower #[p0]) w K :=
  up_call (fn := Tryz.f123) Tryz.func123 (by kernel_rfl) (by kernel_rfl) h

/-- internal/strconv.underscoreOK -/
theorem internal_strconv_underscoreOK.up {p0 : Value} {w : World} {K : Value → World → Prop} (h : Calls Tryz.prog F_internal_strconv_underscoreOK #[p0] w (retK K)) : upK Tryz.prog (sCall F_internal_strconv_underscoreOK #[p0]) w K :=
  up_call (fn := Tryz.f124) Tryz.func124 (by kernel_rfl) (by kernel_rfl) h

/-- math/bits.TrailingZeros32 -/
theorem math_bits_TrailingZeros32.up {p0 : Value} {w : World} {K : Value → World → Prop} (h : Calls Tryz.prog F_math_bits_TrailingZeros32 #[p0] w (retK K)) : upK Tryz.prog (sCall F_math_bits_TrailingZeros32 #[p0]) w K :=
  up_call (fn := Tryz.f125) Tryz.func125 (by kernel_rfl) (by kernel_rfl) h

/-- math/bits.TrailingZeros64 -/
theorem math_bits_TrailingZeros64.up {p0 : Value} {w : World} {K : Value → World → Prop} (h : Calls Tryz.prog F_math_bits_TrailingZeros64 #[p0] w (retK K)) : upK Tryz.prog (sCall F_math_bits_TrailingZeros64 #[p0]) w K :=
  up_call (fn := Tryz.f126) Tryz.func126 (by kernel_rfl) (by kernel_rfl) h

end Go.Proofs.YtmllhipiahlihaaGreatDoor
