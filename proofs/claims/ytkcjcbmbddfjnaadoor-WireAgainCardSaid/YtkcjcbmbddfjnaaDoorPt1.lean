/-
  The reckoned conditions of the functions that this seat's statements reach, printed by program, each held against the translation by the kernel. No condition.
-/
import Derived.Test.YtkcjcbmbddfjnaaDoorNames
namespace Go.Proofs.YtkcjcbmbddfjnaaDoor
set_option linter.unusedVariables false
set_option maxRecDepth 100000

/-- (*errata/errataref01.Reader).number -/
def errataref01_Reader_number.pt (r0 end1 : Value) (w : World) (K : Value → World → Prop) : Prop :=
  upK Tryd.prog (sCall F_errataref01_Reader_ahead #[r0, end1]) w fun t8 w1 =>
  pureK Tryd.prog (sBin .lss T_int (.tmp 9) (.const (.int .i64 0)) t8 (.int .i64 0)) fun t10 =>
  ifB t10
  (upK Tryd.prog (sCall F_errataref01_Reader_fail #[r0]) w1 fun t12 w2 =>
   K t12 w2)
  (K t8 w1)
theorem errataref01_Reader_number.pt_eq : errataref01_Reader_number.pt = fun r0 end1 w K => FN Tryd.prog Tryd.f54 (bodyOf Tryd.f54) [4] .leaf [r0, end1] w K := by kernel_rfl
theorem errataref01_Reader_number.call {r0 end1 : Value} {w : World} {K : Value → World → Prop} (h : errataref01_Reader_number.pt r0 end1 w K) : Calls Tryd.prog F_errataref01_Reader_number #[r0, end1] w (retK K) :=
  calls_FN (args := [r0, end1]) Tryd.func54 (by kernel_rfl) (by rw [errataref01_Reader_number.pt_eq] at h; exact h)
theorem errataref01_Reader_number.up {r0 end1 : Value} {w : World} {K : Value → World → Prop} (h : Calls Tryd.prog F_errataref01_Reader_number #[r0, end1] w (retK K)) : upK Tryd.prog (sCall F_errataref01_Reader_number #[r0, end1]) w K :=
  up_call (fn := Tryd.f54) Tryd.func54 (by kernel_rfl) (by kernel_rfl) h

/-- (*errata/errataref01.Reader).ahead -/
def errataref01_Reader_ahead.pt (r0 end1 : Value) (w : World) (K : Value → World → Prop) : Prop :=
  LETJ (X := Value × Unit) (fun y1 w1 =>
   pureK Tryd.prog (sNil r0) fun t33 =>
   pureK Tryd.prog (sFieldAddr T_errataref01_Reader t33 0) fun t34 =>
   readK Tryd.prog (sLoad T_string t34) w1 fun t35 =>
   readK Tryd.prog (sBlt .len #[T_string] T_int #[false] #[t35]) w1 fun t36 =>
   pureK Tryd.prog (sBin .geq T_int (.tmp 31) (.tmp 36) y1.1 t36) fun t37 =>
   ifB t37
   (upK Tryd.prog (sCall F_errataref01_Reader_fail #[r0]) w1 fun t39 w2 =>
    K t39 w2)
   (pureK Tryd.prog (sNil r0) fun t41 =>
    pureK Tryd.prog (sFieldAddr T_errataref01_Reader t41 0) fun t42 =>
    readK Tryd.prog (sLoad T_string t42) w1 fun t43 =>
    pureK Tryd.prog (sIdx T_string t43 y1.1) fun t45 =>
    pureK Tryd.prog (sBin .neq T_uint8 (.tmp 45) (.tmp 46) t45 end1) fun t47 =>
    ifB t47
    (upK Tryd.prog (sCall F_errataref01_Reader_fail #[r0]) w1 fun t49 w3 =>
     K t49 w3)
    (pureK Tryd.prog (sNil r0) fun t52 =>
     pureK Tryd.prog (sFieldAddr T_errataref01_Reader t52 0) fun t53 =>
     readK Tryd.prog (sLoad T_string t53) w1 fun t54 =>
     pureK Tryd.prog (sSlice T_string t54 none (some y1.1) none) fun t56 =>
     upK Tryd.prog (sCall F_errataref01_Back #[t56]) w1 fun t57 w4 =>
     pureK Tryd.prog (sExtract t57 0) fun t58 =>
     pureK Tryd.prog (sExtract t57 1) fun t59 =>
     pureK Tryd.prog (sUn .not t59) fun t61 =>
     ifB t61
     (upK Tryd.prog (sCall F_errataref01_Reader_fail #[r0]) w4 fun t63 w5 =>
      K t63 w5)
     (pureK Tryd.prog (sNil r0) fun t66 =>
      pureK Tryd.prog (sFieldAddr T_errataref01_Reader t66 0) fun t67 =>
      readK Tryd.prog (sLoad T_string t67) w4 fun t68 =>
      pureK Tryd.prog (sBin .add T_int (.tmp 69) (.const (.int .i64 1)) y1.1 (.int .i64 1)) fun t70 =>
      pureK Tryd.prog (sSlice T_string t68 (some t70) none none) fun t71 =>
      pureK Tryd.prog (sNil r0) fun t72 =>
      pureK Tryd.prog (sFieldAddr T_errataref01_Reader t72 0) fun t73 =>
      upK Tryd.prog (sStore T_string t73 t71) w4 fun tu w6 =>
      K t58 w6))))
  (fun J1 =>
   LOOP (X := Value × Unit) (fun x7 w7 next7 =>
    pureK Tryd.prog (sNil r0) fun t10 =>
    pureK Tryd.prog (sFieldAddr T_errataref01_Reader t10 0) fun t11 =>
    readK Tryd.prog (sLoad T_string t11) w7 fun t12 =>
    readK Tryd.prog (sBlt .len #[T_string] T_int #[false] #[t12]) w7 fun t13 =>
    pureK Tryd.prog (sBin .lss T_int (.tmp 8) (.tmp 13) x7.1 t13) fun t14 =>
    ifB t14
    (pureK Tryd.prog (sBin .lss T_int (.tmp 16) (.const (.int .i64 21)) x7.1 (.int .i64 21)) fun t17 =>
     ifB t17
     (pureK Tryd.prog (sNil r0) fun t21 =>
      pureK Tryd.prog (sFieldAddr T_errataref01_Reader t21 0) fun t22 =>
      readK Tryd.prog (sLoad T_string t22) w7 fun t23 =>
      pureK Tryd.prog (sIdx T_string t23 x7.1) fun t25 =>
      pureK Tryd.prog (sBin .neq T_uint8 (.tmp 25) (.tmp 26) t25 end1) fun t27 =>
      ifB t27
      (pureK Tryd.prog (sBin .add T_int (.tmp 29) (.const (.int .i64 1)) x7.1 (.int .i64 1)) fun t30 =>
       next7 (t30, ()) w7)
      (J1 (x7.1, ()) w7))
     (J1 (x7.1, ()) w7))
    (J1 (x7.1, ()) w7))
   ((.int .i64 0), ()) w)
theorem errataref01_Reader_ahead.pt_eq : errataref01_Reader_ahead.pt = fun r0 end1 w K => FN Tryd.prog Tryd.f55 (bodyOf Tryd.f55) [4] (.node none .leaf (.node none .leaf (.node (some [5]) .leaf .leaf))) [r0, end1] w K := by kernel_rfl
theorem errataref01_Reader_ahead.call {r0 end1 : Value} {w : World} {K : Value → World → Prop} (h : errataref01_Reader_ahead.pt r0 end1 w K) : Calls Tryd.prog F_errataref01_Reader_ahead #[r0, end1] w (retK K) :=
  calls_FN (args := [r0, end1]) Tryd.func55 (by kernel_rfl) (by rw [errataref01_Reader_ahead.pt_eq] at h; exact h)
theorem errataref01_Reader_ahead.up {r0 end1 : Value} {w : World} {K : Value → World → Prop} (h : Calls Tryd.prog F_errataref01_Reader_ahead #[r0, end1] w (retK K)) : upK Tryd.prog (sCall F_errataref01_Reader_ahead #[r0, end1]) w K :=
  up_call (fn := Tryd.f55) Tryd.func55 (by kernel_rfl) (by kernel_rfl) h

/-- (*errata/errataref01.Reader).fail -/
def errataref01_Reader_fail.pt (r0 : Value) (w : World) (K : Value → World → Prop) : Prop :=
  pureK Tryd.prog (sNil r0) fun t4 =>
  pureK Tryd.prog (sFieldAddr T_errataref01_Reader t4 0) fun t5 =>
  upK Tryd.prog (sStore T_string t5 (.string ⟨#[]⟩)) w fun tu w1 =>
  pureK Tryd.prog (sNil r0) fun t7 =>
  pureK Tryd.prog (sFieldAddr T_errataref01_Reader t7 1) fun t8 =>
  upK Tryd.prog (sStore T_bool t8 (.bool true)) w1 fun tu_1 w2 =>
  K (.int .i64 0) w2
theorem errataref01_Reader_fail.pt_eq : errataref01_Reader_fail.pt = fun r0 w K => FN Tryd.prog Tryd.f56 (bodyOf Tryd.f56) [2] .leaf [r0] w K := by kernel_rfl
theorem errataref01_Reader_fail.call {r0 : Value} {w : World} {K : Value → World → Prop} (h : errataref01_Reader_fail.pt r0 w K) : Calls Tryd.prog F_errataref01_Reader_fail #[r0] w (retK K) :=
  calls_FN (args := [r0]) Tryd.func56 (by kernel_rfl) (by rw [errataref01_Reader_fail.pt_eq] at h; exact h)
theorem errataref01_Reader_fail.up {r0 : Value} {w : World} {K : Value → World → Prop} (h : Calls Tryd.prog F_errataref01_Reader_fail #[r0] w (retK K)) : upK Tryd.prog (sCall F_errataref01_Reader_fail #[r0]) w K :=
  up_call (fn := Tryd.f56) Tryd.func56 (by kernel_rfl) (by kernel_rfl) h

/-- (*errata/errataref01.Reader).close -/
def errataref01_Reader_close.pt (r0 end1 : Value) (w : World) (K : Value → World → Prop) : Prop :=
  pureK Tryd.prog (sNil r0) fun t6 =>
  pureK Tryd.prog (sFieldAddr T_errataref01_Reader t6 0) fun t7 =>
  readK Tryd.prog (sLoad T_string t7) w fun t8 =>
  readK Tryd.prog (sBlt .len #[T_string] T_int #[false] #[t8]) w fun t9 =>
  pureK Tryd.prog (sBin .eql T_int (.tmp 9) (.const (.int .i64 0)) t9 (.int .i64 0)) fun t10 =>
  ifB t10
  (upK Tryd.prog (sCall F_errataref01_Reader_fail #[r0]) w fun t12 w1 =>
   K (.bool false) w1)
  (pureK Tryd.prog (sNil r0) fun t14 =>
   pureK Tryd.prog (sFieldAddr T_errataref01_Reader t14 0) fun t15 =>
   readK Tryd.prog (sLoad T_string t15) w fun t16 =>
   pureK Tryd.prog (sIdx T_string t16 (.int .i64 0)) fun t17 =>
   pureK Tryd.prog (sBin .neq T_uint8 (.tmp 17) (.tmp 18) t17 end1) fun t19 =>
   ifB t19
   (upK Tryd.prog (sCall F_errataref01_Reader_fail #[r0]) w fun t21 w2 =>
    K (.bool false) w2)
   (pureK Tryd.prog (sNil r0) fun t24 =>
    pureK Tryd.prog (sFieldAddr T_errataref01_Reader t24 0) fun t25 =>
    readK Tryd.prog (sLoad T_string t25) w fun t26 =>
    pureK Tryd.prog (sSlice T_string t26 (some (.int .i64 1)) none none) fun t27 =>
    pureK Tryd.prog (sNil r0) fun t28 =>
    pureK Tryd.prog (sFieldAddr T_errataref01_Reader t28 0) fun t29 =>
    upK Tryd.prog (sStore T_string t29 t27) w fun tu w3 =>
    K (.bool true) w3))
theorem errataref01_Reader_close.pt_eq : errataref01_Reader_close.pt = fun r0 end1 w K => FN Tryd.prog Tryd.f57 (bodyOf Tryd.f57) [4] .leaf [r0, end1] w K := by kernel_rfl
theorem errataref01_Reader_close.call {r0 end1 : Value} {w : World} {K : Value → World → Prop} (h : errataref01_Reader_close.pt r0 end1 w K) : Calls Tryd.prog F_errataref01_Reader_close #[r0, end1] w (retK K) :=
  calls_FN (args := [r0, end1]) Tryd.func57 (by kernel_rfl) (by rw [errataref01_Reader_close.pt_eq] at h; exact h)
theorem errataref01_Reader_close.up {r0 end1 : Value} {w : World} {K : Value → World → Prop} (h : Calls Tryd.prog F_errataref01_Reader_close #[r0, end1] w (retK K)) : upK Tryd.prog (sCall F_errataref01_Reader_close #[r0, end1]) w K :=
  up_call (fn := Tryd.f57) Tryd.func57 (by kernel_rfl) (by kernel_rfl) h

/-- internal/strconv.Itoa -/
theorem internal_strconv_Itoa.up {p0 : Value} {w : World} {K : Value → World → Prop} (h : Calls Tryd.prog F_internal_strconv_Itoa #[p0] w (retK K)) : upK Tryd.prog (sCall F_internal_strconv_Itoa #[p0]) w K :=
  up_call (fn := Tryd.f58) Tryd.func58 (by kernel_rfl) (by kernel_rfl) h

/-- (*strings.Builder).WriteString -/
def strings_Builder_WriteString.pt (b0 s1 : Value) (w : World) (K : Value → World → Prop) : Prop :=
  upK Tryd.prog (sCall F_strings_Builder_copyCheck #[b0]) w fun t7 w1 =>
  pureK Tryd.prog (sNil b0) fun t10 =>
  pureK Tryd.prog (sFieldAddr T_strings_Builder t10 1) fun t11 =>
  readK Tryd.prog (sLoad T_s_uint8 t11) w1 fun t12 =>
  upK Tryd.prog (sBlt .append #[T_s_uint8, T_string] T_s_uint8 #[false, false] #[t12, s1]) w1 fun t14 w2 =>
  pureK Tryd.prog (sNil b0) fun t15 =>
  pureK Tryd.prog (sFieldAddr T_strings_Builder t15 1) fun t16 =>
  upK Tryd.prog (sStore T_s_uint8 t16 t14) w2 fun tu w3 =>
  readK Tryd.prog (sBlt .len #[T_string] T_int #[false] #[s1]) w3 fun t18 =>
  K (.tuple #[t18, .nilIface]) w3
theorem strings_Builder_WriteString.pt_eq : strings_Builder_WriteString.pt = fun b0 s1 w K => FN Tryd.prog Tryd.f59 (bodyOf Tryd.f59) [4, 5] .leaf [b0, s1] w K := by kernel_rfl
theorem strings_Builder_WriteString.call {b0 s1 : Value} {w : World} {K : Value → World → Prop} (h : strings_Builder_WriteString.pt b0 s1 w K) : Calls Tryd.prog F_strings_Builder_WriteString #[b0, s1] w (retK K) :=
  calls_FN (args := [b0, s1]) Tryd.func59 (by kernel_rfl) (by rw [strings_Builder_WriteString.pt_eq] at h; exact h)
theorem strings_Builder_WriteString.up {b0 s1 : Value} {w : World} {K : Value → World → Prop} (h : Calls Tryd.prog F_strings_Builder_WriteString #[b0, s1] w (retK K)) : upK Tryd.prog (sCall F_strings_Builder_WriteString #[b0, s1]) w K :=
  up_call (fn := Tryd.f59) Tryd.func59 (by kernel_rfl) (by kernel_rfl) h

/-- (*strings.Builder).String -/
theorem strings_Builder_String.up {p0 : Value} {w : World} {K : Value → World → Prop} (h : Calls Tryd.prog F_strings_Builder_String #[p0] w (retK K)) : upK Tryd.prog (sCall F_strings_Builder_String #[p0]) w K :=
  up_call (fn := Tryd.f60) Tryd.func60 (by kernel_rfl) (by kernel_rfl) h

/-- strings.IndexByte -/
theorem strings_IndexByte.up {p0 p1 : Value} {w : World} {K : Value → World → Prop} (h : Calls Tryd.prog F_strings_IndexByte #[p0, p1] w (retK K)) : upK Tryd.prog (sCall F_strings_IndexByte #[p0, p1]) w K :=
  up_call (fn := Tryd.f61) Tryd.func61 (by kernel_rfl) (by kernel_rfl) h

/-- strconv.Atoi -/
theorem strconv_Atoi.up {p0 : Value} {w : World} {K : Value → World → Prop} (h : Calls Tryd.prog F_strconv_Atoi #[p0] w (retK K)) : upK Tryd.prog (sCall F_strconv_Atoi #[p0]) w K :=
  up_call (fn := Tryd.f62) Tryd.func62 (by kernel_rfl) (by kernel_rfl) h

/-- strings.CutPrefix -/
theorem strings_CutPrefix.up {p0 p1 : Value} {w : World} {K : Value → World → Prop} (h : Calls Tryd.prog F_strings_CutPrefix #[p0, p1] w (retK K)) : upK Tryd.prog (sCall F_strings_CutPrefix #[p0, p1]) w K :=
  up_call (fn := Tryd.f63) Tryd.func63 (by kernel_rfl) (by kernel_rfl) h

/-- errata/errataref01.Back -/
def errataref01_Back.pt (s0 : Value) (w : World) (K : Value → World → Prop) : Prop :=
  LETJ (X := Value × Unit) (fun y1 w1 =>
   LOOP (X := Value × Value × Unit) (fun x2 w2 next2 =>
    readK Tryd.prog (sBlt .len #[T_string] T_int #[false] #[s0]) w2 fun t18 =>
    pureK Tryd.prog (sBin .lss T_int (.tmp 16) (.tmp 18) x2.2.1 t18) fun t19 =>
    ifB t19
    (pureK Tryd.prog (sIdx T_string s0 x2.2.1) fun t24 =>
     pureK Tryd.prog (sBin .lss T_uint8 (.tmp 24) (.const (.int .u8 48)) t24 (.int .u8 48)) fun t25 =>
     ifB t25
     (K (.tuple #[(.int .i64 0), (.bool false)]) w2)
     (pureK Tryd.prog (sIdx T_string s0 x2.2.1) fun t29 =>
      pureK Tryd.prog (sBin .gtr T_uint8 (.tmp 29) (.const (.int .u8 57)) t29 (.int .u8 57)) fun t30 =>
      ifB t30
      (K (.tuple #[(.int .i64 0), (.bool false)]) w2)
      (pureK Tryd.prog (sBin .gtr T_int (.tmp 33) (.const (.int .i64 20)) x2.2.1 (.int .i64 20)) fun t34 =>
       ifB t34
       (K (.tuple #[(.int .i64 0), (.bool false)]) w2)
       (pureK Tryd.prog (sBin .mul T_int (.const (.int .i64 10)) (.tmp 36) (.int .i64 10) x2.1) fun t37 =>
        pureK Tryd.prog (sIdx T_string s0 x2.2.1) fun t40 =>
        pureK Tryd.prog (sBin .sub T_uint8 (.tmp 40) (.const (.int .u8 48)) t40 (.int .u8 48)) fun t41 =>
        upK Tryd.prog (sConv T_uint8 T_int t41) w2 fun t42 w3 =>
        pureK Tryd.prog (sBin .sub T_int (.tmp 37) (.tmp 42) t37 t42) fun t43 =>
        pureK Tryd.prog (sBin .add T_int (.tmp 20) (.const (.int .i64 1)) x2.2.1 (.int .i64 1)) fun t21 =>
        next2 (t43, t21, ()) w3))))
    (LETJ (X := Value × Unit) (fun y2 w4 =>
      upK Tryd.prog (sCall F_errataref01_Int #[y2.1]) w4 fun t50 w5 =>
      pureK Tryd.prog (sBin .add T_string (.tmp 51) (.const (.string ⟨#[59]⟩)) s0 (.string ⟨#[59]⟩)) fun t52 =>
      pureK Tryd.prog (sBin .eql T_string (.tmp 50) (.tmp 52) t50 t52) fun t53 =>
      K (.tuple #[y2.1, t53]) w5)
     (fun J2 =>
      pureK Tryd.prog (sBin .eql T_int (.tmp 44) (.const (.int .i64 0)) y1.1 (.int .i64 0)) fun t45 =>
      ifB t45
      (pureK Tryd.prog (sUn .neg x2.1) fun t47 =>
       J2 (t47, ()) w2)
      (J2 (x2.1, ()) w2))))
   ((.int .i64 0), y1.1, ()) w1)
  (fun J1 =>
   readK Tryd.prog (sBlt .len #[T_string] T_int #[false] #[s0]) w fun t8 =>
   pureK Tryd.prog (sBin .gtr T_int (.tmp 8) (.const (.int .i64 0)) t8 (.int .i64 0)) fun t9 =>
   ifB t9
   (pureK Tryd.prog (sIdx T_string s0 (.int .i64 0)) fun t12 =>
    pureK Tryd.prog (sBin .eql T_uint8 (.tmp 12) (.const (.int .u8 45)) t12 (.int .u8 45)) fun t13 =>
    ifB t13
    (J1 ((.int .i64 1), ()) w)
    (J1 ((.int .i64 0), ()) w))
   (J1 ((.int .i64 0), ()) w))
theorem errataref01_Back.pt_eq : errataref01_Back.pt = fun s0 w K => FN Tryd.prog Tryd.f64 (bodyOf Tryd.f64) [2, 3] (.node none .leaf (.node none .leaf (.node (some [4]) .leaf (.node none .leaf (.node none .leaf (.node (some [5]) .leaf .leaf)))))) [s0] w K := by kernel_rfl
theorem errataref01_Back.call {s0 : Value} {w : World} {K : Value → World → Prop} (h : errataref01_Back.pt s0 w K) : Calls Tryd.prog F_errataref01_Back #[s0] w (retK K) :=
  calls_FN (args := [s0]) Tryd.func64 (by kernel_rfl) (by rw [errataref01_Back.pt_eq] at h; exact h)
theorem errataref01_Back.up {s0 : Value} {w : World} {K : Value → World → Prop} (h : Calls Tryd.prog F_errataref01_Back #[s0] w (retK K)) : upK Tryd.prog (sCall F_errataref01_Back #[s0]) w K :=
  up_call (fn := Tryd.f64) Tryd.func64 (by kernel_rfl) (by kernel_rfl) h

/-- internal/strconv.FormatInt -/
theorem internal_strconv_FormatInt.up {p0 p1 : Value} {w : World} {K : Value → World → Prop} (h : Calls Tryd.prog F_internal_strconv_FormatInt #[p0, p1] w (retK K)) : upK Tryd.prog (sCall F_internal_strconv_FormatInt #[p0, p1]) w K :=
  up_call (fn := Tryd.f65) Tryd.func65 (by kernel_rfl) (by kernel_rfl) h

/-- (*strings.Builder).copyCheck -/
def strings_Builder_copyCheck.pt (b0 : Value) (w : World) (K : Value → World → Prop) : Prop :=
  pureK Tryd.prog (sNil b0) fun t3 =>
  pureK Tryd.prog (sFieldAddr T_strings_Builder t3 0) fun t4 =>
  readK Tryd.prog (sLoad T_p_strings_Builder t4) w fun t5 =>
  pureK Tryd.prog (sBin .eql T_p_strings_Builder (.tmp 5) (.const (.pointer none)) t5 (.pointer none)) fun t6 =>
  ifB t6
  (upK Tryd.prog (sConv T_p_strings_Builder T_unsafe_Pointer b0) w fun t9 w1 =>
   upK Tryd.prog (sCall F_internal_abi_NoEscape #[t9]) w1 fun t10 w2 =>
   upK Tryd.prog (sConv T_unsafe_Pointer T_p_strings_Builder t10) w2 fun t11 w3 =>
   pureK Tryd.prog (sNil b0) fun t12 =>
   pureK Tryd.prog (sFieldAddr T_strings_Builder t12 0) fun t13 =>
   upK Tryd.prog (sStore T_p_strings_Builder t13 t11) w3 fun tu w4 =>
   K (.tuple #[]) w4)
  (pureK Tryd.prog (sNil b0) fun t15 =>
   pureK Tryd.prog (sFieldAddr T_strings_Builder t15 0) fun t16 =>
   readK Tryd.prog (sLoad T_p_strings_Builder t16) w fun t17 =>
   pureK Tryd.prog (sBin .neq T_p_strings_Builder (.tmp 17) (.tmp 18) t17 b0) fun t19 =>
   ifB t19
   (False)
   (K (.tuple #[]) w))
theorem strings_Builder_copyCheck.pt_eq : strings_Builder_copyCheck.pt = fun b0 w K => FN Tryd.prog Tryd.f66 (bodyOf Tryd.f66) [] .leaf [b0] w K := by kernel_rfl
theorem strings_Builder_copyCheck.call {b0 : Value} {w : World} {K : Value → World → Prop} (h : strings_Builder_copyCheck.pt b0 w K) : Calls Tryd.prog F_strings_Builder_copyCheck #[b0] w (retK K) :=
  calls_FN (args := [b0]) Tryd.func66 (by kernel_rfl) (by rw [strings_Builder_copyCheck.pt_eq] at h; exact h)
theorem strings_Builder_copyCheck.up {b0 : Value} {w : World} {K : Value → World → Prop} (h : Calls Tryd.prog F_strings_Builder_copyCheck #[b0] w (retK K)) : upK Tryd.prog (sCall F_strings_Builder_copyCheck #[b0]) w K :=
  up_call (fn := Tryd.f66) Tryd.func66 (by kernel_rfl) (by kernel_rfl) h

/-- internal/stringslite.IndexByte -/
theorem internal_stringslite_IndexByte.up {p0 p1 : Value} {w : World} {K : Value → World → Prop} (h : Calls Tryd.prog F_internal_stringslite_IndexByte #[p0, p1] w (retK K)) : upK Tryd.prog (sCall F_internal_stringslite_IndexByte #[p0, p1]) w K :=
  up_call (fn := Tryd.f67) Tryd.func67 (by kernel_rfl) (by kernel_rfl) h

/-- internal/strconv.Atoi -/
theorem internal_strconv_Atoi.up {p0 : Value} {w : World} {K : Value → World → Prop} (h : Calls Tryd.prog F_internal_strconv_Atoi #[p0] w (retK K)) : upK Tryd.prog (sCall F_internal_strconv_Atoi #[p0]) w K :=
  up_call (fn := Tryd.f68) Tryd.func68 (by kernel_rfl) (by kernel_rfl) h

/-- strconv.toError -/
theorem strconv_toError.up {p0 p1 p2 p3 p4 : Value} {w : World} {K : Value → World → Prop} (h : Calls Tryd.prog F_strconv_toError #[p0, p1, p2, p3, p4] w (retK K)) : upK Tryd.prog (sCall F_strconv_toError #[p0, p1, p2, p3, p4]) w K :=
  up_call (fn := Tryd.f69) Tryd.func69 (by kernel_rfl) (by kernel_rfl) h

/-- internal/stringslite.CutPrefix -/
theorem internal_stringslite_CutPrefix.up {p0 p1 : Value} {w : World} {K : Value → World → Prop} (h : Calls Tryd.prog F_internal_stringslite_CutPrefix #[p0, p1] w (retK K)) : upK Tryd.prog (sCall F_internal_stringslite_CutPrefix #[p0, p1]) w K :=
  up_call (fn := Tryd.f70) Tryd.func70 (by kernel_rfl) (by kernel_rfl) h

/-- internal/strconv.small -/
theorem internal_strconv_small.up {p0 : Value} {w : World} {K : Value → World → Prop} (h : Calls Tryd.prog F_internal_strconv_small #[p0] w (retK K)) : upK Tryd.prog (sCall F_internal_strconv_small #[p0]) w K :=
  up_call (fn := Tryd.f71) Tryd.func71 (by kernel_rfl) (by kernel_rfl) h

/-- internal/strconv.numDigits -/
theorem internal_strconv_numDigits.up {p0 : Value} {w : World} {K : Value → World → Prop} (h : Calls Tryd.prog F_internal_strconv_numDigits #[p0] w (retK K)) : upK Tryd.prog (sCall F_internal_strconv_numDigits #[p0]) w K :=
  up_call (fn := Tryd.f72) Tryd.func72 (by kernel_rfl) (by kernel_rfl) h

/-- internal/strconv.formatBase10 -/
theorem internal_strconv_formatBase10.up {p0 p1 : Value} {w : World} {K : Value → World → Prop} (h : Calls Tryd.prog F_internal_strconv_formatBase10 #[p0, p1] w (retK K)) : upK Tryd.prog (sCall F_internal_strconv_formatBase10 #[p0, p1]) w K :=
  up_call (fn := Tryd.f73) Tryd.func73 (by kernel_rfl) (by kernel_rfl) h

/-- internal/strconv.formatBits -/
theorem internal_strconv_formatBits.up {p0 p1 p2 p3 p4 : Value} {w : World} {K : Value → World → Prop} (h : Calls Tryd.prog F_internal_strconv_formatBits #[p0, p1, p2, p3, p4] w (retK K)) : upK Tryd.prog (sCall F_internal_strconv_formatBits #[p0, p1, p2, p3, p4]) w K :=
  up_call (fn := Tryd.f74) Tryd.func74 (by kernel_rfl) (by kernel_rfl) h

/-- internal/strconv.ParseInt -/
theorem internal_strconv_ParseInt.up {p0 p1 p2 : Value} {w : World} {K : Value → World → Prop} (h : Calls Tryd.prog F_internal_strconv_ParseInt #[p0, p1, p2] w (retK K)) : upK Tryd.prog (sCall F_internal_strconv_ParseInt #[p0, p1, p2]) w K :=
  up_call (fn := Tryd.f77) Tryd.func77 (by kernel_rfl) (by kernel_rfl) h

/-- strconv.syntaxError -/
theorem strconv_syntaxError.up {p0 p1 : Value} {w : World} {K : Value → World → Prop} (h : Calls Tryd.prog F_strconv_syntaxError #[p0, p1] w (retK K)) : upK Tryd.prog (sCall F_strconv_syntaxError #[p0, p1]) w K :=
  up_call (fn := Tryd.f78) Tryd.func78 (by kernel_rfl) (by kernel_rfl) h

/-- strconv.rangeError -/
theorem strconv_rangeError.up {p0 p1 : Value} {w : World} {K : Value → World → Prop} (h : Calls Tryd.prog F_strconv_rangeError #[p0, p1] w (retK K)) : upK Tryd.prog (sCall F_strconv_rangeError #[p0, p1]) w K :=
  up_call (fn := Tryd.f79) Tryd.func79 (by kernel_rfl) (by kernel_rfl) h

/-- strconv.baseError -/
theorem strconv_baseError.up {p0 p1 p2 : Value} {w : World} {K : Value → World → Prop} (h : Calls Tryd.prog F_strconv_baseError #[p0, p1, p2] w (retK K)) : upK Tryd.prog (sCall F_strconv_baseError #[p0, p1, p2]) w K :=
  up_call (fn := Tryd.f80) Tryd.func80 (by kernel_rfl) (by kernel_rfl) h

/-- strconv.bitSizeError -/
theorem strconv_bitSizeError.up {p0 p1 p2 : Value} {w : World} {K : Value → World → Prop} (h : Calls Tryd.prog F_strconv_bitSizeError #[p0, p1, p2] w (retK K)) : upK Tryd.prog (sCall F_strconv_bitSizeError #[p0, p1, p2]) w K :=
  up_call (fn := Tryd.f81) Tryd.func81 (by kernel_rfl) (by kernel_rfl) h

/-- internal/stringslite.HasPrefix -/
theorem internal_stringslite_HasPrefix.up {p0 p1 : Value} {w : World} {K : Value → World → Prop} (h : Calls Tryd.prog F_internal_stringslite_HasPrefix #[p0, p1] w (retK K)) : upK Tryd.prog (sCall F_internal_stringslite_HasPrefix #[p0, p1]) w K :=
  up_call (fn := Tryd.f82) Tryd.func82 (by kernel_rfl) (by kernel_rfl) h

/-- internal/strconv.log10Pow2 -/
theorem internal_strconv_log10Pow2.up {p0 : Value} {w : World} {K : Value → World → Prop} (h : Calls Tryd.prog F_internal_strconv_log10Pow2 #[p0] w (retK K)) : upK Tryd.prog (sCall F_internal_strconv_log10Pow2 #[p0]) w K :=
  up_call (fn := Tryd.f83) Tryd.func83 (by kernel_rfl) (by kernel_rfl) h

/-- math/bits.Len64 -/
theorem math_bits_Len64.up {p0 : Value} {w : World} {K : Value → World → Prop} (h : Calls Tryd.prog F_math_bits_Len64 #[p0] w (retK K)) : upK Tryd.prog (sCall F_math_bits_Len64 #[p0]) w K :=
  up_call (fn := Tryd.f84) Tryd.func84 (by kernel_rfl) (by kernel_rfl) h

/-- internal/strconv.bool2[int] -/
theorem internal_strconv_bool2_int.up {p0 : Value} {w : World} {K : Value → World → Prop} (h : Calls Tryd.prog F_internal_strconv_bool2_int #[p0] w (retK K)) : upK Tryd.prog (sCall F_internal_strconv_bool2_int #[p0]) w K :=
  up_call (fn := Tryd.f85) Tryd.func85 (by kernel_rfl) (by kernel_rfl) h

/-- internal/strconv.isPowerOfTwo -/
theorem internal_strconv_isPowerOfTwo.up {p0 : Value} {w : World} {K : Value → World → Prop} (h : Calls Tryd.prog F_internal_strconv_isPowerOfTwo #[p0] w (retK K)) : upK Tryd.prog (sCall F_internal_strconv_isPowerOfTwo #[p0]) w K :=
  up_call (fn := Tryd.f86) Tryd.func86 (by kernel_rfl) (by kernel_rfl) h

/-- math/bits.TrailingZeros -/
theorem math_bits_TrailingZeros.up {p0 : Value} {w : World} {K : Value → World → Prop} (h : Calls Tryd.prog F_math_bits_TrailingZeros #[p0] w (retK K)) : upK Tryd.prog (sCall F_math_bits_TrailingZeros #[p0]) w K :=
  up_call (fn := Tryd.f87) Tryd.func87 (by kernel_rfl) (by kernel_rfl) h

/-- internal/strconv.ParseUint -/
theorem internal_strconv_ParseUint.up {p0 p1 p2 : Value} {w : World} {K : Value → World → Prop} (h : Calls Tryd.prog F_internal_strconv_ParseUint #[p0, p1, p2] w (retK K)) : upK Tryd.prog (sCall F_internal_strconv_ParseUint #[p0, p1, p2]) w K :=
  up_call (fn := Tryd.f88) Tryd.func88 (by kernel_rfl) (by kernel_rfl) h

/-- internal/stringslite.Clone -/
theorem internal_stringslite_Clone.up {p0 : Value} {w : World} {K : Value → World → Prop} (h : Calls Tryd.prog F_internal_stringslite_Clone #[p0] w (retK K)) : upK Tryd.prog (sCall F_internal_stringslite_Clone #[p0]) w K :=
  up_call (fn := Tryd.f89) Tryd.func89 (by kernel_rfl) (by kernel_rfl) h

/-- errors.New -/
theorem errors_New.up {p0 : Value} {w : World} {K : Value → World → Prop} (h : Calls Tryd.prog F_errors_New #[p0] w (retK K)) : upK Tryd.prog (sCall F_errors_New #[p0]) w K :=
  up_call (fn := Tryd.f90) Tryd.func90 (by kernel_rfl) (by kernel_rfl) h

/-- math/bits.TrailingZeros32 -/
theorem math_bits_TrailingZeros32.up {p0 : Value} {w : World} {K : Value → World → Prop} (h : Calls Tryd.prog F_math_bits_TrailingZeros32 #[p0] w (retK K)) : upK Tryd.prog (sCall F_math_bits_TrailingZeros32 #[p0]) w K :=
  up_call (fn := Tryd.f91) Tryd.func91 (by kernel_rfl) (by kernel_rfl) h

/-- math/bits.TrailingZeros64 -/
theorem math_bits_TrailingZeros64.up {p0 : Value} {w : World} {K : Value → World → Prop} (h : Calls Tryd.prog F_math_bits_TrailingZeros64 #[p0] w (retK K)) : upK Tryd.prog (sCall F_math_bits_TrailingZeros64 #[p0]) w K :=
  up_call (fn := Tryd.f92) Tryd.func92 (by kernel_rfl) (by kernel_rfl) h

/-- internal/strconv.lower -/
theorem internal_strconv_lower.up {p0 : Value} {w : World} {K : Value → World → Prop} (h : Calls Tryd.prog F_internal_strconv_lower #[p0] w (retK K)) : upK Tryd.prog (sCall F_internal_strconv_lower #[p0]) w K :=
  up_call (fn := Tryd.f93) Tryd.func93 (by kernel_rfl) (by kernel_rfl) h

/-- internal/strconv.underscoreOK -/
theorem internal_strconv_underscoreOK.up {p0 : Value} {w : World} {K : Value → World → Prop} (h : Calls Tryd.prog F_internal_strconv_underscoreOK #[p0] w (retK K)) : upK Tryd.prog (sCall F_internal_strconv_underscoreOK #[p0]) w K :=
  up_call (fn := Tryd.f94) Tryd.func94 (by kernel_rfl) (by kernel_rfl) h

end Go.Proofs.YtkcjcbmbddfjnaaDoor
