/-
  The reckoned conditions of the functions that this seat's statements reach, printed by program, each held against the translation by the kernel. No condition.
-/
import Derived.Test.YtncgdihcplhcoaaDoorNames
namespace Go.Proofs.YtncgdihcplhcoaaDoor
set_option linter.unusedVariables false
set_option maxRecDepth 100000

/-- errata/errataref01.Back -/
def errataref01_Back.pt (s0 : Value) (w : World) (K : Value → World → Prop) : Prop :=
  LETJ (X := Value × Unit) (fun jv1 w1 =>
   LOOP (X := Value × Value × Unit) (fun lv2 w2 next2 =>
    readK Tryd.prog (sBlt .len #[T_string] T_int #[false] #[s0]) w2 fun t18 =>
    pureK Tryd.prog (sBin .lss T_int (.tmp 16) (.tmp 18) lv2.2.1 t18) fun t19 =>
    ifB t19
    (pureK Tryd.prog (sIdx T_string s0 lv2.2.1) fun t24 =>
     pureK Tryd.prog (sBin .lss T_uint8 (.tmp 24) (.const (.int .u8 48)) t24 (.int .u8 48)) fun t25 =>
     ifB t25
     (K (.tuple #[(.int .i64 0), (.bool false)]) w2)
     (pureK Tryd.prog (sIdx T_string s0 lv2.2.1) fun t29 =>
      pureK Tryd.prog (sBin .gtr T_uint8 (.tmp 29) (.const (.int .u8 57)) t29 (.int .u8 57)) fun t30 =>
      ifB t30
      (K (.tuple #[(.int .i64 0), (.bool false)]) w2)
      (pureK Tryd.prog (sBin .gtr T_int (.tmp 33) (.const (.int .i64 20)) lv2.2.1 (.int .i64 20)) fun t34 =>
       ifB t34
       (K (.tuple #[(.int .i64 0), (.bool false)]) w2)
       (pureK Tryd.prog (sBin .mul T_int (.const (.int .i64 10)) (.tmp 36) (.int .i64 10) lv2.1) fun t37 =>
        pureK Tryd.prog (sIdx T_string s0 lv2.2.1) fun t40 =>
        pureK Tryd.prog (sBin .sub T_uint8 (.tmp 40) (.const (.int .u8 48)) t40 (.int .u8 48)) fun t41 =>
        upK Tryd.prog (sConv T_uint8 T_int t41) w2 fun t42 w3 =>
        pureK Tryd.prog (sBin .sub T_int (.tmp 37) (.tmp 42) t37 t42) fun t43 =>
        pureK Tryd.prog (sBin .add T_int (.tmp 20) (.const (.int .i64 1)) lv2.2.1 (.int .i64 1)) fun t21 =>
        next2 (t43, t21, ()) w3))))
    (LETJ (X := Value × Unit) (fun jv2 w4 =>
      upK Tryd.prog (sCall F_errataref01_Int #[jv2.1]) w4 fun t50 w5 =>
      pureK Tryd.prog (sBin .add T_string (.tmp 51) (.const (.string ⟨#[59]⟩)) s0 (.string ⟨#[59]⟩)) fun t52 =>
      pureK Tryd.prog (sBin .eql T_string (.tmp 50) (.tmp 52) t50 t52) fun t53 =>
      K (.tuple #[jv2.1, t53]) w5)
     (fun J2 =>
      pureK Tryd.prog (sBin .eql T_int (.tmp 44) (.const (.int .i64 0)) jv1.1 (.int .i64 0)) fun t45 =>
      ifB t45
      (pureK Tryd.prog (sUn .neg lv2.1) fun t47 =>
       J2 (t47, ()) w2)
      (J2 (lv2.1, ()) w2))))
   ((.int .i64 0), jv1.1, ()) w1)
  (fun J1 =>
   readK Tryd.prog (sBlt .len #[T_string] T_int #[false] #[s0]) w fun t8 =>
   pureK Tryd.prog (sBin .gtr T_int (.tmp 8) (.const (.int .i64 0)) t8 (.int .i64 0)) fun t9 =>
   ifB t9
   (pureK Tryd.prog (sIdx T_string s0 (.int .i64 0)) fun t12 =>
    pureK Tryd.prog (sBin .eql T_uint8 (.tmp 12) (.const (.int .u8 45)) t12 (.int .u8 45)) fun t13 =>
    ifB t13
    (J1 ((.int .i64 1), ()) w)
    (J1 ((.int .i64 0), ()) w))
   (J1 ((.int .i64 0), ()) w))
theorem errataref01_Back.pt_eq : errataref01_Back.pt = fun s0 w K => FN Tryd.prog Tryd.f61 (bodyOf Tryd.f61) [2, 3] (.node none .leaf (.node none .leaf (.node (some [4]) .leaf (.node none .leaf (.node none .leaf (.node (some [5]) .leaf .leaf)))))) [s0] w K := by kernel_rfl
theorem errataref01_Back.call {s0 : Value} {w : World} {K : Value → World → Prop} (h : errataref01_Back.pt s0 w K) : Calls Tryd.prog F_errataref01_Back #[s0] w (retK K) :=
  calls_FN (args := [s0]) Tryd.func61 (by kernel_rfl) (by rw [errataref01_Back.pt_eq] at h; exact h)
theorem errataref01_Back.up {s0 : Value} {w : World} {K : Value → World → Prop} (h : Calls Tryd.prog F_errataref01_Back #[s0] w (retK K)) : upK Tryd.prog (sCall F_errataref01_Back #[s0]) w K :=
  up_call (fn := Tryd.f61) Tryd.func61 (by kernel_rfl) (by kernel_rfl) h

/-- internal/stringslite.IndexByte -/
theorem internal_stringslite_IndexByte.up {p0 p1 : Value} {w : World} {K : Value → World → Prop} (h : Calls Tryd.prog F_internal_stringslite_IndexByte #[p0, p1] w (retK K)) : upK Tryd.prog (sCall F_internal_stringslite_IndexByte #[p0, p1]) w K :=
  up_call (fn := Tryd.f62) Tryd.func62 (by kernel_rfl) (by kernel_rfl) h

/-- internal/strconv.Atoi -/
theorem internal_strconv_Atoi.up {p0 : Value} {w : World} {K : Value → World → Prop} (h : Calls Tryd.prog F_internal_strconv_Atoi #[p0] w (retK K)) : upK Tryd.prog (sCall F_internal_strconv_Atoi #[p0]) w K :=
  up_call (fn := Tryd.f63) Tryd.func63 (by kernel_rfl) (by kernel_rfl) h

/-- strconv.toError -/
theorem strconv_toError.up {p0 p1 p2 p3 p4 : Value} {w : World} {K : Value → World → Prop} (h : Calls Tryd.prog F_strconv_toError #[p0, p1, p2, p3, p4] w (retK K)) : upK Tryd.prog (sCall F_strconv_toError #[p0, p1, p2, p3, p4]) w K :=
  up_call (fn := Tryd.f64) Tryd.func64 (by kernel_rfl) (by kernel_rfl) h

/-- internal/strconv.FormatInt -/
theorem internal_strconv_FormatInt.up {p0 p1 : Value} {w : World} {K : Value → World → Prop} (h : Calls Tryd.prog F_internal_strconv_FormatInt #[p0, p1] w (retK K)) : upK Tryd.prog (sCall F_internal_strconv_FormatInt #[p0, p1]) w K :=
  up_call (fn := Tryd.f65) Tryd.func65 (by kernel_rfl) (by kernel_rfl) h

/-- internal/strconv.ParseInt -/
theorem internal_strconv_ParseInt.up {p0 p1 p2 : Value} {w : World} {K : Value → World → Prop} (h : Calls Tryd.prog F_internal_strconv_ParseInt #[p0, p1, p2] w (retK K)) : upK Tryd.prog (sCall F_internal_strconv_ParseInt #[p0, p1, p2]) w K :=
  up_call (fn := Tryd.f67) Tryd.func67 (by kernel_rfl) (by kernel_rfl) h

/-- strconv.syntaxError -/
theorem strconv_syntaxError.up {p0 p1 : Value} {w : World} {K : Value → World → Prop} (h : Calls Tryd.prog F_strconv_syntaxError #[p0, p1] w (retK K)) : upK Tryd.prog (sCall F_strconv_syntaxError #[p0, p1]) w K :=
  up_call (fn := Tryd.f68) Tryd.func68 (by kernel_rfl) (by kernel_rfl) h

/-- strconv.rangeError -/
theorem strconv_rangeError.up {p0 p1 : Value} {w : World} {K : Value → World → Prop} (h : Calls Tryd.prog F_strconv_rangeError #[p0, p1] w (retK K)) : upK Tryd.prog (sCall F_strconv_rangeError #[p0, p1]) w K :=
  up_call (fn := Tryd.f69) Tryd.func69 (by kernel_rfl) (by kernel_rfl) h

/-- strconv.baseError -/
theorem strconv_baseError.up {p0 p1 p2 : Value} {w : World} {K : Value → World → Prop} (h : Calls Tryd.prog F_strconv_baseError #[p0, p1, p2] w (retK K)) : upK Tryd.prog (sCall F_strconv_baseError #[p0, p1, p2]) w K :=
  up_call (fn := Tryd.f70) Tryd.func70 (by kernel_rfl) (by kernel_rfl) h

/-- strconv.bitSizeError -/
theorem strconv_bitSizeError.up {p0 p1 p2 : Value} {w : World} {K : Value → World → Prop} (h : Calls Tryd.prog F_strconv_bitSizeError #[p0, p1, p2] w (retK K)) : upK Tryd.prog (sCall F_strconv_bitSizeError #[p0, p1, p2]) w K :=
  up_call (fn := Tryd.f71) Tryd.func71 (by kernel_rfl) (by kernel_rfl) h

/-- internal/strconv.small -/
theorem internal_strconv_small.up {p0 : Value} {w : World} {K : Value → World → Prop} (h : Calls Tryd.prog F_internal_strconv_small #[p0] w (retK K)) : upK Tryd.prog (sCall F_internal_strconv_small #[p0]) w K :=
  up_call (fn := Tryd.f72) Tryd.func72 (by kernel_rfl) (by kernel_rfl) h

/-- internal/strconv.numDigits -/
theorem internal_strconv_numDigits.up {p0 : Value} {w : World} {K : Value → World → Prop} (h : Calls Tryd.prog F_internal_strconv_numDigits #[p0] w (retK K)) : upK Tryd.prog (sCall F_internal_strconv_numDigits #[p0]) w K :=
  up_call (fn := Tryd.f73) Tryd.func73 (by kernel_rfl) (by kernel_rfl) h

/-- internal/strconv.formatBase10 -/
theorem internal_strconv_formatBase10.up {p0 p1 : Value} {w : World} {K : Value → World → Prop} (h : Calls Tryd.prog F_internal_strconv_formatBase10 #[p0, p1] w (retK K)) : upK Tryd.prog (sCall F_internal_strconv_formatBase10 #[p0, p1]) w K :=
  up_call (fn := Tryd.f74) Tryd.func74 (by kernel_rfl) (by kernel_rfl) h

/-- internal/strconv.formatBits -/
theorem internal_strconv_formatBits.up {p0 p1 p2 p3 p4 : Value} {w : World} {K : Value → World → Prop} (h : Calls Tryd.prog F_internal_strconv_formatBits #[p0, p1, p2, p3, p4] w (retK K)) : upK Tryd.prog (sCall F_internal_strconv_formatBits #[p0, p1, p2, p3, p4]) w K :=
  up_call (fn := Tryd.f75) Tryd.func75 (by kernel_rfl) (by kernel_rfl) h

/-- internal/strconv.ParseUint -/
theorem internal_strconv_ParseUint.up {p0 p1 p2 : Value} {w : World} {K : Value → World → Prop} (h : Calls Tryd.prog F_internal_strconv_ParseUint #[p0, p1, p2] w (retK K)) : upK Tryd.prog (sCall F_internal_strconv_ParseUint #[p0, p1, p2]) w K :=
  up_call (fn := Tryd.f76) Tryd.func76 (by kernel_rfl) (by kernel_rfl) h

/-- internal/stringslite.Clone -/
theorem internal_stringslite_Clone.up {p0 : Value} {w : World} {K : Value → World → Prop} (h : Calls Tryd.prog F_internal_stringslite_Clone #[p0] w (retK K)) : upK Tryd.prog (sCall F_internal_stringslite_Clone #[p0]) w K :=
  up_call (fn := Tryd.f77) Tryd.func77 (by kernel_rfl) (by kernel_rfl) h

/-- errors.New -/
theorem errors_New.up {p0 : Value} {w : World} {K : Value → World → Prop} (h : Calls Tryd.prog F_errors_New #[p0] w (retK K)) : upK Tryd.prog (sCall F_errors_New #[p0]) w K :=
  up_call (fn := Tryd.f78) Tryd.func78 (by kernel_rfl) (by kernel_rfl) h

/-- internal/strconv.log10Pow2 -/
theorem internal_strconv_log10Pow2.up {p0 : Value} {w : World} {K : Value → World → Prop} (h : Calls Tryd.prog F_internal_strconv_log10Pow2 #[p0] w (retK K)) : upK Tryd.prog (sCall F_internal_strconv_log10Pow2 #[p0]) w K :=
  up_call (fn := Tryd.f79) Tryd.func79 (by kernel_rfl) (by kernel_rfl) h

/-- math/bits.Len64 -/
theorem math_bits_Len64.up {p0 : Value} {w : World} {K : Value → World → Prop} (h : Calls Tryd.prog F_math_bits_Len64 #[p0] w (retK K)) : upK Tryd.prog (sCall F_math_bits_Len64 #[p0]) w K :=
  up_call (fn := Tryd.f80) Tryd.func80 (by kernel_rfl) (by kernel_rfl) h

/-- internal/strconv.bool2[int] -/
theorem internal_strconv_bool2_int.up {p0 : Value} {w : World} {K : Value → World → Prop} (h : Calls Tryd.prog F_internal_strconv_bool2_int #[p0] w (retK K)) : upK Tryd.prog (sCall F_internal_strconv_bool2_int #[p0]) w K :=
  up_call (fn := Tryd.f81) Tryd.func81 (by kernel_rfl) (by kernel_rfl) h

/-- internal/strconv.isPowerOfTwo -/
theorem internal_strconv_isPowerOfTwo.up {p0 : Value} {w : World} {K : Value → World → Prop} (h : Calls Tryd.prog F_internal_strconv_isPowerOfTwo #[p0] w (retK K)) : upK Tryd.prog (sCall F_internal_strconv_isPowerOfTwo #[p0]) w K :=
  up_call (fn := Tryd.f82) Tryd.func82 (by kernel_rfl) (by kernel_rfl) h

/-- math/bits.TrailingZeros -/
theorem math_bits_TrailingZeros.up {p0 : Value} {w : World} {K : Value → World → Prop} (h : Calls Tryd.prog F_math_bits_TrailingZeros #[p0] w (retK K)) : upK Tryd.prog (sCall F_math_bits_TrailingZeros #[p0]) w K :=
  up_call (fn := Tryd.f83) Tryd.func83 (by kernel_rfl) (by kernel_rfl) h

/-- internal/strconv.lower -/
theorem internal_strconv_lower.up {p0 : Value} {w : World} {K : Value → World → Prop} (h : Calls Tryd.prog F_internal_strconv_lower #[p0] w (retK K)) : upK Tryd.prog (sCall F_internal_strconv_lower #[p0]) w K :=
  up_call (fn := Tryd.f84) Tryd.func84 (by kernel_rfl) (by kernel_rfl) h

/-- internal/strconv.underscoreOK -/
theorem internal_strconv_underscoreOK.up {p0 : Value} {w : World} {K : Value → World → Prop} (h : Calls Tryd.prog F_internal_strconv_underscoreOK #[p0] w (retK K)) : upK Tryd.prog (sCall F_internal_strconv_underscoreOK #[p0]) w K :=
  up_call (fn := Tryd.f85) Tryd.func85 (by kernel_rfl) (by kernel_rfl) h

/-- math/bits.TrailingZeros32 -/
theorem math_bits_TrailingZeros32.up {p0 : Value} {w : World} {K : Value → World → Prop} (h : Calls Tryd.prog F_math_bits_TrailingZeros32 #[p0] w (retK K)) : upK Tryd.prog (sCall F_math_bits_TrailingZeros32 #[p0]) w K :=
  up_call (fn := Tryd.f86) Tryd.func86 (by kernel_rfl) (by kernel_rfl) h

/-- math/bits.TrailingZeros64 -/
theorem math_bits_TrailingZeros64.up {p0 : Value} {w : World} {K : Value → World → Prop} (h : Calls Tryd.prog F_math_bits_TrailingZeros64 #[p0] w (retK K)) : upK Tryd.prog (sCall F_math_bits_TrailingZeros64 #[p0]) w K :=
  up_call (fn := Tryd.f87) Tryd.func87 (by kernel_rfl) (by kernel_rfl) h

end Go.Proofs.YtncgdihcplhcoaaDoor
