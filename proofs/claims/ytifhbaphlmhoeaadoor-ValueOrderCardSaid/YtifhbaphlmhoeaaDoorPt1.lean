/-
  The reckoned conditions of the functions that this seat's statements reach, printed by program, each held against the translation by the kernel. No condition.
-/
import Derived.Test.YtifhbaphlmhoeaaDoorNames
namespace Go.Proofs.YtifhbaphlmhoeaaDoor
set_option linter.unusedVariables false
set_option maxRecDepth 100000

/-- (*strings.Builder).copyCheck -/
def strings_Builder_copyCheck.pt (b0 : Value) (w : World) (K : Value → World → Prop) : Prop :=
  pureK Tryd.prog (sNil b0) fun t3 =>
  pureK Tryd.prog (sFieldAddr T_strings_Builder t3 0) fun t4 =>
  readK Tryd.prog (sLoad T_p_strings_Builder t4) w fun t5 =>
  pureK Tryd.prog (sBin .eql T_p_strings_Builder (.tmp 5) (.const (.pointer none)) t5 (.pointer none)) fun t6 =>
  ifB t6
  (upK Tryd.prog (sConv T_p_strings_Builder T_unsafe_Pointer b0) w fun t9 w1 =>
   upK Tryd.prog (sCall F_internal_abi_NoEscape #[t9]) w1 fun t10 w2 =>
   upK Tryd.prog (sConv T_unsafe_Pointer T_p_strings_Builder t10) w2 fun t11 w3 =>
   pureK Tryd.prog (sNil b0) fun t12 =>
   pureK Tryd.prog (sFieldAddr T_strings_Builder t12 0) fun t13 =>
   upK Tryd.prog (sStore T_p_strings_Builder t13 t11) w3 fun tu w4 =>
   K (.tuple #[]) w4)
  (pureK Tryd.prog (sNil b0) fun t15 =>
   pureK Tryd.prog (sFieldAddr T_strings_Builder t15 0) fun t16 =>
   readK Tryd.prog (sLoad T_p_strings_Builder t16) w fun t17 =>
   pureK Tryd.prog (sBin .neq T_p_strings_Builder (.tmp 17) (.tmp 18) t17 b0) fun t19 =>
   ifB t19
   (False)
   (K (.tuple #[]) w))
theorem strings_Builder_copyCheck.pt_eq : strings_Builder_copyCheck.pt = fun b0 w K => FN Tryd.prog Tryd.f59 (bodyOf Tryd.f59) [] .leaf [b0] w K := by kernel_rfl
theorem strings_Builder_copyCheck.call {b0 : Value} {w : World} {K : Value → World → Prop} (h : strings_Builder_copyCheck.pt b0 w K) : Calls Tryd.prog F_strings_Builder_copyCheck #[b0] w (retK K) :=
  calls_FN (args := [b0]) Tryd.func59 (by kernel_rfl) (by rw [strings_Builder_copyCheck.pt_eq] at h; exact h)
theorem strings_Builder_copyCheck.up {b0 : Value} {w : World} {K : Value → World → Prop} (h : Calls Tryd.prog F_strings_Builder_copyCheck #[b0] w (retK K)) : upK Tryd.prog (sCall F_strings_Builder_copyCheck #[b0]) w K :=
  up_call (fn := Tryd.f59) Tryd.func59 (by kernel_rfl) (by kernel_rfl) h

/-- cmp.isNaN[int] -/
def cmp_isNaN_int.pt (x0 : Value) (w : World) (K : Value → World → Prop) : Prop :=
  pureK Tryd.prog (sBin .neq T_int (.tmp 3) (.tmp 4) x0 x0) fun t5 =>
  K t5 w
theorem cmp_isNaN_int.pt_eq : cmp_isNaN_int.pt = fun x0 w K => FN Tryd.prog Tryd.f60 (bodyOf Tryd.f60) [2] .leaf [x0] w K := by kernel_rfl
theorem cmp_isNaN_int.call {x0 : Value} {w : World} {K : Value → World → Prop} (h : cmp_isNaN_int.pt x0 w K) : Calls Tryd.prog F_cmp_isNaN_int #[x0] w (retK K) :=
  calls_FN (args := [x0]) Tryd.func60 (by kernel_rfl) (by rw [cmp_isNaN_int.pt_eq] at h; exact h)
theorem cmp_isNaN_int.up {x0 : Value} {w : World} {K : Value → World → Prop} (h : Calls Tryd.prog F_cmp_isNaN_int #[x0] w (retK K)) : upK Tryd.prog (sCall F_cmp_isNaN_int #[x0]) w K :=
  up_call (fn := Tryd.f60) Tryd.func60 (by kernel_rfl) (by kernel_rfl) h

/-- internal/bytealg.CompareString -/
theorem internal_bytealg_CompareString.up {p0 p1 : Value} {w : World} {K : Value → World → Prop} (h : Calls Tryd.prog F_internal_bytealg_CompareString #[p0, p1] w (retK K)) : upK Tryd.prog (sCall F_internal_bytealg_CompareString #[p0, p1]) w K :=
  up_call (fn := Tryd.f61) Tryd.func61 (by kernel_rfl) (by kernel_rfl) h

/-- (*errata/wire.Reader).number -/
def wire_Reader_number.pt (r0 end1 least2 : Value) (w : World) (K : Value → World → Prop) : Prop :=
  pureK Tryd.prog (sNil r0) fun t12 =>
  pureK Tryd.prog (sFieldAddr T_wire_Reader t12 0) fun t13 =>
  readK Tryd.prog (sLoad T_string t13) (tick w) fun t14 =>
  pureK Tryd.prog (sNil r0) fun t16 =>
  pureK Tryd.prog (sFieldAddr T_wire_Reader t16 0) fun t17 =>
  readK Tryd.prog (sLoad T_string t17) (tick w) fun t18 =>
  readK Tryd.prog (sBlt .len #[T_string] T_int #[false] #[t18]) (tick w) fun t19 =>
  pureK Tryd.prog (sBlt .min #[T_int, T_int] T_int #[false, true] #[t19, (.int .i64 21)]) fun t20 =>
  pureK Tryd.prog (sSlice T_string t14 none (some t20) none) fun t21 =>
  upK Tryd.prog (sCall F_strings_IndexByte #[t21, end1]) (tick w) fun t24 w1 =>
  pureK Tryd.prog (sBin .lss T_int (.tmp 25) (.const (.int .i64 0)) t24 (.int .i64 0)) fun t26 =>
  ifB t26
  (upK Tryd.prog (sCall F_wire_Reader_fail #[r0]) w1 fun t28 w2 =>
   K (.int .i64 0) w2)
  (pureK Tryd.prog (sSlice T_string t21 none (some t24) none) fun t32 =>
   upK Tryd.prog (sCall F_strconv_Atoi #[t32]) w1 fun t33 w3 =>
   pureK Tryd.prog (sExtract t33 0) fun t34 =>
   pureK Tryd.prog (sExtract t33 1) fun t35 =>
   pureK Tryd.prog (sBin .neq T_error (.tmp 36) (.const .nilIface) t35 .nilIface) fun t37 =>
   ifB t37
   (upK Tryd.prog (sCall F_wire_Reader_fail #[r0]) (tick w3) fun t52 w4 =>
    K (.int .i64 0) w4)
   (pureK Tryd.prog (sSlice T_string t21 none (some t24) none) fun t43 =>
    upK Tryd.prog (sCall F_strconv_Itoa #[t34]) (tick w3) fun t40 w5 =>
    pureK Tryd.prog (sBin .neq T_string (.tmp 40) (.tmp 43) t40 t43) fun t44 =>
    ifB t44
    (upK Tryd.prog (sCall F_wire_Reader_fail #[r0]) w5 fun t52_1 w6 =>
     K (.int .i64 0) w6)
    (pureK Tryd.prog (sBin .lss T_int (.tmp 47) (.tmp 48) t34 least2) fun t49 =>
     ifB t49
     (upK Tryd.prog (sCall F_wire_Reader_fail #[r0]) w5 fun t52_2 w7 =>
      K (.int .i64 0) w7)
     (pureK Tryd.prog (sNil r0) fun t55 =>
      pureK Tryd.prog (sFieldAddr T_wire_Reader t55 0) fun t56 =>
      readK Tryd.prog (sLoad T_string t56) w5 fun t57 =>
      pureK Tryd.prog (sBin .add T_int (.tmp 58) (.const (.int .i64 1)) t24 (.int .i64 1)) fun t59 =>
      pureK Tryd.prog (sSlice T_string t57 (some t59) none none) fun t60 =>
      pureK Tryd.prog (sNil r0) fun t61 =>
      pureK Tryd.prog (sFieldAddr T_wire_Reader t61 0) fun t62 =>
      upK Tryd.prog (sStore T_string t62 t60) w5 fun tu w8 =>
      K t34 w8))))
theorem wire_Reader_number.pt_eq : wire_Reader_number.pt = fun r0 end1 least2 w K => FN Tryd.prog Tryd.f62 (bodyOf Tryd.f62) [6] .leaf [r0, end1, least2] w K := by kernel_rfl
theorem wire_Reader_number.call {r0 end1 least2 : Value} {w : World} {K : Value → World → Prop} (h : wire_Reader_number.pt r0 end1 least2 w K) : Calls Tryd.prog F_wire_Reader_number #[r0, end1, least2] w (retK K) :=
  calls_FN (args := [r0, end1, least2]) Tryd.func62 (by kernel_rfl) (by rw [wire_Reader_number.pt_eq] at h; exact h)
theorem wire_Reader_number.up {r0 end1 least2 : Value} {w : World} {K : Value → World → Prop} (h : Calls Tryd.prog F_wire_Reader_number #[r0, end1, least2] w (retK K)) : upK Tryd.prog (sCall F_wire_Reader_number #[r0, end1, least2]) w K :=
  up_call (fn := Tryd.f62) Tryd.func62 (by kernel_rfl) (by kernel_rfl) h

/-- (*errata/wire.Reader).Int -/
def wire_Reader_Int.pt (r0 : Value) (w : World) (K : Value → World → Prop) : Prop :=
  upK Tryd.prog (sCall F_wire_Reader_number #[r0, (.int .u8 59), (.int .i64 (-9223372036854775808))]) w fun t4 w1 =>
  K t4 w1
theorem wire_Reader_Int.pt_eq : wire_Reader_Int.pt = fun r0 w K => FN Tryd.prog Tryd.f63 (bodyOf Tryd.f63) [2] .leaf [r0] w K := by kernel_rfl
theorem wire_Reader_Int.call {r0 : Value} {w : World} {K : Value → World → Prop} (h : wire_Reader_Int.pt r0 w K) : Calls Tryd.prog F_wire_Reader_Int #[r0] w (retK K) :=
  calls_FN (args := [r0]) Tryd.func63 (by kernel_rfl) (by rw [wire_Reader_Int.pt_eq] at h; exact h)
theorem wire_Reader_Int.up {r0 : Value} {w : World} {K : Value → World → Prop} (h : Calls Tryd.prog F_wire_Reader_Int #[r0] w (retK K)) : upK Tryd.prog (sCall F_wire_Reader_Int #[r0]) w K :=
  up_call (fn := Tryd.f63) Tryd.func63 (by kernel_rfl) (by kernel_rfl) h

/-- (*errata/wire.Reader).Text -/
def wire_Reader_Text.pt (r0 : Value) (w : World) (K : Value → World → Prop) : Prop :=
  upK Tryd.prog (sCall F_wire_Reader_number #[r0, (.int .u8 58), (.int .i64 0)]) w fun t6 w1 =>
  pureK Tryd.prog (sNil r0) fun t9 =>
  pureK Tryd.prog (sFieldAddr T_wire_Reader t9 0) fun t10 =>
  readK Tryd.prog (sLoad T_string t10) w1 fun t11 =>
  readK Tryd.prog (sBlt .len #[T_string] T_int #[false] #[t11]) w1 fun t12 =>
  pureK Tryd.prog (sBin .gtr T_int (.tmp 7) (.tmp 12) t6 t12) fun t13 =>
  ifB t13
  (upK Tryd.prog (sCall F_wire_Reader_fail #[r0]) w1 fun t15 w2 =>
   K (.string ⟨#[]⟩) w2)
  (pureK Tryd.prog (sNil r0) fun t17 =>
   pureK Tryd.prog (sFieldAddr T_wire_Reader t17 0) fun t18 =>
   readK Tryd.prog (sLoad T_string t18) w1 fun t19 =>
   pureK Tryd.prog (sSlice T_string t19 none (some t6) none) fun t21 =>
   pureK Tryd.prog (sNil r0) fun t24 =>
   pureK Tryd.prog (sFieldAddr T_wire_Reader t24 0) fun t25 =>
   readK Tryd.prog (sLoad T_string t25) w1 fun t26 =>
   pureK Tryd.prog (sSlice T_string t26 (some t6) none none) fun t28 =>
   pureK Tryd.prog (sNil r0) fun t29 =>
   pureK Tryd.prog (sFieldAddr T_wire_Reader t29 0) fun t30 =>
   upK Tryd.prog (sStore T_string t30 t28) w1 fun tu w3 =>
   upK Tryd.prog (sCall F_wire_Reader_close #[r0, (.string ⟨#[44]⟩)]) w3 fun t32 w4 =>
   pureK Tryd.prog (sNil r0) fun t34 =>
   pureK Tryd.prog (sFieldAddr T_wire_Reader t34 1) fun t35 =>
   readK Tryd.prog (sLoad T_bool t35) w4 fun t36 =>
   ifB t36
   (K (.string ⟨#[]⟩) w4)
   (K t21 w4))
theorem wire_Reader_Text.pt_eq : wire_Reader_Text.pt = fun r0 w K => FN Tryd.prog Tryd.f64 (bodyOf Tryd.f64) [2] .leaf [r0] w K := by kernel_rfl
theorem wire_Reader_Text.call {r0 : Value} {w : World} {K : Value → World → Prop} (h : wire_Reader_Text.pt r0 w K) : Calls Tryd.prog F_wire_Reader_Text #[r0] w (retK K) :=
  calls_FN (args := [r0]) Tryd.func64 (by kernel_rfl) (by rw [wire_Reader_Text.pt_eq] at h; exact h)
theorem wire_Reader_Text.up {r0 : Value} {w : World} {K : Value → World → Prop} (h : Calls Tryd.prog F_wire_Reader_Text #[r0] w (retK K)) : upK Tryd.prog (sCall F_wire_Reader_Text #[r0]) w K :=
  up_call (fn := Tryd.f64) Tryd.func64 (by kernel_rfl) (by kernel_rfl) h

/-- internal/strconv.ParseInt -/
theorem internal_strconv_ParseInt.up {p0 p1 p2 : Value} {w : World} {K : Value → World → Prop} (h : Calls Tryd.prog F_internal_strconv_ParseInt #[p0, p1, p2] w (retK K)) : upK Tryd.prog (sCall F_internal_strconv_ParseInt #[p0, p1, p2]) w K :=
  up_call (fn := Tryd.f65) Tryd.func65 (by kernel_rfl) (by kernel_rfl) h

/-- strconv.toError -/
theorem strconv_toError.up {p0 p1 p2 p3 p4 : Value} {w : World} {K : Value → World → Prop} (h : Calls Tryd.prog F_strconv_toError #[p0, p1, p2, p3, p4] w (retK K)) : upK Tryd.prog (sCall F_strconv_toError #[p0, p1, p2, p3, p4]) w K :=
  up_call (fn := Tryd.f66) Tryd.func66 (by kernel_rfl) (by kernel_rfl) h

/-- internal/strconv.FormatInt -/
theorem internal_strconv_FormatInt.up {p0 p1 : Value} {w : World} {K : Value → World → Prop} (h : Calls Tryd.prog F_internal_strconv_FormatInt #[p0, p1] w (retK K)) : upK Tryd.prog (sCall F_internal_strconv_FormatInt #[p0, p1]) w K :=
  up_call (fn := Tryd.f67) Tryd.func67 (by kernel_rfl) (by kernel_rfl) h

/-- internal/stringslite.IndexByte -/
theorem internal_stringslite_IndexByte.up {p0 p1 : Value} {w : World} {K : Value → World → Prop} (h : Calls Tryd.prog F_internal_stringslite_IndexByte #[p0, p1] w (retK K)) : upK Tryd.prog (sCall F_internal_stringslite_IndexByte #[p0, p1]) w K :=
  up_call (fn := Tryd.f68) Tryd.func68 (by kernel_rfl) (by kernel_rfl) h

/-- internal/strconv.Itoa -/
theorem internal_strconv_Itoa.up {p0 : Value} {w : World} {K : Value → World → Prop} (h : Calls Tryd.prog F_internal_strconv_Itoa #[p0] w (retK K)) : upK Tryd.prog (sCall F_internal_strconv_Itoa #[p0]) w K :=
  up_call (fn := Tryd.f69) Tryd.func69 (by kernel_rfl) (by kernel_rfl) h

/-- slices.IndexFunc[[]errata/api.Value,errata/api.Value] -/
def slices_IndexFunc_s_api_Value_api_Value.pt (s0 f1 : Value) (w : World) (K : Value → World → Prop) : Prop :=
  readK Tryd.prog (sBlt .len #[T_s_api_Value] T_int #[false] #[s0]) w fun t7 =>
  LOOP (X := Value × Unit) (fun lv1 w1 next1 =>
   pureK Tryd.prog (sBin .lss T_int (.tmp 8) (.tmp 7) lv1.1 t7) fun t9 =>
   ifB t9
   (pureK Tryd.prog (sIdxAddr T_s_api_Value s0 lv1.1) fun t14 =>
    readK Tryd.prog (sLoad T_api_Value t14) w1 fun t15 =>
    upK Tryd.prog (sCallV f1 #[t15]) w1 fun t16 w2 =>
    ifB t16
    (K lv1.1 w2)
    (pureK Tryd.prog (sBin .add T_int (.tmp 8) (.const (.int .i64 1)) lv1.1 (.int .i64 1)) fun t18 =>
     next1 (t18, ()) w2))
   (K (.int .i64 (-1)) w1))
  ((.int .i64 0), ()) w
theorem slices_IndexFunc_s_api_Value_api_Value.pt_eq : slices_IndexFunc_s_api_Value_api_Value.pt = fun s0 f1 w K => FN Tryd.prog Tryd.f70 (bodyOf Tryd.f70) [4] .leaf [s0, f1] w K := by kernel_rfl
theorem slices_IndexFunc_s_api_Value_api_Value.call {s0 f1 : Value} {w : World} {K : Value → World → Prop} (h : slices_IndexFunc_s_api_Value_api_Value.pt s0 f1 w K) : Calls Tryd.prog F_slices_IndexFunc_s_api_Value_api_Value #[s0, f1] w (retK K) :=
  calls_FN (args := [s0, f1]) Tryd.func70 (by kernel_rfl) (by rw [slices_IndexFunc_s_api_Value_api_Value.pt_eq] at h; exact h)
theorem slices_IndexFunc_s_api_Value_api_Value.up {s0 f1 : Value} {w : World} {K : Value → World → Prop} (h : Calls Tryd.prog F_slices_IndexFunc_s_api_Value_api_Value #[s0, f1] w (retK K)) : upK Tryd.prog (sCall F_slices_IndexFunc_s_api_Value_api_Value #[s0, f1]) w K :=
  up_call (fn := Tryd.f70) Tryd.func70 (by kernel_rfl) (by kernel_rfl) h

/-- (*strings.Builder).grow -/
theorem strings_Builder_grow.up {p0 p1 : Value} {w : World} {K : Value → World → Prop} (h : Calls Tryd.prog F_strings_Builder_grow #[p0, p1] w (retK K)) : upK Tryd.prog (sCall F_strings_Builder_grow #[p0, p1]) w K :=
  up_call (fn := Tryd.f71) Tryd.func71 (by kernel_rfl) (by kernel_rfl) h

/-- (*errata/wire.Reader).fail -/
def wire_Reader_fail.pt (r0 : Value) (w : World) (K : Value → World → Prop) : Prop :=
  pureK Tryd.prog (sNil r0) fun t4 =>
  pureK Tryd.prog (sFieldAddr T_wire_Reader t4 0) fun t5 =>
  upK Tryd.prog (sStore T_string t5 (.string ⟨#[]⟩)) w fun tu w1 =>
  pureK Tryd.prog (sNil r0) fun t6 =>
  pureK Tryd.prog (sFieldAddr T_wire_Reader t6 1) fun t7 =>
  upK Tryd.prog (sStore T_bool t7 (.bool true)) w1 fun tu_1 w2 =>
  K (.tuple #[]) w2
theorem wire_Reader_fail.pt_eq : wire_Reader_fail.pt = fun r0 w K => FN Tryd.prog Tryd.f74 (bodyOf Tryd.f74) [] .leaf [r0] w K := by kernel_rfl
theorem wire_Reader_fail.call {r0 : Value} {w : World} {K : Value → World → Prop} (h : wire_Reader_fail.pt r0 w K) : Calls Tryd.prog F_wire_Reader_fail #[r0] w (retK K) :=
  calls_FN (args := [r0]) Tryd.func74 (by kernel_rfl) (by rw [wire_Reader_fail.pt_eq] at h; exact h)
theorem wire_Reader_fail.up {r0 : Value} {w : World} {K : Value → World → Prop} (h : Calls Tryd.prog F_wire_Reader_fail #[r0] w (retK K)) : upK Tryd.prog (sCall F_wire_Reader_fail #[r0]) w K :=
  up_call (fn := Tryd.f74) Tryd.func74 (by kernel_rfl) (by kernel_rfl) h

/-- strconv.Atoi -/
theorem strconv_Atoi.up {p0 : Value} {w : World} {K : Value → World → Prop} (h : Calls Tryd.prog F_strconv_Atoi #[p0] w (retK K)) : upK Tryd.prog (sCall F_strconv_Atoi #[p0]) w K :=
  up_call (fn := Tryd.f75) Tryd.func75 (by kernel_rfl) (by kernel_rfl) h

/-- (*errata/wire.Reader).close -/
def wire_Reader_close.pt (r0 end1 : Value) (w : World) (K : Value → World → Prop) : Prop :=
  pureK Tryd.prog (sNil r0) fun t8 =>
  pureK Tryd.prog (sFieldAddr T_wire_Reader t8 0) fun t9 =>
  readK Tryd.prog (sLoad T_string t9) w fun t10 =>
  upK Tryd.prog (sCall F_strings_CutPrefix #[t10, end1]) w fun t12 w1 =>
  pureK Tryd.prog (sExtract t12 0) fun t13 =>
  pureK Tryd.prog (sExtract t12 1) fun t14 =>
  pureK Tryd.prog (sNil r0) fun t17 =>
  pureK Tryd.prog (sFieldAddr T_wire_Reader t17 0) fun t18 =>
  upK Tryd.prog (sStore T_string t18 t13) w1 fun tu w2 =>
  pureK Tryd.prog (sUn .not t14) fun t20 =>
  ifB t20
  (upK Tryd.prog (sCall F_wire_Reader_fail #[r0]) w2 fun t22 w3 =>
   K (.tuple #[]) w3)
  (K (.tuple #[]) w2)
theorem wire_Reader_close.pt_eq : wire_Reader_close.pt = fun r0 end1 w K => FN Tryd.prog Tryd.f76 (bodyOf Tryd.f76) [] .leaf [r0, end1] w K := by kernel_rfl
theorem wire_Reader_close.call {r0 end1 : Value} {w : World} {K : Value → World → Prop} (h : wire_Reader_close.pt r0 end1 w K) : Calls Tryd.prog F_wire_Reader_close #[r0, end1] w (retK K) :=
  calls_FN (args := [r0, end1]) Tryd.func76 (by kernel_rfl) (by rw [wire_Reader_close.pt_eq] at h; exact h)
theorem wire_Reader_close.up {r0 end1 : Value} {w : World} {K : Value → World → Prop} (h : Calls Tryd.prog F_wire_Reader_close #[r0, end1] w (retK K)) : upK Tryd.prog (sCall F_wire_Reader_close #[r0, end1]) w K :=
  up_call (fn := Tryd.f76) Tryd.func76 (by kernel_rfl) (by kernel_rfl) h

/-- internal/strconv.ParseUint -/
theorem internal_strconv_ParseUint.up {p0 p1 p2 : Value} {w : World} {K : Value → World → Prop} (h : Calls Tryd.prog F_internal_strconv_ParseUint #[p0, p1, p2] w (retK K)) : upK Tryd.prog (sCall F_internal_strconv_ParseUint #[p0, p1, p2]) w K :=
  up_call (fn := Tryd.f77) Tryd.func77 (by kernel_rfl) (by kernel_rfl) h

/-- strconv.syntaxError -/
theorem strconv_syntaxError.up {p0 p1 : Value} {w : World} {K : Value → World → Prop} (h : Calls Tryd.prog F_strconv_syntaxError #[p0, p1] w (retK K)) : upK Tryd.prog (sCall F_strconv_syntaxError #[p0, p1]) w K :=
  up_call (fn := Tryd.f78) Tryd.func78 (by kernel_rfl) (by kernel_rfl) h

/-- strconv.rangeError -/
theorem strconv_rangeError.up {p0 p1 : Value} {w : World} {K : Value → World → Prop} (h : Calls Tryd.prog F_strconv_rangeError #[p0, p1] w (retK K)) : upK Tryd.prog (sCall F_strconv_rangeError #[p0, p1]) w K :=
  up_call (fn := Tryd.f79) Tryd.func79 (by kernel_rfl) (by kernel_rfl) h

/-- strconv.baseError -/
theorem strconv_baseError.up {p0 p1 p2 : Value} {w : World} {K : Value → World → Prop} (h : Calls Tryd.prog F_strconv_baseError #[p0, p1, p2] w (retK K)) : upK Tryd.prog (sCall F_strconv_baseError #[p0, p1, p2]) w K :=
  up_call (fn := Tryd.f80) Tryd.func80 (by kernel_rfl) (by kernel_rfl) h

/-- strconv.bitSizeError -/
theorem strconv_bitSizeError.up {p0 p1 p2 : Value} {w : World} {K : Value → World → Prop} (h : Calls Tryd.prog F_strconv_bitSizeError #[p0, p1, p2] w (retK K)) : upK Tryd.prog (sCall F_strconv_bitSizeError #[p0, p1, p2]) w K :=
  up_call (fn := Tryd.f81) Tryd.func81 (by kernel_rfl) (by kernel_rfl) h

/-- internal/strconv.small -/
theorem internal_strconv_small.up {p0 : Value} {w : World} {K : Value → World → Prop} (h : Calls Tryd.prog F_internal_strconv_small #[p0] w (retK K)) : upK Tryd.prog (sCall F_internal_strconv_small #[p0]) w K :=
  up_call (fn := Tryd.f82) Tryd.func82 (by kernel_rfl) (by kernel_rfl) h

/-- internal/strconv.numDigits -/
theorem internal_strconv_numDigits.up {p0 : Value} {w : World} {K : Value → World → Prop} (h : Calls Tryd.prog F_internal_strconv_numDigits #[p0] w (retK K)) : upK Tryd.prog (sCall F_internal_strconv_numDigits #[p0]) w K :=
  up_call (fn := Tryd.f83) Tryd.func83 (by kernel_rfl) (by kernel_rfl) h

/-- internal/strconv.formatBase10 -/
theorem internal_strconv_formatBase10.up {p0 p1 : Value} {w : World} {K : Value → World → Prop} (h : Calls Tryd.prog F_internal_strconv_formatBase10 #[p0, p1] w (retK K)) : upK Tryd.prog (sCall F_internal_strconv_formatBase10 #[p0, p1]) w K :=
  up_call (fn := Tryd.f84) Tryd.func84 (by kernel_rfl) (by kernel_rfl) h

/-- internal/strconv.formatBits -/
theorem internal_strconv_formatBits.up {p0 p1 p2 p3 p4 : Value} {w : World} {K : Value → World → Prop} (h : Calls Tryd.prog F_internal_strconv_formatBits #[p0, p1, p2, p3, p4] w (retK K)) : upK Tryd.prog (sCall F_internal_strconv_formatBits #[p0, p1, p2, p3, p4]) w K :=
  up_call (fn := Tryd.f85) Tryd.func85 (by kernel_rfl) (by kernel_rfl) h

/-- internal/strconv.Atoi -/
theorem internal_strconv_Atoi.up {p0 : Value} {w : World} {K : Value → World → Prop} (h : Calls Tryd.prog F_internal_strconv_Atoi #[p0] w (retK K)) : upK Tryd.prog (sCall F_internal_strconv_Atoi #[p0]) w K :=
  up_call (fn := Tryd.f88) Tryd.func88 (by kernel_rfl) (by kernel_rfl) h

/-- strings.CutPrefix -/
theorem strings_CutPrefix.up {p0 p1 : Value} {w : World} {K : Value → World → Prop} (h : Calls Tryd.prog F_strings_CutPrefix #[p0, p1] w (retK K)) : upK Tryd.prog (sCall F_strings_CutPrefix #[p0, p1]) w K :=
  up_call (fn := Tryd.f89) Tryd.func89 (by kernel_rfl) (by kernel_rfl) h

/-- internal/strconv.lower -/
theorem internal_strconv_lower.up {p0 : Value} {w : World} {K : Value → World → Prop} (h : Calls Tryd.prog F_internal_strconv_lower #[p0] w (retK K)) : upK Tryd.prog (sCall F_internal_strconv_lower #[p0]) w K :=
  up_call (fn := Tryd.f90) Tryd.func90 (by kernel_rfl) (by kernel_rfl) h

/-- internal/strconv.underscoreOK -/
theorem internal_strconv_underscoreOK.up {p0 : Value} {w : World} {K : Value → World → Prop} (h : Calls Tryd.prog F_internal_strconv_underscoreOK #[p0] w (retK K)) : upK Tryd.prog (sCall F_internal_strconv_underscoreOK #[p0]) w K :=
  up_call (fn := Tryd.f91) Tryd.func91 (by kernel_rfl) (by kernel_rfl) h

/-- internal/stringslite.Clone -/
theorem internal_stringslite_Clone.up {p0 : Value} {w : World} {K : Value → World → Prop} (h : Calls Tryd.prog F_internal_stringslite_Clone #[p0] w (retK K)) : upK Tryd.prog (sCall F_internal_stringslite_Clone #[p0]) w K :=
  up_call (fn := Tryd.f92) Tryd.func92 (by kernel_rfl) (by kernel_rfl) h

/-- errors.New -/
theorem errors_New.up {p0 : Value} {w : World} {K : Value → World → Prop} (h : Calls Tryd.prog F_errors_New #[p0] w (retK K)) : upK Tryd.prog (sCall F_errors_New #[p0]) w K :=
  up_call (fn := Tryd.f93) Tryd.func93 (by kernel_rfl) (by kernel_rfl) h

/-- internal/strconv.log10Pow2 -/
theorem internal_strconv_log10Pow2.up {p0 : Value} {w : World} {K : Value → World → Prop} (h : Calls Tryd.prog F_internal_strconv_log10Pow2 #[p0] w (retK K)) : upK Tryd.prog (sCall F_internal_strconv_log10Pow2 #[p0]) w K :=
  up_call (fn := Tryd.f94) Tryd.func94 (by kernel_rfl) (by kernel_rfl) h

/-- math/bits.Len64 -/
theorem math_bits_Len64.up {p0 : Value} {w : World} {K : Value → World → Prop} (h : Calls Tryd.prog F_math_bits_Len64 #[p0] w (retK K)) : upK Tryd.prog (sCall F_math_bits_Len64 #[p0]) w K :=
  up_call (fn := Tryd.f95) Tryd.func95 (by kernel_rfl) (by kernel_rfl) h

/-- internal/strconv.bool2[int] -/
theorem internal_strconv_bool2_int.up {p0 : Value} {w : World} {K : Value → World → Prop} (h : Calls Tryd.prog F_internal_strconv_bool2_int #[p0] w (retK K)) : upK Tryd.prog (sCall F_internal_strconv_bool2_int #[p0]) w K :=
  up_call (fn := Tryd.f96) Tryd.func96 (by kernel_rfl) (by kernel_rfl) h

/-- internal/strconv.isPowerOfTwo -/
theorem internal_strconv_isPowerOfTwo.up {p0 : Value} {w : World} {K : Value → World → Prop} (h : Calls Tryd.prog F_internal_strconv_isPowerOfTwo #[p0] w (retK K)) : upK Tryd.prog (sCall F_internal_strconv_isPowerOfTwo #[p0]) w K :=
  up_call (fn := Tryd.f97) Tryd.func97 (by kernel_rfl) (by kernel_rfl) h

/-- math/bits.TrailingZeros -/
theorem math_bits_TrailingZeros.up {p0 : Value} {w : World} {K : Value → World → Prop} (h : Calls Tryd.prog F_math_bits_TrailingZeros #[p0] w (retK K)) : upK Tryd.prog (sCall F_math_bits_TrailingZeros #[p0]) w K :=
  up_call (fn := Tryd.f98) Tryd.func98 (by kernel_rfl) (by kernel_rfl) h

/-- internal/stringslite.CutPrefix -/
theorem internal_stringslite_CutPrefix.up {p0 p1 : Value} {w : World} {K : Value → World → Prop} (h : Calls Tryd.prog F_internal_stringslite_CutPrefix #[p0, p1] w (retK K)) : upK Tryd.prog (sCall F_internal_stringslite_CutPrefix #[p0, p1]) w K :=
  up_call (fn := Tryd.f99) Tryd.func99 (by kernel_rfl) (by kernel_rfl) h

/-- math/bits.TrailingZeros32 -/
theorem math_bits_TrailingZeros32.up {p0 : Value} {w : World} {K : Value → World → Prop} (h : Calls Tryd.prog F_math_bits_TrailingZeros32 #[p0] w (retK K)) : upK Tryd.prog (sCall F_math_bits_TrailingZeros32 #[p0]) w K :=
  up_call (fn := Tryd.f100) Tryd.func100 (by kernel_rfl) (by kernel_rfl) h

/-- math/bits.TrailingZeros64 -/
theorem math_bits_TrailingZeros64.up {p0 : Value} {w : World} {K : Value → World → Prop} (h : Calls Tryd.prog F_math_bits_TrailingZeros64 #[p0] w (retK K)) : upK Tryd.prog (sCall F_math_bits_TrailingZeros64 #[p0]) w K :=
  up_call (fn := Tryd.f101) Tryd.func101 (by kernel_rfl) (by kernel_rfl) h

end Go.Proofs.YtifhbaphlmhoeaaDoor
