/-
  The reckoned conditions of the functions that this seat's statements reach, printed by program, each held against the translation by the kernel. No condition.
-/
import Derived.Test.YtoebncgnjbblgaaGreatDoorNames
namespace Go.Proofs.YtoebncgnjbblgaaGreatDoor
set_option linter.unusedVariables false
set_option maxRecDepth 100000

/-- errata/errataref01.digits -/
def errataref01_digits.pt (n0 : Value) (w : World) (K : Value → World → Prop) : Prop :=
  pureK Tryz.prog (sBin .rem T_int (.tmp 4) (.const (.int .i64 10)) n0 (.int .i64 10)) fun t5 =>
  pureK Tryz.prog (sBin .sub T_int (.const (.int .i64 48)) (.tmp 5) (.int .i64 48) t5) fun t6 =>
  upK Tryz.prog (sConv T_int T_uint8 t6) w fun t7 w1 =>
  upK Tryz.prog (sBuildSlice T_s_uint8 1 #[(0, t7)]) w1 fun t8 w2 =>
  upK Tryz.prog (sConv T_s_uint8 T_string t8) w2 fun t9 w3 =>
  pureK Tryz.prog (sBin .gtr T_int (.tmp 10) (.const (.int .i64 (-10))) n0 (.int .i64 (-10))) fun t11 =>
  ifB t11
  (K t9 w3)
  (pureK Tryz.prog (sBin .quo T_int (.tmp 13) (.const (.int .i64 10)) n0 (.int .i64 10)) fun t14 =>
   upK Tryz.prog (sCall F_errataref01_digits #[t14]) w3 fun t15 w4 =>
   pureK Tryz.prog (sBin .add T_string (.tmp 15) (.tmp 16) t15 t9) fun t17 =>
   K t17 w4)
theorem errataref01_digits.pt_eq : errataref01_digits.pt = fun n0 w K => FN Tryz.prog Tryz.f95 (bodyOf Tryz.f95) [2] .leaf [n0] w K := by kernel_rfl
theorem errataref01_digits.call {n0 : Value} {w : World} {K : Value → World → Prop} (h : errataref01_digits.pt n0 w K) : Calls Tryz.prog F_errataref01_digits #[n0] w (retK K) :=
  calls_FN (args := [n0]) Tryz.func95 (by kernel_rfl) (by rw [errataref01_digits.pt_eq] at h; exact h)
theorem errataref01_digits.up {n0 : Value} {w : World} {K : Value → World → Prop} (h : Calls Tryz.prog F_errataref01_digits #[n0] w (retK K)) : upK Tryz.prog (sCall F_errataref01_digits #[n0]) w K :=
  up_call (fn := Tryz.f95) Tryz.func95 (by kernel_rfl) (by kernel_rfl) h

/-- (*errata/errataref01.Reader).ahead -/
def errataref01_Reader_ahead.pt (r0 end1 : Value) (w : World) (K : Value → World → Prop) : Prop :=
  LETJ (X := Value × Unit) (fun jv1 w1 =>
   pureK Tryz.prog (sNil r0) fun t33 =>
   pureK Tryz.prog (sFieldAddr T_errataref01_Reader t33 0) fun t34 =>
   readK Tryz.prog (sLoad T_string t34) w1 fun t35 =>
   readK Tryz.prog (sBlt .len #[T_string] T_int #[false] #[t35]) w1 fun t36 =>
   pureK Tryz.prog (sBin .geq T_int (.tmp 31) (.tmp 36) jv1.1 t36) fun t37 =>
   ifB t37
   (upK Tryz.prog (sCall F_errataref01_Reader_fail #[r0]) w1 fun t39 w2 =>
    K t39 w2)
   (pureK Tryz.prog (sNil r0) fun t41 =>
    pureK Tryz.prog (sFieldAddr T_errataref01_Reader t41 0) fun t42 =>
    readK Tryz.prog (sLoad T_string t42) w1 fun t43 =>
    pureK Tryz.prog (sIdx T_string t43 jv1.1) fun t45 =>
    pureK Tryz.prog (sBin .neq T_uint8 (.tmp 45) (.tmp 46) t45 end1) fun t47 =>
    ifB t47
    (upK Tryz.prog (sCall F_errataref01_Reader_fail #[r0]) w1 fun t49 w3 =>
     K t49 w3)
    (pureK Tryz.prog (sNil r0) fun t52 =>
     pureK Tryz.prog (sFieldAddr T_errataref01_Reader t52 0) fun t53 =>
     readK Tryz.prog (sLoad T_string t53) w1 fun t54 =>
     pureK Tryz.prog (sSlice T_string t54 none (some jv1.1) none) fun t56 =>
     upK Tryz.prog (sCall F_errataref01_Back #[t56]) w1 fun t57 w4 =>
     pureK Tryz.prog (sExtract t57 0) fun t58 =>
     pureK Tryz.prog (sExtract t57 1) fun t59 =>
     pureK Tryz.prog (sUn .not t59) fun t61 =>
     ifB t61
     (upK Tryz.prog (sCall F_errataref01_Reader_fail #[r0]) w4 fun t63 w5 =>
      K t63 w5)
     (pureK Tryz.prog (sNil r0) fun t66 =>
      pureK Tryz.prog (sFieldAddr T_errataref01_Reader t66 0) fun t67 =>
      readK Tryz.prog (sLoad T_string t67) w4 fun t68 =>
      pureK Tryz.prog (sBin .add T_int (.tmp 69) (.const (.int .i64 1)) jv1.1 (.int .i64 1)) fun t70 =>
      pureK Tryz.prog (sSlice T_string t68 (some t70) none none) fun t71 =>
      pureK Tryz.prog (sNil r0) fun t72 =>
      pureK Tryz.prog (sFieldAddr T_errataref01_Reader t72 0) fun t73 =>
      upK Tryz.prog (sStore T_string t73 t71) w4 fun tu w6 =>
      K t58 w6))))
  (fun J1 =>
   LOOP (X := Value × Unit) (fun lv7 w7 next7 =>
    pureK Tryz.prog (sNil r0) fun t10 =>
    pureK Tryz.prog (sFieldAddr T_errataref01_Reader t10 0) fun t11 =>
    readK Tryz.prog (sLoad T_string t11) w7 fun t12 =>
    readK Tryz.prog (sBlt .len #[T_string] T_int #[false] #[t12]) w7 fun t13 =>
    pureK Tryz.prog (sBin .lss T_int (.tmp 8) (.tmp 13) lv7.1 t13) fun t14 =>
    ifB t14
    (pureK Tryz.prog (sBin .lss T_int (.tmp 16) (.const (.int .i64 21)) lv7.1 (.int .i64 21)) fun t17 =>
     ifB t17
     (pureK Tryz.prog (sNil r0) fun t21 =>
      pureK Tryz.prog (sFieldAddr T_errataref01_Reader t21 0) fun t22 =>
      readK Tryz.prog (sLoad T_string t22) w7 fun t23 =>
      pureK Tryz.prog (sIdx T_string t23 lv7.1) fun t25 =>
      pureK Tryz.prog (sBin .neq T_uint8 (.tmp 25) (.tmp 26) t25 end1) fun t27 =>
      ifB t27
      (pureK Tryz.prog (sBin .add T_int (.tmp 29) (.const (.int .i64 1)) lv7.1 (.int .i64 1)) fun t30 =>
       next7 (t30, ()) w7)
      (J1 (lv7.1, ()) w7))
     (J1 (lv7.1, ()) w7))
    (J1 (lv7.1, ()) w7))
   ((.int .i64 0), ()) w)
theorem errataref01_Reader_ahead.pt_eq : errataref01_Reader_ahead.pt = fun r0 end1 w K => FN Tryz.prog Tryz.f96 (bodyOf Tryz.f96) [4] (.node none .leaf (.node none .leaf (.node (some [5]) .leaf .leaf))) [r0, end1] w K := by kernel_rfl
theorem errataref01_Reader_ahead.call {r0 end1 : Value} {w : World} {K : Value → World → Prop} (h : errataref01_Reader_ahead.pt r0 end1 w K) : Calls Tryz.prog F_errataref01_Reader_ahead #[r0, end1] w (retK K) :=
  calls_FN (args := [r0, end1]) Tryz.func96 (by kernel_rfl) (by rw [errataref01_Reader_ahead.pt_eq] at h; exact h)
theorem errataref01_Reader_ahead.up {r0 end1 : Value} {w : World} {K : Value → World → Prop} (h : Calls Tryz.prog F_errataref01_Reader_ahead #[r0, end1] w (retK K)) : upK Tryz.prog (sCall F_errataref01_Reader_ahead #[r0, end1]) w K :=
  up_call (fn := Tryz.f96) Tryz.func96 (by kernel_rfl) (by kernel_rfl) h

/-- (*errata/errataref01.Reader).number -/
def errataref01_Reader_number.pt (r0 end1 : Value) (w : World) (K : Value → World → Prop) : Prop :=
  upK Tryz.prog (sCall F_errataref01_Reader_ahead #[r0, end1]) w fun t8 w1 =>
  pureK Tryz.prog (sBin .lss T_int (.tmp 9) (.const (.int .i64 0)) t8 (.int .i64 0)) fun t10 =>
  ifB t10
  (upK Tryz.prog (sCall F_errataref01_Reader_fail #[r0]) w1 fun t12 w2 =>
   K t12 w2)
  (K t8 w1)
theorem errataref01_Reader_number.pt_eq : errataref01_Reader_number.pt = fun r0 end1 w K => FN Tryz.prog Tryz.f97 (bodyOf Tryz.f97) [4] .leaf [r0, end1] w K := by kernel_rfl
theorem errataref01_Reader_number.call {r0 end1 : Value} {w : World} {K : Value → World → Prop} (h : errataref01_Reader_number.pt r0 end1 w K) : Calls Tryz.prog F_errataref01_Reader_number #[r0, end1] w (retK K) :=
  calls_FN (args := [r0, end1]) Tryz.func97 (by kernel_rfl) (by rw [errataref01_Reader_number.pt_eq] at h; exact h)
theorem errataref01_Reader_number.up {r0 end1 : Value} {w : World} {K : Value → World → Prop} (h : Calls Tryz.prog F_errataref01_Reader_number #[r0, end1] w (retK K)) : upK Tryz.prog (sCall F_errataref01_Reader_number #[r0, end1]) w K :=
  up_call (fn := Tryz.f97) Tryz.func97 (by kernel_rfl) (by kernel_rfl) h

/-- (*errata/errataref01.Reader).fail -/
def errataref01_Reader_fail.pt (r0 : Value) (w : World) (K : Value → World → Prop) : Prop :=
  pureK Tryz.prog (sNil r0) fun t4 =>
  pureK Tryz.prog (sFieldAddr T_errataref01_Reader t4 0) fun t5 =>
  upK Tryz.prog (sStore T_string t5 (.string ⟨#[]⟩)) w fun tu w1 =>
  pureK Tryz.prog (sNil r0) fun t7 =>
  pureK Tryz.prog (sFieldAddr T_errataref01_Reader t7 1) fun t8 =>
  upK Tryz.prog (sStore T_bool t8 (.bool true)) w1 fun tu_1 w2 =>
  K (.int .i64 0) w2
theorem errataref01_Reader_fail.pt_eq : errataref01_Reader_fail.pt = fun r0 w K => FN Tryz.prog Tryz.f98 (bodyOf Tryz.f98) [2] .leaf [r0] w K := by kernel_rfl
theorem errataref01_Reader_fail.call {r0 : Value} {w : World} {K : Value → World → Prop} (h : errataref01_Reader_fail.pt r0 w K) : Calls Tryz.prog F_errataref01_Reader_fail #[r0] w (retK K) :=
  calls_FN (args := [r0]) Tryz.func98 (by kernel_rfl) (by rw [errataref01_Reader_fail.pt_eq] at h; exact h)
theorem errataref01_Reader_fail.up {r0 : Value} {w : World} {K : Value → World → Prop} (h : Calls Tryz.prog F_errataref01_Reader_fail #[r0] w (retK K)) : upK Tryz.prog (sCall F_errataref01_Reader_fail #[r0]) w K :=
  up_call (fn := Tryz.f98) Tryz.func98 (by kernel_rfl) (by kernel_rfl) h

/-- (*errata/errataref01.Reader).close -/
def errataref01_Reader_close.pt (r0 end1 : Value) (w : World) (K : Value → World → Prop) : Prop :=
  pureK Tryz.prog (sNil r0) fun t6 =>
  pureK Tryz.prog (sFieldAddr T_errataref01_Reader t6 0) fun t7 =>
  readK Tryz.prog (sLoad T_string t7) w fun t8 =>
  readK Tryz.prog (sBlt .len #[T_string] T_int #[false] #[t8]) w fun t9 =>
  pureK Tryz.prog (sBin .eql T_int (.tmp 9) (.const (.int .i64 0)) t9 (.int .i64 0)) fun t10 =>
  ifB t10
  (upK Tryz.prog (sCall F_errataref01_Reader_fail #[r0]) w fun t12 w1 =>
   K (.bool false) w1)
  (pureK Tryz.prog (sNil r0) fun t14 =>
   pureK Tryz.prog (sFieldAddr T_errataref01_Reader t14 0) fun t15 =>
   readK Tryz.prog (sLoad T_string t15) w fun t16 =>
   pureK Tryz.prog (sIdx T_string t16 (.int .i64 0)) fun t17 =>
   pureK Tryz.prog (sBin .neq T_uint8 (.tmp 17) (.tmp 18) t17 end1) fun t19 =>
   ifB t19
   (upK Tryz.prog (sCall F_errataref01_Reader_fail #[r0]) w fun t21 w2 =>
    K (.bool false) w2)
   (pureK Tryz.prog (sNil r0) fun t24 =>
    pureK Tryz.prog (sFieldAddr T_errataref01_Reader t24 0) fun t25 =>
    readK Tryz.prog (sLoad T_string t25) w fun t26 =>
    pureK Tryz.prog (sSlice T_string t26 (some (.int .i64 1)) none none) fun t27 =>
    pureK Tryz.prog (sNil r0) fun t28 =>
    pureK Tryz.prog (sFieldAddr T_errataref01_Reader t28 0) fun t29 =>
    upK Tryz.prog (sStore T_string t29 t27) w fun tu w3 =>
    K (.bool true) w3))
theorem errataref01_Reader_close.pt_eq : errataref01_Reader_close.pt = fun r0 end1 w K => FN Tryz.prog Tryz.f99 (bodyOf Tryz.f99) [4] .leaf [r0, end1] w K := by kernel_rfl
theorem errataref01_Reader_close.call {r0 end1 : Value} {w : World} {K : Value → World → Prop} (h : errataref01_Reader_close.pt r0 end1 w K) : Calls Tryz.prog F_errataref01_Reader_close #[r0, end1] w (retK K) :=
  calls_FN (args := [r0, end1]) Tryz.func99 (by kernel_rfl) (by rw [errataref01_Reader_close.pt_eq] at h; exact h)
theorem errataref01_Reader_close.up {r0 end1 : Value} {w : World} {K : Value → World → Prop} (h : Calls Tryz.prog F_errataref01_Reader_close #[r0, end1] w (retK K)) : upK Tryz.prog (sCall F_errataref01_Reader_close #[r0, end1]) w K :=
  up_call (fn := Tryz.f99) Tryz.func99 (by kernel_rfl) (by kernel_rfl) h

/-- strings.IndexByte -/
theorem strings_IndexByte.up {p0 p1 : Value} {w : World} {K : Value → World → Prop} (h : Calls Tryz.prog F_strings_IndexByte #[p0, p1] w (retK K)) : upK Tryz.prog (sCall F_strings_IndexByte #[p0, p1]) w K :=
  up_call (fn := Tryz.f100) Tryz.func100 (by kernel_rfl) (by kernel_rfl) h

/-- strconv.Atoi -/
theorem strconv_Atoi.up {p0 : Value} {w : World} {K : Value → World → Prop} (h : Calls Tryz.prog F_strconv_Atoi #[p0] w (retK K)) : upK Tryz.prog (sCall F_strconv_Atoi #[p0]) w K :=
  up_call (fn := Tryz.f101) Tryz.func101 (by kernel_rfl) (by kernel_rfl) h

/-- strings.CutPrefix -/
theorem strings_CutPrefix.up {p0 p1 : Value} {w : World} {K : Value → World → Prop} (h : Calls Tryz.prog F_strings_CutPrefix #[p0, p1] w (retK K)) : upK Tryz.prog (sCall F_strings_CutPrefix #[p0, p1]) w K :=
  up_call (fn := Tryz.f102) Tryz.func102 (by kernel_rfl) (by kernel_rfl) h

/-- internal/strconv.Itoa -/
theorem internal_strconv_Itoa.up {p0 : Value} {w : World} {K : Value → World → Prop} (h : Calls Tryz.prog F_internal_strconv_Itoa #[p0] w (retK K)) : upK Tryz.prog (sCall F_internal_strconv_Itoa #[p0]) w K :=
  up_call (fn := Tryz.f104) Tryz.func104 (by kernel_rfl) (by kernel_rfl) h

/-- slices.Collect[errata/api.Value] -/
def slices_Collect_api_Value.pt (seq0 : Value) (w : World) (K : Value → World → Prop) : Prop :=
  upK Tryz.prog (sCall F_slices_AppendSeq_s_api_Value_api_Value #[(.slice none 0 0), seq0]) w fun t4 w1 =>
  K t4 w1
theorem slices_Collect_api_Value.pt_eq : slices_Collect_api_Value.pt = fun seq0 w K => FN Tryz.prog Tryz.f105 (bodyOf Tryz.f105) [2] .leaf [seq0] w K := by kernel_rfl
theorem slices_Collect_api_Value.call {seq0 : Value} {w : World} {K : Value → World → Prop} (h : slices_Collect_api_Value.pt seq0 w K) : Calls Tryz.prog F_slices_Collect_api_Value #[seq0] w (retK K) :=
  calls_FN (args := [seq0]) Tryz.func105 (by kernel_rfl) (by rw [slices_Collect_api_Value.pt_eq] at h; exact h)
theorem slices_Collect_api_Value.up {seq0 : Value} {w : World} {K : Value → World → Prop} (h : Calls Tryz.prog F_slices_Collect_api_Value #[seq0] w (retK K)) : upK Tryz.prog (sCall F_slices_Collect_api_Value #[seq0]) w K :=
  up_call (fn := Tryz.f105) Tryz.func105 (by kernel_rfl) (by kernel_rfl) h

/-- slices.SortFunc[[]errata/api.Value,errata/api.Value] -/
def slices_SortFunc_s_api_Value_api_Value.pt (x0 cmp1 : Value) (w : World) (K : Value → World → Prop) : Prop :=
  readK Tryz.prog (sBlt .len #[T_s_api_Value] T_int #[false] #[x0]) w fun t6 =>
  upK Tryz.prog (sConv T_int T_uint t6) w fun t10 w1 =>
  upK Tryz.prog (sCall F_math_bits_Len #[t10]) w1 fun t11 w2 =>
  upK Tryz.prog (sCall F_slices_pdqsortCmpFunc_api_Value #[x0, (.int .i64 0), t6, t11, cmp1]) w2 fun t13 w3 =>
  K (.tuple #[]) w3
theorem slices_SortFunc_s_api_Value_api_Value.pt_eq : slices_SortFunc_s_api_Value_api_Value.pt = fun x0 cmp1 w K => FN Tryz.prog Tryz.f106 (bodyOf Tryz.f106) [] .leaf [x0, cmp1] w K := by kernel_rfl
theorem slices_SortFunc_s_api_Value_api_Value.call {x0 cmp1 : Value} {w : World} {K : Value → World → Prop} (h : slices_SortFunc_s_api_Value_api_Value.pt x0 cmp1 w K) : Calls Tryz.prog F_slices_SortFunc_s_api_Value_api_Value #[x0, cmp1] w (retK K) :=
  calls_FN (args := [x0, cmp1]) Tryz.func106 (by kernel_rfl) (by rw [slices_SortFunc_s_api_Value_api_Value.pt_eq] at h; exact h)
theorem slices_SortFunc_s_api_Value_api_Value.up {x0 cmp1 : Value} {w : World} {K : Value → World → Prop} (h : Calls Tryz.prog F_slices_SortFunc_s_api_Value_api_Value #[x0, cmp1] w (retK K)) : upK Tryz.prog (sCall F_slices_SortFunc_s_api_Value_api_Value #[x0, cmp1]) w K :=
  up_call (fn := Tryz.f106) Tryz.func106 (by kernel_rfl) (by kernel_rfl) h

/-- maps.Keys[map[errata/api.Value]int,errata/api.Value,int]$1 -/
def maps_Keys_map_api_Value_int_api_Value_int_1.pt (yield0 t1 : Value) (w : World) (K : Value → World → Prop) : Prop :=
  readK Tryz.prog (sLoad T_map_api_Value_int t1) w fun t4 =>
  upK Tryz.prog (sRange T_map_api_Value_int t4) w fun t5 w1 =>
  LOOP (X := Unit) (fun lv2 w2 next2 =>
   upK Tryz.prog (sNext t5 false T_) w2 fun t6 w3 =>
   pureK Tryz.prog (sExtract t6 0) fun t7 =>
   ifB t7
   (upK Tryz.prog (sEntry t5) w3 fun t8 w4 =>
    pureK Tryz.prog (sExtract t8 0) fun t9 =>
    upK Tryz.prog (sAlloc T_api_Value) w4 fun k3 w5 =>
    upK Tryz.prog (sStore T_api_Value k3 t9) w5 fun tu w6 =>
    readK Tryz.prog (sLoad T_api_Value k3) w6 fun t11 =>
    upK Tryz.prog (sCallV yield0 #[t11]) w6 fun t12 w7 =>
    pureK Tryz.prog (sUn .not t12) fun t13 =>
    ifB t13
    (K (.tuple #[]) w7)
    (next2 (()) w7))
   (K (.tuple #[]) w3))
  (()) w1
theorem maps_Keys_map_api_Value_int_api_Value_int_1.pt_eq : maps_Keys_map_api_Value_int_api_Value_int_1.pt = fun yield0 t1 w K => FN Tryz.prog Tryz.f107 (bodyOf Tryz.f107) [] .leaf [yield0, t1] w K := by kernel_rfl
theorem maps_Keys_map_api_Value_int_api_Value_int_1.call {yield0 t1 : Value} {w : World} {K : Value → World → Prop} (h : maps_Keys_map_api_Value_int_api_Value_int_1.pt yield0 t1 w K) : Calls Tryz.prog F_maps_Keys_map_api_Value_int_api_Value_int_1 #[yield0, t1] w (retK K) :=
  calls_FN (args := [yield0, t1]) Tryz.func107 (by kernel_rfl) (by rw [maps_Keys_map_api_Value_int_api_Value_int_1.pt_eq] at h; exact h)
theorem maps_Keys_map_api_Value_int_api_Value_int_1.up {yield0 t1 : Value} {w : World} {K : Value → World → Prop} (h : Calls Tryz.prog F_maps_Keys_map_api_Value_int_api_Value_int_1 #[yield0, t1] w (retK K)) : upK Tryz.prog (sCall F_maps_Keys_map_api_Value_int_api_Value_int_1 #[yield0, t1]) w K :=
  up_call (fn := Tryz.f107) Tryz.func107 (by kernel_rfl) (by kernel_rfl) h

/-- cmp.Or[int] -/
def cmp_Or_int.pt (vals0 : Value) (w : World) (K : Value → World → Prop) : Prop :=
  readK Tryz.prog (sBlt .len #[T_s_int] T_int #[false] #[vals0]) w fun t7 =>
  LOOP (X := Value × Unit) (fun lv1 w1 next1 =>
   pureK Tryz.prog (sBin .lss T_int (.tmp 8) (.tmp 7) lv1.1 t7) fun t9 =>
   ifB t9
   (pureK Tryz.prog (sIdxAddr T_s_int vals0 lv1.1) fun t10 =>
    readK Tryz.prog (sLoad T_int t10) w1 fun t11 =>
    pureK Tryz.prog (sBin .neq T_int (.tmp 12) (.tmp 13) t11 (.int .i64 0)) fun t14 =>
    ifB t14
    (K t11 w1)
    (pureK Tryz.prog (sBin .add T_int (.tmp 8) (.const (.int .i64 1)) lv1.1 (.int .i64 1)) fun t16 =>
     next1 (t16, ()) w1))
   (K (.int .i64 0) w1))
  ((.int .i64 0), ()) w
theorem cmp_Or_int.pt_eq : cmp_Or_int.pt = fun vals0 w K => FN Tryz.prog Tryz.f108 (bodyOf Tryz.f108) [2] .leaf [vals0] w K := by kernel_rfl
theorem cmp_Or_int.call {vals0 : Value} {w : World} {K : Value → World → Prop} (h : cmp_Or_int.pt vals0 w K) : Calls Tryz.prog F_cmp_Or_int #[vals0] w (retK K) :=
  calls_FN (args := [vals0]) Tryz.func108 (by kernel_rfl) (by rw [cmp_Or_int.pt_eq] at h; exact h)
theorem cmp_Or_int.up {vals0 : Value} {w : World} {K : Value → World → Prop} (h : Calls Tryz.prog F_cmp_Or_int #[vals0] w (retK K)) : upK Tryz.prog (sCall F_cmp_Or_int #[vals0]) w K :=
  up_call (fn := Tryz.f108) Tryz.func108 (by kernel_rfl) (by kernel_rfl) h

/-- cmp.Compare[int] -/
def cmp_Compare_int.pt (x0 vy1 : Value) (w : World) (K : Value → World → Prop) : Prop :=
  upK Tryz.prog (sCall F_cmp_isNaN_int #[x0]) w fun t8 w1 =>
  upK Tryz.prog (sCall F_cmp_isNaN_int #[vy1]) w1 fun t10 w2 =>
  ifB t8
  (ifB t10
   (K (.int .i64 0) w2)
   (K (.int .i64 (-1)) w2))
  (ifB t10
   (K (.int .i64 1) w2)
   (pureK Tryz.prog (sBin .lss T_int (.tmp 14) (.tmp 15) x0 vy1) fun t16 =>
    ifB t16
    (K (.int .i64 (-1)) w2)
    (pureK Tryz.prog (sBin .gtr T_int (.tmp 17) (.tmp 18) x0 vy1) fun t19 =>
     ifB t19
     (K (.int .i64 1) w2)
     (K (.int .i64 0) w2))))
theorem cmp_Compare_int.pt_eq : cmp_Compare_int.pt = fun x0 vy1 w K => FN Tryz.prog Tryz.f109 (bodyOf Tryz.f109) [4] .leaf [x0, vy1] w K := by kernel_rfl
theorem cmp_Compare_int.call {x0 vy1 : Value} {w : World} {K : Value → World → Prop} (h : cmp_Compare_int.pt x0 vy1 w K) : Calls Tryz.prog F_cmp_Compare_int #[x0, vy1] w (retK K) :=
  calls_FN (args := [x0, vy1]) Tryz.func109 (by kernel_rfl) (by rw [cmp_Compare_int.pt_eq] at h; exact h)
theorem cmp_Compare_int.up {x0 vy1 : Value} {w : World} {K : Value → World → Prop} (h : Calls Tryz.prog F_cmp_Compare_int #[x0, vy1] w (retK K)) : upK Tryz.prog (sCall F_cmp_Compare_int #[x0, vy1]) w K :=
  up_call (fn := Tryz.f109) Tryz.func109 (by kernel_rfl) (by kernel_rfl) h

/-- strings.Compare -/
theorem strings_Compare.up {p0 p1 : Value} {w : World} {K : Value → World → Prop} (h : Calls Tryz.prog F_strings_Compare #[p0, p1] w (retK K)) : upK Tryz.prog (sCall F_strings_Compare #[p0, p1]) w K :=
  up_call (fn := Tryz.f110) Tryz.func110 (by kernel_rfl) (by kernel_rfl) h

/-- slices.IndexFunc[[]errata/api.Value,errata/api.Value] -/
def slices_IndexFunc_s_api_Value_api_Value.pt (s0 f1 : Value) (w : World) (K : Value → World → Prop) : Prop :=
  readK Tryz.prog (sBlt .len #[T_s_api_Value] T_int #[false] #[s0]) w fun t7 =>
  LOOP (X := Value × Unit) (fun lv1 w1 next1 =>
   pureK Tryz.prog (sBin .lss T_int (.tmp 8) (.tmp 7) lv1.1 t7) fun t9 =>
   ifB t9
   (pureK Tryz.prog (sIdxAddr T_s_api_Value s0 lv1.1) fun t14 =>
    readK Tryz.prog (sLoad T_api_Value t14) w1 fun t15 =>
    upK Tryz.prog (sCallV f1 #[t15]) w1 fun t16 w2 =>
    ifB t16
    (K lv1.1 w2)
    (pureK Tryz.prog (sBin .add T_int (.tmp 8) (.const (.int .i64 1)) lv1.1 (.int .i64 1)) fun t18 =>
     next1 (t18, ()) w2))
   (K (.int .i64 (-1)) w1))
  ((.int .i64 0), ()) w
theorem slices_IndexFunc_s_api_Value_api_Value.pt_eq : slices_IndexFunc_s_api_Value_api_Value.pt = fun s0 f1 w K => FN Tryz.prog Tryz.f111 (bodyOf Tryz.f111) [4] .leaf [s0, f1] w K := by kernel_rfl
theorem slices_IndexFunc_s_api_Value_api_Value.call {s0 f1 : Value} {w : World} {K : Value → World → Prop} (h : slices_IndexFunc_s_api_Value_api_Value.pt s0 f1 w K) : Calls Tryz.prog F_slices_IndexFunc_s_api_Value_api_Value #[s0, f1] w (retK K) :=
  calls_FN (args := [s0, f1]) Tryz.func111 (by kernel_rfl) (by rw [slices_IndexFunc_s_api_Value_api_Value.pt_eq] at h; exact h)
theorem slices_IndexFunc_s_api_Value_api_Value.up {s0 f1 : Value} {w : World} {K : Value → World → Prop} (h : Calls Tryz.prog F_slices_IndexFunc_s_api_Value_api_Value #[s0, f1] w (retK K)) : upK Tryz.prog (sCall F_slices_IndexFunc_s_api_Value_api_Value #[s0, f1]) w K :=
  up_call (fn := Tryz.f111) Tryz.func111 (by kernel_rfl) (by kernel_rfl) h

/-- errata/errataref01.Back -/
def errataref01_Back.pt (s0 : Value) (w : World) (K : Value → World → Prop) : Prop :=
  LETJ (X := Value × Unit) (fun jv1 w1 =>
   LOOP (X := Value × Value × Unit) (fun lv2 w2 next2 =>
    readK Tryz.prog (sBlt .len #[T_string] T_int #[false] #[s0]) w2 fun t18 =>
    pureK Tryz.prog (sBin .lss T_int (.tmp 16) (.tmp 18) lv2.2.1 t18) fun t19 =>
    ifB t19
    (pureK Tryz.prog (sIdx T_string s0 lv2.2.1) fun t24 =>
     pureK Tryz.prog (sBin .lss T_uint8 (.tmp 24) (.const (.int .u8 48)) t24 (.int .u8 48)) fun t25 =>
     ifB t25
     (K (.tuple #[(.int .i64 0), (.bool false)]) w2)
     (pureK Tryz.prog (sIdx T_string s0 lv2.2.1) fun t29 =>
      pureK Tryz.prog (sBin .gtr T_uint8 (.tmp 29) (.const (.int .u8 57)) t29 (.int .u8 57)) fun t30 =>
      ifB t30
      (K (.tuple #[(.int .i64 0), (.bool false)]) w2)
      (pureK Tryz.prog (sBin .gtr T_int (.tmp 33) (.const (.int .i64 20)) lv2.2.1 (.int .i64 20)) fun t34 =>
       ifB t34
       (K (.tuple #[(.int .i64 0), (.bool false)]) w2)
       (pureK Tryz.prog (sBin .mul T_int (.const (.int .i64 10)) (.tmp 36) (.int .i64 10) lv2.1) fun t37 =>
        pureK Tryz.prog (sIdx T_string s0 lv2.2.1) fun t40 =>
        pureK Tryz.prog (sBin .sub T_uint8 (.tmp 40) (.const (.int .u8 48)) t40 (.int .u8 48)) fun t41 =>
        upK Tryz.prog (sConv T_uint8 T_int t41) w2 fun t42 w3 =>
        pureK Tryz.prog (sBin .sub T_int (.tmp 37) (.tmp 42) t37 t42) fun t43 =>
        pureK Tryz.prog (sBin .add T_int (.tmp 20) (.const (.int .i64 1)) lv2.2.1 (.int .i64 1)) fun t21 =>
        next2 (t43, t21, ()) w3))))
    (LETJ (X := Value × Unit) (fun jv2 w4 =>
      upK Tryz.prog (sCall F_errataref01_Int #[jv2.1]) w4 fun t50 w5 =>
      pureK Tryz.prog (sBin .add T_string (.tmp 51) (.const (.string ⟨#[59]⟩)) s0 (.string ⟨#[59]⟩)) fun t52 =>
      pureK Tryz.prog (sBin .eql T_string (.tmp 50) (.tmp 52) t50 t52) fun t53 =>
      K (.tuple #[jv2.1, t53]) w5)
     (fun J2 =>
      pureK Tryz.prog (sBin .eql T_int (.tmp 44) (.const (.int .i64 0)) jv1.1 (.int .i64 0)) fun t45 =>
      ifB t45
      (pureK Tryz.prog (sUn .neg lv2.1) fun t47 =>
       J2 (t47, ()) w2)
      (J2 (lv2.1, ()) w2))))
   ((.int .i64 0), jv1.1, ()) w1)
  (fun J1 =>
   readK Tryz.prog (sBlt .len #[T_string] T_int #[false] #[s0]) w fun t8 =>
   pureK Tryz.prog (sBin .gtr T_int (.tmp 8) (.const (.int .i64 0)) t8 (.int .i64 0)) fun t9 =>
   ifB t9
   (pureK Tryz.prog (sIdx T_string s0 (.int .i64 0)) fun t12 =>
    pureK Tryz.prog (sBin .eql T_uint8 (.tmp 12) (.const (.int .u8 45)) t12 (.int .u8 45)) fun t13 =>
    ifB t13
    (J1 ((.int .i64 1), ()) w)
    (J1 ((.int .i64 0), ()) w))
   (J1 ((.int .i64 0), ()) w))
theorem errataref01_Back.pt_eq : errataref01_Back.pt = fun s0 w K => FN Tryz.prog Tryz.f112 (bodyOf Tryz.f112) [2, 3] (.node none .leaf (.node none .leaf (.node (some [4]) .leaf (.node none .leaf (.node none .leaf (.node (some [5]) .leaf .leaf)))))) [s0] w K := by kernel_rfl
theorem errataref01_Back.call {s0 : Value} {w : World} {K : Value → World → Prop} (h : errataref01_Back.pt s0 w K) : Calls Tryz.prog F_errataref01_Back #[s0] w (retK K) :=
  calls_FN (args := [s0]) Tryz.func112 (by kernel_rfl) (by rw [errataref01_Back.pt_eq] at h; exact h)
theorem errataref01_Back.up {s0 : Value} {w : World} {K : Value → World → Prop} (h : Calls Tryz.prog F_errataref01_Back #[s0] w (retK K)) : upK Tryz.prog (sCall F_errataref01_Back #[s0]) w K :=
  up_call (fn := Tryz.f112) Tryz.func112 (by kernel_rfl) (by kernel_rfl) h

/-- internal/stringslite.IndexByte -/
theorem internal_stringslite_IndexByte.up {p0 p1 : Value} {w : World} {K : Value → World → Prop} (h : Calls Tryz.prog F_internal_stringslite_IndexByte #[p0, p1] w (retK K)) : upK Tryz.prog (sCall F_internal_stringslite_IndexByte #[p0, p1]) w K :=
  up_call (fn := Tryz.f113) Tryz.func113 (by kernel_rfl) (by kernel_rfl) h

/-- internal/strconv.Atoi -/
theorem internal_strconv_Atoi.up {p0 : Value} {w : World} {K : Value → World → Prop} (h : Calls Tryz.prog F_internal_strconv_Atoi #[p0] w (retK K)) : upK Tryz.prog (sCall F_internal_strconv_Atoi #[p0]) w K :=
  up_call (fn := Tryz.f114) Tryz.func114 (by kernel_rfl) (by kernel_rfl) h

/-- strconv.toError -/
theorem strconv_toError.up {p0 p1 p2 p3 p4 : Value} {w : World} {K : Value → World → Prop} (h : Calls Tryz.prog F_strconv_toError #[p0, p1, p2, p3, p4] w (retK K)) : upK Tryz.prog (sCall F_strconv_toError #[p0, p1, p2, p3, p4]) w K :=
  up_call (fn := Tryz.f115) Tryz.func115 (by kernel_rfl) (by kernel_rfl) h

/-- internal/stringslite.CutPrefix -/
theorem internal_stringslite_CutPrefix.up {p0 p1 : Value} {w : World} {K : Value → World → Prop} (h : Calls Tryz.prog F_internal_stringslite_CutPrefix #[p0, p1] w (retK K)) : upK Tryz.prog (sCall F_internal_stringslite_CutPrefix #[p0, p1]) w K :=
  up_call (fn := Tryz.f116) Tryz.func116 (by kernel_rfl) (by kernel_rfl) h

/-- internal/strconv.FormatInt -/
theorem internal_strconv_FormatInt.up {p0 p1 : Value} {w : World} {K : Value → World → Prop} (h : Calls Tryz.prog F_internal_strconv_FormatInt #[p0, p1] w (retK K)) : upK Tryz.prog (sCall F_internal_strconv_FormatInt #[p0, p1]) w K :=
  up_call (fn := Tryz.f117) Tryz.func117 (by kernel_rfl) (by kernel_rfl) h

/-- slices.pdqsortCmpFunc[errata/api.Value] -/
def slices_pdqsortCmpFunc_api_Value.pt (data0 a1 b2 limit3 cmp4 : Value) (w : World) (K : Value → World → Prop) : Prop :=
  LOOP (X := Value × Value × Value × Value × Value × Unit) (fun lv1 w1 next1 =>
   pureK Tryz.prog (sBin .sub T_int (.tmp 21) (.tmp 22) lv1.2.2.2.2.1 lv1.2.1) fun t23 =>
   pureK Tryz.prog (sBin .leq T_int (.tmp 24) (.const (.int .i64 12)) t23 (.int .i64 12)) fun t25 =>
   ifB t25
   (upK Tryz.prog (sCall F_slices_insertionSortCmpFunc_api_Value #[data0, lv1.2.1, lv1.2.2.2.2.1, cmp4]) w1 fun t30 w2 =>
    K (.tuple #[]) w2)
   (pureK Tryz.prog (sBin .eql T_int (.tmp 31) (.const (.int .i64 0)) lv1.1 (.int .i64 0)) fun t32 =>
    ifB t32
    (upK Tryz.prog (sCall F_slices_heapSortCmpFunc_api_Value #[data0, lv1.2.1, lv1.2.2.2.2.1, cmp4]) w1 fun t37 w3 =>
     K (.tuple #[]) w3)
    (LETJ (X := Value × Unit) (fun jv1 w4 =>
      upK Tryz.prog (sCall F_slices_choosePivotCmpFunc_api_Value #[data0, lv1.2.1, lv1.2.2.2.2.1, cmp4]) w4 fun t52 w5 =>
      pureK Tryz.prog (sExtract t52 0) fun t53 =>
      pureK Tryz.prog (sExtract t52 1) fun t54 =>
      LETJ (X := Value × Value × Unit) (fun jv2 w6 =>
       LETJ (X := Unit) (fun jv3 w7 =>
        LETJ (X := Value × Unit) (fun jv4 w8 =>
         upK Tryz.prog (sCall F_slices_partitionCmpFunc_api_Value #[data0, jv4.1, lv1.2.2.2.2.1, jv2.1, cmp4]) w8 fun t111 w9 =>
         pureK Tryz.prog (sExtract t111 0) fun t112 =>
         pureK Tryz.prog (sExtract t111 1) fun t113 =>
         pureK Tryz.prog (sBin .sub T_int (.tmp 115) (.tmp 116) t112 jv4.1) fun t117 =>
         pureK Tryz.prog (sBin .sub T_int (.tmp 118) (.tmp 119) lv1.2.2.2.2.1 t112) fun t120 =>
         pureK Tryz.prog (sBin .quo T_int (.tmp 121) (.const (.int .i64 8)) t23 (.int .i64 8)) fun t122 =>
         pureK Tryz.prog (sBin .lss T_int (.tmp 123) (.tmp 124) t117 t120) fun t125 =>
         ifB t125
         (pureK Tryz.prog (sBin .geq T_int (.tmp 126) (.tmp 127) t117 t122) fun t128 =>
          upK Tryz.prog (sCall F_slices_pdqsortCmpFunc_api_Value #[data0, jv4.1, t112, jv1.1, cmp4]) w9 fun t134 w10 =>
          pureK Tryz.prog (sBin .add T_int (.tmp 135) (.const (.int .i64 1)) t112 (.int .i64 1)) fun t136 =>
          next1 (jv1.1, t136, t113, t128, lv1.2.2.2.2.1, ()) w10)
         (pureK Tryz.prog (sBin .geq T_int (.tmp 137) (.tmp 138) t120 t122) fun t139 =>
          pureK Tryz.prog (sBin .add T_int (.tmp 141) (.const (.int .i64 1)) t112 (.int .i64 1)) fun t142 =>
          upK Tryz.prog (sCall F_slices_pdqsortCmpFunc_api_Value #[data0, t142, lv1.2.2.2.2.1, jv1.1, cmp4]) w9 fun t146 w11 =>
          next1 (jv1.1, jv4.1, t113, t139, t112, ()) w11))
        (fun J4 =>
         pureK Tryz.prog (sBin .gtr T_int (.tmp 81) (.const (.int .i64 0)) lv1.2.1 (.int .i64 0)) fun t82 =>
         ifB t82
         (pureK Tryz.prog (sBin .sub T_int (.tmp 86) (.const (.int .i64 1)) lv1.2.1 (.int .i64 1)) fun t87 =>
          pureK Tryz.prog (sIdxAddr T_s_api_Value data0 t87) fun t88 =>
          readK Tryz.prog (sLoad T_api_Value t88) (tick w7) fun t89 =>
          pureK Tryz.prog (sIdxAddr T_s_api_Value data0 jv2.1) fun t92 =>
          readK Tryz.prog (sLoad T_api_Value t92) (tick w7) fun t93 =>
          upK Tryz.prog (sCallV cmp4 #[t89, t93]) (tick w7) fun t94 w12 =>
          pureK Tryz.prog (sBin .lss T_int (.tmp 94) (.const (.int .i64 0)) t94 (.int .i64 0)) fun t95 =>
          pureK Tryz.prog (sUn .not t95) fun t96 =>
          ifB t96
          (upK Tryz.prog (sCall F_slices_partitionEqualCmpFunc_api_Value #[data0, lv1.2.1, lv1.2.2.2.2.1, jv2.1, cmp4]) w12 fun t103 w13 =>
           next1 (jv1.1, t103, lv1.2.2.1, lv1.2.2.2.1, lv1.2.2.2.2.1, ()) w13)
          (J4 (lv1.2.1, ()) w12))
         (J4 (lv1.2.1, ()) (tick w7))))
       (fun J3 =>
        ifB lv1.2.2.2.1
        (ifB lv1.2.2.1
         (pureK Tryz.prog (sBin .eql T_slices_sortedHint (.tmp 73) (.const (.int .i64 1)) jv2.2.1 (.int .i64 1)) fun t74 =>
          ifB t74
          (upK Tryz.prog (sCall F_slices_partialInsertionSortCmpFunc_api_Value #[data0, lv1.2.1, lv1.2.2.2.2.1, cmp4]) w6 fun t80 w14 =>
           ifB t80
           (K (.tuple #[]) w14)
           (J3 (()) w14))
          (J3 (()) w6))
         (J3 (()) w6))
        (J3 (()) w6)))
      (fun J2 =>
       pureK Tryz.prog (sBin .eql T_slices_sortedHint (.tmp 55) (.const (.int .i64 2)) t54 (.int .i64 2)) fun t56 =>
       ifB t56
       (upK Tryz.prog (sCall F_slices_reverseRangeCmpFunc_api_Value #[data0, lv1.2.1, lv1.2.2.2.2.1, cmp4]) w5 fun t61 w15 =>
        pureK Tryz.prog (sBin .sub T_int (.tmp 62) (.const (.int .i64 1)) lv1.2.2.2.2.1 (.int .i64 1)) fun t63 =>
        pureK Tryz.prog (sBin .sub T_int (.tmp 64) (.tmp 65) t53 lv1.2.1) fun t66 =>
        pureK Tryz.prog (sBin .sub T_int (.tmp 63) (.tmp 66) t63 t66) fun t67 =>
        J2 (t67, (.int .i64 1), ()) w15)
       (J2 (t53, t54, ()) w5)))
     (fun J1 =>
      pureK Tryz.prog (sUn .not lv1.2.2.2.1) fun t39 =>
      ifB t39
      (upK Tryz.prog (sCall F_slices_breakPatternsCmpFunc_api_Value #[data0, lv1.2.1, lv1.2.2.2.2.1, cmp4]) w1 fun t44 w16 =>
       pureK Tryz.prog (sBin .sub T_int (.tmp 45) (.const (.int .i64 1)) lv1.1 (.int .i64 1)) fun t46 =>
       J1 (t46, ()) w16)
      (J1 (lv1.1, ()) w1)))))
  (limit3, a1, (.bool true), (.bool true), b2, ()) w
theorem slices_pdqsortCmpFunc_api_Value.pt_eq : slices_pdqsortCmpFunc_api_Value.pt = fun data0 a1 b2 limit3 cmp4 w K => FN Tryz.prog Tryz.f119 (bodyOf Tryz.f119) [] (.node none .leaf (.node none .leaf (.node none (.node none (.node none (.node none .leaf (.node none .leaf (.node none .leaf (.node (some [3]) .leaf (.node none .leaf (.node (some [13, 14]) .leaf (.node (some []) .leaf (.node (some [1]) .leaf .leaf)))))))) .leaf) .leaf) .leaf))) [data0, a1, b2, limit3, cmp4] w K := by kernel_rfl
theorem slices_pdqsortCmpFunc_api_Value.call {data0 a1 b2 limit3 cmp4 : Value} {w : World} {K : Value → World → Prop} (h : slices_pdqsortCmpFunc_api_Value.pt data0 a1 b2 limit3 cmp4 w K) : Calls Tryz.prog F_slices_pdqsortCmpFunc_api_Value #[data0, a1, b2, limit3, cmp4] w (retK K) :=
  calls_FN (args := [data0, a1, b2, limit3, cmp4]) Tryz.func119 (by kernel_rfl) (by rw [slices_pdqsortCmpFunc_api_Value.pt_eq] at h; exact h)
theorem slices_pdqsortCmpFunc_api_Value.up {data0 a1 b2 limit3 cmp4 : Value} {w : World} {K : Value → World → Prop} (h : Calls Tryz.prog F_slices_pdqsortCmpFunc_api_Value #[data0, a1, b2, limit3, cmp4] w (retK K)) : upK Tryz.prog (sCall F_slices_pdqsortCmpFunc_api_Value #[data0, a1, b2, limit3, cmp4]) w K :=
  up_call (fn := Tryz.f119) Tryz.func119 (by kernel_rfl) (by kernel_rfl) h

/-- math/bits.Len -/
theorem math_bits_Len.up {p0 : Value} {w : World} {K : Value → World → Prop} (h : Calls Tryz.prog F_math_bits_Len #[p0] w (retK K)) : upK Tryz.prog (sCall F_math_bits_Len #[p0]) w K :=
  up_call (fn := Tryz.f120) Tryz.func120 (by kernel_rfl) (by kernel_rfl) h

/-- cmp.isNaN[int] -/
def cmp_isNaN_int.pt (x0 : Value) (w : World) (K : Value → World → Prop) : Prop :=
  pureK Tryz.prog (sBin .neq T_int (.tmp 3) (.tmp 4) x0 x0) fun t5 =>
  K t5 w
theorem cmp_isNaN_int.pt_eq : cmp_isNaN_int.pt = fun x0 w K => FN Tryz.prog Tryz.f121 (bodyOf Tryz.f121) [2] .leaf [x0] w K := by kernel_rfl
theorem cmp_isNaN_int.call {x0 : Value} {w : World} {K : Value → World → Prop} (h : cmp_isNaN_int.pt x0 w K) : Calls Tryz.prog F_cmp_isNaN_int #[x0] w (retK K) :=
  calls_FN (args := [x0]) Tryz.func121 (by kernel_rfl) (by rw [cmp_isNaN_int.pt_eq] at h; exact h)
theorem cmp_isNaN_int.up {x0 : Value} {w : World} {K : Value → World → Prop} (h : Calls Tryz.prog F_cmp_isNaN_int #[x0] w (retK K)) : upK Tryz.prog (sCall F_cmp_isNaN_int #[x0]) w K :=
  up_call (fn := Tryz.f121) Tryz.func121 (by kernel_rfl) (by kernel_rfl) h

/-- internal/bytealg.CompareString -/
theorem internal_bytealg_CompareString.up {p0 p1 : Value} {w : World} {K : Value → World → Prop} (h : Calls Tryz.prog F_internal_bytealg_CompareString #[p0, p1] w (retK K)) : upK Tryz.prog (sCall F_internal_bytealg_CompareString #[p0, p1]) w K :=
  up_call (fn := Tryz.f122) Tryz.func122 (by kernel_rfl) (by kernel_rfl) h

/-- internal/strconv.ParseInt -/
theorem internal_strconv_ParseInt.up {p0 p1 p2 : Value} {w : World} {K : Value → World → Prop} (h : Calls Tryz.prog F_internal_strconv_ParseInt #[p0, p1, p2] w (retK K)) : upK Tryz.prog (sCall F_internal_strconv_ParseInt #[p0, p1, p2]) w K :=
  up_call (fn := Tryz.f124) Tryz.func124 (by kernel_rfl) (by kernel_rfl) h

/-- strconv.syntaxError -/
theorem strconv_syntaxError.up {p0 p1 : Value} {w : World} {K : Value → World → Prop} (h : Calls Tryz.prog F_strconv_syntaxError #[p0, p1] w (retK K)) : upK Tryz.prog (sCall F_strconv_syntaxError #[p0, p1]) w K :=
  up_call (fn := Tryz.f125) Tryz.func125 (by kernel_rfl) (by kernel_rfl) h

/-- strconv.rangeError -/
theorem strconv_rangeError.up {p0 p1 : Value} {w : World} {K : Value → World → Prop} (h : Calls Tryz.prog F_strconv_rangeError #[p0, p1] w (retK K)) : upK Tryz.prog (sCall F_strconv_rangeError #[p0, p1]) w K :=
  up_call (fn := Tryz.f126) Tryz.func126 (by kernel_rfl) (by kernel_rfl) h

/-- strconv.baseError -/
theorem strconv_baseError.up {p0 p1 p2 : Value} {w : World} {K : Value → World → Prop} (h : Calls Tryz.prog F_strconv_baseError #[p0, p1, p2] w (retK K)) : upK Tryz.prog (sCall F_strconv_baseError #[p0, p1, p2]) w K :=
  up_call (fn := Tryz.f127) Tryz.func127 (by kernel_rfl) (by kernel_rfl) h

/-- strconv.bitSizeError -/
theorem strconv_bitSizeError.up {p0 p1 p2 : Value} {w : World} {K : Value → World → Prop} (h : Calls Tryz.prog F_strconv_bitSizeError #[p0, p1, p2] w (retK K)) : upK Tryz.prog (sCall F_strconv_bitSizeError #[p0, p1, p2]) w K :=
  up_call (fn := Tryz.f128) Tryz.func128 (by kernel_rfl) (by kernel_rfl) h

/-- internal/stringslite.HasPrefix -/
theorem internal_stringslite_HasPrefix.up {p0 p1 : Value} {w : World} {K : Value → World → Prop} (h : Calls Tryz.prog F_internal_stringslite_HasPrefix #[p0, p1] w (retK K)) : upK Tryz.prog (sCall F_internal_stringslite_HasPrefix #[p0, p1]) w K :=
  up_call (fn := Tryz.f129) Tryz.func129 (by kernel_rfl) (by kernel_rfl) h

/-- internal/strconv.small -/
theorem internal_strconv_small.up {p0 : Value} {w : World} {K : Value → World → Prop} (h : Calls Tryz.prog F_internal_strconv_small #[p0] w (retK K)) : upK Tryz.prog (sCall F_internal_strconv_small #[p0]) w K :=
  up_call (fn := Tryz.f130) Tryz.func130 (by kernel_rfl) (by kernel_rfl) h

/-- internal/strconv.numDigits -/
theorem internal_strconv_numDigits.up {p0 : Value} {w : World} {K : Value → World → Prop} (h : Calls Tryz.prog F_internal_strconv_numDigits #[p0] w (retK K)) : upK Tryz.prog (sCall F_internal_strconv_numDigits #[p0]) w K :=
  up_call (fn := Tryz.f131) Tryz.func131 (by kernel_rfl) (by kernel_rfl) h

/-- internal/strconv.formatBase10 -/
theorem internal_strconv_formatBase10.up {p0 p1 : Value} {w : World} {K : Value → World → Prop} (h : Calls Tryz.prog F_internal_strconv_formatBase10 #[p0, p1] w (retK K)) : upK Tryz.prog (sCall F_internal_strconv_formatBase10 #[p0, p1]) w K :=
  up_call (fn := Tryz.f132) Tryz.func132 (by kernel_rfl) (by kernel_rfl) h

/-- internal/strconv.formatBits -/
theorem internal_strconv_formatBits.up {p0 p1 p2 p3 p4 : Value} {w : World} {K : Value → World → Prop} (h : Calls Tryz.prog F_internal_strconv_formatBits #[p0, p1, p2, p3, p4] w (retK K)) : upK Tryz.prog (sCall F_internal_strconv_formatBits #[p0, p1, p2, p3, p4]) w K :=
  up_call (fn := Tryz.f133) Tryz.func133 (by kernel_rfl) (by kernel_rfl) h

/-- slices.insertionSortCmpFunc[errata/api.Value] -/
def slices_insertionSortCmpFunc_api_Value.pt (data0 a1 b2 cmp3 : Value) (w : World) (K : Value → World → Prop) : Prop :=
  pureK Tryz.prog (sBin .add T_int (.tmp 10) (.const (.int .i64 1)) a1 (.int .i64 1)) fun t11 =>
  LOOP (X := Value × Unit) (fun lv1 w1 next1 =>
   pureK Tryz.prog (sBin .lss T_int (.tmp 12) (.tmp 13) lv1.1 b2) fun t14 =>
   ifB t14
   (LETJ (X := Unit) (fun jv1 w2 =>
     pureK Tryz.prog (sBin .add T_int (.tmp 15) (.const (.int .i64 1)) lv1.1 (.int .i64 1)) fun t16 =>
     next1 (t16, ()) w2)
    (fun J1 =>
     LOOP (X := Value × Unit) (fun lv3 w3 next3 =>
      pureK Tryz.prog (sBin .gtr T_int (.tmp 18) (.tmp 19) lv3.1 a1) fun t20 =>
      ifB t20
      (pureK Tryz.prog (sIdxAddr T_s_api_Value data0 lv3.1) fun t25 =>
       readK Tryz.prog (sLoad T_api_Value t25) (tick w3) fun t26 =>
       pureK Tryz.prog (sBin .sub T_int (.tmp 28) (.const (.int .i64 1)) lv3.1 (.int .i64 1)) fun t29 =>
       pureK Tryz.prog (sIdxAddr T_s_api_Value data0 t29) fun t30 =>
       readK Tryz.prog (sLoad T_api_Value t30) (tick w3) fun t31 =>
       upK Tryz.prog (sCallV cmp3 #[t26, t31]) (tick w3) fun t32 w4 =>
       pureK Tryz.prog (sBin .lss T_int (.tmp 32) (.const (.int .i64 0)) t32 (.int .i64 0)) fun t33 =>
       ifB t33
       (pureK Tryz.prog (sBin .sub T_int (.tmp 40) (.const (.int .i64 1)) lv3.1 (.int .i64 1)) fun t41 =>
        pureK Tryz.prog (sBin .sub T_int (.tmp 43) (.const (.int .i64 1)) lv3.1 (.int .i64 1)) fun t44 =>
        pureK Tryz.prog (sIdxAddr T_s_api_Value data0 t44) fun t45 =>
        readK Tryz.prog (sLoad T_api_Value t45) (tick w4) fun t46 =>
        pureK Tryz.prog (sIdxAddr T_s_api_Value data0 lv3.1) fun t49 =>
        readK Tryz.prog (sLoad T_api_Value t49) (tick w4) fun t50 =>
        pureK Tryz.prog (sIdxAddr T_s_api_Value data0 lv3.1) fun t51 =>
        upK Tryz.prog (sStore T_api_Value t51 t46) (tick w4) fun tu w5 =>
        pureK Tryz.prog (sIdxAddr T_s_api_Value data0 t41) fun t52 =>
        upK Tryz.prog (sStore T_api_Value t52 t50) w5 fun tu_1 w6 =>
        pureK Tryz.prog (sBin .sub T_int (.tmp 35) (.const (.int .i64 1)) lv3.1 (.int .i64 1)) fun t36 =>
        next3 (t36, ()) w6)
       (J1 (()) w4))
      (J1 (()) (tick w3)))
     (lv1.1, ()) w1))
   (K (.tuple #[]) w1))
  (t11, ()) w
theorem slices_insertionSortCmpFunc_api_Value.pt_eq : slices_insertionSortCmpFunc_api_Value.pt = fun data0 a1 b2 cmp3 w K => FN Tryz.prog Tryz.f134 (bodyOf Tryz.f134) [] (.node none .leaf (.node none (.node none (.node none .leaf (.node (some []) .leaf .leaf)) .leaf) .leaf)) [data0, a1, b2, cmp3] w K := by kernel_rfl
theorem slices_insertionSortCmpFunc_api_Value.call {data0 a1 b2 cmp3 : Value} {w : World} {K : Value → World → Prop} (h : slices_insertionSortCmpFunc_api_Value.pt data0 a1 b2 cmp3 w K) : Calls Tryz.prog F_slices_insertionSortCmpFunc_api_Value #[data0, a1, b2, cmp3] w (retK K) :=
  calls_FN (args := [data0, a1, b2, cmp3]) Tryz.func134 (by kernel_rfl) (by rw [slices_insertionSortCmpFunc_api_Value.pt_eq] at h; exact h)
theorem slices_insertionSortCmpFunc_api_Value.up {data0 a1 b2 cmp3 : Value} {w : World} {K : Value → World → Prop} (h : Calls Tryz.prog F_slices_insertionSortCmpFunc_api_Value #[data0, a1, b2, cmp3] w (retK K)) : upK Tryz.prog (sCall F_slices_insertionSortCmpFunc_api_Value #[data0, a1, b2, cmp3]) w K :=
  up_call (fn := Tryz.f134) Tryz.func134 (by kernel_rfl) (by kernel_rfl) h

/-- slices.heapSortCmpFunc[errata/api.Value] -/
def slices_heapSortCmpFunc_api_Value.pt (data0 a1 b2 cmp3 : Value) (w : World) (K : Value → World → Prop) : Prop :=
  pureK Tryz.prog (sBin .sub T_int (.tmp 14) (.tmp 15) b2 a1) fun t16 =>
  pureK Tryz.prog (sBin .sub T_int (.tmp 17) (.const (.int .i64 1)) t16 (.int .i64 1)) fun t18 =>
  pureK Tryz.prog (sBin .quo T_int (.tmp 18) (.const (.int .i64 2)) t18 (.int .i64 2)) fun t19 =>
  LOOP (X := Value × Unit) (fun lv1 w1 next1 =>
   pureK Tryz.prog (sBin .geq T_int (.tmp 20) (.const (.int .i64 0)) lv1.1 (.int .i64 0)) fun t21 =>
   ifB t21
   (upK Tryz.prog (sCall F_slices_siftDownCmpFunc_api_Value #[data0, lv1.1, t16, a1, cmp3]) w1 fun t29 w2 =>
    pureK Tryz.prog (sBin .sub T_int (.tmp 22) (.const (.int .i64 1)) lv1.1 (.int .i64 1)) fun t23 =>
    next1 (t23, ()) w2)
   (pureK Tryz.prog (sBin .sub T_int (.tmp 30) (.const (.int .i64 1)) t16 (.int .i64 1)) fun t31 =>
    LOOP (X := Value × Unit) (fun lv3 w3 next3 =>
     pureK Tryz.prog (sBin .geq T_int (.tmp 32) (.const (.int .i64 0)) lv3.1 (.int .i64 0)) fun t33 =>
     ifB t33
     (pureK Tryz.prog (sBin .add T_int (.tmp 39) (.tmp 40) a1 lv3.1) fun t41 =>
      pureK Tryz.prog (sBin .add T_int (.tmp 43) (.tmp 44) a1 lv3.1) fun t45 =>
      pureK Tryz.prog (sIdxAddr T_s_api_Value data0 t45) fun t46 =>
      readK Tryz.prog (sLoad T_api_Value t46) (tick w3) fun t47 =>
      pureK Tryz.prog (sIdxAddr T_s_api_Value data0 a1) fun t50 =>
      readK Tryz.prog (sLoad T_api_Value t50) (tick w3) fun t51 =>
      pureK Tryz.prog (sIdxAddr T_s_api_Value data0 a1) fun t52 =>
      upK Tryz.prog (sStore T_api_Value t52 t47) (tick w3) fun tu w4 =>
      pureK Tryz.prog (sIdxAddr T_s_api_Value data0 t41) fun t53 =>
      upK Tryz.prog (sStore T_api_Value t53 t51) w4 fun tu_1 w5 =>
      upK Tryz.prog (sCall F_slices_siftDownCmpFunc_api_Value #[data0, (.int .i64 0), lv3.1, a1, cmp3]) w5 fun t59 w6 =>
      pureK Tryz.prog (sBin .sub T_int (.tmp 34) (.const (.int .i64 1)) lv3.1 (.int .i64 1)) fun t35 =>
      next3 (t35, ()) w6)
     (K (.tuple #[]) w3))
    (t31, ()) w1))
  (t19, ()) w
theorem slices_heapSortCmpFunc_api_Value.pt_eq : slices_heapSortCmpFunc_api_Value.pt = fun data0 a1 b2 cmp3 w K => FN Tryz.prog Tryz.f135 (bodyOf Tryz.f135) [] .leaf [data0, a1, b2, cmp3] w K := by kernel_rfl
theorem slices_heapSortCmpFunc_api_Value.call {data0 a1 b2 cmp3 : Value} {w : World} {K : Value → World → Prop} (h : slices_heapSortCmpFunc_api_Value.pt data0 a1 b2 cmp3 w K) : Calls Tryz.prog F_slices_heapSortCmpFunc_api_Value #[data0, a1, b2, cmp3] w (retK K) :=
  calls_FN (args := [data0, a1, b2, cmp3]) Tryz.func135 (by kernel_rfl) (by rw [slices_heapSortCmpFunc_api_Value.pt_eq] at h; exact h)
theorem slices_heapSortCmpFunc_api_Value.up {data0 a1 b2 cmp3 : Value} {w : World} {K : Value → World → Prop} (h : Calls Tryz.prog F_slices_heapSortCmpFunc_api_Value #[data0, a1, b2, cmp3] w (retK K)) : upK Tryz.prog (sCall F_slices_heapSortCmpFunc_api_Value #[data0, a1, b2, cmp3]) w K :=
  up_call (fn := Tryz.f135) Tryz.func135 (by kernel_rfl) (by kernel_rfl) h

/-- slices.breakPatternsCmpFunc[errata/api.Value] -/
def slices_breakPatternsCmpFunc_api_Value.pt (data0 a1 b2 cmp3 : Value) (w : World) (K : Value → World → Prop) : Prop :=
  pureK Tryz.prog (sBin .sub T_int (.tmp 13) (.tmp 14) b2 a1) fun t15 =>
  pureK Tryz.prog (sBin .geq T_int (.tmp 16) (.const (.int .i64 8)) t15 (.int .i64 8)) fun t17 =>
  ifB t17
  (upK Tryz.prog (sConv T_int T_slices_xorshift t15) w fun t19 w1 =>
   upK Tryz.prog (sAlloc T_slices_xorshift) w1 fun random9 w2 =>
   upK Tryz.prog (sStore T_slices_xorshift random9 t19) w2 fun tu w3 =>
   upK Tryz.prog (sCall F_slices_nextPowerOfTwo #[t15]) w3 fun t21 w4 =>
   pureK Tryz.prog (sBin .quo T_int (.tmp 23) (.const (.int .i64 4)) t15 (.int .i64 4)) fun t24 =>
   pureK Tryz.prog (sBin .mul T_int (.tmp 24) (.const (.int .i64 2)) t24 (.int .i64 2)) fun t25 =>
   pureK Tryz.prog (sBin .add T_int (.tmp 22) (.tmp 25) a1 t25) fun t26 =>
   pureK Tryz.prog (sBin .sub T_int (.tmp 26) (.const (.int .i64 1)) t26 (.int .i64 1)) fun t27 =>
   LOOP (X := Value × Unit) (fun lv5 w5 next5 =>
    pureK Tryz.prog (sBin .quo T_int (.tmp 30) (.const (.int .i64 4)) t15 (.int .i64 4)) fun t31 =>
    pureK Tryz.prog (sBin .mul T_int (.tmp 31) (.const (.int .i64 2)) t31 (.int .i64 2)) fun t32 =>
    pureK Tryz.prog (sBin .add T_int (.tmp 29) (.tmp 32) a1 t32) fun t33 =>
    pureK Tryz.prog (sBin .add T_int (.tmp 33) (.const (.int .i64 1)) t33 (.int .i64 1)) fun t34 =>
    pureK Tryz.prog (sBin .leq T_int (.tmp 28) (.tmp 34) lv5.1 t34) fun t35 =>
    ifB t35
    (upK Tryz.prog (sCall F_slices_xorshift_Next #[random9]) w5 fun t38 w6 =>
     pureK Tryz.prog (sBin .sub T_uint (.tmp 39) (.const (.int .u64 1)) t21 (.int .u64 1)) fun t40 =>
     pureK Tryz.prog (sBin .and T_uint (.tmp 38) (.tmp 40) t38 t40) fun t41 =>
     upK Tryz.prog (sConv T_uint T_int t41) w6 fun t42 w7 =>
     LETJ (X := Value × Unit) (fun jv1 w8 =>
      pureK Tryz.prog (sBin .add T_int (.tmp 52) (.tmp 53) a1 jv1.1) fun t54 =>
      pureK Tryz.prog (sBin .add T_int (.tmp 56) (.tmp 57) a1 jv1.1) fun t58 =>
      pureK Tryz.prog (sIdxAddr T_s_api_Value data0 t58) fun t59 =>
      readK Tryz.prog (sLoad T_api_Value t59) (tick w8) fun t60 =>
      pureK Tryz.prog (sIdxAddr T_s_api_Value data0 lv5.1) fun t63 =>
      readK Tryz.prog (sLoad T_api_Value t63) (tick w8) fun t64 =>
      pureK Tryz.prog (sIdxAddr T_s_api_Value data0 lv5.1) fun t65 =>
      upK Tryz.prog (sStore T_api_Value t65 t60) (tick w8) fun tu_1 w9 =>
      pureK Tryz.prog (sIdxAddr T_s_api_Value data0 t54) fun t66 =>
      upK Tryz.prog (sStore T_api_Value t66 t64) w9 fun tu_2 w10 =>
      pureK Tryz.prog (sBin .add T_int (.tmp 36) (.const (.int .i64 1)) lv5.1 (.int .i64 1)) fun t37 =>
      next5 (t37, ()) w10)
     (fun J1 =>
      pureK Tryz.prog (sBin .geq T_int (.tmp 43) (.tmp 44) t42 t15) fun t45 =>
      ifB t45
      (pureK Tryz.prog (sBin .sub T_int (.tmp 46) (.tmp 47) t42 t15) fun t48 =>
       J1 (t48, ()) w7)
      (J1 (t42, ()) w7)))
    (K (.tuple #[]) w5))
   (t27, ()) w4)
  (K (.tuple #[]) w)
theorem slices_breakPatternsCmpFunc_api_Value.pt_eq : slices_breakPatternsCmpFunc_api_Value.pt = fun data0 a1 b2 cmp3 w K => FN Tryz.prog Tryz.f136 (bodyOf Tryz.f136) [] (.node none .leaf (.node none .leaf (.node none (.node none .leaf (.node none .leaf (.node none .leaf (.node none (.node none (.node none .leaf (.node none (.node none (.node none .leaf (.node (some [12]) .leaf .leaf)) .leaf) .leaf)) .leaf) .leaf)))) .leaf))) [data0, a1, b2, cmp3] w K := by kernel_rfl
theorem slices_breakPatternsCmpFunc_api_Value.call {data0 a1 b2 cmp3 : Value} {w : World} {K : Value → World → Prop} (h : slices_breakPatternsCmpFunc_api_Value.pt data0 a1 b2 cmp3 w K) : Calls Tryz.prog F_slices_breakPatternsCmpFunc_api_Value #[data0, a1, b2, cmp3] w (retK K) :=
  calls_FN (args := [data0, a1, b2, cmp3]) Tryz.func136 (by kernel_rfl) (by rw [slices_breakPatternsCmpFunc_api_Value.pt_eq] at h; exact h)
theorem slices_breakPatternsCmpFunc_api_Value.up {data0 a1 b2 cmp3 : Value} {w : World} {K : Value → World → Prop} (h : Calls Tryz.prog F_slices_breakPatternsCmpFunc_api_Value #[data0, a1, b2, cmp3] w (retK K)) : upK Tryz.prog (sCall F_slices_breakPatternsCmpFunc_api_Value #[data0, a1, b2, cmp3]) w K :=
  up_call (fn := Tryz.f136) Tryz.func136 (by kernel_rfl) (by kernel_rfl) h

/-- slices.choosePivotCmpFunc[errata/api.Value] -/
def slices_choosePivotCmpFunc_api_Value.pt (data0 a1 b2 cmp3 : Value) (w : World) (K : Value → World → Prop) : Prop :=
  pureK Tryz.prog (sBin .sub T_int (.tmp 15) (.tmp 16) b2 a1) fun t17 =>
  upK Tryz.prog (sAlloc T_int) w fun swaps11 w1 =>
  pureK Tryz.prog (sBin .quo T_int (.tmp 19) (.const (.int .i64 4)) t17 (.int .i64 4)) fun t20 =>
  pureK Tryz.prog (sBin .mul T_int (.tmp 20) (.const (.int .i64 1)) t20 (.int .i64 1)) fun t21 =>
  pureK Tryz.prog (sBin .add T_int (.tmp 18) (.tmp 21) a1 t21) fun t22 =>
  pureK Tryz.prog (sBin .quo T_int (.tmp 24) (.const (.int .i64 4)) t17 (.int .i64 4)) fun t25 =>
  pureK Tryz.prog (sBin .mul T_int (.tmp 25) (.const (.int .i64 2)) t25 (.int .i64 2)) fun t26 =>
  pureK Tryz.prog (sBin .add T_int (.tmp 23) (.tmp 26) a1 t26) fun t27 =>
  pureK Tryz.prog (sBin .quo T_int (.tmp 29) (.const (.int .i64 4)) t17 (.int .i64 4)) fun t30 =>
  pureK Tryz.prog (sBin .mul T_int (.tmp 30) (.const (.int .i64 3)) t30 (.int .i64 3)) fun t31 =>
  pureK Tryz.prog (sBin .add T_int (.tmp 28) (.tmp 31) a1 t31) fun t32 =>
  LETJ (X := Value × Unit) (fun jv1 w2 =>
   readK Tryz.prog (sLoad T_int swaps11) w2 fun t55 =>
   pureK Tryz.prog (sBin .eql T_int (.tmp 55) (.const (.int .i64 0)) t55 (.int .i64 0)) fun t58 =>
   ifB t58
   (K (.tuple #[jv1.1, (.int .i64 1)]) w2)
   (pureK Tryz.prog (sBin .eql T_int (.tmp 55) (.const (.int .i64 12)) t55 (.int .i64 12)) fun t61 =>
    ifB t61
    (K (.tuple #[jv1.1, (.int .i64 2)]) w2)
    (K (.tuple #[jv1.1, (.int .i64 0)]) w2)))
  (fun J1 =>
   pureK Tryz.prog (sBin .geq T_int (.tmp 33) (.const (.int .i64 8)) t17 (.int .i64 8)) fun t34 =>
   ifB t34
   (LETJ (X := Value × Value × Value × Unit) (fun jv2 w3 =>
     upK Tryz.prog (sCall F_slices_medianCmpFunc_api_Value #[data0, jv2.1, jv2.2.1, jv2.2.2.1, swaps11, cmp3]) w3 fun t54 w4 =>
     J1 (t54, ()) w4)
    (fun J2 =>
     pureK Tryz.prog (sBin .geq T_int (.tmp 35) (.const (.int .i64 50)) t17 (.int .i64 50)) fun t36 =>
     ifB t36
     (upK Tryz.prog (sCall F_slices_medianAdjacentCmpFunc_api_Value #[data0, t22, swaps11, cmp3]) w1 fun t40 w5 =>
      upK Tryz.prog (sCall F_slices_medianAdjacentCmpFunc_api_Value #[data0, t27, swaps11, cmp3]) w5 fun t44 w6 =>
      upK Tryz.prog (sCall F_slices_medianAdjacentCmpFunc_api_Value #[data0, t32, swaps11, cmp3]) w6 fun t48 w7 =>
      J2 (t40, t44, t48, ()) w7)
     (J2 (t22, t27, t32, ()) w1)))
   (J1 (t27, ()) w1))
theorem slices_choosePivotCmpFunc_api_Value.pt_eq : slices_choosePivotCmpFunc_api_Value.pt = fun data0 a1 b2 cmp3 w K => FN Tryz.prog Tryz.f137 (bodyOf Tryz.f137) [] (.node none .leaf (.node none .leaf (.node none .leaf (.node none .leaf (.node none .leaf (.node none .leaf (.node (some [13]) (.node none .leaf (.node none (.node (some [12, 13, 14]) .leaf .leaf) .leaf)) .leaf))))))) [data0, a1, b2, cmp3] w K := by kernel_rfl
theorem slices_choosePivotCmpFunc_api_Value.call {data0 a1 b2 cmp3 : Value} {w : World} {K : Value → World → Prop} (h : slices_choosePivotCmpFunc_api_Value.pt data0 a1 b2 cmp3 w K) : Calls Tryz.prog F_slices_choosePivotCmpFunc_api_Value #[data0, a1, b2, cmp3] w (retK K) :=
  calls_FN (args := [data0, a1, b2, cmp3]) Tryz.func137 (by kernel_rfl) (by rw [slices_choosePivotCmpFunc_api_Value.pt_eq] at h; exact h)
theorem slices_choosePivotCmpFunc_api_Value.up {data0 a1 b2 cmp3 : Value} {w : World} {K : Value → World → Prop} (h : Calls Tryz.prog F_slices_choosePivotCmpFunc_api_Value #[data0, a1, b2, cmp3] w (retK K)) : upK Tryz.prog (sCall F_slices_choosePivotCmpFunc_api_Value #[data0, a1, b2, cmp3]) w K :=
  up_call (fn := Tryz.f137) Tryz.func137 (by kernel_rfl) (by kernel_rfl) h

/-- slices.reverseRangeCmpFunc[errata/api.Value] -/
def slices_reverseRangeCmpFunc_api_Value.pt (data0 a1 b2 cmp3 : Value) (w : World) (K : Value → World → Prop) : Prop :=
  pureK Tryz.prog (sBin .sub T_int (.tmp 11) (.const (.int .i64 1)) b2 (.int .i64 1)) fun t12 =>
  LOOP (X := Value × Value × Unit) (fun lv1 w1 next1 =>
   pureK Tryz.prog (sBin .lss T_int (.tmp 13) (.tmp 14) lv1.1 lv1.2.1) fun t15 =>
   ifB t15
   (pureK Tryz.prog (sIdxAddr T_s_api_Value data0 lv1.2.1) fun t22 =>
    readK Tryz.prog (sLoad T_api_Value t22) (tick w1) fun t23 =>
    pureK Tryz.prog (sIdxAddr T_s_api_Value data0 lv1.1) fun t26 =>
    readK Tryz.prog (sLoad T_api_Value t26) (tick w1) fun t27 =>
    pureK Tryz.prog (sIdxAddr T_s_api_Value data0 lv1.1) fun t28 =>
    upK Tryz.prog (sStore T_api_Value t28 t23) (tick w1) fun tu w2 =>
    pureK Tryz.prog (sIdxAddr T_s_api_Value data0 lv1.2.1) fun t29 =>
    upK Tryz.prog (sStore T_api_Value t29 t27) w2 fun tu_1 w3 =>
    pureK Tryz.prog (sBin .add T_int (.tmp 30) (.const (.int .i64 1)) lv1.1 (.int .i64 1)) fun t31 =>
    pureK Tryz.prog (sBin .sub T_int (.tmp 32) (.const (.int .i64 1)) lv1.2.1 (.int .i64 1)) fun t33 =>
    next1 (t31, t33, ()) w3)
   (K (.tuple #[]) w1))
  (a1, t12, ()) w
theorem slices_reverseRangeCmpFunc_api_Value.pt_eq : slices_reverseRangeCmpFunc_api_Value.pt = fun data0 a1 b2 cmp3 w K => FN Tryz.prog Tryz.f138 (bodyOf Tryz.f138) [] .leaf [data0, a1, b2, cmp3] w K := by kernel_rfl
theorem slices_reverseRangeCmpFunc_api_Value.call {data0 a1 b2 cmp3 : Value} {w : World} {K : Value → World → Prop} (h : slices_reverseRangeCmpFunc_api_Value.pt data0 a1 b2 cmp3 w K) : Calls Tryz.prog F_slices_reverseRangeCmpFunc_api_Value #[data0, a1, b2, cmp3] w (retK K) :=
  calls_FN (args := [data0, a1, b2, cmp3]) Tryz.func138 (by kernel_rfl) (by rw [slices_reverseRangeCmpFunc_api_Value.pt_eq] at h; exact h)
theorem slices_reverseRangeCmpFunc_api_Value.up {data0 a1 b2 cmp3 : Value} {w : World} {K : Value → World → Prop} (h : Calls Tryz.prog F_slices_reverseRangeCmpFunc_api_Value #[data0, a1, b2, cmp3] w (retK K)) : upK Tryz.prog (sCall F_slices_reverseRangeCmpFunc_api_Value #[data0, a1, b2, cmp3]) w K :=
  up_call (fn := Tryz.f138) Tryz.func138 (by kernel_rfl) (by kernel_rfl) h

/-- slices.partialInsertionSortCmpFunc[errata/api.Value] -/
def slices_partialInsertionSortCmpFunc_api_Value.pt (data0 a1 b2 cmp3 : Value) (w : World) (K : Value → World → Prop) : Prop :=
  pureK Tryz.prog (sBin .add T_int (.tmp 13) (.const (.int .i64 1)) a1 (.int .i64 1)) fun t14 =>
  LOOP (X := Value × Value × Unit) (fun lv1 w1 next1 =>
   pureK Tryz.prog (sBin .lss T_int (.tmp 15) (.const (.int .i64 5)) lv1.2.1 (.int .i64 5)) fun t16 =>
   ifB t16
   (LETJ (X := Value × Unit) (fun jv1 w2 =>
     pureK Tryz.prog (sBin .add T_int (.tmp 17) (.const (.int .i64 1)) lv1.2.1 (.int .i64 1)) fun t18 =>
     next1 (jv1.1, t18, ()) w2)
    (fun J1 =>
     LETJ (X := Value × Unit) (fun jv2 w3 =>
      pureK Tryz.prog (sBin .eql T_int (.tmp 39) (.tmp 40) jv2.1 b2) fun t41 =>
      ifB t41
      (K (.bool true) w3)
      (pureK Tryz.prog (sBin .sub T_int (.tmp 42) (.tmp 43) b2 a1) fun t44 =>
       pureK Tryz.prog (sBin .lss T_int (.tmp 44) (.const (.int .i64 50)) t44 (.int .i64 50)) fun t45 =>
       ifB t45
       (K (.bool false) w3)
       (pureK Tryz.prog (sBin .sub T_int (.tmp 49) (.const (.int .i64 1)) jv2.1 (.int .i64 1)) fun t50 =>
        pureK Tryz.prog (sBin .sub T_int (.tmp 52) (.const (.int .i64 1)) jv2.1 (.int .i64 1)) fun t53 =>
        pureK Tryz.prog (sIdxAddr T_s_api_Value data0 t53) fun t54 =>
        readK Tryz.prog (sLoad T_api_Value t54) (tick w3) fun t55 =>
        pureK Tryz.prog (sIdxAddr T_s_api_Value data0 jv2.1) fun t58 =>
        readK Tryz.prog (sLoad T_api_Value t58) (tick w3) fun t59 =>
        pureK Tryz.prog (sIdxAddr T_s_api_Value data0 jv2.1) fun t60 =>
        upK Tryz.prog (sStore T_api_Value t60 t55) (tick w3) fun tu w4 =>
        pureK Tryz.prog (sIdxAddr T_s_api_Value data0 t50) fun t61 =>
        upK Tryz.prog (sStore T_api_Value t61 t59) w4 fun tu_1 w5 =>
        LETJ (X := Unit) (fun jv3 w6 =>
         pureK Tryz.prog (sBin .sub T_int (.tmp 101) (.tmp 102) b2 jv2.1) fun t103 =>
         pureK Tryz.prog (sBin .geq T_int (.tmp 103) (.const (.int .i64 2)) t103 (.int .i64 2)) fun t104 =>
         ifB t104
         (pureK Tryz.prog (sBin .add T_int (.tmp 105) (.const (.int .i64 1)) jv2.1 (.int .i64 1)) fun t106 =>
          LOOP (X := Value × Unit) (fun lv7 w7 next7 =>
           pureK Tryz.prog (sBin .lss T_int (.tmp 107) (.tmp 108) lv7.1 b2) fun t109 =>
           ifB t109
           (pureK Tryz.prog (sIdxAddr T_s_api_Value data0 lv7.1) fun t115 =>
            readK Tryz.prog (sLoad T_api_Value t115) (tick w7) fun t116 =>
            pureK Tryz.prog (sBin .sub T_int (.tmp 118) (.const (.int .i64 1)) lv7.1 (.int .i64 1)) fun t119 =>
            pureK Tryz.prog (sIdxAddr T_s_api_Value data0 t119) fun t120 =>
            readK Tryz.prog (sLoad T_api_Value t120) (tick w7) fun t121 =>
            upK Tryz.prog (sCallV cmp3 #[t116, t121]) (tick w7) fun t122 w8 =>
            pureK Tryz.prog (sBin .lss T_int (.tmp 122) (.const (.int .i64 0)) t122 (.int .i64 0)) fun t123 =>
            pureK Tryz.prog (sUn .not t123) fun t124 =>
            ifB t124
            (J1 (jv2.1, ()) w8)
            (pureK Tryz.prog (sBin .sub T_int (.tmp 128) (.const (.int .i64 1)) lv7.1 (.int .i64 1)) fun t129 =>
             pureK Tryz.prog (sBin .sub T_int (.tmp 131) (.const (.int .i64 1)) lv7.1 (.int .i64 1)) fun t132 =>
             pureK Tryz.prog (sIdxAddr T_s_api_Value data0 t132) fun t133 =>
             readK Tryz.prog (sLoad T_api_Value t133) (tick w8) fun t134 =>
             pureK Tryz.prog (sIdxAddr T_s_api_Value data0 lv7.1) fun t137 =>
             readK Tryz.prog (sLoad T_api_Value t137) (tick w8) fun t138 =>
             pureK Tryz.prog (sIdxAddr T_s_api_Value data0 lv7.1) fun t139 =>
             upK Tryz.prog (sStore T_api_Value t139 t134) (tick w8) fun tu_2 w9 =>
             pureK Tryz.prog (sIdxAddr T_s_api_Value data0 t129) fun t140 =>
             upK Tryz.prog (sStore T_api_Value t140 t138) w9 fun tu_3 w10 =>
             pureK Tryz.prog (sBin .add T_int (.tmp 110) (.const (.int .i64 1)) lv7.1 (.int .i64 1)) fun t111 =>
             next7 (t111, ()) w10))
           (J1 (jv2.1, ()) w7))
          (t106, ()) w6)
         (J1 (jv2.1, ()) w6))
        (fun J3 =>
         pureK Tryz.prog (sBin .sub T_int (.tmp 62) (.tmp 63) jv2.1 a1) fun t64 =>
         pureK Tryz.prog (sBin .geq T_int (.tmp 64) (.const (.int .i64 2)) t64 (.int .i64 2)) fun t65 =>
         ifB t65
         (pureK Tryz.prog (sBin .sub T_int (.tmp 66) (.const (.int .i64 1)) jv2.1 (.int .i64 1)) fun t67 =>
          LOOP (X := Value × Unit) (fun lv11 w11 next11 =>
           pureK Tryz.prog (sBin .geq T_int (.tmp 68) (.const (.int .i64 1)) lv11.1 (.int .i64 1)) fun t69 =>
           ifB t69
           (pureK Tryz.prog (sIdxAddr T_s_api_Value data0 lv11.1) fun t75 =>
            readK Tryz.prog (sLoad T_api_Value t75) (tick w11) fun t76 =>
            pureK Tryz.prog (sBin .sub T_int (.tmp 78) (.const (.int .i64 1)) lv11.1 (.int .i64 1)) fun t79 =>
            pureK Tryz.prog (sIdxAddr T_s_api_Value data0 t79) fun t80 =>
            readK Tryz.prog (sLoad T_api_Value t80) (tick w11) fun t81 =>
            upK Tryz.prog (sCallV cmp3 #[t76, t81]) (tick w11) fun t82 w12 =>
            pureK Tryz.prog (sBin .lss T_int (.tmp 82) (.const (.int .i64 0)) t82 (.int .i64 0)) fun t83 =>
            pureK Tryz.prog (sUn .not t83) fun t84 =>
            ifB t84
            (J3 (()) w12)
            (pureK Tryz.prog (sBin .sub T_int (.tmp 88) (.const (.int .i64 1)) lv11.1 (.int .i64 1)) fun t89 =>
             pureK Tryz.prog (sBin .sub T_int (.tmp 91) (.const (.int .i64 1)) lv11.1 (.int .i64 1)) fun t92 =>
             pureK Tryz.prog (sIdxAddr T_s_api_Value data0 t92) fun t93 =>
             readK Tryz.prog (sLoad T_api_Value t93) (tick w12) fun t94 =>
             pureK Tryz.prog (sIdxAddr T_s_api_Value data0 lv11.1) fun t97 =>
             readK Tryz.prog (sLoad T_api_Value t97) (tick w12) fun t98 =>
             pureK Tryz.prog (sIdxAddr T_s_api_Value data0 lv11.1) fun t99 =>
             upK Tryz.prog (sStore T_api_Value t99 t94) (tick w12) fun tu_4 w13 =>
             pureK Tryz.prog (sIdxAddr T_s_api_Value data0 t89) fun t100 =>
             upK Tryz.prog (sStore T_api_Value t100 t98) w13 fun tu_5 w14 =>
             pureK Tryz.prog (sBin .sub T_int (.tmp 70) (.const (.int .i64 1)) lv11.1 (.int .i64 1)) fun t71 =>
             next11 (t71, ()) w14))
           (J3 (()) w11))
          (t67, ()) w5)
         (J3 (()) w5)))))
     (fun J2 =>
      LOOP (X := Value × Unit) (fun lv15 w15 next15 =>
       pureK Tryz.prog (sBin .lss T_int (.tmp 19) (.tmp 20) lv15.1 b2) fun t21 =>
       ifB t21
       (pureK Tryz.prog (sIdxAddr T_s_api_Value data0 lv15.1) fun t26 =>
        readK Tryz.prog (sLoad T_api_Value t26) (tick w15) fun t27 =>
        pureK Tryz.prog (sBin .sub T_int (.tmp 29) (.const (.int .i64 1)) lv15.1 (.int .i64 1)) fun t30 =>
        pureK Tryz.prog (sIdxAddr T_s_api_Value data0 t30) fun t31 =>
        readK Tryz.prog (sLoad T_api_Value t31) (tick w15) fun t32 =>
        upK Tryz.prog (sCallV cmp3 #[t27, t32]) (tick w15) fun t33 w16 =>
        pureK Tryz.prog (sBin .lss T_int (.tmp 33) (.const (.int .i64 0)) t33 (.int .i64 0)) fun t34 =>
        pureK Tryz.prog (sUn .not t34) fun t35 =>
        ifB t35
        (pureK Tryz.prog (sBin .add T_int (.tmp 37) (.const (.int .i64 1)) lv15.1 (.int .i64 1)) fun t38 =>
         next15 (t38, ()) w16)
        (J2 (lv15.1, ()) w16))
       (J2 (lv15.1, ()) (tick w15)))
      (lv1.1, ()) w1)))
   (K (.bool false) w1))
  (t14, (.int .i64 0), ()) w
theorem slices_partialInsertionSortCmpFunc_api_Value.pt_eq : slices_partialInsertionSortCmpFunc_api_Value.pt = fun data0 a1 b2 cmp3 w K => FN Tryz.prog Tryz.f139 (bodyOf Tryz.f139) [8] (.node none .leaf (.node none .leaf (.node none (.node none .leaf (.node none (.node none (.node none .leaf (.node (some [9]) (.node none (.node (some [9]) .leaf (.node none .leaf (.node none .leaf (.node none .leaf (.node (some []) .leaf .leaf))))) .leaf) .leaf)) .leaf) .leaf)) .leaf))) [data0, a1, b2, cmp3] w K := by kernel_rfl
theorem slices_partialInsertionSortCmpFunc_api_Value.call {data0 a1 b2 cmp3 : Value} {w : World} {K : Value → World → Prop} (h : slices_partialInsertionSortCmpFunc_api_Value.pt data0 a1 b2 cmp3 w K) : Calls Tryz.prog F_slices_partialInsertionSortCmpFunc_api_Value #[data0, a1, b2, cmp3] w (retK K) :=
  calls_FN (args := [data0, a1, b2, cmp3]) Tryz.func139 (by kernel_rfl) (by rw [slices_partialInsertionSortCmpFunc_api_Value.pt_eq] at h; exact h)
theorem slices_partialInsertionSortCmpFunc_api_Value.up {data0 a1 b2 cmp3 : Value} {w : World} {K : Value → World → Prop} (h : Calls Tryz.prog F_slices_partialInsertionSortCmpFunc_api_Value #[data0, a1, b2, cmp3] w (retK K)) : upK Tryz.prog (sCall F_slices_partialInsertionSortCmpFunc_api_Value #[data0, a1, b2, cmp3]) w K :=
  up_call (fn := Tryz.f139) Tryz.func139 (by kernel_rfl) (by kernel_rfl) h

/-- slices.partitionEqualCmpFunc[errata/api.Value] -/
def slices_partitionEqualCmpFunc_api_Value.pt (data0 a1 b2 pivot3 cmp4 : Value) (w : World) (K : Value → World → Prop) : Prop :=
  pureK Tryz.prog (sIdxAddr T_s_api_Value data0 pivot3) fun t19 =>
  readK Tryz.prog (sLoad T_api_Value t19) (tick w) fun t20 =>
  pureK Tryz.prog (sIdxAddr T_s_api_Value data0 a1) fun t23 =>
  readK Tryz.prog (sLoad T_api_Value t23) (tick w) fun t24 =>
  pureK Tryz.prog (sIdxAddr T_s_api_Value data0 a1) fun t25 =>
  upK Tryz.prog (sStore T_api_Value t25 t20) (tick w) fun tu w1 =>
  pureK Tryz.prog (sIdxAddr T_s_api_Value data0 pivot3) fun t26 =>
  upK Tryz.prog (sStore T_api_Value t26 t24) w1 fun tu_1 w2 =>
  pureK Tryz.prog (sBin .add T_int (.tmp 27) (.const (.int .i64 1)) a1 (.int .i64 1)) fun t28 =>
  pureK Tryz.prog (sBin .sub T_int (.tmp 29) (.const (.int .i64 1)) b2 (.int .i64 1)) fun t30 =>
  LETJ (X := Value × Unit) (fun jv1 w3 =>
   K jv1.1 w3)
  (fun J1 =>
   LOOP (X := Value × Value × Unit) (fun lv4 w4 next4 =>
    LETJ (X := Value × Unit) (fun jv2 w5 =>
     LETJ (X := Value × Unit) (fun jv3 w6 =>
      pureK Tryz.prog (sBin .gtr T_int (.tmp 68) (.tmp 69) jv2.1 jv3.1) fun t70 =>
      ifB t70
      (J1 (jv2.1, ()) w6)
      (pureK Tryz.prog (sIdxAddr T_s_api_Value data0 jv3.1) fun t77 =>
       readK Tryz.prog (sLoad T_api_Value t77) (tick w6) fun t78 =>
       pureK Tryz.prog (sIdxAddr T_s_api_Value data0 jv2.1) fun t81 =>
       readK Tryz.prog (sLoad T_api_Value t81) (tick w6) fun t82 =>
       pureK Tryz.prog (sIdxAddr T_s_api_Value data0 jv2.1) fun t83 =>
       upK Tryz.prog (sStore T_api_Value t83 t78) (tick w6) fun tu_2 w7 =>
       pureK Tryz.prog (sIdxAddr T_s_api_Value data0 jv3.1) fun t84 =>
       upK Tryz.prog (sStore T_api_Value t84 t82) w7 fun tu_3 w8 =>
       pureK Tryz.prog (sBin .add T_int (.tmp 85) (.const (.int .i64 1)) jv2.1 (.int .i64 1)) fun t86 =>
       pureK Tryz.prog (sBin .sub T_int (.tmp 87) (.const (.int .i64 1)) jv3.1 (.int .i64 1)) fun t88 =>
       next4 (t86, t88, ()) w8))
     (fun J3 =>
      LOOP (X := Value × Unit) (fun lv9 w9 next9 =>
       pureK Tryz.prog (sBin .leq T_int (.tmp 50) (.tmp 51) jv2.1 lv9.1) fun t52 =>
       ifB t52
       (pureK Tryz.prog (sIdxAddr T_s_api_Value data0 a1) fun t57 =>
        readK Tryz.prog (sLoad T_api_Value t57) (tick w9) fun t58 =>
        pureK Tryz.prog (sIdxAddr T_s_api_Value data0 lv9.1) fun t61 =>
        readK Tryz.prog (sLoad T_api_Value t61) (tick w9) fun t62 =>
        upK Tryz.prog (sCallV cmp4 #[t58, t62]) (tick w9) fun t63 w10 =>
        pureK Tryz.prog (sBin .lss T_int (.tmp 63) (.const (.int .i64 0)) t63 (.int .i64 0)) fun t64 =>
        ifB t64
        (pureK Tryz.prog (sBin .sub T_int (.tmp 66) (.const (.int .i64 1)) lv9.1 (.int .i64 1)) fun t67 =>
         next9 (t67, ()) w10)
        (J3 (lv9.1, ()) w10))
       (J3 (lv9.1, ()) (tick w9)))
      (lv4.2.1, ()) w5))
    (fun J2 =>
     LOOP (X := Value × Unit) (fun lv11 w11 next11 =>
      pureK Tryz.prog (sBin .leq T_int (.tmp 31) (.tmp 32) lv11.1 lv4.2.1) fun t33 =>
      ifB t33
      (pureK Tryz.prog (sIdxAddr T_s_api_Value data0 a1) fun t38 =>
       readK Tryz.prog (sLoad T_api_Value t38) (tick w11) fun t39 =>
       pureK Tryz.prog (sIdxAddr T_s_api_Value data0 lv11.1) fun t42 =>
       readK Tryz.prog (sLoad T_api_Value t42) (tick w11) fun t43 =>
       upK Tryz.prog (sCallV cmp4 #[t39, t43]) (tick w11) fun t44 w12 =>
       pureK Tryz.prog (sBin .lss T_int (.tmp 44) (.const (.int .i64 0)) t44 (.int .i64 0)) fun t45 =>
       pureK Tryz.prog (sUn .not t45) fun t46 =>
       ifB t46
       (pureK Tryz.prog (sBin .add T_int (.tmp 48) (.const (.int .i64 1)) lv11.1 (.int .i64 1)) fun t49 =>
        next11 (t49, ()) w12)
       (J2 (lv11.1, ()) w12))
      (J2 (lv11.1, ()) (tick w11)))
     (lv4.1, ()) w4))
   (t28, t30, ()) w2)
theorem slices_partitionEqualCmpFunc_api_Value.pt_eq : slices_partitionEqualCmpFunc_api_Value.pt = fun data0 a1 b2 pivot3 cmp4 w K => FN Tryz.prog Tryz.f140 (bodyOf Tryz.f140) [] (.node none .leaf (.node none .leaf (.node none .leaf (.node (some [11]) (.node none (.node none (.node none (.node (some [11]) .leaf (.node (some [12]) .leaf .leaf)) .leaf) .leaf) .leaf) .leaf)))) [data0, a1, b2, pivot3, cmp4] w K := by kernel_rfl
theorem slices_partitionEqualCmpFunc_api_Value.call {data0 a1 b2 pivot3 cmp4 : Value} {w : World} {K : Value → World → Prop} (h : slices_partitionEqualCmpFunc_api_Value.pt data0 a1 b2 pivot3 cmp4 w K) : Calls Tryz.prog F_slices_partitionEqualCmpFunc_api_Value #[data0, a1, b2, pivot3, cmp4] w (retK K) :=
  calls_FN (args := [data0, a1, b2, pivot3, cmp4]) Tryz.func140 (by kernel_rfl) (by rw [slices_partitionEqualCmpFunc_api_Value.pt_eq] at h; exact h)
theorem slices_partitionEqualCmpFunc_api_Value.up {data0 a1 b2 pivot3 cmp4 : Value} {w : World} {K : Value → World → Prop} (h : Calls Tryz.prog F_slices_partitionEqualCmpFunc_api_Value #[data0, a1, b2, pivot3, cmp4] w (retK K)) : upK Tryz.prog (sCall F_slices_partitionEqualCmpFunc_api_Value #[data0, a1, b2, pivot3, cmp4]) w K :=
  up_call (fn := Tryz.f140) Tryz.func140 (by kernel_rfl) (by kernel_rfl) h

/-- slices.partitionCmpFunc[errata/api.Value] -/
def slices_partitionCmpFunc_api_Value.pt (data0 a1 b2 pivot3 cmp4 : Value) (w : World) (K : Value → World → Prop) : Prop :=
  pureK Tryz.prog (sIdxAddr T_s_api_Value data0 pivot3) fun t20 =>
  readK Tryz.prog (sLoad T_api_Value t20) (tick w) fun t21 =>
  pureK Tryz.prog (sIdxAddr T_s_api_Value data0 a1) fun t24 =>
  readK Tryz.prog (sLoad T_api_Value t24) (tick w) fun t25 =>
  pureK Tryz.prog (sIdxAddr T_s_api_Value data0 a1) fun t26 =>
  upK Tryz.prog (sStore T_api_Value t26 t21) (tick w) fun tu w1 =>
  pureK Tryz.prog (sIdxAddr T_s_api_Value data0 pivot3) fun t27 =>
  upK Tryz.prog (sStore T_api_Value t27 t25) w1 fun tu_1 w2 =>
  pureK Tryz.prog (sBin .add T_int (.tmp 28) (.const (.int .i64 1)) a1 (.int .i64 1)) fun t29 =>
  pureK Tryz.prog (sBin .sub T_int (.tmp 30) (.const (.int .i64 1)) b2 (.int .i64 1)) fun t31 =>
  LETJ (X := Value × Unit) (fun jv1 w3 =>
   LETJ (X := Value × Unit) (fun jv2 w4 =>
    pureK Tryz.prog (sBin .gtr T_int (.tmp 69) (.tmp 70) jv1.1 jv2.1) fun t71 =>
    ifB t71
    (pureK Tryz.prog (sIdxAddr T_s_api_Value data0 a1) fun t78 =>
     readK Tryz.prog (sLoad T_api_Value t78) (tick w4) fun t79 =>
     pureK Tryz.prog (sIdxAddr T_s_api_Value data0 jv2.1) fun t82 =>
     readK Tryz.prog (sLoad T_api_Value t82) (tick w4) fun t83 =>
     pureK Tryz.prog (sIdxAddr T_s_api_Value data0 jv2.1) fun t84 =>
     upK Tryz.prog (sStore T_api_Value t84 t79) (tick w4) fun tu_2 w5 =>
     pureK Tryz.prog (sIdxAddr T_s_api_Value data0 a1) fun t85 =>
     upK Tryz.prog (sStore T_api_Value t85 t83) w5 fun tu_3 w6 =>
     K (.tuple #[jv2.1, (.bool true)]) w6)
    (pureK Tryz.prog (sIdxAddr T_s_api_Value data0 jv2.1) fun t93 =>
     readK Tryz.prog (sLoad T_api_Value t93) (tick w4) fun t94 =>
     pureK Tryz.prog (sIdxAddr T_s_api_Value data0 jv1.1) fun t97 =>
     readK Tryz.prog (sLoad T_api_Value t97) (tick w4) fun t98 =>
     pureK Tryz.prog (sIdxAddr T_s_api_Value data0 jv1.1) fun t99 =>
     upK Tryz.prog (sStore T_api_Value t99 t94) (tick w4) fun tu_4 w7 =>
     pureK Tryz.prog (sIdxAddr T_s_api_Value data0 jv2.1) fun t100 =>
     upK Tryz.prog (sStore T_api_Value t100 t98) w7 fun tu_5 w8 =>
     pureK Tryz.prog (sBin .add T_int (.tmp 101) (.const (.int .i64 1)) jv1.1 (.int .i64 1)) fun t102 =>
     pureK Tryz.prog (sBin .sub T_int (.tmp 103) (.const (.int .i64 1)) jv2.1 (.int .i64 1)) fun t104 =>
     LETJ (X := Value × Unit) (fun jv3 w9 =>
      pureK Tryz.prog (sIdxAddr T_s_api_Value data0 a1) fun t169 =>
      readK Tryz.prog (sLoad T_api_Value t169) (tick w9) fun t170 =>
      pureK Tryz.prog (sIdxAddr T_s_api_Value data0 jv3.1) fun t173 =>
      readK Tryz.prog (sLoad T_api_Value t173) (tick w9) fun t174 =>
      pureK Tryz.prog (sIdxAddr T_s_api_Value data0 jv3.1) fun t175 =>
      upK Tryz.prog (sStore T_api_Value t175 t170) (tick w9) fun tu_6 w10 =>
      pureK Tryz.prog (sIdxAddr T_s_api_Value data0 a1) fun t176 =>
      upK Tryz.prog (sStore T_api_Value t176 t174) w10 fun tu_7 w11 =>
      K (.tuple #[jv3.1, (.bool false)]) w11)
     (fun J3 =>
      LOOP (X := Value × Value × Unit) (fun lv12 w12 next12 =>
       LETJ (X := Value × Unit) (fun jv4 w13 =>
        LETJ (X := Value × Unit) (fun jv5 w14 =>
         pureK Tryz.prog (sBin .gtr T_int (.tmp 142) (.tmp 143) jv4.1 jv5.1) fun t144 =>
         ifB t144
         (J3 (jv5.1, ()) w14)
         (pureK Tryz.prog (sIdxAddr T_s_api_Value data0 jv5.1) fun t151 =>
          readK Tryz.prog (sLoad T_api_Value t151) (tick w14) fun t152 =>
          pureK Tryz.prog (sIdxAddr T_s_api_Value data0 jv4.1) fun t155 =>
          readK Tryz.prog (sLoad T_api_Value t155) (tick w14) fun t156 =>
          pureK Tryz.prog (sIdxAddr T_s_api_Value data0 jv4.1) fun t157 =>
          upK Tryz.prog (sStore T_api_Value t157 t152) (tick w14) fun tu_8 w15 =>
          pureK Tryz.prog (sIdxAddr T_s_api_Value data0 jv5.1) fun t158 =>
          upK Tryz.prog (sStore T_api_Value t158 t156) w15 fun tu_9 w16 =>
          pureK Tryz.prog (sBin .add T_int (.tmp 159) (.const (.int .i64 1)) jv4.1 (.int .i64 1)) fun t160 =>
          pureK Tryz.prog (sBin .sub T_int (.tmp 161) (.const (.int .i64 1)) jv5.1 (.int .i64 1)) fun t162 =>
          next12 (t160, t162, ()) w16))
        (fun J5 =>
         LOOP (X := Value × Unit) (fun lv17 w17 next17 =>
          pureK Tryz.prog (sBin .leq T_int (.tmp 123) (.tmp 124) jv4.1 lv17.1) fun t125 =>
          ifB t125
          (pureK Tryz.prog (sIdxAddr T_s_api_Value data0 lv17.1) fun t130 =>
           readK Tryz.prog (sLoad T_api_Value t130) (tick w17) fun t131 =>
           pureK Tryz.prog (sIdxAddr T_s_api_Value data0 a1) fun t134 =>
           readK Tryz.prog (sLoad T_api_Value t134) (tick w17) fun t135 =>
           upK Tryz.prog (sCallV cmp4 #[t131, t135]) (tick w17) fun t136 w18 =>
           pureK Tryz.prog (sBin .lss T_int (.tmp 136) (.const (.int .i64 0)) t136 (.int .i64 0)) fun t137 =>
           pureK Tryz.prog (sUn .not t137) fun t138 =>
           ifB t138
           (pureK Tryz.prog (sBin .sub T_int (.tmp 140) (.const (.int .i64 1)) lv17.1 (.int .i64 1)) fun t141 =>
            next17 (t141, ()) w18)
           (J5 (lv17.1, ()) w18))
          (J5 (lv17.1, ()) (tick w17)))
         (lv12.2.1, ()) w13))
       (fun J4 =>
        LOOP (X := Value × Unit) (fun lv19 w19 next19 =>
         pureK Tryz.prog (sBin .leq T_int (.tmp 105) (.tmp 106) lv19.1 lv12.2.1) fun t107 =>
         ifB t107
         (pureK Tryz.prog (sIdxAddr T_s_api_Value data0 lv19.1) fun t112 =>
          readK Tryz.prog (sLoad T_api_Value t112) (tick w19) fun t113 =>
          pureK Tryz.prog (sIdxAddr T_s_api_Value data0 a1) fun t116 =>
          readK Tryz.prog (sLoad T_api_Value t116) (tick w19) fun t117 =>
          upK Tryz.prog (sCallV cmp4 #[t113, t117]) (tick w19) fun t118 w20 =>
          pureK Tryz.prog (sBin .lss T_int (.tmp 118) (.const (.int .i64 0)) t118 (.int .i64 0)) fun t119 =>
          ifB t119
          (pureK Tryz.prog (sBin .add T_int (.tmp 121) (.const (.int .i64 1)) lv19.1 (.int .i64 1)) fun t122 =>
           next19 (t122, ()) w20)
          (J4 (lv19.1, ()) w20))
         (J4 (lv19.1, ()) (tick w19)))
        (lv12.1, ()) w12))
      (t102, t104, ()) w8)))
   (fun J2 =>
    LOOP (X := Value × Unit) (fun lv21 w21 next21 =>
     pureK Tryz.prog (sBin .leq T_int (.tmp 50) (.tmp 51) jv1.1 lv21.1) fun t52 =>
     ifB t52
     (pureK Tryz.prog (sIdxAddr T_s_api_Value data0 lv21.1) fun t57 =>
      readK Tryz.prog (sLoad T_api_Value t57) (tick w21) fun t58 =>
      pureK Tryz.prog (sIdxAddr T_s_api_Value data0 a1) fun t61 =>
      readK Tryz.prog (sLoad T_api_Value t61) (tick w21) fun t62 =>
      upK Tryz.prog (sCallV cmp4 #[t58, t62]) (tick w21) fun t63 w22 =>
      pureK Tryz.prog (sBin .lss T_int (.tmp 63) (.const (.int .i64 0)) t63 (.int .i64 0)) fun t64 =>
      pureK Tryz.prog (sUn .not t64) fun t65 =>
      ifB t65
      (pureK Tryz.prog (sBin .sub T_int (.tmp 67) (.const (.int .i64 1)) lv21.1 (.int .i64 1)) fun t68 =>
       next21 (t68, ()) w22)
      (J2 (lv21.1, ()) w22))
     (J2 (lv21.1, ()) (tick w21)))
    (t31, ()) w3))
  (fun J1 =>
   LOOP (X := Value × Unit) (fun lv23 w23 next23 =>
    pureK Tryz.prog (sBin .leq T_int (.tmp 32) (.tmp 33) lv23.1 t31) fun t34 =>
    ifB t34
    (pureK Tryz.prog (sIdxAddr T_s_api_Value data0 lv23.1) fun t39 =>
     readK Tryz.prog (sLoad T_api_Value t39) (tick w23) fun t40 =>
     pureK Tryz.prog (sIdxAddr T_s_api_Value data0 a1) fun t43 =>
     readK Tryz.prog (sLoad T_api_Value t43) (tick w23) fun t44 =>
     upK Tryz.prog (sCallV cmp4 #[t40, t44]) (tick w23) fun t45 w24 =>
     pureK Tryz.prog (sBin .lss T_int (.tmp 45) (.const (.int .i64 0)) t45 (.int .i64 0)) fun t46 =>
     ifB t46
     (pureK Tryz.prog (sBin .add T_int (.tmp 48) (.const (.int .i64 1)) lv23.1 (.int .i64 1)) fun t49 =>
      next23 (t49, ()) w24)
     (J1 (lv23.1, ()) w24))
    (J1 (lv23.1, ()) (tick w23)))
   (t29, ()) w2)
theorem slices_partitionCmpFunc_api_Value.pt_eq : slices_partitionCmpFunc_api_Value.pt = fun data0 a1 b2 pivot3 cmp4 w K => FN Tryz.prog Tryz.f141 (bodyOf Tryz.f141) [] (.node none .leaf (.node none .leaf (.node none .leaf (.node (some [12]) .leaf (.node (some [13]) .leaf (.node none .leaf (.node none .leaf (.node none .leaf (.node none .leaf (.node (some [13]) (.node none (.node none (.node none (.node (some [12]) .leaf (.node (some [13]) .leaf .leaf)) .leaf) .leaf) .leaf) .leaf)))))))))) [data0, a1, b2, pivot3, cmp4] w K := by kernel_rfl
theorem slices_partitionCmpFunc_api_Value.call {data0 a1 b2 pivot3 cmp4 : Value} {w : World} {K : Value → World → Prop} (h : slices_partitionCmpFunc_api_Value.pt data0 a1 b2 pivot3 cmp4 w K) : Calls Tryz.prog F_slices_partitionCmpFunc_api_Value #[data0, a1, b2, pivot3, cmp4] w (retK K) :=
  calls_FN (args := [data0, a1, b2, pivot3, cmp4]) Tryz.func141 (by kernel_rfl) (by rw [slices_partitionCmpFunc_api_Value.pt_eq] at h; exact h)
theorem slices_partitionCmpFunc_api_Value.up {data0 a1 b2 pivot3 cmp4 : Value} {w : World} {K : Value → World → Prop} (h : Calls Tryz.prog F_slices_partitionCmpFunc_api_Value #[data0, a1, b2, pivot3, cmp4] w (retK K)) : upK Tryz.prog (sCall F_slices_partitionCmpFunc_api_Value #[data0, a1, b2, pivot3, cmp4]) w K :=
  up_call (fn := Tryz.f141) Tryz.func141 (by kernel_rfl) (by kernel_rfl) h

/-- math/bits.Len32 -/
theorem math_bits_Len32.up {p0 : Value} {w : World} {K : Value → World → Prop} (h : Calls Tryz.prog F_math_bits_Len32 #[p0] w (retK K)) : upK Tryz.prog (sCall F_math_bits_Len32 #[p0]) w K :=
  up_call (fn := Tryz.f142) Tryz.func142 (by kernel_rfl) (by kernel_rfl) h

/-- math/bits.Len64 -/
theorem math_bits_Len64.up {p0 : Value} {w : World} {K : Value → World → Prop} (h : Calls Tryz.prog F_math_bits_Len64 #[p0] w (retK K)) : upK Tryz.prog (sCall F_math_bits_Len64 #[p0]) w K :=
  up_call (fn := Tryz.f143) Tryz.func143 (by kernel_rfl) (by kernel_rfl) h

/-- internal/strconv.ParseUint -/
theorem internal_strconv_ParseUint.up {p0 p1 p2 : Value} {w : World} {K : Value → World → Prop} (h : Calls Tryz.prog F_internal_strconv_ParseUint #[p0, p1, p2] w (retK K)) : upK Tryz.prog (sCall F_internal_strconv_ParseUint #[p0, p1, p2]) w K :=
  up_call (fn := Tryz.f145) Tryz.func145 (by kernel_rfl) (by kernel_rfl) h

/-- internal/stringslite.Clone -/
theorem internal_stringslite_Clone.up {p0 : Value} {w : World} {K : Value → World → Prop} (h : Calls Tryz.prog F_internal_stringslite_Clone #[p0] w (retK K)) : upK Tryz.prog (sCall F_internal_stringslite_Clone #[p0]) w K :=
  up_call (fn := Tryz.f146) Tryz.func146 (by kernel_rfl) (by kernel_rfl) h

/-- errors.New -/
theorem errors_New.up {p0 : Value} {w : World} {K : Value → World → Prop} (h : Calls Tryz.prog F_errors_New #[p0] w (retK K)) : upK Tryz.prog (sCall F_errors_New #[p0]) w K :=
  up_call (fn := Tryz.f147) Tryz.func147 (by kernel_rfl) (by kernel_rfl) h

/-- internal/strconv.log10Pow2 -/
theorem internal_strconv_log10Pow2.up {p0 : Value} {w : World} {K : Value → World → Prop} (h : Calls Tryz.prog F_internal_strconv_log10Pow2 #[p0] w (retK K)) : upK Tryz.prog (sCall F_internal_strconv_log10Pow2 #[p0]) w K :=
  up_call (fn := Tryz.f148) Tryz.func148 (by kernel_rfl) (by kernel_rfl) h

/-- internal/strconv.bool2[int] -/
theorem internal_strconv_bool2_int.up {p0 : Value} {w : World} {K : Value → World → Prop} (h : Calls Tryz.prog F_internal_strconv_bool2_int #[p0] w (retK K)) : upK Tryz.prog (sCall F_internal_strconv_bool2_int #[p0]) w K :=
  up_call (fn := Tryz.f149) Tryz.func149 (by kernel_rfl) (by kernel_rfl) h

/-- internal/strconv.isPowerOfTwo -/
theorem internal_strconv_isPowerOfTwo.up {p0 : Value} {w : World} {K : Value → World → Prop} (h : Calls Tryz.prog F_internal_strconv_isPowerOfTwo #[p0] w (retK K)) : upK Tryz.prog (sCall F_internal_strconv_isPowerOfTwo #[p0]) w K :=
  up_call (fn := Tryz.f150) Tryz.func150 (by kernel_rfl) (by kernel_rfl) h

/-- math/bits.TrailingZeros -/
theorem math_bits_TrailingZeros.up {p0 : Value} {w : World} {K : Value → World → Prop} (h : Calls Tryz.prog F_math_bits_TrailingZeros #[p0] w (retK K)) : upK Tryz.prog (sCall F_math_bits_TrailingZeros #[p0]) w K :=
  up_call (fn := Tryz.f151) Tryz.func151 (by kernel_rfl) (by kernel_rfl) h

/-- slices.siftDownCmpFunc[errata/api.Value] -/
def slices_siftDownCmpFunc_api_Value.pt (data0 lo1 hi2 first3 cmp4 : Value) (w : World) (K : Value → World → Prop) : Prop :=
  LOOP (X := Value × Unit) (fun lv1 w1 next1 =>
   pureK Tryz.prog (sBin .mul T_int (.const (.int .i64 2)) (.tmp 13) (.int .i64 2) lv1.1) fun t14 =>
   pureK Tryz.prog (sBin .add T_int (.tmp 14) (.const (.int .i64 1)) t14 (.int .i64 1)) fun t15 =>
   pureK Tryz.prog (sBin .geq T_int (.tmp 16) (.tmp 17) t15 hi2) fun t18 =>
   ifB t18
   (K (.tuple #[]) w1)
   (LETJ (X := Value × Unit) (fun jv1 w2 =>
     pureK Tryz.prog (sBin .add T_int (.tmp 45) (.tmp 46) first3 lv1.1) fun t47 =>
     pureK Tryz.prog (sIdxAddr T_s_api_Value data0 t47) fun t48 =>
     readK Tryz.prog (sLoad T_api_Value t48) (tick w2) fun t49 =>
     pureK Tryz.prog (sBin .add T_int (.tmp 51) (.tmp 52) first3 jv1.1) fun t53 =>
     pureK Tryz.prog (sIdxAddr T_s_api_Value data0 t53) fun t54 =>
     readK Tryz.prog (sLoad T_api_Value t54) (tick w2) fun t55 =>
     upK Tryz.prog (sCallV cmp4 #[t49, t55]) (tick w2) fun t56 w3 =>
     pureK Tryz.prog (sBin .lss T_int (.tmp 56) (.const (.int .i64 0)) t56 (.int .i64 0)) fun t57 =>
     pureK Tryz.prog (sUn .not t57) fun t58 =>
     ifB t58
     (K (.tuple #[]) w3)
     (pureK Tryz.prog (sBin .add T_int (.tmp 60) (.tmp 61) first3 lv1.1) fun t62 =>
      pureK Tryz.prog (sBin .add T_int (.tmp 64) (.tmp 65) first3 jv1.1) fun t66 =>
      pureK Tryz.prog (sBin .add T_int (.tmp 68) (.tmp 69) first3 jv1.1) fun t70 =>
      pureK Tryz.prog (sIdxAddr T_s_api_Value data0 t70) fun t71 =>
      readK Tryz.prog (sLoad T_api_Value t71) (tick w3) fun t72 =>
      pureK Tryz.prog (sBin .add T_int (.tmp 74) (.tmp 75) first3 lv1.1) fun t76 =>
      pureK Tryz.prog (sIdxAddr T_s_api_Value data0 t76) fun t77 =>
      readK Tryz.prog (sLoad T_api_Value t77) (tick w3) fun t78 =>
      pureK Tryz.prog (sIdxAddr T_s_api_Value data0 t62) fun t79 =>
      upK Tryz.prog (sStore T_api_Value t79 t72) (tick w3) fun tu w4 =>
      pureK Tryz.prog (sIdxAddr T_s_api_Value data0 t66) fun t80 =>
      upK Tryz.prog (sStore T_api_Value t80 t78) w4 fun tu_1 w5 =>
      next1 (jv1.1, ()) w5))
    (fun J1 =>
     pureK Tryz.prog (sBin .add T_int (.tmp 19) (.const (.int .i64 1)) t15 (.int .i64 1)) fun t20 =>
     pureK Tryz.prog (sBin .lss T_int (.tmp 20) (.tmp 21) t20 hi2) fun t22 =>
     ifB t22
     (pureK Tryz.prog (sBin .add T_int (.tmp 26) (.tmp 27) first3 t15) fun t28 =>
      pureK Tryz.prog (sIdxAddr T_s_api_Value data0 t28) fun t29 =>
      readK Tryz.prog (sLoad T_api_Value t29) (tick w1) fun t30 =>
      pureK Tryz.prog (sBin .add T_int (.tmp 32) (.tmp 33) first3 t15) fun t34 =>
      pureK Tryz.prog (sBin .add T_int (.tmp 34) (.const (.int .i64 1)) t34 (.int .i64 1)) fun t35 =>
      pureK Tryz.prog (sIdxAddr T_s_api_Value data0 t35) fun t36 =>
      readK Tryz.prog (sLoad T_api_Value t36) (tick w1) fun t37 =>
      upK Tryz.prog (sCallV cmp4 #[t30, t37]) (tick w1) fun t38 w6 =>
      pureK Tryz.prog (sBin .lss T_int (.tmp 38) (.const (.int .i64 0)) t38 (.int .i64 0)) fun t39 =>
      ifB t39
      (pureK Tryz.prog (sBin .add T_int (.tmp 41) (.const (.int .i64 1)) t15 (.int .i64 1)) fun t42 =>
       J1 (t42, ()) w6)
      (J1 (t15, ()) w6))
     (J1 (t15, ()) (tick w1)))))
  (lo1, ()) w
theorem slices_siftDownCmpFunc_api_Value.pt_eq : slices_siftDownCmpFunc_api_Value.pt = fun data0 lo1 hi2 first3 cmp4 w K => FN Tryz.prog Tryz.f152 (bodyOf Tryz.f152) [] (.node none .leaf (.node none (.node none (.node none (.node none .leaf (.node none .leaf (.node (some [11]) .leaf .leaf))) .leaf) .leaf) .leaf)) [data0, lo1, hi2, first3, cmp4] w K := by kernel_rfl
theorem slices_siftDownCmpFunc_api_Value.call {data0 lo1 hi2 first3 cmp4 : Value} {w : World} {K : Value → World → Prop} (h : slices_siftDownCmpFunc_api_Value.pt data0 lo1 hi2 first3 cmp4 w K) : Calls Tryz.prog F_slices_siftDownCmpFunc_api_Value #[data0, lo1, hi2, first3, cmp4] w (retK K) :=
  calls_FN (args := [data0, lo1, hi2, first3, cmp4]) Tryz.func152 (by kernel_rfl) (by rw [slices_siftDownCmpFunc_api_Value.pt_eq] at h; exact h)
theorem slices_siftDownCmpFunc_api_Value.up {data0 lo1 hi2 first3 cmp4 : Value} {w : World} {K : Value → World → Prop} (h : Calls Tryz.prog F_slices_siftDownCmpFunc_api_Value #[data0, lo1, hi2, first3, cmp4] w (retK K)) : upK Tryz.prog (sCall F_slices_siftDownCmpFunc_api_Value #[data0, lo1, hi2, first3, cmp4]) w K :=
  up_call (fn := Tryz.f152) Tryz.func152 (by kernel_rfl) (by kernel_rfl) h

/-- slices.nextPowerOfTwo -/
def slices_nextPowerOfTwo.pt (length0 : Value) (w : World) (K : Value → World → Prop) : Prop :=
  upK Tryz.prog (sConv T_int T_uint length0) w fun t4 w1 =>
  upK Tryz.prog (sCall F_math_bits_Len #[t4]) w1 fun t5 w2 =>
  pureK Tryz.prog (sBin .shl T_uint (.const (.int .u64 1)) (.tmp 5) (.int .u64 1) t5) fun t6 =>
  K t6 w2
theorem slices_nextPowerOfTwo.pt_eq : slices_nextPowerOfTwo.pt = fun length0 w K => FN Tryz.prog Tryz.f153 (bodyOf Tryz.f153) [2] .leaf [length0] w K := by kernel_rfl
theorem slices_nextPowerOfTwo.call {length0 : Value} {w : World} {K : Value → World → Prop} (h : slices_nextPowerOfTwo.pt length0 w K) : Calls Tryz.prog F_slices_nextPowerOfTwo #[length0] w (retK K) :=
  calls_FN (args := [length0]) Tryz.func153 (by kernel_rfl) (by rw [slices_nextPowerOfTwo.pt_eq] at h; exact h)
theorem slices_nextPowerOfTwo.up {length0 : Value} {w : World} {K : Value → World → Prop} (h : Calls Tryz.prog F_slices_nextPowerOfTwo #[length0] w (retK K)) : upK Tryz.prog (sCall F_slices_nextPowerOfTwo #[length0]) w K :=
  up_call (fn := Tryz.f153) Tryz.func153 (by kernel_rfl) (by kernel_rfl) h

/-- (*slices.xorshift).Next -/
def slices_xorshift_Next.pt (r0 : Value) (w : World) (K : Value → World → Prop) : Prop :=
  pureK Tryz.prog (sNil r0) fun t4 =>
  readK Tryz.prog (sLoad T_slices_xorshift t4) (tick w) fun t5 =>
  pureK Tryz.prog (sNil r0) fun t7 =>
  readK Tryz.prog (sLoad T_slices_xorshift t7) (tick w) fun t8 =>
  pureK Tryz.prog (sBin .shl T_slices_xorshift (.tmp 8) (.const (.int .u64 13)) t8 (.int .u64 13)) fun t9 =>
  pureK Tryz.prog (sBin .xor T_slices_xorshift (.tmp 5) (.tmp 9) t5 t9) fun t10 =>
  pureK Tryz.prog (sNil r0) fun t11 =>
  upK Tryz.prog (sStore T_slices_xorshift t11 t10) (tick w) fun tu w1 =>
  pureK Tryz.prog (sNil r0) fun t13 =>
  readK Tryz.prog (sLoad T_slices_xorshift t13) (tick w1) fun t14 =>
  pureK Tryz.prog (sNil r0) fun t16 =>
  readK Tryz.prog (sLoad T_slices_xorshift t16) (tick w1) fun t17 =>
  pureK Tryz.prog (sBin .shr T_slices_xorshift (.tmp 17) (.const (.int .u64 7)) t17 (.int .u64 7)) fun t18 =>
  pureK Tryz.prog (sBin .xor T_slices_xorshift (.tmp 14) (.tmp 18) t14 t18) fun t19 =>
  pureK Tryz.prog (sNil r0) fun t20 =>
  upK Tryz.prog (sStore T_slices_xorshift t20 t19) (tick w1) fun tu_1 w2 =>
  pureK Tryz.prog (sNil r0) fun t22 =>
  readK Tryz.prog (sLoad T_slices_xorshift t22) (tick w2) fun t23 =>
  pureK Tryz.prog (sNil r0) fun t25 =>
  readK Tryz.prog (sLoad T_slices_xorshift t25) (tick w2) fun t26 =>
  pureK Tryz.prog (sBin .shl T_slices_xorshift (.tmp 26) (.const (.int .u64 17)) t26 (.int .u64 17)) fun t27 =>
  pureK Tryz.prog (sBin .xor T_slices_xorshift (.tmp 23) (.tmp 27) t23 t27) fun t28 =>
  pureK Tryz.prog (sNil r0) fun t29 =>
  upK Tryz.prog (sStore T_slices_xorshift t29 t28) (tick w2) fun tu_2 w3 =>
  pureK Tryz.prog (sNil r0) fun t31 =>
  readK Tryz.prog (sLoad T_slices_xorshift t31) w3 fun t32 =>
  K t32 w3
theorem slices_xorshift_Next.pt_eq : slices_xorshift_Next.pt = fun r0 w K => FN Tryz.prog Tryz.f154 (bodyOf Tryz.f154) [2] .leaf [r0] w K := by kernel_rfl
theorem slices_xorshift_Next.call {r0 : Value} {w : World} {K : Value → World → Prop} (h : slices_xorshift_Next.pt r0 w K) : Calls Tryz.prog F_slices_xorshift_Next #[r0] w (retK K) :=
  calls_FN (args := [r0]) Tryz.func154 (by kernel_rfl) (by rw [slices_xorshift_Next.pt_eq] at h; exact h)
theorem slices_xorshift_Next.up {r0 : Value} {w : World} {K : Value → World → Prop} (h : Calls Tryz.prog F_slices_xorshift_Next #[r0] w (retK K)) : upK Tryz.prog (sCall F_slices_xorshift_Next #[r0]) w K :=
  up_call (fn := Tryz.f154) Tryz.func154 (by kernel_rfl) (by kernel_rfl) h

/-- slices.medianAdjacentCmpFunc[errata/api.Value] -/
def slices_medianAdjacentCmpFunc_api_Value.pt (data0 a1 swaps2 cmp3 : Value) (w : World) (K : Value → World → Prop) : Prop :=
  pureK Tryz.prog (sBin .sub T_int (.tmp 10) (.const (.int .i64 1)) a1 (.int .i64 1)) fun t11 =>
  pureK Tryz.prog (sBin .add T_int (.tmp 13) (.const (.int .i64 1)) a1 (.int .i64 1)) fun t14 =>
  upK Tryz.prog (sCall F_slices_medianCmpFunc_api_Value #[data0, t11, a1, t14, swaps2, cmp3]) w fun t17 w1 =>
  K t17 w1
theorem slices_medianAdjacentCmpFunc_api_Value.pt_eq : slices_medianAdjacentCmpFunc_api_Value.pt = fun data0 a1 swaps2 cmp3 w K => FN Tryz.prog Tryz.f155 (bodyOf Tryz.f155) [8] .leaf [data0, a1, swaps2, cmp3] w K := by kernel_rfl
theorem slices_medianAdjacentCmpFunc_api_Value.call {data0 a1 swaps2 cmp3 : Value} {w : World} {K : Value → World → Prop} (h : slices_medianAdjacentCmpFunc_api_Value.pt data0 a1 swaps2 cmp3 w K) : Calls Tryz.prog F_slices_medianAdjacentCmpFunc_api_Value #[data0, a1, swaps2, cmp3] w (retK K) :=
  calls_FN (args := [data0, a1, swaps2, cmp3]) Tryz.func155 (by kernel_rfl) (by rw [slices_medianAdjacentCmpFunc_api_Value.pt_eq] at h; exact h)
theorem slices_medianAdjacentCmpFunc_api_Value.up {data0 a1 swaps2 cmp3 : Value} {w : World} {K : Value → World → Prop} (h : Calls Tryz.prog F_slices_medianAdjacentCmpFunc_api_Value #[data0, a1, swaps2, cmp3] w (retK K)) : upK Tryz.prog (sCall F_slices_medianAdjacentCmpFunc_api_Value #[data0, a1, swaps2, cmp3]) w K :=
  up_call (fn := Tryz.f155) Tryz.func155 (by kernel_rfl) (by kernel_rfl) h

/-- slices.medianCmpFunc[errata/api.Value] -/
def slices_medianCmpFunc_api_Value.pt (data0 a1 b2 c3 swaps4 cmp5 : Value) (w : World) (K : Value → World → Prop) : Prop :=
  upK Tryz.prog (sCall F_slices_order2CmpFunc_api_Value #[data0, a1, b2, swaps4, cmp5]) w fun t19 w1 =>
  pureK Tryz.prog (sExtract t19 0) fun t20 =>
  pureK Tryz.prog (sExtract t19 1) fun t21 =>
  upK Tryz.prog (sCall F_slices_order2CmpFunc_api_Value #[data0, t21, c3, swaps4, cmp5]) w1 fun t28 w2 =>
  pureK Tryz.prog (sExtract t28 0) fun t29 =>
  pureK Tryz.prog (sExtract t28 1) fun t30 =>
  upK Tryz.prog (sCall F_slices_order2CmpFunc_api_Value #[data0, t20, t29, swaps4, cmp5]) w2 fun t37 w3 =>
  pureK Tryz.prog (sExtract t37 0) fun t38 =>
  pureK Tryz.prog (sExtract t37 1) fun t39 =>
  K t39 w3
theorem slices_medianCmpFunc_api_Value.pt_eq : slices_medianCmpFunc_api_Value.pt = fun data0 a1 b2 c3 swaps4 cmp5 w K => FN Tryz.prog Tryz.f156 (bodyOf Tryz.f156) [12] .leaf [data0, a1, b2, c3, swaps4, cmp5] w K := by kernel_rfl
theorem slices_medianCmpFunc_api_Value.call {data0 a1 b2 c3 swaps4 cmp5 : Value} {w : World} {K : Value → World → Prop} (h : slices_medianCmpFunc_api_Value.pt data0 a1 b2 c3 swaps4 cmp5 w K) : Calls Tryz.prog F_slices_medianCmpFunc_api_Value #[data0, a1, b2, c3, swaps4, cmp5] w (retK K) :=
  calls_FN (args := [data0, a1, b2, c3, swaps4, cmp5]) Tryz.func156 (by kernel_rfl) (by rw [slices_medianCmpFunc_api_Value.pt_eq] at h; exact h)
theorem slices_medianCmpFunc_api_Value.up {data0 a1 b2 c3 swaps4 cmp5 : Value} {w : World} {K : Value → World → Prop} (h : Calls Tryz.prog F_slices_medianCmpFunc_api_Value #[data0, a1, b2, c3, swaps4, cmp5] w (retK K)) : upK Tryz.prog (sCall F_slices_medianCmpFunc_api_Value #[data0, a1, b2, c3, swaps4, cmp5]) w K :=
  up_call (fn := Tryz.f156) Tryz.func156 (by kernel_rfl) (by kernel_rfl) h

/-- internal/strconv.lower -/
theorem internal_strconv_lower.up {p0 : Value} {w : World} {K : Value → World → Prop} (h : Calls Tryz.prog F_internal_strconv_lower #[p0] w (retK K)) : upK Tryz.prog (sCall F_internal_strconv_lower #[p0]) w K :=
  up_call (fn := Tryz.f157) Tryz.func157 (by kernel_rfl) (by kernel_rfl) h

/-- internal/strconv.underscoreOK -/
theorem internal_strconv_underscoreOK.up {p0 : Value} {w : World} {K : Value → World → Prop} (h : Calls Tryz.prog F_internal_strconv_underscoreOK #[p0] w (retK K)) : upK Tryz.prog (sCall F_internal_strconv_underscoreOK #[p0]) w K :=
  up_call (fn := Tryz.f158) Tryz.func158 (by kernel_rfl) (by kernel_rfl) h

/-- math/bits.TrailingZeros32 -/
theorem math_bits_TrailingZeros32.up {p0 : Value} {w : World} {K : Value → World → Prop} (h : Calls Tryz.prog F_math_bits_TrailingZeros32 #[p0] w (retK K)) : upK Tryz.prog (sCall F_math_bits_TrailingZeros32 #[p0]) w K :=
  up_call (fn := Tryz.f159) Tryz.func159 (by kernel_rfl) (by kernel_rfl) h

/-- math/bits.TrailingZeros64 -/
theorem math_bits_TrailingZeros64.up {p0 : Value} {w : World} {K : Value → World → Prop} (h : Calls Tryz.prog F_math_bits_TrailingZeros64 #[p0] w (retK K)) : upK Tryz.prog (sCall F_math_bits_TrailingZeros64 #[p0]) w K :=
  up_call (fn := Tryz.f160) Tryz.func160 (by kernel_rfl) (by kernel_rfl) h

/-- slices.order2CmpFunc[errata/api.Value] -/
def slices_order2CmpFunc_api_Value.pt (data0 a1 b2 swaps3 cmp4 : Value) (w : World) (K : Value → World → Prop) : Prop :=
  pureK Tryz.prog (sIdxAddr T_s_api_Value data0 b2) fun t15 =>
  readK Tryz.prog (sLoad T_api_Value t15) (tick w) fun t16 =>
  pureK Tryz.prog (sIdxAddr T_s_api_Value data0 a1) fun t19 =>
  readK Tryz.prog (sLoad T_api_Value t19) (tick w) fun t20 =>
  upK Tryz.prog (sCallV cmp4 #[t16, t20]) (tick w) fun t21 w1 =>
  pureK Tryz.prog (sBin .lss T_int (.tmp 21) (.const (.int .i64 0)) t21 (.int .i64 0)) fun t22 =>
  ifB t22
  (pureK Tryz.prog (sNil swaps3) fun t24 =>
   readK Tryz.prog (sLoad T_int t24) w1 fun t25 =>
   pureK Tryz.prog (sBin .add T_int (.tmp 25) (.const (.int .i64 1)) t25 (.int .i64 1)) fun t26 =>
   pureK Tryz.prog (sNil swaps3) fun t27 =>
   upK Tryz.prog (sStore T_int t27 t26) w1 fun tu w2 =>
   K (.tuple #[b2, a1]) w2)
  (K (.tuple #[a1, b2]) w1)
theorem slices_order2CmpFunc_api_Value.pt_eq : slices_order2CmpFunc_api_Value.pt = fun data0 a1 b2 swaps3 cmp4 w K => FN Tryz.prog Tryz.f161 (bodyOf Tryz.f161) [10, 11] .leaf [data0, a1, b2, swaps3, cmp4] w K := by kernel_rfl
theorem slices_order2CmpFunc_api_Value.call {data0 a1 b2 swaps3 cmp4 : Value} {w : World} {K : Value → World → Prop} (h : slices_order2CmpFunc_api_Value.pt data0 a1 b2 swaps3 cmp4 w K) : Calls Tryz.prog F_slices_order2CmpFunc_api_Value #[data0, a1, b2, swaps3, cmp4] w (retK K) :=
  calls_FN (args := [data0, a1, b2, swaps3, cmp4]) Tryz.func161 (by kernel_rfl) (by rw [slices_order2CmpFunc_api_Value.pt_eq] at h; exact h)
theorem slices_order2CmpFunc_api_Value.up {data0 a1 b2 swaps3 cmp4 : Value} {w : World} {K : Value → World → Prop} (h : Calls Tryz.prog F_slices_order2CmpFunc_api_Value #[data0, a1, b2, swaps3, cmp4] w (retK K)) : upK Tryz.prog (sCall F_slices_order2CmpFunc_api_Value #[data0, a1, b2, swaps3, cmp4]) w K :=
  up_call (fn := Tryz.f161) Tryz.func161 (by kernel_rfl) (by kernel_rfl) h

end Go.Proofs.YtoebncgnjbblgaaGreatDoor
