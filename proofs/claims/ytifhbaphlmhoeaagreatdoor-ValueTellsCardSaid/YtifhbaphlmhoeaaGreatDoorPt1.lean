/-
  The reckoned conditions of the functions that this seat's statements reach, printed by program, each held against the translation by the kernel. No condition.
-/
import Derived.Test.YtifhbaphlmhoeaaGreatDoorNames
namespace Go.Proofs.YtifhbaphlmhoeaaGreatDoor
set_option linter.unusedVariables false
set_option maxRecDepth 100000

/-- (*errata/errataref01.Reader).Text -/
def errataref01_Reader_Text.pt (r0 : Value) (w : World) (K : Value → World → Prop) : Prop :=
  upK Tryz.prog (sCall F_errataref01_Reader_number #[r0, (.int .u8 58)]) w fun t6 w1 =>
  pureK Tryz.prog (sNil r0) fun t8 =>
  pureK Tryz.prog (sFieldAddr T_errataref01_Reader t8 1) fun t9 =>
  readK Tryz.prog (sLoad T_bool t9) w1 fun t10 =>
  ifB t10
  (upK Tryz.prog (sCall F_errataref01_Reader_fail #[r0]) w1 fun t21 w2 =>
   K (.string ⟨#[]⟩) w2)
  (pureK Tryz.prog (sNil r0) fun t14 =>
   pureK Tryz.prog (sFieldAddr T_errataref01_Reader t14 0) fun t15 =>
   readK Tryz.prog (sLoad T_string t15) w1 fun t16 =>
   readK Tryz.prog (sBlt .len #[T_string] T_int #[false] #[t16]) w1 fun t17 =>
   pureK Tryz.prog (sBin .geq T_int (.tmp 12) (.tmp 17) t6 t17) fun t18 =>
   ifB t18
   (upK Tryz.prog (sCall F_errataref01_Reader_fail #[r0]) w1 fun t21_1 w3 =>
    K (.string ⟨#[]⟩) w3)
   (pureK Tryz.prog (sNil r0) fun t23 =>
    pureK Tryz.prog (sFieldAddr T_errataref01_Reader t23 0) fun t24 =>
    readK Tryz.prog (sLoad T_string t24) w1 fun t25 =>
    pureK Tryz.prog (sSlice T_string t25 none (some t6) none) fun t27 =>
    pureK Tryz.prog (sNil r0) fun t30 =>
    pureK Tryz.prog (sFieldAddr T_errataref01_Reader t30 0) fun t31 =>
    readK Tryz.prog (sLoad T_string t31) w1 fun t32 =>
    pureK Tryz.prog (sSlice T_string t32 (some t6) none none) fun t34 =>
    pureK Tryz.prog (sNil r0) fun t35 =>
    pureK Tryz.prog (sFieldAddr T_errataref01_Reader t35 0) fun t36 =>
    upK Tryz.prog (sStore T_string t36 t34) w1 fun tu w4 =>
    upK Tryz.prog (sCall F_errataref01_Reader_close #[r0, (.int .u8 44)]) w4 fun t38 w5 =>
    pureK Tryz.prog (sUn .not t38) fun t39 =>
    ifB t39
    (K (.string ⟨#[]⟩) w5)
    (K t27 w5)))
theorem errataref01_Reader_Text.pt_eq : errataref01_Reader_Text.pt = fun r0 w K => FN Tryz.prog Tryz.f60 (bodyOf Tryz.f60) [2] .leaf [r0] w K := by kernel_rfl
theorem errataref01_Reader_Text.call {r0 : Value} {w : World} {K : Value → World → Prop} (h : errataref01_Reader_Text.pt r0 w K) : Calls Tryz.prog F_errataref01_Reader_Text #[r0] w (retK K) :=
  calls_FN (args := [r0]) Tryz.func60 (by kernel_rfl) (by rw [errataref01_Reader_Text.pt_eq] at h; exact h)
theorem errataref01_Reader_Text.up {r0 : Value} {w : World} {K : Value → World → Prop} (h : Calls Tryz.prog F_errataref01_Reader_Text #[r0] w (retK K)) : upK Tryz.prog (sCall F_errataref01_Reader_Text #[r0]) w K :=
  up_call (fn := Tryz.f60) Tryz.func60 (by kernel_rfl) (by kernel_rfl) h

/-- (*errata/errataref01.Reader).Done -/
def errataref01_Reader_Done.pt (r0 : Value) (w : World) (K : Value → World → Prop) : Prop :=
  pureK Tryz.prog (sNil r0) fun t4 =>
  pureK Tryz.prog (sFieldAddr T_errataref01_Reader t4 1) fun t5 =>
  readK Tryz.prog (sLoad T_bool t5) w fun t6 =>
  pureK Tryz.prog (sUn .not t6) fun t7 =>
  ifB t7
  (pureK Tryz.prog (sNil r0) fun t10 =>
   pureK Tryz.prog (sFieldAddr T_errataref01_Reader t10 0) fun t11 =>
   readK Tryz.prog (sLoad T_string t11) w fun t12 =>
   pureK Tryz.prog (sBin .eql T_string (.tmp 12) (.const (.string ⟨#[]⟩)) t12 (.string ⟨#[]⟩)) fun t13 =>
   K t13 w)
  (K (.bool false) w)
theorem errataref01_Reader_Done.pt_eq : errataref01_Reader_Done.pt = fun r0 w K => FN Tryz.prog Tryz.f61 (bodyOf Tryz.f61) [2] .leaf [r0] w K := by kernel_rfl
theorem errataref01_Reader_Done.call {r0 : Value} {w : World} {K : Value → World → Prop} (h : errataref01_Reader_Done.pt r0 w K) : Calls Tryz.prog F_errataref01_Reader_Done #[r0] w (retK K) :=
  calls_FN (args := [r0]) Tryz.func61 (by kernel_rfl) (by rw [errataref01_Reader_Done.pt_eq] at h; exact h)
theorem errataref01_Reader_Done.up {r0 : Value} {w : World} {K : Value → World → Prop} (h : Calls Tryz.prog F_errataref01_Reader_Done #[r0] w (retK K)) : upK Tryz.prog (sCall F_errataref01_Reader_Done #[r0]) w K :=
  up_call (fn := Tryz.f61) Tryz.func61 (by kernel_rfl) (by kernel_rfl) h

/-- errata/text.Int -/
def text_Int.pt (s0 : Value) (w : World) (K : Value → World → Prop) : Prop :=
  upK Tryz.prog (sCall F_strconv_ParseInt #[s0, (.int .i64 10), (.int .i64 64)]) w fun t8 w1 =>
  pureK Tryz.prog (sExtract t8 0) fun t9 =>
  pureK Tryz.prog (sExtract t8 1) fun t10 =>
  pureK Tryz.prog (sBin .neq T_error (.tmp 11) (.const .nilIface) t10 .nilIface) fun t12 =>
  ifB t12
  (K (.tuple #[(.int .i64 0), (.bool false)]) w1)
  (upK Tryz.prog (sCall F_strconv_FormatInt #[t9, (.int .i64 10)]) w1 fun t15 w2 =>
   pureK Tryz.prog (sBin .neq T_string (.tmp 15) (.tmp 16) t15 s0) fun t17 =>
   ifB t17
   (K (.tuple #[(.int .i64 0), (.bool false)]) w2)
   (K (.tuple #[t9, (.bool true)]) w2))
theorem text_Int.pt_eq : text_Int.pt = fun s0 w K => FN Tryz.prog Tryz.f62 (bodyOf Tryz.f62) [2, 3] .leaf [s0] w K := by kernel_rfl
theorem text_Int.call {s0 : Value} {w : World} {K : Value → World → Prop} (h : text_Int.pt s0 w K) : Calls Tryz.prog F_text_Int #[s0] w (retK K) :=
  calls_FN (args := [s0]) Tryz.func62 (by kernel_rfl) (by rw [text_Int.pt_eq] at h; exact h)
theorem text_Int.up {s0 : Value} {w : World} {K : Value → World → Prop} (h : Calls Tryz.prog F_text_Int #[s0] w (retK K)) : upK Tryz.prog (sCall F_text_Int #[s0]) w K :=
  up_call (fn := Tryz.f62) Tryz.func62 (by kernel_rfl) (by kernel_rfl) h

/-- errata/text.Unquote -/
def text_Unquote.pt (s0 : Value) (w : World) (K : Value → World → Prop) : Prop :=
  upK Tryz.prog (sAlloc T_strings_Builder) w fun b4 w1 =>
  LOOP (X := Value × Unit) (fun lv2 w2 next2 =>
   readK Tryz.prog (sBlt .len #[T_string] T_int #[false] #[s0]) w2 fun t8 =>
   pureK Tryz.prog (sBin .sub T_int (.tmp 8) (.const (.int .i64 1)) t8 (.int .i64 1)) fun t9 =>
   pureK Tryz.prog (sBin .lss T_int (.tmp 6) (.tmp 9) lv2.1 t9) fun t10 =>
   ifB t10
   (LETJ (X := Value × Unit) (fun jv1 w3 =>
     pureK Tryz.prog (sBin .add T_int (.tmp 11) (.const (.int .i64 1)) jv1.1 (.int .i64 1)) fun t12 =>
     next2 (t12, ()) w3)
    (fun J1 =>
     pureK Tryz.prog (sIdx T_string s0 lv2.1) fun t15 =>
     pureK Tryz.prog (sBin .neq T_uint8 (.tmp 15) (.const (.int .u8 92)) t15 (.int .u8 92)) fun t16 =>
     ifB t16
     (pureK Tryz.prog (sIdx T_string s0 lv2.1) fun t27 =>
      upK Tryz.prog (sCall F_strings_Builder_WriteByte #[b4, t27]) w2 fun t28 w4 =>
      J1 (lv2.1, ()) w4)
     (pureK Tryz.prog (sBin .add T_int (.tmp 18) (.const (.int .i64 1)) lv2.1 (.int .i64 1)) fun t19 =>
      readK Tryz.prog (sBlt .len #[T_string] T_int #[false] #[s0]) w2 fun t21 =>
      pureK Tryz.prog (sBin .sub T_int (.tmp 21) (.const (.int .i64 1)) t21 (.int .i64 1)) fun t22 =>
      pureK Tryz.prog (sBin .geq T_int (.tmp 19) (.tmp 22) t19 t22) fun t23 =>
      ifB t23
      (pureK Tryz.prog (sIdx T_string s0 lv2.1) fun t27_1 =>
       upK Tryz.prog (sCall F_strings_Builder_WriteByte #[b4, t27_1]) w2 fun t28_1 w5 =>
       J1 (lv2.1, ()) w5)
      (pureK Tryz.prog (sBin .add T_int (.tmp 29) (.const (.int .i64 1)) lv2.1 (.int .i64 1)) fun t30 =>
       pureK Tryz.prog (sIdx T_string s0 t30) fun t38 =>
       pureK Tryz.prog (sBin .eql T_uint8 (.tmp 38) (.const (.int .u8 110)) t38 (.int .u8 110)) fun t39 =>
       ifB t39
       (upK Tryz.prog (sCall F_strings_Builder_WriteByte #[b4, (.int .u8 10)]) w2 fun t40 w6 =>
        J1 (t30, ()) w6)
       (pureK Tryz.prog (sIdx T_string s0 t30) fun t44 =>
        pureK Tryz.prog (sBin .eql T_uint8 (.tmp 44) (.const (.int .u8 120)) t44 (.int .u8 120)) fun t45 =>
        ifB t45
        (pureK Tryz.prog (sBin .add T_int (.tmp 47) (.const (.int .i64 2)) t30 (.int .i64 2)) fun t48 =>
         readK Tryz.prog (sBlt .len #[T_string] T_int #[false] #[s0]) w2 fun t50 =>
         pureK Tryz.prog (sBin .sub T_int (.tmp 50) (.const (.int .i64 1)) t50 (.int .i64 1)) fun t51 =>
         pureK Tryz.prog (sBin .lss T_int (.tmp 48) (.tmp 51) t48 t51) fun t52 =>
         ifB t52
         (pureK Tryz.prog (sBin .add T_int (.tmp 55) (.const (.int .i64 1)) t30 (.int .i64 1)) fun t56 =>
          pureK Tryz.prog (sIdx T_string s0 t56) fun t57 =>
          pureK Tryz.prog (sBin .add T_int (.tmp 61) (.const (.int .i64 2)) t30 (.int .i64 2)) fun t62 =>
          pureK Tryz.prog (sIdx T_string s0 t62) fun t63 =>
          upK Tryz.prog (sCall F_strings_IndexByte #[(.string ⟨#[48, 49, 50, 51, 52, 53, 54, 55, 56, 57, 97, 98, 99, 100, 101, 102]⟩), t57]) (tick w2) fun t58 w7 =>
          pureK Tryz.prog (sBin .shl T_int (.tmp 58) (.const (.int .u64 4)) t58 (.int .u64 4)) fun t59 =>
          upK Tryz.prog (sCall F_strings_IndexByte #[(.string ⟨#[48, 49, 50, 51, 52, 53, 54, 55, 56, 57, 97, 98, 99, 100, 101, 102]⟩), t63]) w7 fun t64 w8 =>
          pureK Tryz.prog (sBin .or T_int (.tmp 59) (.tmp 64) t59 t64) fun t65 =>
          upK Tryz.prog (sConv T_int T_uint8 t65) w8 fun t66 w9 =>
          upK Tryz.prog (sCall F_strings_Builder_WriteByte #[b4, t66]) w9 fun t67 w10 =>
          pureK Tryz.prog (sBin .add T_int (.tmp 68) (.const (.int .i64 2)) t30 (.int .i64 2)) fun t69 =>
          J1 (t69, ()) w10)
         (pureK Tryz.prog (sIdx T_string s0 t30) fun t33 =>
          upK Tryz.prog (sCall F_strings_Builder_WriteByte #[b4, t33]) w2 fun t34 w11 =>
          J1 (t30, ()) w11))
        (pureK Tryz.prog (sIdx T_string s0 t30) fun t33_1 =>
         upK Tryz.prog (sCall F_strings_Builder_WriteByte #[b4, t33_1]) w2 fun t34_1 w12 =>
         J1 (t30, ()) w12))))))
   (upK Tryz.prog (sCall F_strings_Builder_String #[b4]) w2 fun t70 w13 =>
    upK Tryz.prog (sCall F_text_Quote #[t70]) w13 fun t71 w14 =>
    pureK Tryz.prog (sBin .neq T_string (.tmp 71) (.tmp 72) t71 s0) fun t73 =>
    ifB t73
    (K (.tuple #[(.string ⟨#[]⟩), (.bool false)]) w14)
    (upK Tryz.prog (sCall F_strings_Builder_String #[b4]) w14 fun t74 w15 =>
     K (.tuple #[t74, (.bool true)]) w15)))
  ((.int .i64 1), ()) w1
theorem text_Unquote.pt_eq : text_Unquote.pt = fun s0 w K => FN Tryz.prog Tryz.f63 (bodyOf Tryz.f63) [2, 3] (.node none .leaf (.node none .leaf (.node none (.node none .leaf (.node none (.node none (.node none .leaf (.node (some [5]) .leaf .leaf)) .leaf) .leaf)) .leaf))) [s0] w K := by kernel_rfl
theorem text_Unquote.call {s0 : Value} {w : World} {K : Value → World → Prop} (h : text_Unquote.pt s0 w K) : Calls Tryz.prog F_text_Unquote #[s0] w (retK K) :=
  calls_FN (args := [s0]) Tryz.func63 (by kernel_rfl) (by rw [text_Unquote.pt_eq] at h; exact h)
theorem text_Unquote.up {s0 : Value} {w : World} {K : Value → World → Prop} (h : Calls Tryz.prog F_text_Unquote #[s0] w (retK K)) : upK Tryz.prog (sCall F_text_Unquote #[s0]) w K :=
  up_call (fn := Tryz.f63) Tryz.func63 (by kernel_rfl) (by kernel_rfl) h

/-- errata/errataref02.Int -/
def errataref02_Int.pt (s0 : Value) (w : World) (K : Value → World → Prop) : Prop :=
  readK Tryz.prog (sBlt .len #[T_string] T_int #[false] #[s0]) w fun t7 =>
  pureK Tryz.prog (sBin .eql T_int (.tmp 7) (.const (.int .i64 0)) t7 (.int .i64 0)) fun t8 =>
  ifB t8
  (K (.tuple #[(.int .i64 0), (.bool false)]) w)
  (readK Tryz.prog (sBlt .len #[T_string] T_int #[false] #[s0]) w fun t11 =>
   pureK Tryz.prog (sBin .gtr T_int (.tmp 11) (.const (.int .i64 20)) t11 (.int .i64 20)) fun t12 =>
   ifB t12
   (K (.tuple #[(.int .i64 0), (.bool false)]) w)
   (LOOP (X := Value × Value × Unit) (fun lv1 w1 next1 =>
     readK Tryz.prog (sBlt .len #[T_string] T_int #[false] #[s0]) w1 fun t16 =>
     pureK Tryz.prog (sBin .lss T_int (.tmp 14) (.tmp 16) lv1.2.1 t16) fun t17 =>
     ifB t17
     (LETJ (X := Value × Unit) (fun jv1 w2 =>
       pureK Tryz.prog (sBin .add T_int (.tmp 18) (.const (.int .i64 1)) lv1.2.1 (.int .i64 1)) fun t19 =>
       next1 (jv1.1, t19, ()) w2)
      (fun J1 =>
       LETJ (X := Unit) (fun jv2 w3 =>
        pureK Tryz.prog (sIdx T_string s0 lv1.2.1) fun t29 =>
        pureK Tryz.prog (sBin .lss T_uint8 (.tmp 29) (.const (.int .u8 48)) t29 (.int .u8 48)) fun t30 =>
        ifB t30
        (K (.tuple #[(.int .i64 0), (.bool false)]) w3)
        (pureK Tryz.prog (sIdx T_string s0 lv1.2.1) fun t34 =>
         pureK Tryz.prog (sBin .gtr T_uint8 (.tmp 34) (.const (.int .u8 57)) t34 (.int .u8 57)) fun t35 =>
         ifB t35
         (K (.tuple #[(.int .i64 0), (.bool false)]) w3)
         (pureK Tryz.prog (sBin .mul T_int (.tmp 37) (.const (.int .i64 10)) lv1.1 (.int .i64 10)) fun t38 =>
          pureK Tryz.prog (sIdx T_string s0 lv1.2.1) fun t41 =>
          pureK Tryz.prog (sBin .sub T_uint8 (.tmp 41) (.const (.int .u8 48)) t41 (.int .u8 48)) fun t42 =>
          upK Tryz.prog (sConv T_uint8 T_int t42) w3 fun t43 w4 =>
          pureK Tryz.prog (sBin .sub T_int (.tmp 38) (.tmp 43) t38 t43) fun t44 =>
          J1 (t44, ()) w4)))
       (fun J2 =>
        pureK Tryz.prog (sBin .eql T_int (.tmp 20) (.const (.int .i64 0)) lv1.2.1 (.int .i64 0)) fun t21 =>
        ifB t21
        (pureK Tryz.prog (sIdx T_string s0 (.int .i64 0)) fun t24 =>
         pureK Tryz.prog (sBin .eql T_uint8 (.tmp 24) (.const (.int .u8 45)) t24 (.int .u8 45)) fun t25 =>
         ifB t25
         (J1 (lv1.1, ()) w1)
         (J2 (()) w1))
        (J2 (()) w1))))
     (LETJ (X := Value × Unit) (fun jv3 w5 =>
       upK Tryz.prog (sCall F_errataref02_Decimal #[jv3.1]) w5 fun t51 w6 =>
       pureK Tryz.prog (sBin .neq T_string (.tmp 51) (.tmp 52) t51 s0) fun t53 =>
       ifB t53
       (K (.tuple #[(.int .i64 0), (.bool false)]) w6)
       (K (.tuple #[jv3.1, (.bool true)]) w6))
      (fun J3 =>
       pureK Tryz.prog (sIdx T_string s0 (.int .i64 0)) fun t46 =>
       pureK Tryz.prog (sBin .neq T_uint8 (.tmp 46) (.const (.int .u8 45)) t46 (.int .u8 45)) fun t47 =>
       ifB t47
       (pureK Tryz.prog (sUn .neg lv1.1) fun t49 =>
        J3 (t49, ()) w1)
       (J3 (lv1.1, ()) w1))))
    ((.int .i64 0), (.int .i64 0), ()) w))
theorem errataref02_Int.pt_eq : errataref02_Int.pt = fun s0 w K => FN Tryz.prog Tryz.f64 (bodyOf Tryz.f64) [2, 3] (.node none .leaf (.node none .leaf (.node none .leaf (.node none (.node none .leaf (.node none (.node none (.node none .leaf (.node (some [4]) (.node none (.node (some []) .leaf .leaf) .leaf) .leaf)) .leaf) .leaf)) (.node (some [4]) .leaf .leaf))))) [s0] w K := by kernel_rfl
theorem errataref02_Int.call {s0 : Value} {w : World} {K : Value → World → Prop} (h : errataref02_Int.pt s0 w K) : Calls Tryz.prog F_errataref02_Int #[s0] w (retK K) :=
  calls_FN (args := [s0]) Tryz.func64 (by kernel_rfl) (by rw [errataref02_Int.pt_eq] at h; exact h)
theorem errataref02_Int.up {s0 : Value} {w : World} {K : Value → World → Prop} (h : Calls Tryz.prog F_errataref02_Int #[s0] w (retK K)) : upK Tryz.prog (sCall F_errataref02_Int #[s0]) w K :=
  up_call (fn := Tryz.f64) Tryz.func64 (by kernel_rfl) (by kernel_rfl) h

/-- errata/errataref02.Unquote -/
def errataref02_Unquote.pt (s0 : Value) (w : World) (K : Value → World → Prop) : Prop :=
  LETJ (X := Value × Unit) (fun jv1 w1 =>
   upK Tryz.prog (sConv T_s_uint8 T_string jv1.1) w1 fun t61 w2 =>
   upK Tryz.prog (sCall F_errataref02_Quote #[t61]) w2 fun t62 w3 =>
   pureK Tryz.prog (sBin .neq T_string (.tmp 62) (.tmp 63) t62 s0) fun t64 =>
   ifB t64
   (K (.tuple #[(.string ⟨#[]⟩), (.bool false)]) w3)
   (upK Tryz.prog (sConv T_s_uint8 T_string jv1.1) w3 fun t66 w4 =>
    K (.tuple #[t66, (.bool true)]) w4))
  (fun J1 =>
   LOOP (X := Value × Value × Unit) (fun lv5 w5 next5 =>
    readK Tryz.prog (sBlt .len #[T_string] T_int #[false] #[s0]) w5 fun t9 =>
    pureK Tryz.prog (sBin .sub T_int (.tmp 9) (.const (.int .i64 1)) t9 (.int .i64 1)) fun t10 =>
    pureK Tryz.prog (sBin .lss T_int (.tmp 7) (.tmp 10) lv5.1 t10) fun t11 =>
    ifB t11
    (pureK Tryz.prog (sIdx T_string s0 lv5.1) fun t14 =>
     pureK Tryz.prog (sBin .add T_int (.tmp 15) (.const (.int .i64 1)) lv5.1 (.int .i64 1)) fun t16 =>
     LETJ (X := Value × Value × Unit) (fun jv2 w6 =>
      upK Tryz.prog (sBuildSlice T_s_uint8 1 #[(0, jv2.1)]) w6 fun t58 w7 =>
      upK Tryz.prog (sBlt .append #[T_s_uint8, T_s_uint8] T_s_uint8 #[false, false] #[lv5.2.1, t58]) w7 fun t59 w8 =>
      next5 (jv2.2.1, t59, ()) w8)
     (fun J2 =>
      pureK Tryz.prog (sBin .eql T_uint8 (.tmp 17) (.const (.int .u8 92)) t14 (.int .u8 92)) fun t18 =>
      ifB t18
      (readK Tryz.prog (sBlt .len #[T_string] T_int #[false] #[s0]) w5 fun t22 =>
       pureK Tryz.prog (sBin .sub T_int (.tmp 22) (.const (.int .i64 1)) t22 (.int .i64 1)) fun t23 =>
       pureK Tryz.prog (sBin .lss T_int (.tmp 20) (.tmp 23) t16 t23) fun t24 =>
       ifB t24
       (pureK Tryz.prog (sIdx T_string s0 t16) fun t28 =>
        pureK Tryz.prog (sBin .add T_int (.tmp 29) (.const (.int .i64 1)) t16 (.int .i64 1)) fun t30 =>
        pureK Tryz.prog (sBin .eql T_uint8 (.tmp 31) (.const (.int .u8 110)) t28 (.int .u8 110)) fun t32 =>
        ifB t32
        (J2 ((.int .u8 10), t30, ()) w5)
        (pureK Tryz.prog (sBin .eql T_uint8 (.tmp 33) (.const (.int .u8 120)) t28 (.int .u8 120)) fun t34 =>
         ifB t34
         (pureK Tryz.prog (sBin .add T_int (.tmp 36) (.const (.int .i64 1)) t30 (.int .i64 1)) fun t37 =>
          readK Tryz.prog (sBlt .len #[T_string] T_int #[false] #[s0]) w5 fun t39 =>
          pureK Tryz.prog (sBin .sub T_int (.tmp 39) (.const (.int .i64 1)) t39 (.int .i64 1)) fun t40 =>
          pureK Tryz.prog (sBin .lss T_int (.tmp 37) (.tmp 40) t37 t40) fun t41 =>
          ifB t41
          (pureK Tryz.prog (sIdx T_string s0 t30) fun t45 =>
           pureK Tryz.prog (sBin .add T_int (.tmp 49) (.const (.int .i64 1)) t30 (.int .i64 1)) fun t50 =>
           pureK Tryz.prog (sIdx T_string s0 t50) fun t51 =>
           upK Tryz.prog (sCall F_errataref02_digit #[t45]) (tick w5) fun t46 w9 =>
           pureK Tryz.prog (sBin .mul T_uint8 (.tmp 46) (.const (.int .u8 16)) t46 (.int .u8 16)) fun t47 =>
           upK Tryz.prog (sCall F_errataref02_digit #[t51]) w9 fun t52 w10 =>
           pureK Tryz.prog (sBin .add T_uint8 (.tmp 47) (.tmp 52) t47 t52) fun t53 =>
           pureK Tryz.prog (sBin .add T_int (.tmp 54) (.const (.int .i64 2)) t30 (.int .i64 2)) fun t55 =>
           J2 (t53, t55, ()) w10)
          (J2 (t28, t30, ()) w5))
         (J2 (t28, t30, ()) w5)))
       (J2 (t14, t16, ()) w5))
      (J2 (t14, t16, ()) w5)))
    (J1 (lv5.2.1, ()) w5))
   ((.int .i64 1), (.slice none 0 0), ()) w)
theorem errataref02_Unquote.pt_eq : errataref02_Unquote.pt = fun s0 w K => FN Tryz.prog Tryz.f65 (bodyOf Tryz.f65) [2, 3] (.node none .leaf (.node none .leaf (.node none .leaf (.node (some [4]) (.node none (.node none (.node none .leaf (.node none (.node none .leaf (.node none .leaf (.node (some [6, 5]) .leaf .leaf))) .leaf)) .leaf) .leaf) .leaf)))) [s0] w K := by kernel_rfl
theorem errataref02_Unquote.call {s0 : Value} {w : World} {K : Value → World → Prop} (h : errataref02_Unquote.pt s0 w K) : Calls Tryz.prog F_errataref02_Unquote #[s0] w (retK K) :=
  calls_FN (args := [s0]) Tryz.func65 (by kernel_rfl) (by rw [errataref02_Unquote.pt_eq] at h; exact h)
theorem errataref02_Unquote.up {s0 : Value} {w : World} {K : Value → World → Prop} (h : Calls Tryz.prog F_errataref02_Unquote #[s0] w (retK K)) : upK Tryz.prog (sCall F_errataref02_Unquote #[s0]) w K :=
  up_call (fn := Tryz.f65) Tryz.func65 (by kernel_rfl) (by kernel_rfl) h

/-- (*errata/wire.Reader).Num -/
def wire_Reader_Num.pt (r0 : Value) (w : World) (K : Value → World → Prop) : Prop :=
  upK Tryz.prog (sCall F_wire_Reader_number #[r0, (.int .u8 59), (.int .i64 0)]) w fun t4 w1 =>
  K t4 w1
theorem wire_Reader_Num.pt_eq : wire_Reader_Num.pt = fun r0 w K => FN Tryz.prog Tryz.f66 (bodyOf Tryz.f66) [2] .leaf [r0] w K := by kernel_rfl
theorem wire_Reader_Num.call {r0 : Value} {w : World} {K : Value → World → Prop} (h : wire_Reader_Num.pt r0 w K) : Calls Tryz.prog F_wire_Reader_Num #[r0] w (retK K) :=
  calls_FN (args := [r0]) Tryz.func66 (by kernel_rfl) (by rw [wire_Reader_Num.pt_eq] at h; exact h)
theorem wire_Reader_Num.up {r0 : Value} {w : World} {K : Value → World → Prop} (h : Calls Tryz.prog F_wire_Reader_Num #[r0] w (retK K)) : upK Tryz.prog (sCall F_wire_Reader_Num #[r0]) w K :=
  up_call (fn := Tryz.f66) Tryz.func66 (by kernel_rfl) (by kernel_rfl) h

/-- (*errata/wire.Reader).Left -/
def wire_Reader_Left.pt (r0 : Value) (w : World) (K : Value → World → Prop) : Prop :=
  pureK Tryz.prog (sNil r0) fun t4 =>
  pureK Tryz.prog (sFieldAddr T_wire_Reader t4 0) fun t5 =>
  readK Tryz.prog (sLoad T_string t5) w fun t6 =>
  readK Tryz.prog (sBlt .len #[T_string] T_int #[false] #[t6]) w fun t7 =>
  K t7 w
theorem wire_Reader_Left.pt_eq : wire_Reader_Left.pt = fun r0 w K => FN Tryz.prog Tryz.f67 (bodyOf Tryz.f67) [2] .leaf [r0] w K := by kernel_rfl
theorem wire_Reader_Left.call {r0 : Value} {w : World} {K : Value → World → Prop} (h : wire_Reader_Left.pt r0 w K) : Calls Tryz.prog F_wire_Reader_Left #[r0] w (retK K) :=
  calls_FN (args := [r0]) Tryz.func67 (by kernel_rfl) (by rw [wire_Reader_Left.pt_eq] at h; exact h)
theorem wire_Reader_Left.up {r0 : Value} {w : World} {K : Value → World → Prop} (h : Calls Tryz.prog F_wire_Reader_Left #[r0] w (retK K)) : upK Tryz.prog (sCall F_wire_Reader_Left #[r0]) w K :=
  up_call (fn := Tryz.f67) Tryz.func67 (by kernel_rfl) (by kernel_rfl) h

/-- (*errata/errataref01.Reader).Num -/
def errataref01_Reader_Num.pt (r0 : Value) (w : World) (K : Value → World → Prop) : Prop :=
  upK Tryz.prog (sCall F_errataref01_Reader_number #[r0, (.int .u8 59)]) w fun t4 w1 =>
  K t4 w1
theorem errataref01_Reader_Num.pt_eq : errataref01_Reader_Num.pt = fun r0 w K => FN Tryz.prog Tryz.f68 (bodyOf Tryz.f68) [2] .leaf [r0] w K := by kernel_rfl
theorem errataref01_Reader_Num.call {r0 : Value} {w : World} {K : Value → World → Prop} (h : errataref01_Reader_Num.pt r0 w K) : Calls Tryz.prog F_errataref01_Reader_Num #[r0] w (retK K) :=
  calls_FN (args := [r0]) Tryz.func68 (by kernel_rfl) (by rw [errataref01_Reader_Num.pt_eq] at h; exact h)
theorem errataref01_Reader_Num.up {r0 : Value} {w : World} {K : Value → World → Prop} (h : Calls Tryz.prog F_errataref01_Reader_Num #[r0] w (retK K)) : upK Tryz.prog (sCall F_errataref01_Reader_Num #[r0]) w K :=
  up_call (fn := Tryz.f68) Tryz.func68 (by kernel_rfl) (by kernel_rfl) h

/-- errata/value.ParseRow$1 -/
def value_ParseRow_1.pt (t0 t1 : Value) (w : World) (K : Value → World → Prop) : Prop :=
  readK Tryz.prog (sLoad T_string t0) w fun t6 =>
  upK Tryz.prog (sCall F_value_end #[t6]) w fun t7 w1 =>
  readK Tryz.prog (sLoad T_string t0) w1 fun t9 =>
  pureK Tryz.prog (sSlice T_string t9 none (some t7) none) fun t11 =>
  upK Tryz.prog (sCall F_value_Parse #[t11]) w1 fun t12 w2 =>
  pureK Tryz.prog (sExtract t12 0) fun t13 =>
  pureK Tryz.prog (sExtract t12 1) fun t14 =>
  upK Tryz.prog (sAlloc T_api_Value) w2 fun v4 w3 =>
  upK Tryz.prog (sStore T_api_Value v4 t13) w3 fun tu w4 =>
  readK Tryz.prog (sLoad T_s_api_Value t1) (tick w4) fun t15 =>
  readK Tryz.prog (sLoad T_api_Value v4) (tick w4) fun t16 =>
  readK Tryz.prog (sLoad T_string t0) (tick w4) fun t19 =>
  pureK Tryz.prog (sSlice T_string t19 (some t7) none none) fun t21 =>
  upK Tryz.prog (sBuildSlice T_s_api_Value 1 #[(0, t16)]) (tick w4) fun t17 w5 =>
  Is Tryz.prog (sLoad T_string t0) t19 w5 ∧ Is Tryz.prog (sLoad T_s_api_Value t1) t15 w5 ∧ upK Tryz.prog (sBlt .append #[T_s_api_Value, T_s_api_Value] T_s_api_Value #[false, false] #[t15, t17]) w5 fun t18 w6 =>
  Is Tryz.prog (sLoad T_string t0) t19 w6 ∧ upK Tryz.prog (sStore T_s_api_Value t1 t18) w6 fun tu_1 w7 =>
  Is Tryz.prog (sLoad T_string t0) t19 w7 ∧ upK Tryz.prog (sStore T_string t0 t21) w7 fun tu_2 w8 =>
  K t14 w8
theorem value_ParseRow_1.pt_eq : value_ParseRow_1.pt = fun t0 t1 w K => FN Tryz.prog Tryz.f69 (bodyOf Tryz.f69) [2] .leaf [t0, t1] w K := by kernel_rfl
theorem value_ParseRow_1.call {t0 t1 : Value} {w : World} {K : Value → World → Prop} (h : value_ParseRow_1.pt t0 t1 w K) : Calls Tryz.prog F_value_ParseRow_1 #[t0, t1] w (retK K) :=
  calls_FN (args := [t0, t1]) Tryz.func69 (by kernel_rfl) (by rw [value_ParseRow_1.pt_eq] at h; exact h)
theorem value_ParseRow_1.up {t0 t1 : Value} {w : World} {K : Value → World → Prop} (h : Calls Tryz.prog F_value_ParseRow_1 #[t0, t1] w (retK K)) : upK Tryz.prog (sCall F_value_ParseRow_1 #[t0, t1]) w K :=
  up_call (fn := Tryz.f69) Tryz.func69 (by kernel_rfl) (by kernel_rfl) h

/-- errata/value.end -/
def value_end.pt (s0 : Value) (w : World) (K : Value → World → Prop) : Prop :=
  pureK Tryz.prog (sBin .eql T_string (.tmp 4) (.const (.string ⟨#[]⟩)) s0 (.string ⟨#[]⟩)) fun t5 =>
  ifB t5
  (pureK Tryz.prog (sBin .add T_string (.tmp 11) (.const (.string ⟨#[44]⟩)) s0 (.string ⟨#[44]⟩)) fun t12 =>
   upK Tryz.prog (sCall F_strings_IndexByte #[t12, (.int .u8 44)]) w fun t13 w1 =>
   K t13 w1)
  (pureK Tryz.prog (sIdx T_string s0 (.int .i64 0)) fun t8 =>
   pureK Tryz.prog (sBin .neq T_uint8 (.tmp 8) (.const (.int .u8 34)) t8 (.int .u8 34)) fun t9 =>
   ifB t9
   (pureK Tryz.prog (sBin .add T_string (.tmp 11) (.const (.string ⟨#[44]⟩)) s0 (.string ⟨#[44]⟩)) fun t12_1 =>
    upK Tryz.prog (sCall F_strings_IndexByte #[t12_1, (.int .u8 44)]) w fun t13_1 w2 =>
    K t13_1 w2)
   (LOOP (X := Value × Unit) (fun lv3 w3 next3 =>
     readK Tryz.prog (sBlt .len #[T_string] T_int #[false] #[s0]) w3 fun t16 =>
     pureK Tryz.prog (sBin .lss T_int (.tmp 14) (.tmp 16) lv3.1 t16) fun t17 =>
     ifB t17
     (LETJ (X := Value × Unit) (fun jv1 w4 =>
       pureK Tryz.prog (sBin .add T_int (.tmp 18) (.const (.int .i64 1)) jv1.1 (.int .i64 1)) fun t19 =>
       next3 (t19, ()) w4)
      (fun J1 =>
       pureK Tryz.prog (sIdx T_string s0 lv3.1) fun t22 =>
       pureK Tryz.prog (sBin .eql T_uint8 (.tmp 22) (.const (.int .u8 92)) t22 (.int .u8 92)) fun t24 =>
       ifB t24
       (pureK Tryz.prog (sBin .add T_int (.tmp 25) (.const (.int .i64 1)) lv3.1 (.int .i64 1)) fun t26 =>
        J1 (t26, ()) w3)
       (pureK Tryz.prog (sBin .eql T_uint8 (.tmp 22) (.const (.int .u8 34)) t22 (.int .u8 34)) fun t28 =>
        ifB t28
        (pureK Tryz.prog (sBin .add T_int (.tmp 29) (.const (.int .i64 1)) lv3.1 (.int .i64 1)) fun t30 =>
         K t30 w3)
        (J1 (lv3.1, ()) w3))))
     (readK Tryz.prog (sBlt .len #[T_string] T_int #[false] #[s0]) w3 fun t32 =>
      K t32 w3))
    ((.int .i64 1), ()) w))
theorem value_end.pt_eq : value_end.pt = fun s0 w K => FN Tryz.prog Tryz.f70 (bodyOf Tryz.f70) [2] (.node none .leaf (.node none .leaf (.node none (.node none .leaf (.node none (.node none (.node none .leaf (.node (some [3]) .leaf .leaf)) .leaf) .leaf)) .leaf))) [s0] w K := by kernel_rfl
theorem value_end.call {s0 : Value} {w : World} {K : Value → World → Prop} (h : value_end.pt s0 w K) : Calls Tryz.prog F_value_end #[s0] w (retK K) :=
  calls_FN (args := [s0]) Tryz.func70 (by kernel_rfl) (by rw [value_end.pt_eq] at h; exact h)
theorem value_end.up {s0 : Value} {w : World} {K : Value → World → Prop} (h : Calls Tryz.prog F_value_end #[s0] w (retK K)) : upK Tryz.prog (sCall F_value_end #[s0]) w K :=
  up_call (fn := Tryz.f70) Tryz.func70 (by kernel_rfl) (by kernel_rfl) h

/-- strings.HasPrefix -/
theorem strings_HasPrefix.up {p0 p1 : Value} {w : World} {K : Value → World → Prop} (h : Calls Tryz.prog F_strings_HasPrefix #[p0, p1] w (retK K)) : upK Tryz.prog (sCall F_strings_HasPrefix #[p0, p1]) w K :=
  up_call (fn := Tryz.f71) Tryz.func71 (by kernel_rfl) (by kernel_rfl) h

/-- slices.ContainsFunc[[]errata/api.Value,errata/api.Value] -/
def slices_ContainsFunc_s_api_Value_api_Value.pt (s0 f1 : Value) (w : World) (K : Value → World → Prop) : Prop :=
  upK Tryz.prog (sCall F_slices_IndexFunc_s_api_Value_api_Value #[s0, f1]) w fun t7 w1 =>
  pureK Tryz.prog (sBin .geq T_int (.tmp 7) (.const (.int .i64 0)) t7 (.int .i64 0)) fun t8 =>
  K t8 w1
theorem slices_ContainsFunc_s_api_Value_api_Value.pt_eq : slices_ContainsFunc_s_api_Value_api_Value.pt = fun s0 f1 w K => FN Tryz.prog Tryz.f72 (bodyOf Tryz.f72) [4] .leaf [s0, f1] w K := by kernel_rfl
theorem slices_ContainsFunc_s_api_Value_api_Value.call {s0 f1 : Value} {w : World} {K : Value → World → Prop} (h : slices_ContainsFunc_s_api_Value_api_Value.pt s0 f1 w K) : Calls Tryz.prog F_slices_ContainsFunc_s_api_Value_api_Value #[s0, f1] w (retK K) :=
  calls_FN (args := [s0, f1]) Tryz.func72 (by kernel_rfl) (by rw [slices_ContainsFunc_s_api_Value_api_Value.pt_eq] at h; exact h)
theorem slices_ContainsFunc_s_api_Value_api_Value.up {s0 f1 : Value} {w : World} {K : Value → World → Prop} (h : Calls Tryz.prog F_slices_ContainsFunc_s_api_Value_api_Value #[s0, f1] w (retK K)) : upK Tryz.prog (sCall F_slices_ContainsFunc_s_api_Value_api_Value #[s0, f1]) w K :=
  up_call (fn := Tryz.f72) Tryz.func72 (by kernel_rfl) (by kernel_rfl) h

/-- errata/value.all$1 -/
def value_all_1.pt (v0 : Value) (w : World) (K : Value → World → Prop) : Prop :=
  upK Tryz.prog (sBox T_api_Value v0) w fun v1 w1 =>
  readK Tryz.prog (sLoad T_api_Value v1) w1 fun t3 =>
  upK Tryz.prog (sCall F_value_Right #[t3]) w1 fun t4 w2 =>
  pureK Tryz.prog (sUn .not t4) fun t5 =>
  K t5 w2
theorem value_all_1.pt_eq : value_all_1.pt = fun v0 w K => FN Tryz.prog Tryz.f73 (bodyOf Tryz.f73) [2] .leaf [v0] w K := by kernel_rfl
theorem value_all_1.call {v0 : Value} {w : World} {K : Value → World → Prop} (h : value_all_1.pt v0 w K) : Calls Tryz.prog F_value_all_1 #[v0] w (retK K) :=
  calls_FN (args := [v0]) Tryz.func73 (by kernel_rfl) (by rw [value_all_1.pt_eq] at h; exact h)
theorem value_all_1.up {v0 : Value} {w : World} {K : Value → World → Prop} (h : Calls Tryz.prog F_value_all_1 #[v0] w (retK K)) : upK Tryz.prog (sCall F_value_all_1 #[v0]) w K :=
  up_call (fn := Tryz.f73) Tryz.func73 (by kernel_rfl) (by kernel_rfl) h

/-- (*strings.Builder).copyCheck -/
def strings_Builder_copyCheck.pt (b0 : Value) (w : World) (K : Value → World → Prop) : Prop :=
  pureK Tryz.prog (sNil b0) fun t3 =>
  pureK Tryz.prog (sFieldAddr T_strings_Builder t3 0) fun t4 =>
  readK Tryz.prog (sLoad T_p_strings_Builder t4) w fun t5 =>
  pureK Tryz.prog (sBin .eql T_p_strings_Builder (.tmp 5) (.const (.pointer none)) t5 (.pointer none)) fun t6 =>
  ifB t6
  (upK Tryz.prog (sConv T_p_strings_Builder T_unsafe_Pointer b0) w fun t9 w1 =>
   upK Tryz.prog (sCall F_internal_abi_NoEscape #[t9]) w1 fun t10 w2 =>
   upK Tryz.prog (sConv T_unsafe_Pointer T_p_strings_Builder t10) w2 fun t11 w3 =>
   pureK Tryz.prog (sNil b0) fun t12 =>
   pureK Tryz.prog (sFieldAddr T_strings_Builder t12 0) fun t13 =>
   upK Tryz.prog (sStore T_p_strings_Builder t13 t11) w3 fun tu w4 =>
   K (.tuple #[]) w4)
  (pureK Tryz.prog (sNil b0) fun t15 =>
   pureK Tryz.prog (sFieldAddr T_strings_Builder t15 0) fun t16 =>
   readK Tryz.prog (sLoad T_p_strings_Builder t16) w fun t17 =>
   pureK Tryz.prog (sBin .neq T_p_strings_Builder (.tmp 17) (.tmp 18) t17 b0) fun t19 =>
   ifB t19
   (False)
   (K (.tuple #[]) w))
theorem strings_Builder_copyCheck.pt_eq : strings_Builder_copyCheck.pt = fun b0 w K => FN Tryz.prog Tryz.f74 (bodyOf Tryz.f74) [] .leaf [b0] w K := by kernel_rfl
theorem strings_Builder_copyCheck.call {b0 : Value} {w : World} {K : Value → World → Prop} (h : strings_Builder_copyCheck.pt b0 w K) : Calls Tryz.prog F_strings_Builder_copyCheck #[b0] w (retK K) :=
  calls_FN (args := [b0]) Tryz.func74 (by kernel_rfl) (by rw [strings_Builder_copyCheck.pt_eq] at h; exact h)
theorem strings_Builder_copyCheck.up {b0 : Value} {w : World} {K : Value → World → Prop} (h : Calls Tryz.prog F_strings_Builder_copyCheck #[b0] w (retK K)) : upK Tryz.prog (sCall F_strings_Builder_copyCheck #[b0]) w K :=
  up_call (fn := Tryz.f74) Tryz.func74 (by kernel_rfl) (by kernel_rfl) h

/-- (*strings.Builder).Grow -/
theorem strings_Builder_Grow.up {p0 p1 : Value} {w : World} {K : Value → World → Prop} (h : Calls Tryz.prog F_strings_Builder_Grow #[p0, p1] w (retK K)) : upK Tryz.prog (sCall F_strings_Builder_Grow #[p0, p1]) w K :=
  up_call (fn := Tryz.f75) Tryz.func75 (by kernel_rfl) (by kernel_rfl) h

/-- strconv.Itoa -/
theorem strconv_Itoa.up {p0 : Value} {w : World} {K : Value → World → Prop} (h : Calls Tryz.prog F_strconv_Itoa #[p0] w (retK K)) : upK Tryz.prog (sCall F_strconv_Itoa #[p0]) w K :=
  up_call (fn := Tryz.f76) Tryz.func76 (by kernel_rfl) (by kernel_rfl) h

/-- errata/errataref01.digits -/
def errataref01_digits.pt (n0 : Value) (w : World) (K : Value → World → Prop) : Prop :=
  pureK Tryz.prog (sBin .rem T_int (.tmp 4) (.const (.int .i64 10)) n0 (.int .i64 10)) fun t5 =>
  pureK Tryz.prog (sBin .sub T_int (.const (.int .i64 48)) (.tmp 5) (.int .i64 48) t5) fun t6 =>
  upK Tryz.prog (sConv T_int T_uint8 t6) w fun t7 w1 =>
  upK Tryz.prog (sBuildSlice T_s_uint8 1 #[(0, t7)]) w1 fun t8 w2 =>
  upK Tryz.prog (sConv T_s_uint8 T_string t8) w2 fun t9 w3 =>
  pureK Tryz.prog (sBin .gtr T_int (.tmp 10) (.const (.int .i64 (-10))) n0 (.int .i64 (-10))) fun t11 =>
  ifB t11
  (K t9 w3)
  (pureK Tryz.prog (sBin .quo T_int (.tmp 13) (.const (.int .i64 10)) n0 (.int .i64 10)) fun t14 =>
   upK Tryz.prog (sCall F_errataref01_digits #[t14]) w3 fun t15 w4 =>
   pureK Tryz.prog (sBin .add T_string (.tmp 15) (.tmp 16) t15 t9) fun t17 =>
   K t17 w4)
theorem errataref01_digits.pt_eq : errataref01_digits.pt = fun n0 w K => FN Tryz.prog Tryz.f77 (bodyOf Tryz.f77) [2] .leaf [n0] w K := by kernel_rfl
theorem errataref01_digits.call {n0 : Value} {w : World} {K : Value → World → Prop} (h : errataref01_digits.pt n0 w K) : Calls Tryz.prog F_errataref01_digits #[n0] w (retK K) :=
  calls_FN (args := [n0]) Tryz.func77 (by kernel_rfl) (by rw [errataref01_digits.pt_eq] at h; exact h)
theorem errataref01_digits.up {n0 : Value} {w : World} {K : Value → World → Prop} (h : Calls Tryz.prog F_errataref01_digits #[n0] w (retK K)) : upK Tryz.prog (sCall F_errataref01_digits #[n0]) w K :=
  up_call (fn := Tryz.f77) Tryz.func77 (by kernel_rfl) (by kernel_rfl) h

/-- (*strings.Builder).WriteByte -/
theorem strings_Builder_WriteByte.up {p0 p1 : Value} {w : World} {K : Value → World → Prop} (h : Calls Tryz.prog F_strings_Builder_WriteByte #[p0, p1] w (retK K)) : upK Tryz.prog (sCall F_strings_Builder_WriteByte #[p0, p1]) w K :=
  up_call (fn := Tryz.f78) Tryz.func78 (by kernel_rfl) (by kernel_rfl) h

/-- cmp.isNaN[int] -/
def cmp_isNaN_int.pt (x0 : Value) (w : World) (K : Value → World → Prop) : Prop :=
  pureK Tryz.prog (sBin .neq T_int (.tmp 3) (.tmp 4) x0 x0) fun t5 =>
  K t5 w
theorem cmp_isNaN_int.pt_eq : cmp_isNaN_int.pt = fun x0 w K => FN Tryz.prog Tryz.f79 (bodyOf Tryz.f79) [2] .leaf [x0] w K := by kernel_rfl
theorem cmp_isNaN_int.call {x0 : Value} {w : World} {K : Value → World → Prop} (h : cmp_isNaN_int.pt x0 w K) : Calls Tryz.prog F_cmp_isNaN_int #[x0] w (retK K) :=
  calls_FN (args := [x0]) Tryz.func79 (by kernel_rfl) (by rw [cmp_isNaN_int.pt_eq] at h; exact h)
theorem cmp_isNaN_int.up {x0 : Value} {w : World} {K : Value → World → Prop} (h : Calls Tryz.prog F_cmp_isNaN_int #[x0] w (retK K)) : upK Tryz.prog (sCall F_cmp_isNaN_int #[x0]) w K :=
  up_call (fn := Tryz.f79) Tryz.func79 (by kernel_rfl) (by kernel_rfl) h

/-- internal/bytealg.CompareString -/
theorem internal_bytealg_CompareString.up {p0 p1 : Value} {w : World} {K : Value → World → Prop} (h : Calls Tryz.prog F_internal_bytealg_CompareString #[p0, p1] w (retK K)) : upK Tryz.prog (sCall F_internal_bytealg_CompareString #[p0, p1]) w K :=
  up_call (fn := Tryz.f80) Tryz.func80 (by kernel_rfl) (by kernel_rfl) h

/-- (*errata/wire.Reader).Int -/
def wire_Reader_Int.pt (r0 : Value) (w : World) (K : Value → World → Prop) : Prop :=
  upK Tryz.prog (sCall F_wire_Reader_number #[r0, (.int .u8 59), (.int .i64 (-9223372036854775808))]) w fun t4 w1 =>
  K t4 w1
theorem wire_Reader_Int.pt_eq : wire_Reader_Int.pt = fun r0 w K => FN Tryz.prog Tryz.f81 (bodyOf Tryz.f81) [2] .leaf [r0] w K := by kernel_rfl
theorem wire_Reader_Int.call {r0 : Value} {w : World} {K : Value → World → Prop} (h : wire_Reader_Int.pt r0 w K) : Calls Tryz.prog F_wire_Reader_Int #[r0] w (retK K) :=
  calls_FN (args := [r0]) Tryz.func81 (by kernel_rfl) (by rw [wire_Reader_Int.pt_eq] at h; exact h)
theorem wire_Reader_Int.up {r0 : Value} {w : World} {K : Value → World → Prop} (h : Calls Tryz.prog F_wire_Reader_Int #[r0] w (retK K)) : upK Tryz.prog (sCall F_wire_Reader_Int #[r0]) w K :=
  up_call (fn := Tryz.f81) Tryz.func81 (by kernel_rfl) (by kernel_rfl) h

/-- (*errata/wire.Reader).Text -/
def wire_Reader_Text.pt (r0 : Value) (w : World) (K : Value → World → Prop) : Prop :=
  upK Tryz.prog (sCall F_wire_Reader_number #[r0, (.int .u8 58), (.int .i64 0)]) w fun t6 w1 =>
  pureK Tryz.prog (sNil r0) fun t9 =>
  pureK Tryz.prog (sFieldAddr T_wire_Reader t9 0) fun t10 =>
  readK Tryz.prog (sLoad T_string t10) w1 fun t11 =>
  readK Tryz.prog (sBlt .len #[T_string] T_int #[false] #[t11]) w1 fun t12 =>
  pureK Tryz.prog (sBin .gtr T_int (.tmp 7) (.tmp 12) t6 t12) fun t13 =>
  ifB t13
  (upK Tryz.prog (sCall F_wire_Reader_fail #[r0]) w1 fun t15 w2 =>
   K (.string ⟨#[]⟩) w2)
  (pureK Tryz.prog (sNil r0) fun t17 =>
   pureK Tryz.prog (sFieldAddr T_wire_Reader t17 0) fun t18 =>
   readK Tryz.prog (sLoad T_string t18) w1 fun t19 =>
   pureK Tryz.prog (sSlice T_string t19 none (some t6) none) fun t21 =>
   pureK Tryz.prog (sNil r0) fun t24 =>
   pureK Tryz.prog (sFieldAddr T_wire_Reader t24 0) fun t25 =>
   readK Tryz.prog (sLoad T_string t25) w1 fun t26 =>
   pureK Tryz.prog (sSlice T_string t26 (some t6) none none) fun t28 =>
   pureK Tryz.prog (sNil r0) fun t29 =>
   pureK Tryz.prog (sFieldAddr T_wire_Reader t29 0) fun t30 =>
   upK Tryz.prog (sStore T_string t30 t28) w1 fun tu w3 =>
   upK Tryz.prog (sCall F_wire_Reader_close #[r0, (.string ⟨#[44]⟩)]) w3 fun t32 w4 =>
   pureK Tryz.prog (sNil r0) fun t34 =>
   pureK Tryz.prog (sFieldAddr T_wire_Reader t34 1) fun t35 =>
   readK Tryz.prog (sLoad T_bool t35) w4 fun t36 =>
   ifB t36
   (K (.string ⟨#[]⟩) w4)
   (K t21 w4))
theorem wire_Reader_Text.pt_eq : wire_Reader_Text.pt = fun r0 w K => FN Tryz.prog Tryz.f82 (bodyOf Tryz.f82) [2] .leaf [r0] w K := by kernel_rfl
theorem wire_Reader_Text.call {r0 : Value} {w : World} {K : Value → World → Prop} (h : wire_Reader_Text.pt r0 w K) : Calls Tryz.prog F_wire_Reader_Text #[r0] w (retK K) :=
  calls_FN (args := [r0]) Tryz.func82 (by kernel_rfl) (by rw [wire_Reader_Text.pt_eq] at h; exact h)
theorem wire_Reader_Text.up {r0 : Value} {w : World} {K : Value → World → Prop} (h : Calls Tryz.prog F_wire_Reader_Text #[r0] w (retK K)) : upK Tryz.prog (sCall F_wire_Reader_Text #[r0]) w K :=
  up_call (fn := Tryz.f82) Tryz.func82 (by kernel_rfl) (by kernel_rfl) h

/-- (*errata/errataref01.Reader).ahead -/
def errataref01_Reader_ahead.pt (r0 end1 : Value) (w : World) (K : Value → World → Prop) : Prop :=
  LETJ (X := Value × Unit) (fun jv1 w1 =>
   pureK Tryz.prog (sNil r0) fun t33 =>
   pureK Tryz.prog (sFieldAddr T_errataref01_Reader t33 0) fun t34 =>
   readK Tryz.prog (sLoad T_string t34) w1 fun t35 =>
   readK Tryz.prog (sBlt .len #[T_string] T_int #[false] #[t35]) w1 fun t36 =>
   pureK Tryz.prog (sBin .geq T_int (.tmp 31) (.tmp 36) jv1.1 t36) fun t37 =>
   ifB t37
   (upK Tryz.prog (sCall F_errataref01_Reader_fail #[r0]) w1 fun t39 w2 =>
    K t39 w2)
   (pureK Tryz.prog (sNil r0) fun t41 =>
    pureK Tryz.prog (sFieldAddr T_errataref01_Reader t41 0) fun t42 =>
    readK Tryz.prog (sLoad T_string t42) w1 fun t43 =>
    pureK Tryz.prog (sIdx T_string t43 jv1.1) fun t45 =>
    pureK Tryz.prog (sBin .neq T_uint8 (.tmp 45) (.tmp 46) t45 end1) fun t47 =>
    ifB t47
    (upK Tryz.prog (sCall F_errataref01_Reader_fail #[r0]) w1 fun t49 w3 =>
     K t49 w3)
    (pureK Tryz.prog (sNil r0) fun t52 =>
     pureK Tryz.prog (sFieldAddr T_errataref01_Reader t52 0) fun t53 =>
     readK Tryz.prog (sLoad T_string t53) w1 fun t54 =>
     pureK Tryz.prog (sSlice T_string t54 none (some jv1.1) none) fun t56 =>
     upK Tryz.prog (sCall F_errataref01_Back #[t56]) w1 fun t57 w4 =>
     pureK Tryz.prog (sExtract t57 0) fun t58 =>
     pureK Tryz.prog (sExtract t57 1) fun t59 =>
     pureK Tryz.prog (sUn .not t59) fun t61 =>
     ifB t61
     (upK Tryz.prog (sCall F_errataref01_Reader_fail #[r0]) w4 fun t63 w5 =>
      K t63 w5)
     (pureK Tryz.prog (sNil r0) fun t66 =>
      pureK Tryz.prog (sFieldAddr T_errataref01_Reader t66 0) fun t67 =>
      readK Tryz.prog (sLoad T_string t67) w4 fun t68 =>
      pureK Tryz.prog (sBin .add T_int (.tmp 69) (.const (.int .i64 1)) jv1.1 (.int .i64 1)) fun t70 =>
      pureK Tryz.prog (sSlice T_string t68 (some t70) none none) fun t71 =>
      pureK Tryz.prog (sNil r0) fun t72 =>
      pureK Tryz.prog (sFieldAddr T_errataref01_Reader t72 0) fun t73 =>
      upK Tryz.prog (sStore T_string t73 t71) w4 fun tu w6 =>
      K t58 w6))))
  (fun J1 =>
   LOOP (X := Value × Unit) (fun lv7 w7 next7 =>
    pureK Tryz.prog (sNil r0) fun t10 =>
    pureK Tryz.prog (sFieldAddr T_errataref01_Reader t10 0) fun t11 =>
    readK Tryz.prog (sLoad T_string t11) w7 fun t12 =>
    readK Tryz.prog (sBlt .len #[T_string] T_int #[false] #[t12]) w7 fun t13 =>
    pureK Tryz.prog (sBin .lss T_int (.tmp 8) (.tmp 13) lv7.1 t13) fun t14 =>
    ifB t14
    (pureK Tryz.prog (sBin .lss T_int (.tmp 16) (.const (.int .i64 21)) lv7.1 (.int .i64 21)) fun t17 =>
     ifB t17
     (pureK Tryz.prog (sNil r0) fun t21 =>
      pureK Tryz.prog (sFieldAddr T_errataref01_Reader t21 0) fun t22 =>
      readK Tryz.prog (sLoad T_string t22) w7 fun t23 =>
      pureK Tryz.prog (sIdx T_string t23 lv7.1) fun t25 =>
      pureK Tryz.prog (sBin .neq T_uint8 (.tmp 25) (.tmp 26) t25 end1) fun t27 =>
      ifB t27
      (pureK Tryz.prog (sBin .add T_int (.tmp 29) (.const (.int .i64 1)) lv7.1 (.int .i64 1)) fun t30 =>
       next7 (t30, ()) w7)
      (J1 (lv7.1, ()) w7))
     (J1 (lv7.1, ()) w7))
    (J1 (lv7.1, ()) w7))
   ((.int .i64 0), ()) w)
theorem errataref01_Reader_ahead.pt_eq : errataref01_Reader_ahead.pt = fun r0 end1 w K => FN Tryz.prog Tryz.f83 (bodyOf Tryz.f83) [4] (.node none .leaf (.node none .leaf (.node (some [5]) .leaf .leaf))) [r0, end1] w K := by kernel_rfl
theorem errataref01_Reader_ahead.call {r0 end1 : Value} {w : World} {K : Value → World → Prop} (h : errataref01_Reader_ahead.pt r0 end1 w K) : Calls Tryz.prog F_errataref01_Reader_ahead #[r0, end1] w (retK K) :=
  calls_FN (args := [r0, end1]) Tryz.func83 (by kernel_rfl) (by rw [errataref01_Reader_ahead.pt_eq] at h; exact h)
theorem errataref01_Reader_ahead.up {r0 end1 : Value} {w : World} {K : Value → World → Prop} (h : Calls Tryz.prog F_errataref01_Reader_ahead #[r0, end1] w (retK K)) : upK Tryz.prog (sCall F_errataref01_Reader_ahead #[r0, end1]) w K :=
  up_call (fn := Tryz.f83) Tryz.func83 (by kernel_rfl) (by kernel_rfl) h

/-- (*errata/errataref01.Reader).number -/
def errataref01_Reader_number.pt (r0 end1 : Value) (w : World) (K : Value → World → Prop) : Prop :=
  upK Tryz.prog (sCall F_errataref01_Reader_ahead #[r0, end1]) w fun t8 w1 =>
  pureK Tryz.prog (sBin .lss T_int (.tmp 9) (.const (.int .i64 0)) t8 (.int .i64 0)) fun t10 =>
  ifB t10
  (upK Tryz.prog (sCall F_errataref01_Reader_fail #[r0]) w1 fun t12 w2 =>
   K t12 w2)
  (K t8 w1)
theorem errataref01_Reader_number.pt_eq : errataref01_Reader_number.pt = fun r0 end1 w K => FN Tryz.prog Tryz.f84 (bodyOf Tryz.f84) [4] .leaf [r0, end1] w K := by kernel_rfl
theorem errataref01_Reader_number.call {r0 end1 : Value} {w : World} {K : Value → World → Prop} (h : errataref01_Reader_number.pt r0 end1 w K) : Calls Tryz.prog F_errataref01_Reader_number #[r0, end1] w (retK K) :=
  calls_FN (args := [r0, end1]) Tryz.func84 (by kernel_rfl) (by rw [errataref01_Reader_number.pt_eq] at h; exact h)
theorem errataref01_Reader_number.up {r0 end1 : Value} {w : World} {K : Value → World → Prop} (h : Calls Tryz.prog F_errataref01_Reader_number #[r0, end1] w (retK K)) : upK Tryz.prog (sCall F_errataref01_Reader_number #[r0, end1]) w K :=
  up_call (fn := Tryz.f84) Tryz.func84 (by kernel_rfl) (by kernel_rfl) h

/-- (*errata/errataref01.Reader).fail -/
def errataref01_Reader_fail.pt (r0 : Value) (w : World) (K : Value → World → Prop) : Prop :=
  pureK Tryz.prog (sNil r0) fun t4 =>
  pureK Tryz.prog (sFieldAddr T_errataref01_Reader t4 0) fun t5 =>
  upK Tryz.prog (sStore T_string t5 (.string ⟨#[]⟩)) w fun tu w1 =>
  pureK Tryz.prog (sNil r0) fun t7 =>
  pureK Tryz.prog (sFieldAddr T_errataref01_Reader t7 1) fun t8 =>
  upK Tryz.prog (sStore T_bool t8 (.bool true)) w1 fun tu_1 w2 =>
  K (.int .i64 0) w2
theorem errataref01_Reader_fail.pt_eq : errataref01_Reader_fail.pt = fun r0 w K => FN Tryz.prog Tryz.f85 (bodyOf Tryz.f85) [2] .leaf [r0] w K := by kernel_rfl
theorem errataref01_Reader_fail.call {r0 : Value} {w : World} {K : Value → World → Prop} (h : errataref01_Reader_fail.pt r0 w K) : Calls Tryz.prog F_errataref01_Reader_fail #[r0] w (retK K) :=
  calls_FN (args := [r0]) Tryz.func85 (by kernel_rfl) (by rw [errataref01_Reader_fail.pt_eq] at h; exact h)
theorem errataref01_Reader_fail.up {r0 : Value} {w : World} {K : Value → World → Prop} (h : Calls Tryz.prog F_errataref01_Reader_fail #[r0] w (retK K)) : upK Tryz.prog (sCall F_errataref01_Reader_fail #[r0]) w K :=
  up_call (fn := Tryz.f85) Tryz.func85 (by kernel_rfl) (by kernel_rfl) h

/-- (*errata/errataref01.Reader).close -/
def errataref01_Reader_close.pt (r0 end1 : Value) (w : World) (K : Value → World → Prop) : Prop :=
  pureK Tryz.prog (sNil r0) fun t6 =>
  pureK Tryz.prog (sFieldAddr T_errataref01_Reader t6 0) fun t7 =>
  readK Tryz.prog (sLoad T_string t7) w fun t8 =>
  readK Tryz.prog (sBlt .len #[T_string] T_int #[false] #[t8]) w fun t9 =>
  pureK Tryz.prog (sBin .eql T_int (.tmp 9) (.const (.int .i64 0)) t9 (.int .i64 0)) fun t10 =>
  ifB t10
  (upK Tryz.prog (sCall F_errataref01_Reader_fail #[r0]) w fun t12 w1 =>
   K (.bool false) w1)
  (pureK Tryz.prog (sNil r0) fun t14 =>
   pureK Tryz.prog (sFieldAddr T_errataref01_Reader t14 0) fun t15 =>
   readK Tryz.prog (sLoad T_string t15) w fun t16 =>
   pureK Tryz.prog (sIdx T_string t16 (.int .i64 0)) fun t17 =>
   pureK Tryz.prog (sBin .neq T_uint8 (.tmp 17) (.tmp 18) t17 end1) fun t19 =>
   ifB t19
   (upK Tryz.prog (sCall F_errataref01_Reader_fail #[r0]) w fun t21 w2 =>
    K (.bool false) w2)
   (pureK Tryz.prog (sNil r0) fun t24 =>
    pureK Tryz.prog (sFieldAddr T_errataref01_Reader t24 0) fun t25 =>
    readK Tryz.prog (sLoad T_string t25) w fun t26 =>
    pureK Tryz.prog (sSlice T_string t26 (some (.int .i64 1)) none none) fun t27 =>
    pureK Tryz.prog (sNil r0) fun t28 =>
    pureK Tryz.prog (sFieldAddr T_errataref01_Reader t28 0) fun t29 =>
    upK Tryz.prog (sStore T_string t29 t27) w fun tu w3 =>
    K (.bool true) w3))
theorem errataref01_Reader_close.pt_eq : errataref01_Reader_close.pt = fun r0 end1 w K => FN Tryz.prog Tryz.f86 (bodyOf Tryz.f86) [4] .leaf [r0, end1] w K := by kernel_rfl
theorem errataref01_Reader_close.call {r0 end1 : Value} {w : World} {K : Value → World → Prop} (h : errataref01_Reader_close.pt r0 end1 w K) : Calls Tryz.prog F_errataref01_Reader_close #[r0, end1] w (retK K) :=
  calls_FN (args := [r0, end1]) Tryz.func86 (by kernel_rfl) (by rw [errataref01_Reader_close.pt_eq] at h; exact h)
theorem errataref01_Reader_close.up {r0 end1 : Value} {w : World} {K : Value → World → Prop} (h : Calls Tryz.prog F_errataref01_Reader_close #[r0, end1] w (retK K)) : upK Tryz.prog (sCall F_errataref01_Reader_close #[r0, end1]) w K :=
  up_call (fn := Tryz.f86) Tryz.func86 (by kernel_rfl) (by kernel_rfl) h

/-- strconv.ParseInt -/
theorem strconv_ParseInt.up {p0 p1 p2 : Value} {w : World} {K : Value → World → Prop} (h : Calls Tryz.prog F_strconv_ParseInt #[p0, p1, p2] w (retK K)) : upK Tryz.prog (sCall F_strconv_ParseInt #[p0, p1, p2]) w K :=
  up_call (fn := Tryz.f87) Tryz.func87 (by kernel_rfl) (by kernel_rfl) h

/-- strconv.FormatInt -/
theorem strconv_FormatInt.up {p0 p1 : Value} {w : World} {K : Value → World → Prop} (h : Calls Tryz.prog F_strconv_FormatInt #[p0, p1] w (retK K)) : upK Tryz.prog (sCall F_strconv_FormatInt #[p0, p1]) w K :=
  up_call (fn := Tryz.f88) Tryz.func88 (by kernel_rfl) (by kernel_rfl) h

/-- strings.IndexByte -/
theorem strings_IndexByte.up {p0 p1 : Value} {w : World} {K : Value → World → Prop} (h : Calls Tryz.prog F_strings_IndexByte #[p0, p1] w (retK K)) : upK Tryz.prog (sCall F_strings_IndexByte #[p0, p1]) w K :=
  up_call (fn := Tryz.f89) Tryz.func89 (by kernel_rfl) (by kernel_rfl) h

/-- errata/errataref02.digit -/
def errataref02_digit.pt (c0 : Value) (w : World) (K : Value → World → Prop) : Prop :=
  LOOP (X := Value × Unit) (fun lv1 w1 next1 =>
   pureK Tryz.prog (sBin .lss T_int (.tmp 4) (.const (.int .i64 16)) lv1.1 (.int .i64 16)) fun t5 =>
   ifB t5
   (pureK Tryz.prog (sIdx T_string (.string ⟨#[48, 49, 50, 51, 52, 53, 54, 55, 56, 57, 97, 98, 99, 100, 101, 102]⟩) lv1.1) fun t9 =>
    pureK Tryz.prog (sBin .eql T_uint8 (.tmp 9) (.tmp 10) t9 c0) fun t11 =>
    ifB t11
    (upK Tryz.prog (sConv T_int T_uint8 lv1.1) w1 fun t13 w2 =>
     K t13 w2)
    (pureK Tryz.prog (sBin .add T_int (.tmp 6) (.const (.int .i64 1)) lv1.1 (.int .i64 1)) fun t7 =>
     next1 (t7, ()) w1))
   (K (.int .u8 0) w1))
  ((.int .i64 0), ()) w
theorem errataref02_digit.pt_eq : errataref02_digit.pt = fun c0 w K => FN Tryz.prog Tryz.f90 (bodyOf Tryz.f90) [2] .leaf [c0] w K := by kernel_rfl
theorem errataref02_digit.call {c0 : Value} {w : World} {K : Value → World → Prop} (h : errataref02_digit.pt c0 w K) : Calls Tryz.prog F_errataref02_digit #[c0] w (retK K) :=
  calls_FN (args := [c0]) Tryz.func90 (by kernel_rfl) (by rw [errataref02_digit.pt_eq] at h; exact h)
theorem errataref02_digit.up {c0 : Value} {w : World} {K : Value → World → Prop} (h : Calls Tryz.prog F_errataref02_digit #[c0] w (retK K)) : upK Tryz.prog (sCall F_errataref02_digit #[c0]) w K :=
  up_call (fn := Tryz.f90) Tryz.func90 (by kernel_rfl) (by kernel_rfl) h

/-- (*errata/wire.Reader).number -/
def wire_Reader_number.pt (r0 end1 least2 : Value) (w : World) (K : Value → World → Prop) : Prop :=
  pureK Tryz.prog (sNil r0) fun t12 =>
  pureK Tryz.prog (sFieldAddr T_wire_Reader t12 0) fun t13 =>
  readK Tryz.prog (sLoad T_string t13) (tick w) fun t14 =>
  pureK Tryz.prog (sNil r0) fun t16 =>
  pureK Tryz.prog (sFieldAddr T_wire_Reader t16 0) fun t17 =>
  readK Tryz.prog (sLoad T_string t17) (tick w) fun t18 =>
  readK Tryz.prog (sBlt .len #[T_string] T_int #[false] #[t18]) (tick w) fun t19 =>
  pureK Tryz.prog (sBlt .min #[T_int, T_int] T_int #[false, true] #[t19, (.int .i64 21)]) fun t20 =>
  pureK Tryz.prog (sSlice T_string t14 none (some t20) none) fun t21 =>
  upK Tryz.prog (sCall F_strings_IndexByte #[t21, end1]) (tick w) fun t24 w1 =>
  pureK Tryz.prog (sBin .lss T_int (.tmp 25) (.const (.int .i64 0)) t24 (.int .i64 0)) fun t26 =>
  ifB t26
  (upK Tryz.prog (sCall F_wire_Reader_fail #[r0]) w1 fun t28 w2 =>
   K (.int .i64 0) w2)
  (pureK Tryz.prog (sSlice T_string t21 none (some t24) none) fun t32 =>
   upK Tryz.prog (sCall F_strconv_Atoi #[t32]) w1 fun t33 w3 =>
   pureK Tryz.prog (sExtract t33 0) fun t34 =>
   pureK Tryz.prog (sExtract t33 1) fun t35 =>
   pureK Tryz.prog (sBin .neq T_error (.tmp 36) (.const .nilIface) t35 .nilIface) fun t37 =>
   ifB t37
   (upK Tryz.prog (sCall F_wire_Reader_fail #[r0]) (tick w3) fun t52 w4 =>
    K (.int .i64 0) w4)
   (pureK Tryz.prog (sSlice T_string t21 none (some t24) none) fun t43 =>
    upK Tryz.prog (sCall F_strconv_Itoa #[t34]) (tick w3) fun t40 w5 =>
    pureK Tryz.prog (sBin .neq T_string (.tmp 40) (.tmp 43) t40 t43) fun t44 =>
    ifB t44
    (upK Tryz.prog (sCall F_wire_Reader_fail #[r0]) w5 fun t52_1 w6 =>
     K (.int .i64 0) w6)
    (pureK Tryz.prog (sBin .lss T_int (.tmp 47) (.tmp 48) t34 least2) fun t49 =>
     ifB t49
     (upK Tryz.prog (sCall F_wire_Reader_fail #[r0]) w5 fun t52_2 w7 =>
      K (.int .i64 0) w7)
     (pureK Tryz.prog (sNil r0) fun t55 =>
      pureK Tryz.prog (sFieldAddr T_wire_Reader t55 0) fun t56 =>
      readK Tryz.prog (sLoad T_string t56) w5 fun t57 =>
      pureK Tryz.prog (sBin .add T_int (.tmp 58) (.const (.int .i64 1)) t24 (.int .i64 1)) fun t59 =>
      pureK Tryz.prog (sSlice T_string t57 (some t59) none none) fun t60 =>
      pureK Tryz.prog (sNil r0) fun t61 =>
      pureK Tryz.prog (sFieldAddr T_wire_Reader t61 0) fun t62 =>
      upK Tryz.prog (sStore T_string t62 t60) w5 fun tu w8 =>
      K t34 w8))))
theorem wire_Reader_number.pt_eq : wire_Reader_number.pt = fun r0 end1 least2 w K => FN Tryz.prog Tryz.f91 (bodyOf Tryz.f91) [6] .leaf [r0, end1, least2] w K := by kernel_rfl
theorem wire_Reader_number.call {r0 end1 least2 : Value} {w : World} {K : Value → World → Prop} (h : wire_Reader_number.pt r0 end1 least2 w K) : Calls Tryz.prog F_wire_Reader_number #[r0, end1, least2] w (retK K) :=
  calls_FN (args := [r0, end1, least2]) Tryz.func91 (by kernel_rfl) (by rw [wire_Reader_number.pt_eq] at h; exact h)
theorem wire_Reader_number.up {r0 end1 least2 : Value} {w : World} {K : Value → World → Prop} (h : Calls Tryz.prog F_wire_Reader_number #[r0, end1, least2] w (retK K)) : upK Tryz.prog (sCall F_wire_Reader_number #[r0, end1, least2]) w K :=
  up_call (fn := Tryz.f91) Tryz.func91 (by kernel_rfl) (by kernel_rfl) h

/-- internal/stringslite.HasPrefix -/
theorem internal_stringslite_HasPrefix.up {p0 p1 : Value} {w : World} {K : Value → World → Prop} (h : Calls Tryz.prog F_internal_stringslite_HasPrefix #[p0, p1] w (retK K)) : upK Tryz.prog (sCall F_internal_stringslite_HasPrefix #[p0, p1]) w K :=
  up_call (fn := Tryz.f92) Tryz.func92 (by kernel_rfl) (by kernel_rfl) h

/-- slices.IndexFunc[[]errata/api.Value,errata/api.Value] -/
def slices_IndexFunc_s_api_Value_api_Value.pt (s0 f1 : Value) (w : World) (K : Value → World → Prop) : Prop :=
  readK Tryz.prog (sBlt .len #[T_s_api_Value] T_int #[false] #[s0]) w fun t7 =>
  LOOP (X := Value × Unit) (fun lv1 w1 next1 =>
   pureK Tryz.prog (sBin .lss T_int (.tmp 8) (.tmp 7) lv1.1 t7) fun t9 =>
   ifB t9
   (pureK Tryz.prog (sIdxAddr T_s_api_Value s0 lv1.1) fun t14 =>
    readK Tryz.prog (sLoad T_api_Value t14) w1 fun t15 =>
    upK Tryz.prog (sCallV f1 #[t15]) w1 fun t16 w2 =>
    ifB t16
    (K lv1.1 w2)
    (pureK Tryz.prog (sBin .add T_int (.tmp 8) (.const (.int .i64 1)) lv1.1 (.int .i64 1)) fun t18 =>
     next1 (t18, ()) w2))
   (K (.int .i64 (-1)) w1))
  ((.int .i64 0), ()) w
theorem slices_IndexFunc_s_api_Value_api_Value.pt_eq : slices_IndexFunc_s_api_Value_api_Value.pt = fun s0 f1 w K => FN Tryz.prog Tryz.f93 (bodyOf Tryz.f93) [4] .leaf [s0, f1] w K := by kernel_rfl
theorem slices_IndexFunc_s_api_Value_api_Value.call {s0 f1 : Value} {w : World} {K : Value → World → Prop} (h : slices_IndexFunc_s_api_Value_api_Value.pt s0 f1 w K) : Calls Tryz.prog F_slices_IndexFunc_s_api_Value_api_Value #[s0, f1] w (retK K) :=
  calls_FN (args := [s0, f1]) Tryz.func93 (by kernel_rfl) (by rw [slices_IndexFunc_s_api_Value_api_Value.pt_eq] at h; exact h)
theorem slices_IndexFunc_s_api_Value_api_Value.up {s0 f1 : Value} {w : World} {K : Value → World → Prop} (h : Calls Tryz.prog F_slices_IndexFunc_s_api_Value_api_Value #[s0, f1] w (retK K)) : upK Tryz.prog (sCall F_slices_IndexFunc_s_api_Value_api_Value #[s0, f1]) w K :=
  up_call (fn := Tryz.f93) Tryz.func93 (by kernel_rfl) (by kernel_rfl) h

/-- (*strings.Builder).grow -/
theorem strings_Builder_grow.up {p0 p1 : Value} {w : World} {K : Value → World → Prop} (h : Calls Tryz.prog F_strings_Builder_grow #[p0, p1] w (retK K)) : upK Tryz.prog (sCall F_strings_Builder_grow #[p0, p1]) w K :=
  up_call (fn := Tryz.f95) Tryz.func95 (by kernel_rfl) (by kernel_rfl) h

/-- internal/strconv.Itoa -/
theorem internal_strconv_Itoa.up {p0 : Value} {w : World} {K : Value → World → Prop} (h : Calls Tryz.prog F_internal_strconv_Itoa #[p0] w (retK K)) : upK Tryz.prog (sCall F_internal_strconv_Itoa #[p0]) w K :=
  up_call (fn := Tryz.f96) Tryz.func96 (by kernel_rfl) (by kernel_rfl) h

/-- (*errata/wire.Reader).fail -/
def wire_Reader_fail.pt (r0 : Value) (w : World) (K : Value → World → Prop) : Prop :=
  pureK Tryz.prog (sNil r0) fun t4 =>
  pureK Tryz.prog (sFieldAddr T_wire_Reader t4 0) fun t5 =>
  upK Tryz.prog (sStore T_string t5 (.string ⟨#[]⟩)) w fun tu w1 =>
  pureK Tryz.prog (sNil r0) fun t6 =>
  pureK Tryz.prog (sFieldAddr T_wire_Reader t6 1) fun t7 =>
  upK Tryz.prog (sStore T_bool t7 (.bool true)) w1 fun tu_1 w2 =>
  K (.tuple #[]) w2
theorem wire_Reader_fail.pt_eq : wire_Reader_fail.pt = fun r0 w K => FN Tryz.prog Tryz.f98 (bodyOf Tryz.f98) [] .leaf [r0] w K := by kernel_rfl
theorem wire_Reader_fail.call {r0 : Value} {w : World} {K : Value → World → Prop} (h : wire_Reader_fail.pt r0 w K) : Calls Tryz.prog F_wire_Reader_fail #[r0] w (retK K) :=
  calls_FN (args := [r0]) Tryz.func98 (by kernel_rfl) (by rw [wire_Reader_fail.pt_eq] at h; exact h)
theorem wire_Reader_fail.up {r0 : Value} {w : World} {K : Value → World → Prop} (h : Calls Tryz.prog F_wire_Reader_fail #[r0] w (retK K)) : upK Tryz.prog (sCall F_wire_Reader_fail #[r0]) w K :=
  up_call (fn := Tryz.f98) Tryz.func98 (by kernel_rfl) (by kernel_rfl) h

/-- (*errata/wire.Reader).close -/
def wire_Reader_close.pt (r0 end1 : Value) (w : World) (K : Value → World → Prop) : Prop :=
  pureK Tryz.prog (sNil r0) fun t8 =>
  pureK Tryz.prog (sFieldAddr T_wire_Reader t8 0) fun t9 =>
  readK Tryz.prog (sLoad T_string t9) w fun t10 =>
  upK Tryz.prog (sCall F_strings_CutPrefix #[t10, end1]) w fun t12 w1 =>
  pureK Tryz.prog (sExtract t12 0) fun t13 =>
  pureK Tryz.prog (sExtract t12 1) fun t14 =>
  pureK Tryz.prog (sNil r0) fun t17 =>
  pureK Tryz.prog (sFieldAddr T_wire_Reader t17 0) fun t18 =>
  upK Tryz.prog (sStore T_string t18 t13) w1 fun tu w2 =>
  pureK Tryz.prog (sUn .not t14) fun t20 =>
  ifB t20
  (upK Tryz.prog (sCall F_wire_Reader_fail #[r0]) w2 fun t22 w3 =>
   K (.tuple #[]) w3)
  (K (.tuple #[]) w2)
theorem wire_Reader_close.pt_eq : wire_Reader_close.pt = fun r0 end1 w K => FN Tryz.prog Tryz.f99 (bodyOf Tryz.f99) [] .leaf [r0, end1] w K := by kernel_rfl
theorem wire_Reader_close.call {r0 end1 : Value} {w : World} {K : Value → World → Prop} (h : wire_Reader_close.pt r0 end1 w K) : Calls Tryz.prog F_wire_Reader_close #[r0, end1] w (retK K) :=
  calls_FN (args := [r0, end1]) Tryz.func99 (by kernel_rfl) (by rw [wire_Reader_close.pt_eq] at h; exact h)
theorem wire_Reader_close.up {r0 end1 : Value} {w : World} {K : Value → World → Prop} (h : Calls Tryz.prog F_wire_Reader_close #[r0, end1] w (retK K)) : upK Tryz.prog (sCall F_wire_Reader_close #[r0, end1]) w K :=
  up_call (fn := Tryz.f99) Tryz.func99 (by kernel_rfl) (by kernel_rfl) h

/-- errata/errataref01.Back -/
def errataref01_Back.pt (s0 : Value) (w : World) (K : Value → World → Prop) : Prop :=
  LETJ (X := Value × Unit) (fun jv1 w1 =>
   LOOP (X := Value × Value × Unit) (fun lv2 w2 next2 =>
    readK Tryz.prog (sBlt .len #[T_string] T_int #[false] #[s0]) w2 fun t18 =>
    pureK Tryz.prog (sBin .lss T_int (.tmp 16) (.tmp 18) lv2.2.1 t18) fun t19 =>
    ifB t19
    (pureK Tryz.prog (sIdx T_string s0 lv2.2.1) fun t24 =>
     pureK Tryz.prog (sBin .lss T_uint8 (.tmp 24) (.const (.int .u8 48)) t24 (.int .u8 48)) fun t25 =>
     ifB t25
     (K (.tuple #[(.int .i64 0), (.bool false)]) w2)
     (pureK Tryz.prog (sIdx T_string s0 lv2.2.1) fun t29 =>
      pureK Tryz.prog (sBin .gtr T_uint8 (.tmp 29) (.const (.int .u8 57)) t29 (.int .u8 57)) fun t30 =>
      ifB t30
      (K (.tuple #[(.int .i64 0), (.bool false)]) w2)
      (pureK Tryz.prog (sBin .gtr T_int (.tmp 33) (.const (.int .i64 20)) lv2.2.1 (.int .i64 20)) fun t34 =>
       ifB t34
       (K (.tuple #[(.int .i64 0), (.bool false)]) w2)
       (pureK Tryz.prog (sBin .mul T_int (.const (.int .i64 10)) (.tmp 36) (.int .i64 10) lv2.1) fun t37 =>
        pureK Tryz.prog (sIdx T_string s0 lv2.2.1) fun t40 =>
        pureK Tryz.prog (sBin .sub T_uint8 (.tmp 40) (.const (.int .u8 48)) t40 (.int .u8 48)) fun t41 =>
        upK Tryz.prog (sConv T_uint8 T_int t41) w2 fun t42 w3 =>
        pureK Tryz.prog (sBin .sub T_int (.tmp 37) (.tmp 42) t37 t42) fun t43 =>
        pureK Tryz.prog (sBin .add T_int (.tmp 20) (.const (.int .i64 1)) lv2.2.1 (.int .i64 1)) fun t21 =>
        next2 (t43, t21, ()) w3))))
    (LETJ (X := Value × Unit) (fun jv2 w4 =>
      upK Tryz.prog (sCall F_errataref01_Int #[jv2.1]) w4 fun t50 w5 =>
      pureK Tryz.prog (sBin .add T_string (.tmp 51) (.const (.string ⟨#[59]⟩)) s0 (.string ⟨#[59]⟩)) fun t52 =>
      pureK Tryz.prog (sBin .eql T_string (.tmp 50) (.tmp 52) t50 t52) fun t53 =>
      K (.tuple #[jv2.1, t53]) w5)
     (fun J2 =>
      pureK Tryz.prog (sBin .eql T_int (.tmp 44) (.const (.int .i64 0)) jv1.1 (.int .i64 0)) fun t45 =>
      ifB t45
      (pureK Tryz.prog (sUn .neg lv2.1) fun t47 =>
       J2 (t47, ()) w2)
      (J2 (lv2.1, ()) w2))))
   ((.int .i64 0), jv1.1, ()) w1)
  (fun J1 =>
   readK Tryz.prog (sBlt .len #[T_string] T_int #[false] #[s0]) w fun t8 =>
   pureK Tryz.prog (sBin .gtr T_int (.tmp 8) (.const (.int .i64 0)) t8 (.int .i64 0)) fun t9 =>
   ifB t9
   (pureK Tryz.prog (sIdx T_string s0 (.int .i64 0)) fun t12 =>
    pureK Tryz.prog (sBin .eql T_uint8 (.tmp 12) (.const (.int .u8 45)) t12 (.int .u8 45)) fun t13 =>
    ifB t13
    (J1 ((.int .i64 1), ()) w)
    (J1 ((.int .i64 0), ()) w))
   (J1 ((.int .i64 0), ()) w))
theorem errataref01_Back.pt_eq : errataref01_Back.pt = fun s0 w K => FN Tryz.prog Tryz.f100 (bodyOf Tryz.f100) [2, 3] (.node none .leaf (.node none .leaf (.node (some [4]) .leaf (.node none .leaf (.node none .leaf (.node (some [5]) .leaf .leaf)))))) [s0] w K := by kernel_rfl
theorem errataref01_Back.call {s0 : Value} {w : World} {K : Value → World → Prop} (h : errataref01_Back.pt s0 w K) : Calls Tryz.prog F_errataref01_Back #[s0] w (retK K) :=
  calls_FN (args := [s0]) Tryz.func100 (by kernel_rfl) (by rw [errataref01_Back.pt_eq] at h; exact h)
theorem errataref01_Back.up {s0 : Value} {w : World} {K : Value → World → Prop} (h : Calls Tryz.prog F_errataref01_Back #[s0] w (retK K)) : upK Tryz.prog (sCall F_errataref01_Back #[s0]) w K :=
  up_call (fn := Tryz.f100) Tryz.func100 (by kernel_rfl) (by kernel_rfl) h

/-- internal/strconv.ParseInt -/
theorem internal_strconv_ParseInt.up {p0 p1 p2 : Value} {w : World} {K : Value → World → Prop} (h : Calls Tryz.prog F_internal_strconv_ParseInt #[p0, p1, p2] w (retK K)) : upK Tryz.prog (sCall F_internal_strconv_ParseInt #[p0, p1, p2]) w K :=
  up_call (fn := Tryz.f101) Tryz.func101 (by kernel_rfl) (by kernel_rfl) h

/-- strconv.toError -/
theorem strconv_toError.up {p0 p1 p2 p3 p4 : Value} {w : World} {K : Value → World → Prop} (h : Calls Tryz.prog F_strconv_toError #[p0, p1, p2, p3, p4] w (retK K)) : upK Tryz.prog (sCall F_strconv_toError #[p0, p1, p2, p3, p4]) w K :=
  up_call (fn := Tryz.f102) Tryz.func102 (by kernel_rfl) (by kernel_rfl) h

/-- internal/strconv.FormatInt -/
theorem internal_strconv_FormatInt.up {p0 p1 : Value} {w : World} {K : Value → World → Prop} (h : Calls Tryz.prog F_internal_strconv_FormatInt #[p0, p1] w (retK K)) : upK Tryz.prog (sCall F_internal_strconv_FormatInt #[p0, p1]) w K :=
  up_call (fn := Tryz.f103) Tryz.func103 (by kernel_rfl) (by kernel_rfl) h

/-- internal/stringslite.IndexByte -/
theorem internal_stringslite_IndexByte.up {p0 p1 : Value} {w : World} {K : Value → World → Prop} (h : Calls Tryz.prog F_internal_stringslite_IndexByte #[p0, p1] w (retK K)) : upK Tryz.prog (sCall F_internal_stringslite_IndexByte #[p0, p1]) w K :=
  up_call (fn := Tryz.f104) Tryz.func104 (by kernel_rfl) (by kernel_rfl) h

/-- strconv.Atoi -/
theorem strconv_Atoi.up {p0 : Value} {w : World} {K : Value → World → Prop} (h : Calls Tryz.prog F_strconv_Atoi #[p0] w (retK K)) : upK Tryz.prog (sCall F_strconv_Atoi #[p0]) w K :=
  up_call (fn := Tryz.f105) Tryz.func105 (by kernel_rfl) (by kernel_rfl) h

/-- strings.CutPrefix -/
theorem strings_CutPrefix.up {p0 p1 : Value} {w : World} {K : Value → World → Prop} (h : Calls Tryz.prog F_strings_CutPrefix #[p0, p1] w (retK K)) : upK Tryz.prog (sCall F_strings_CutPrefix #[p0, p1]) w K :=
  up_call (fn := Tryz.f107) Tryz.func107 (by kernel_rfl) (by kernel_rfl) h

/-- internal/strconv.ParseUint -/
theorem internal_strconv_ParseUint.up {p0 p1 p2 : Value} {w : World} {K : Value → World → Prop} (h : Calls Tryz.prog F_internal_strconv_ParseUint #[p0, p1, p2] w (retK K)) : upK Tryz.prog (sCall F_internal_strconv_ParseUint #[p0, p1, p2]) w K :=
  up_call (fn := Tryz.f108) Tryz.func108 (by kernel_rfl) (by kernel_rfl) h

/-- strconv.syntaxError -/
theorem strconv_syntaxError.up {p0 p1 : Value} {w : World} {K : Value → World → Prop} (h : Calls Tryz.prog F_strconv_syntaxError #[p0, p1] w (retK K)) : upK Tryz.prog (sCall F_strconv_syntaxError #[p0, p1]) w K :=
  up_call (fn := Tryz.f109) Tryz.func109 (by kernel_rfl) (by kernel_rfl) h

/-- strconv.rangeError -/
theorem strconv_rangeError.up {p0 p1 : Value} {w : World} {K : Value → World → Prop} (h : Calls Tryz.prog F_strconv_rangeError #[p0, p1] w (retK K)) : upK Tryz.prog (sCall F_strconv_rangeError #[p0, p1]) w K :=
  up_call (fn := Tryz.f110) Tryz.func110 (by kernel_rfl) (by kernel_rfl) h

/-- strconv.baseError -/
theorem strconv_baseError.up {p0 p1 p2 : Value} {w : World} {K : Value → World → Prop} (h : Calls Tryz.prog F_strconv_baseError #[p0, p1, p2] w (retK K)) : upK Tryz.prog (sCall F_strconv_baseError #[p0, p1, p2]) w K :=
  up_call (fn := Tryz.f111) Tryz.func111 (by kernel_rfl) (by kernel_rfl) h

/-- strconv.bitSizeError -/
theorem strconv_bitSizeError.up {p0 p1 p2 : Value} {w : World} {K : Value → World → Prop} (h : Calls Tryz.prog F_strconv_bitSizeError #[p0, p1, p2] w (retK K)) : upK Tryz.prog (sCall F_strconv_bitSizeError #[p0, p1, p2]) w K :=
  up_call (fn := Tryz.f112) Tryz.func112 (by kernel_rfl) (by kernel_rfl) h

/-- internal/strconv.small -/
theorem internal_strconv_small.up {p0 : Value} {w : World} {K : Value → World → Prop} (h : Calls Tryz.prog F_internal_strconv_small #[p0] w (retK K)) : upK Tryz.prog (sCall F_internal_strconv_small #[p0]) w K :=
  up_call (fn := Tryz.f113) Tryz.func113 (by kernel_rfl) (by kernel_rfl) h

/-- internal/strconv.numDigits -/
theorem internal_strconv_numDigits.up {p0 : Value} {w : World} {K : Value → World → Prop} (h : Calls Tryz.prog F_internal_strconv_numDigits #[p0] w (retK K)) : upK Tryz.prog (sCall F_internal_strconv_numDigits #[p0]) w K :=
  up_call (fn := Tryz.f114) Tryz.func114 (by kernel_rfl) (by kernel_rfl) h

/-- internal/strconv.formatBase10 -/
theorem internal_strconv_formatBase10.up {p0 p1 : Value} {w : World} {K : Value → World → Prop} (h : Calls Tryz.prog F_internal_strconv_formatBase10 #[p0, p1] w (retK K)) : upK Tryz.prog (sCall F_internal_strconv_formatBase10 #[p0, p1]) w K :=
  up_call (fn := Tryz.f115) Tryz.func115 (by kernel_rfl) (by kernel_rfl) h

/-- internal/strconv.formatBits -/
theorem internal_strconv_formatBits.up {p0 p1 p2 p3 p4 : Value} {w : World} {K : Value → World → Prop} (h : Calls Tryz.prog F_internal_strconv_formatBits #[p0, p1, p2, p3, p4] w (retK K)) : upK Tryz.prog (sCall F_internal_strconv_formatBits #[p0, p1, p2, p3, p4]) w K :=
  up_call (fn := Tryz.f116) Tryz.func116 (by kernel_rfl) (by kernel_rfl) h

/-- internal/strconv.Atoi -/
theorem internal_strconv_Atoi.up {p0 : Value} {w : World} {K : Value → World → Prop} (h : Calls Tryz.prog F_internal_strconv_Atoi #[p0] w (retK K)) : upK Tryz.prog (sCall F_internal_strconv_Atoi #[p0]) w K :=
  up_call (fn := Tryz.f118) Tryz.func118 (by kernel_rfl) (by kernel_rfl) h

/-- internal/stringslite.CutPrefix -/
theorem internal_stringslite_CutPrefix.up {p0 p1 : Value} {w : World} {K : Value → World → Prop} (h : Calls Tryz.prog F_internal_stringslite_CutPrefix #[p0, p1] w (retK K)) : upK Tryz.prog (sCall F_internal_stringslite_CutPrefix #[p0, p1]) w K :=
  up_call (fn := Tryz.f119) Tryz.func119 (by kernel_rfl) (by kernel_rfl) h

/-- internal/strconv.lower -/
theorem internal_strconv_lower.up {p0 : Value} {w : World} {K : Value → World → Prop} (h : Calls Tryz.prog F_internal_strconv_lower #[p0] w (retK K)) : upK Tryz.prog (sCall F_internal_strconv_lower #[p0]) w K :=
  up_call (fn := Tryz.f120) Tryz.func120 (by kernel_rfl) (by kernel_rfl) h

/-- internal/strconv.underscoreOK -/
theorem internal_strconv_underscoreOK.up {p0 : Value} {w : World} {K : Value → World → Prop} (h : Calls Tryz.prog F_internal_strconv_underscoreOK #[p0] w (retK K)) : upK Tryz.prog (sCall F_internal_strconv_underscoreOK #[p0]) w K :=
  up_call (fn := Tryz.f121) Tryz.func121 (by kernel_rfl) (by kernel_rfl) h

/-- internal/stringslite.Clone -/
theorem internal_stringslite_Clone.up {p0 : Value} {w : World} {K : Value → World → Prop} (h : Calls Tryz.prog F_internal_stringslite_Clone #[p0] w (retK K)) : upK Tryz.prog (sCall F_internal_stringslite_Clone #[p0]) w K :=
  up_call (fn := Tryz.f122) Tryz.func122 (by kernel_rfl) (by kernel_rfl) h

/-- errors.New -/
theorem errors_New.up {p0 : Value} {w : World} {K : Value → World → Prop} (h : Calls Tryz.prog F_errors_New #[p0] w (retK K)) : upK Tryz.prog (sCall F_errors_New #[p0]) w K :=
  up_call (fn := Tryz.f123) Tryz.func123 (by kernel_rfl) (by kernel_rfl) h

/-- internal/strconv.log10Pow2 -/
theorem internal_strconv_log10Pow2.up {p0 : Value} {w : World} {K : Value → World → Prop} (h : Calls Tryz.prog F_internal_strconv_log10Pow2 #[p0] w (retK K)) : upK Tryz.prog (sCall F_internal_strconv_log10Pow2 #[p0]) w K :=
  up_call (fn := Tryz.f124) Tryz.func124 (by kernel_rfl) (by kernel_rfl) h

/-- math/bits.Len64 -/
theorem math_bits_Len64.up {p0 : Value} {w : World} {K : Value → World → Prop} (h : Calls Tryz.prog F_math_bits_Len64 #[p0] w (retK K)) : upK Tryz.prog (sCall F_math_bits_Len64 #[p0]) w K :=
  up_call (fn := Tryz.f125) Tryz.func125 (by kernel_rfl) (by kernel_rfl) h

/-- internal/strconv.bool2[int] -/
theorem internal_strconv_bool2_int.up {p0 : Value} {w : World} {K : Value → World → Prop} (h : Calls Tryz.prog F_internal_strconv_bool2_int #[p0] w (retK K)) : upK Tryz.prog (sCall F_internal_strconv_bool2_int #[p0]) w K :=
  up_call (fn := Tryz.f126) Tryz.func126 (by kernel_rfl) (by kernel_rfl) h

/-- internal/strconv.isPowerOfTwo -/
theorem internal_strconv_isPowerOfTwo.up {p0 : Value} {w : World} {K : Value → World → Prop} (h : Calls Tryz.prog F_internal_strconv_isPowerOfTwo #[p0] w (retK K)) : upK Tryz.prog (sCall F_internal_strconv_isPowerOfTwo #[p0]) w K :=
  up_call (fn := Tryz.f127) Tryz.func127 (by kernel_rfl) (by kernel_rfl) h

/-- math/bits.TrailingZeros -/
theorem math_bits_TrailingZeros.up {p0 : Value} {w : World} {K : Value → World → Prop} (h : Calls Tryz.prog F_math_bits_TrailingZeros #[p0] w (retK K)) : upK Tryz.prog (sCall F_math_bits_TrailingZeros #[p0]) w K :=
  up_call (fn := Tryz.f128) Tryz.func128 (by kernel_rfl) (by kernel_rfl) h

/-- math/bits.TrailingZeros32 -/
theorem math_bits_TrailingZeros32.up {p0 : Value} {w : World} {K : Value → World → Prop} (h : Calls Tryz.prog F_math_bits_TrailingZeros32 #[p0] w (retK K)) : upK Tryz.prog (sCall F_math_bits_TrailingZeros32 #[p0]) w K :=
  up_call (fn := Tryz.f129) Tryz.func129 (by kernel_rfl) (by kernel_rfl) h

/-- math/bits.TrailingZeros64 -/
theorem math_bits_TrailingZeros64.up {p0 : Value} {w : World} {K : Value → World → Prop} (h : Calls Tryz.prog F_math_bits_TrailingZeros64 #[p0] w (retK K)) : upK Tryz.prog (sCall F_math_bits_TrailingZeros64 #[p0]) w K :=
  up_call (fn := Tryz.f130) Tryz.func130 (by kernel_rfl) (by kernel_rfl) h

end Go.Proofs.YtifhbaphlmhoeaaGreatDoor
