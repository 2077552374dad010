/-
  The reckoned conditions of the functions that this seat's statements reach, printed by program, each held against the translation by the kernel. No condition.
-/
import Derived.Test.YtefinemhfgdpdaaGreatDoorNames
namespace Go.Proofs.YtefinemhfgdpdaaGreatDoor
set_option linter.unusedVariables false
set_option maxRecDepth 100000

/-- slices.partitionOrdered[int] -/
def slices_partitionOrdered_int.pt (data0 a1 b2 pivot3 : Value) (w : World) (K : Value → World → Prop) : Prop :=
  pureK Tryz.prog (sIdxAddr T_s_int data0 pivot3) fun t18 =>
  readK Tryz.prog (sLoad T_int t18) (tick w) fun t19 =>
  pureK Tryz.prog (sIdxAddr T_s_int data0 a1) fun t22 =>
  readK Tryz.prog (sLoad T_int t22) (tick w) fun t23 =>
  pureK Tryz.prog (sIdxAddr T_s_int data0 a1) fun t24 =>
  upK Tryz.prog (sStore T_int t24 t19) (tick w) fun tu w1 =>
  pureK Tryz.prog (sIdxAddr T_s_int data0 pivot3) fun t25 =>
  upK Tryz.prog (sStore T_int t25 t23) w1 fun tu_1 w2 =>
  pureK Tryz.prog (sBin .add T_int (.tmp 26) (.const (.int .i64 1)) a1 (.int .i64 1)) fun t27 =>
  pureK Tryz.prog (sBin .sub T_int (.tmp 28) (.const (.int .i64 1)) b2 (.int .i64 1)) fun t29 =>
  LETJ (X := Value × Unit) (fun jv1 w3 =>
   LETJ (X := Value × Unit) (fun jv2 w4 =>
    pureK Tryz.prog (sBin .gtr T_int (.tmp 63) (.tmp 64) jv1.1 jv2.1) fun t65 =>
    ifB t65
    (pureK Tryz.prog (sIdxAddr T_s_int data0 a1) fun t72 =>
     readK Tryz.prog (sLoad T_int t72) (tick w4) fun t73 =>
     pureK Tryz.prog (sIdxAddr T_s_int data0 jv2.1) fun t76 =>
     readK Tryz.prog (sLoad T_int t76) (tick w4) fun t77 =>
     pureK Tryz.prog (sIdxAddr T_s_int data0 jv2.1) fun t78 =>
     upK Tryz.prog (sStore T_int t78 t73) (tick w4) fun tu_2 w5 =>
     pureK Tryz.prog (sIdxAddr T_s_int data0 a1) fun t79 =>
     upK Tryz.prog (sStore T_int t79 t77) w5 fun tu_3 w6 =>
     K (.tuple #[jv2.1, (.bool true)]) w6)
    (pureK Tryz.prog (sIdxAddr T_s_int data0 jv2.1) fun t87 =>
     readK Tryz.prog (sLoad T_int t87) (tick w4) fun t88 =>
     pureK Tryz.prog (sIdxAddr T_s_int data0 jv1.1) fun t91 =>
     readK Tryz.prog (sLoad T_int t91) (tick w4) fun t92 =>
     pureK Tryz.prog (sIdxAddr T_s_int data0 jv1.1) fun t93 =>
     upK Tryz.prog (sStore T_int t93 t88) (tick w4) fun tu_4 w7 =>
     pureK Tryz.prog (sIdxAddr T_s_int data0 jv2.1) fun t94 =>
     upK Tryz.prog (sStore T_int t94 t92) w7 fun tu_5 w8 =>
     pureK Tryz.prog (sBin .add T_int (.tmp 95) (.const (.int .i64 1)) jv1.1 (.int .i64 1)) fun t96 =>
     pureK Tryz.prog (sBin .sub T_int (.tmp 97) (.const (.int .i64 1)) jv2.1 (.int .i64 1)) fun t98 =>
     LETJ (X := Value × Unit) (fun jv3 w9 =>
      pureK Tryz.prog (sIdxAddr T_s_int data0 a1) fun t159 =>
      readK Tryz.prog (sLoad T_int t159) (tick w9) fun t160 =>
      pureK Tryz.prog (sIdxAddr T_s_int data0 jv3.1) fun t163 =>
      readK Tryz.prog (sLoad T_int t163) (tick w9) fun t164 =>
      pureK Tryz.prog (sIdxAddr T_s_int data0 jv3.1) fun t165 =>
      upK Tryz.prog (sStore T_int t165 t160) (tick w9) fun tu_6 w10 =>
      pureK Tryz.prog (sIdxAddr T_s_int data0 a1) fun t166 =>
      upK Tryz.prog (sStore T_int t166 t164) w10 fun tu_7 w11 =>
      K (.tuple #[jv3.1, (.bool false)]) w11)
     (fun J3 =>
      LOOP (X := Value × Value × Unit) (fun lv12 w12 next12 =>
       LETJ (X := Value × Unit) (fun jv4 w13 =>
        LETJ (X := Value × Unit) (fun jv5 w14 =>
         pureK Tryz.prog (sBin .gtr T_int (.tmp 132) (.tmp 133) jv4.1 jv5.1) fun t134 =>
         ifB t134
         (J3 (jv5.1, ()) w14)
         (pureK Tryz.prog (sIdxAddr T_s_int data0 jv5.1) fun t141 =>
          readK Tryz.prog (sLoad T_int t141) (tick w14) fun t142 =>
          pureK Tryz.prog (sIdxAddr T_s_int data0 jv4.1) fun t145 =>
          readK Tryz.prog (sLoad T_int t145) (tick w14) fun t146 =>
          pureK Tryz.prog (sIdxAddr T_s_int data0 jv4.1) fun t147 =>
          upK Tryz.prog (sStore T_int t147 t142) (tick w14) fun tu_8 w15 =>
          pureK Tryz.prog (sIdxAddr T_s_int data0 jv5.1) fun t148 =>
          upK Tryz.prog (sStore T_int t148 t146) w15 fun tu_9 w16 =>
          pureK Tryz.prog (sBin .add T_int (.tmp 149) (.const (.int .i64 1)) jv4.1 (.int .i64 1)) fun t150 =>
          pureK Tryz.prog (sBin .sub T_int (.tmp 151) (.const (.int .i64 1)) jv5.1 (.int .i64 1)) fun t152 =>
          next12 (t150, t152, ()) w16))
        (fun J5 =>
         LOOP (X := Value × Unit) (fun lv17 w17 next17 =>
          pureK Tryz.prog (sBin .leq T_int (.tmp 115) (.tmp 116) jv4.1 lv17.1) fun t117 =>
          ifB t117
          (pureK Tryz.prog (sIdxAddr T_s_int data0 lv17.1) fun t121 =>
           readK Tryz.prog (sLoad T_int t121) (tick w17) fun t122 =>
           pureK Tryz.prog (sIdxAddr T_s_int data0 a1) fun t125 =>
           readK Tryz.prog (sLoad T_int t125) (tick w17) fun t126 =>
           upK Tryz.prog (sCall F_cmp_Less_int #[t122, t126]) (tick w17) fun t127 w18 =>
           pureK Tryz.prog (sUn .not t127) fun t128 =>
           ifB t128
           (pureK Tryz.prog (sBin .sub T_int (.tmp 130) (.const (.int .i64 1)) lv17.1 (.int .i64 1)) fun t131 =>
            next17 (t131, ()) w18)
           (J5 (lv17.1, ()) w18))
          (J5 (lv17.1, ()) (tick w17)))
         (lv12.2.1, ()) w13))
       (fun J4 =>
        LOOP (X := Value × Unit) (fun lv19 w19 next19 =>
         pureK Tryz.prog (sBin .leq T_int (.tmp 99) (.tmp 100) lv19.1 lv12.2.1) fun t101 =>
         ifB t101
         (pureK Tryz.prog (sIdxAddr T_s_int data0 lv19.1) fun t105 =>
          readK Tryz.prog (sLoad T_int t105) (tick w19) fun t106 =>
          pureK Tryz.prog (sIdxAddr T_s_int data0 a1) fun t109 =>
          readK Tryz.prog (sLoad T_int t109) (tick w19) fun t110 =>
          upK Tryz.prog (sCall F_cmp_Less_int #[t106, t110]) (tick w19) fun t111 w20 =>
          ifB t111
          (pureK Tryz.prog (sBin .add T_int (.tmp 113) (.const (.int .i64 1)) lv19.1 (.int .i64 1)) fun t114 =>
           next19 (t114, ()) w20)
          (J4 (lv19.1, ()) w20))
         (J4 (lv19.1, ()) (tick w19)))
        (lv12.1, ()) w12))
      (t96, t98, ()) w8)))
   (fun J2 =>
    LOOP (X := Value × Unit) (fun lv21 w21 next21 =>
     pureK Tryz.prog (sBin .leq T_int (.tmp 46) (.tmp 47) jv1.1 lv21.1) fun t48 =>
     ifB t48
     (pureK Tryz.prog (sIdxAddr T_s_int data0 lv21.1) fun t52 =>
      readK Tryz.prog (sLoad T_int t52) (tick w21) fun t53 =>
      pureK Tryz.prog (sIdxAddr T_s_int data0 a1) fun t56 =>
      readK Tryz.prog (sLoad T_int t56) (tick w21) fun t57 =>
      upK Tryz.prog (sCall F_cmp_Less_int #[t53, t57]) (tick w21) fun t58 w22 =>
      pureK Tryz.prog (sUn .not t58) fun t59 =>
      ifB t59
      (pureK Tryz.prog (sBin .sub T_int (.tmp 61) (.const (.int .i64 1)) lv21.1 (.int .i64 1)) fun t62 =>
       next21 (t62, ()) w22)
      (J2 (lv21.1, ()) w22))
     (J2 (lv21.1, ()) (tick w21)))
    (t29, ()) w3))
  (fun J1 =>
   LOOP (X := Value × Unit) (fun lv23 w23 next23 =>
    pureK Tryz.prog (sBin .leq T_int (.tmp 30) (.tmp 31) lv23.1 t29) fun t32 =>
    ifB t32
    (pureK Tryz.prog (sIdxAddr T_s_int data0 lv23.1) fun t36 =>
     readK Tryz.prog (sLoad T_int t36) (tick w23) fun t37 =>
     pureK Tryz.prog (sIdxAddr T_s_int data0 a1) fun t40 =>
     readK Tryz.prog (sLoad T_int t40) (tick w23) fun t41 =>
     upK Tryz.prog (sCall F_cmp_Less_int #[t37, t41]) (tick w23) fun t42 w24 =>
     ifB t42
     (pureK Tryz.prog (sBin .add T_int (.tmp 44) (.const (.int .i64 1)) lv23.1 (.int .i64 1)) fun t45 =>
      next23 (t45, ()) w24)
     (J1 (lv23.1, ()) w24))
    (J1 (lv23.1, ()) (tick w23)))
   (t27, ()) w2)
theorem slices_partitionOrdered_int.pt_eq : slices_partitionOrdered_int.pt = fun data0 a1 b2 pivot3 w K => FN Tryz.prog Tryz.f147 (bodyOf Tryz.f147) [] (.node none .leaf (.node none .leaf (.node none .leaf (.node (some [10]) .leaf (.node (some [11]) .leaf (.node none .leaf (.node none .leaf (.node none .leaf (.node none .leaf (.node (some [11]) (.node none (.node none (.node none (.node (some [10]) .leaf (.node (some [11]) .leaf .leaf)) .leaf) .leaf) .leaf) .leaf)))))))))) [data0, a1, b2, pivot3] w K := by kernel_rfl
theorem slices_partitionOrdered_int.call {data0 a1 b2 pivot3 : Value} {w : World} {K : Value → World → Prop} (h : slices_partitionOrdered_int.pt data0 a1 b2 pivot3 w K) : Calls Tryz.prog F_slices_partitionOrdered_int #[data0, a1, b2, pivot3] w (retK K) :=
  calls_FN (args := [data0, a1, b2, pivot3]) Tryz.func147 (by kernel_rfl) (by rw [slices_partitionOrdered_int.pt_eq] at h; exact h)
theorem slices_partitionOrdered_int.up {data0 a1 b2 pivot3 : Value} {w : World} {K : Value → World → Prop} (h : Calls Tryz.prog F_slices_partitionOrdered_int #[data0, a1, b2, pivot3] w (retK K)) : upK Tryz.prog (sCall F_slices_partitionOrdered_int #[data0, a1, b2, pivot3]) w K :=
  up_call (fn := Tryz.f147) Tryz.func147 (by kernel_rfl) (by kernel_rfl) h

/-- math/bits.Len32 -/
theorem math_bits_Len32.up {p0 : Value} {w : World} {K : Value → World → Prop} (h : Calls Tryz.prog F_math_bits_Len32 #[p0] w (retK K)) : upK Tryz.prog (sCall F_math_bits_Len32 #[p0]) w K :=
  up_call (fn := Tryz.f148) Tryz.func148 (by kernel_rfl) (by kernel_rfl) h

/-- math/bits.Len64 -/
theorem math_bits_Len64.up {p0 : Value} {w : World} {K : Value → World → Prop} (h : Calls Tryz.prog F_math_bits_Len64 #[p0] w (retK K)) : upK Tryz.prog (sCall F_math_bits_Len64 #[p0]) w K :=
  up_call (fn := Tryz.f149) Tryz.func149 (by kernel_rfl) (by kernel_rfl) h

/-- internal/stringslite.IndexByte -/
theorem internal_stringslite_IndexByte.up {p0 p1 : Value} {w : World} {K : Value → World → Prop} (h : Calls Tryz.prog F_internal_stringslite_IndexByte #[p0, p1] w (retK K)) : upK Tryz.prog (sCall F_internal_stringslite_IndexByte #[p0, p1]) w K :=
  up_call (fn := Tryz.f150) Tryz.func150 (by kernel_rfl) (by kernel_rfl) h

/-- internal/strconv.Atoi -/
theorem internal_strconv_Atoi.up {p0 : Value} {w : World} {K : Value → World → Prop} (h : Calls Tryz.prog F_internal_strconv_Atoi #[p0] w (retK K)) : upK Tryz.prog (sCall F_internal_strconv_Atoi #[p0]) w K :=
  up_call (fn := Tryz.f151) Tryz.func151 (by kernel_rfl) (by kernel_rfl) h

/-- strconv.toError -/
theorem strconv_toError.up {p0 p1 p2 p3 p4 : Value} {w : World} {K : Value → World → Prop} (h : Calls Tryz.prog F_strconv_toError #[p0, p1, p2, p3, p4] w (retK K)) : upK Tryz.prog (sCall F_strconv_toError #[p0, p1, p2, p3, p4]) w K :=
  up_call (fn := Tryz.f152) Tryz.func152 (by kernel_rfl) (by kernel_rfl) h

/-- internal/stringslite.CutPrefix -/
theorem internal_stringslite_CutPrefix.up {p0 p1 : Value} {w : World} {K : Value → World → Prop} (h : Calls Tryz.prog F_internal_stringslite_CutPrefix #[p0, p1] w (retK K)) : upK Tryz.prog (sCall F_internal_stringslite_CutPrefix #[p0, p1]) w K :=
  up_call (fn := Tryz.f153) Tryz.func153 (by kernel_rfl) (by kernel_rfl) h

/-- slices.ContainsFunc[[]errata/api.Value,errata/api.Value] -/
def slices_ContainsFunc_s_api_Value_api_Value.pt (s0 f1 : Value) (w : World) (K : Value → World → Prop) : Prop :=
  upK Tryz.prog (sCall F_slices_IndexFunc_s_api_Value_api_Value #[s0, f1]) w fun t7 w1 =>
  pureK Tryz.prog (sBin .geq T_int (.tmp 7) (.const (.int .i64 0)) t7 (.int .i64 0)) fun t8 =>
  K t8 w1
theorem slices_ContainsFunc_s_api_Value_api_Value.pt_eq : slices_ContainsFunc_s_api_Value_api_Value.pt = fun s0 f1 w K => FN Tryz.prog Tryz.f154 (bodyOf Tryz.f154) [4] .leaf [s0, f1] w K := by kernel_rfl
theorem slices_ContainsFunc_s_api_Value_api_Value.call {s0 f1 : Value} {w : World} {K : Value → World → Prop} (h : slices_ContainsFunc_s_api_Value_api_Value.pt s0 f1 w K) : Calls Tryz.prog F_slices_ContainsFunc_s_api_Value_api_Value #[s0, f1] w (retK K) :=
  calls_FN (args := [s0, f1]) Tryz.func154 (by kernel_rfl) (by rw [slices_ContainsFunc_s_api_Value_api_Value.pt_eq] at h; exact h)
theorem slices_ContainsFunc_s_api_Value_api_Value.up {s0 f1 : Value} {w : World} {K : Value → World → Prop} (h : Calls Tryz.prog F_slices_ContainsFunc_s_api_Value_api_Value #[s0, f1] w (retK K)) : upK Tryz.prog (sCall F_slices_ContainsFunc_s_api_Value_api_Value #[s0, f1]) w K :=
  up_call (fn := Tryz.f154) Tryz.func154 (by kernel_rfl) (by kernel_rfl) h

/-- errata/value.all$1 -/
def value_all_1.pt (v0 : Value) (w : World) (K : Value → World → Prop) : Prop :=
  upK Tryz.prog (sBox T_api_Value v0) w fun v1 w1 =>
  readK Tryz.prog (sLoad T_api_Value v1) w1 fun t3 =>
  upK Tryz.prog (sCall F_value_Right #[t3]) w1 fun t4 w2 =>
  pureK Tryz.prog (sUn .not t4) fun t5 =>
  K t5 w2
theorem value_all_1.pt_eq : value_all_1.pt = fun v0 w K => FN Tryz.prog Tryz.f155 (bodyOf Tryz.f155) [2] .leaf [v0] w K := by kernel_rfl
theorem value_all_1.call {v0 : Value} {w : World} {K : Value → World → Prop} (h : value_all_1.pt v0 w K) : Calls Tryz.prog F_value_all_1 #[v0] w (retK K) :=
  calls_FN (args := [v0]) Tryz.func155 (by kernel_rfl) (by rw [value_all_1.pt_eq] at h; exact h)
theorem value_all_1.up {v0 : Value} {w : World} {K : Value → World → Prop} (h : Calls Tryz.prog F_value_all_1 #[v0] w (retK K)) : upK Tryz.prog (sCall F_value_all_1 #[v0]) w K :=
  up_call (fn := Tryz.f155) Tryz.func155 (by kernel_rfl) (by kernel_rfl) h

/-- errata/value.Right -/
def value_Right.pt (v0 : Value) (w : World) (K : Value → World → Prop) : Prop :=
  upK Tryz.prog (sBox T_api_Value v0) w fun v1 w1 =>
  pureK Tryz.prog (sFieldAddr T_api_Value v1 0) fun t3 =>
  readK Tryz.prog (sLoad T_int t3) w1 fun t4 =>
  pureK Tryz.prog (sBin .eql T_int (.tmp 4) (.const (.int .i64 0)) t4 (.int .i64 0)) fun t6 =>
  ifB t6
  (readK Tryz.prog (sLoad T_api_Value v1) (tick w1) fun t7 =>
   pureK Tryz.prog (sFieldAddr T_api_Value v1 1) fun t8 =>
   readK Tryz.prog (sLoad T_int t8) (tick w1) fun t9 =>
   upK Tryz.prog (sCall F_value_Int #[t9]) (tick w1) fun t10 w2 =>
   Is Tryz.prog (sLoad T_api_Value v1) t7 w2 ∧ pureK Tryz.prog (sBin .eql T_api_Value (.tmp 7) (.tmp 10) t7 t10) fun t11 =>
   K t11 w2)
  (pureK Tryz.prog (sBin .eql T_int (.tmp 4) (.const (.int .i64 1)) t4 (.int .i64 1)) fun t13 =>
   ifB t13
   (readK Tryz.prog (sLoad T_api_Value v1) (tick w1) fun t14 =>
    pureK Tryz.prog (sFieldAddr T_api_Value v1 2) fun t15 =>
    readK Tryz.prog (sLoad T_string t15) (tick w1) fun t16 =>
    upK Tryz.prog (sCall F_value_Text #[t16]) (tick w1) fun t17 w3 =>
    Is Tryz.prog (sLoad T_api_Value v1) t14 w3 ∧ pureK Tryz.prog (sBin .eql T_api_Value (.tmp 14) (.tmp 17) t14 t17) fun t18 =>
    ifB t18
    (pureK Tryz.prog (sFieldAddr T_api_Value v1 2) fun t20 =>
     readK Tryz.prog (sLoad T_string t20) w3 fun t21 =>
     readK Tryz.prog (sBlt .len #[T_string] T_int #[false] #[t21]) w3 fun t22 =>
     pureK Tryz.prog (sBin .leq T_int (.tmp 22) (.const (.int .i64 200)) t22 (.int .i64 200)) fun t23 =>
     K t23 w3)
    (K (.bool false) w3))
   (readK Tryz.prog (sLoad T_api_Value v1) (tick w1) fun t25 =>
    upK Tryz.prog (sCall F_value_Bool #[(.bool false)]) (tick w1) fun t26 w4 =>
    Is Tryz.prog (sLoad T_api_Value v1) t25 w4 ∧ pureK Tryz.prog (sBin .eql T_api_Value (.tmp 25) (.tmp 26) t25 t26) fun t27 =>
    ifB t27
    (K (.bool true) w4)
    (readK Tryz.prog (sLoad T_api_Value v1) w4 fun t29 =>
     upK Tryz.prog (sCall F_value_Bool #[(.bool true)]) w4 fun t30 w5 =>
     Is Tryz.prog (sLoad T_api_Value v1) t29 w5 ∧ pureK Tryz.prog (sBin .eql T_api_Value (.tmp 29) (.tmp 30) t29 t30) fun t31 =>
     K t31 w5)))
theorem value_Right.pt_eq : value_Right.pt = fun v0 w K => FN Tryz.prog Tryz.f156 (bodyOf Tryz.f156) [2] .leaf [v0] w K := by kernel_rfl
theorem value_Right.call {v0 : Value} {w : World} {K : Value → World → Prop} (h : value_Right.pt v0 w K) : Calls Tryz.prog F_value_Right #[v0] w (retK K) :=
  calls_FN (args := [v0]) Tryz.func156 (by kernel_rfl) (by rw [value_Right.pt_eq] at h; exact h)
theorem value_Right.up {v0 : Value} {w : World} {K : Value → World → Prop} (h : Calls Tryz.prog F_value_Right #[v0] w (retK K)) : upK Tryz.prog (sCall F_value_Right #[v0]) w K :=
  up_call (fn := Tryz.f156) Tryz.func156 (by kernel_rfl) (by kernel_rfl) h

/-- slices.rotateLeft[errata/api.Producer] -/
def slices_rotateLeft_api_Producer.pt (s0 r1 : Value) (w : World) (K : Value → World → Prop) : Prop :=
  pureK Tryz.prog (sSlice T_s_api_Producer s0 none (some r1) none) fun t6 =>
  upK Tryz.prog (sCall F_slices_Reverse_s_api_Producer_api_Producer #[t6]) w fun t7 w1 =>
  pureK Tryz.prog (sSlice T_s_api_Producer s0 (some r1) none none) fun t10 =>
  upK Tryz.prog (sCall F_slices_Reverse_s_api_Producer_api_Producer #[t10]) w1 fun t11 w2 =>
  upK Tryz.prog (sCall F_slices_Reverse_s_api_Producer_api_Producer #[s0]) w2 fun t13 w3 =>
  K (.tuple #[]) w3
theorem slices_rotateLeft_api_Producer.pt_eq : slices_rotateLeft_api_Producer.pt = fun s0 r1 w K => FN Tryz.prog Tryz.f157 (bodyOf Tryz.f157) [] .leaf [s0, r1] w K := by kernel_rfl
theorem slices_rotateLeft_api_Producer.call {s0 r1 : Value} {w : World} {K : Value → World → Prop} (h : slices_rotateLeft_api_Producer.pt s0 r1 w K) : Calls Tryz.prog F_slices_rotateLeft_api_Producer #[s0, r1] w (retK K) :=
  calls_FN (args := [s0, r1]) Tryz.func157 (by kernel_rfl) (by rw [slices_rotateLeft_api_Producer.pt_eq] at h; exact h)
theorem slices_rotateLeft_api_Producer.up {s0 r1 : Value} {w : World} {K : Value → World → Prop} (h : Calls Tryz.prog F_slices_rotateLeft_api_Producer #[s0, r1] w (retK K)) : upK Tryz.prog (sCall F_slices_rotateLeft_api_Producer #[s0, r1]) w K :=
  up_call (fn := Tryz.f157) Tryz.func157 (by kernel_rfl) (by kernel_rfl) h

/-- errata/errataref03.Right -/
def errataref03_Right.pt (v0 : Value) (w : World) (K : Value → World → Prop) : Prop :=
  upK Tryz.prog (sBox T_api_Value v0) w fun v1 w1 =>
  pureK Tryz.prog (sFieldAddr T_api_Value v1 0) fun t3 =>
  readK Tryz.prog (sLoad T_int t3) w1 fun t4 =>
  pureK Tryz.prog (sBin .eql T_int (.tmp 4) (.const (.int .i64 0)) t4 (.int .i64 0)) fun t5 =>
  ifB t5
  (pureK Tryz.prog (sFieldAddr T_api_Value v1 2) fun t6 =>
   readK Tryz.prog (sLoad T_string t6) w1 fun t7 =>
   pureK Tryz.prog (sBin .eql T_string (.tmp 7) (.const (.string ⟨#[]⟩)) t7 (.string ⟨#[]⟩)) fun t8 =>
   K t8 w1)
  (pureK Tryz.prog (sFieldAddr T_api_Value v1 0) fun t9 =>
   readK Tryz.prog (sLoad T_int t9) w1 fun t10 =>
   pureK Tryz.prog (sBin .eql T_int (.tmp 10) (.const (.int .i64 1)) t10 (.int .i64 1)) fun t11 =>
   ifB t11
   (pureK Tryz.prog (sFieldAddr T_api_Value v1 1) fun t12 =>
    readK Tryz.prog (sLoad T_int t12) w1 fun t13 =>
    pureK Tryz.prog (sBin .eql T_int (.tmp 13) (.const (.int .i64 0)) t13 (.int .i64 0)) fun t14 =>
    ifB t14
    (pureK Tryz.prog (sFieldAddr T_api_Value v1 2) fun t16 =>
     readK Tryz.prog (sLoad T_string t16) w1 fun t17 =>
     readK Tryz.prog (sBlt .len #[T_string] T_int #[false] #[t17]) w1 fun t18 =>
     pureK Tryz.prog (sBin .leq T_int (.tmp 18) (.const (.int .i64 200)) t18 (.int .i64 200)) fun t19 =>
     K t19 w1)
    (K (.bool false) w1))
   (pureK Tryz.prog (sFieldAddr T_api_Value v1 0) fun t21 =>
    readK Tryz.prog (sLoad T_int t21) w1 fun t22 =>
    pureK Tryz.prog (sBin .eql T_int (.tmp 22) (.const (.int .i64 2)) t22 (.int .i64 2)) fun t23 =>
    ifB t23
    (pureK Tryz.prog (sFieldAddr T_api_Value v1 1) fun t25 =>
     readK Tryz.prog (sLoad T_int t25) w1 fun t26 =>
     pureK Tryz.prog (sBin .eql T_int (.tmp 26) (.const (.int .i64 0)) t26 (.int .i64 0)) fun t27 =>
     ifB t27
     (pureK Tryz.prog (sFieldAddr T_api_Value v1 2) fun t35 =>
      readK Tryz.prog (sLoad T_string t35) w1 fun t36 =>
      pureK Tryz.prog (sBin .eql T_string (.tmp 36) (.const (.string ⟨#[]⟩)) t36 (.string ⟨#[]⟩)) fun t37 =>
      K t37 w1)
     (pureK Tryz.prog (sFieldAddr T_api_Value v1 1) fun t29 =>
      readK Tryz.prog (sLoad T_int t29) w1 fun t30 =>
      pureK Tryz.prog (sBin .eql T_int (.tmp 30) (.const (.int .i64 1)) t30 (.int .i64 1)) fun t31 =>
      ifB t31
      (pureK Tryz.prog (sFieldAddr T_api_Value v1 2) fun t35_1 =>
       readK Tryz.prog (sLoad T_string t35_1) w1 fun t36_1 =>
       pureK Tryz.prog (sBin .eql T_string (.tmp 36) (.const (.string ⟨#[]⟩)) t36_1 (.string ⟨#[]⟩)) fun t37_1 =>
       K t37_1 w1)
      (K (.bool false) w1)))
    (K (.bool false) w1)))
theorem errataref03_Right.pt_eq : errataref03_Right.pt = fun v0 w K => FN Tryz.prog Tryz.f158 (bodyOf Tryz.f158) [2] .leaf [v0] w K := by kernel_rfl
theorem errataref03_Right.call {v0 : Value} {w : World} {K : Value → World → Prop} (h : errataref03_Right.pt v0 w K) : Calls Tryz.prog F_errataref03_Right #[v0] w (retK K) :=
  calls_FN (args := [v0]) Tryz.func158 (by kernel_rfl) (by rw [errataref03_Right.pt_eq] at h; exact h)
theorem errataref03_Right.up {v0 : Value} {w : World} {K : Value → World → Prop} (h : Calls Tryz.prog F_errataref03_Right #[v0] w (retK K)) : upK Tryz.prog (sCall F_errataref03_Right #[v0]) w K :=
  up_call (fn := Tryz.f158) Tryz.func158 (by kernel_rfl) (by kernel_rfl) h

/-- internal/strconv.small -/
theorem internal_strconv_small.up {p0 : Value} {w : World} {K : Value → World → Prop} (h : Calls Tryz.prog F_internal_strconv_small #[p0] w (retK K)) : upK Tryz.prog (sCall F_internal_strconv_small #[p0]) w K :=
  up_call (fn := Tryz.f159) Tryz.func159 (by kernel_rfl) (by kernel_rfl) h

/-- internal/strconv.numDigits -/
theorem internal_strconv_numDigits.up {p0 : Value} {w : World} {K : Value → World → Prop} (h : Calls Tryz.prog F_internal_strconv_numDigits #[p0] w (retK K)) : upK Tryz.prog (sCall F_internal_strconv_numDigits #[p0]) w K :=
  up_call (fn := Tryz.f160) Tryz.func160 (by kernel_rfl) (by kernel_rfl) h

/-- internal/strconv.formatBase10 -/
theorem internal_strconv_formatBase10.up {p0 p1 : Value} {w : World} {K : Value → World → Prop} (h : Calls Tryz.prog F_internal_strconv_formatBase10 #[p0, p1] w (retK K)) : upK Tryz.prog (sCall F_internal_strconv_formatBase10 #[p0, p1]) w K :=
  up_call (fn := Tryz.f161) Tryz.func161 (by kernel_rfl) (by kernel_rfl) h

/-- internal/strconv.formatBits -/
theorem internal_strconv_formatBits.up {p0 p1 p2 p3 p4 : Value} {w : World} {K : Value → World → Prop} (h : Calls Tryz.prog F_internal_strconv_formatBits #[p0, p1, p2, p3, p4] w (retK K)) : upK Tryz.prog (sCall F_internal_strconv_formatBits #[p0, p1, p2, p3, p4]) w K :=
  up_call (fn := Tryz.f162) Tryz.func162 (by kernel_rfl) (by kernel_rfl) h

/-- slices.siftDownOrdered[int] -/
def slices_siftDownOrdered_int.pt (data0 lo1 hi2 first3 : Value) (w : World) (K : Value → World → Prop) : Prop :=
  LOOP (X := Value × Unit) (fun lv1 w1 next1 =>
   pureK Tryz.prog (sBin .mul T_int (.const (.int .i64 2)) (.tmp 11) (.int .i64 2) lv1.1) fun t12 =>
   pureK Tryz.prog (sBin .add T_int (.tmp 12) (.const (.int .i64 1)) t12 (.int .i64 1)) fun t13 =>
   pureK Tryz.prog (sBin .geq T_int (.tmp 14) (.tmp 15) t13 hi2) fun t16 =>
   ifB t16
   (K (.tuple #[]) w1)
   (LETJ (X := Value × Unit) (fun jv1 w2 =>
     pureK Tryz.prog (sBin .add T_int (.tmp 40) (.tmp 41) first3 lv1.1) fun t42 =>
     pureK Tryz.prog (sIdxAddr T_s_int data0 t42) fun t43 =>
     readK Tryz.prog (sLoad T_int t43) (tick w2) fun t44 =>
     pureK Tryz.prog (sBin .add T_int (.tmp 46) (.tmp 47) first3 jv1.1) fun t48 =>
     pureK Tryz.prog (sIdxAddr T_s_int data0 t48) fun t49 =>
     readK Tryz.prog (sLoad T_int t49) (tick w2) fun t50 =>
     upK Tryz.prog (sCall F_cmp_Less_int #[t44, t50]) (tick w2) fun t51 w3 =>
     pureK Tryz.prog (sUn .not t51) fun t52 =>
     ifB t52
     (K (.tuple #[]) w3)
     (pureK Tryz.prog (sBin .add T_int (.tmp 54) (.tmp 55) first3 lv1.1) fun t56 =>
      pureK Tryz.prog (sBin .add T_int (.tmp 58) (.tmp 59) first3 jv1.1) fun t60 =>
      pureK Tryz.prog (sBin .add T_int (.tmp 62) (.tmp 63) first3 jv1.1) fun t64 =>
      pureK Tryz.prog (sIdxAddr T_s_int data0 t64) fun t65 =>
      readK Tryz.prog (sLoad T_int t65) (tick w3) fun t66 =>
      pureK Tryz.prog (sBin .add T_int (.tmp 68) (.tmp 69) first3 lv1.1) fun t70 =>
      pureK Tryz.prog (sIdxAddr T_s_int data0 t70) fun t71 =>
      readK Tryz.prog (sLoad T_int t71) (tick w3) fun t72 =>
      pureK Tryz.prog (sIdxAddr T_s_int data0 t56) fun t73 =>
      upK Tryz.prog (sStore T_int t73 t66) (tick w3) fun tu w4 =>
      pureK Tryz.prog (sIdxAddr T_s_int data0 t60) fun t74 =>
      upK Tryz.prog (sStore T_int t74 t72) w4 fun tu_1 w5 =>
      next1 (jv1.1, ()) w5))
    (fun J1 =>
     pureK Tryz.prog (sBin .add T_int (.tmp 17) (.const (.int .i64 1)) t13 (.int .i64 1)) fun t18 =>
     pureK Tryz.prog (sBin .lss T_int (.tmp 18) (.tmp 19) t18 hi2) fun t20 =>
     ifB t20
     (pureK Tryz.prog (sBin .add T_int (.tmp 23) (.tmp 24) first3 t13) fun t25 =>
      pureK Tryz.prog (sIdxAddr T_s_int data0 t25) fun t26 =>
      readK Tryz.prog (sLoad T_int t26) (tick w1) fun t27 =>
      pureK Tryz.prog (sBin .add T_int (.tmp 29) (.tmp 30) first3 t13) fun t31 =>
      pureK Tryz.prog (sBin .add T_int (.tmp 31) (.const (.int .i64 1)) t31 (.int .i64 1)) fun t32 =>
      pureK Tryz.prog (sIdxAddr T_s_int data0 t32) fun t33 =>
      readK Tryz.prog (sLoad T_int t33) (tick w1) fun t34 =>
      upK Tryz.prog (sCall F_cmp_Less_int #[t27, t34]) (tick w1) fun t35 w6 =>
      ifB t35
      (pureK Tryz.prog (sBin .add T_int (.tmp 37) (.const (.int .i64 1)) t13 (.int .i64 1)) fun t38 =>
       J1 (t38, ()) w6)
      (J1 (t13, ()) w6))
     (J1 (t13, ()) (tick w1)))))
  (lo1, ()) w
theorem slices_siftDownOrdered_int.pt_eq : slices_siftDownOrdered_int.pt = fun data0 lo1 hi2 first3 w K => FN Tryz.prog Tryz.f163 (bodyOf Tryz.f163) [] (.node none .leaf (.node none (.node none (.node none (.node none .leaf (.node none .leaf (.node (some [9]) .leaf .leaf))) .leaf) .leaf) .leaf)) [data0, lo1, hi2, first3] w K := by kernel_rfl
theorem slices_siftDownOrdered_int.call {data0 lo1 hi2 first3 : Value} {w : World} {K : Value → World → Prop} (h : slices_siftDownOrdered_int.pt data0 lo1 hi2 first3 w K) : Calls Tryz.prog F_slices_siftDownOrdered_int #[data0, lo1, hi2, first3] w (retK K) :=
  calls_FN (args := [data0, lo1, hi2, first3]) Tryz.func163 (by kernel_rfl) (by rw [slices_siftDownOrdered_int.pt_eq] at h; exact h)
theorem slices_siftDownOrdered_int.up {data0 lo1 hi2 first3 : Value} {w : World} {K : Value → World → Prop} (h : Calls Tryz.prog F_slices_siftDownOrdered_int #[data0, lo1, hi2, first3] w (retK K)) : upK Tryz.prog (sCall F_slices_siftDownOrdered_int #[data0, lo1, hi2, first3]) w K :=
  up_call (fn := Tryz.f163) Tryz.func163 (by kernel_rfl) (by kernel_rfl) h

/-- slices.nextPowerOfTwo -/
def slices_nextPowerOfTwo.pt (length0 : Value) (w : World) (K : Value → World → Prop) : Prop :=
  upK Tryz.prog (sConv T_int T_uint length0) w fun t4 w1 =>
  upK Tryz.prog (sCall F_math_bits_Len #[t4]) w1 fun t5 w2 =>
  pureK Tryz.prog (sBin .shl T_uint (.const (.int .u64 1)) (.tmp 5) (.int .u64 1) t5) fun t6 =>
  K t6 w2
theorem slices_nextPowerOfTwo.pt_eq : slices_nextPowerOfTwo.pt = fun length0 w K => FN Tryz.prog Tryz.f164 (bodyOf Tryz.f164) [2] .leaf [length0] w K := by kernel_rfl
theorem slices_nextPowerOfTwo.call {length0 : Value} {w : World} {K : Value → World → Prop} (h : slices_nextPowerOfTwo.pt length0 w K) : Calls Tryz.prog F_slices_nextPowerOfTwo #[length0] w (retK K) :=
  calls_FN (args := [length0]) Tryz.func164 (by kernel_rfl) (by rw [slices_nextPowerOfTwo.pt_eq] at h; exact h)
theorem slices_nextPowerOfTwo.up {length0 : Value} {w : World} {K : Value → World → Prop} (h : Calls Tryz.prog F_slices_nextPowerOfTwo #[length0] w (retK K)) : upK Tryz.prog (sCall F_slices_nextPowerOfTwo #[length0]) w K :=
  up_call (fn := Tryz.f164) Tryz.func164 (by kernel_rfl) (by kernel_rfl) h

/-- (*slices.xorshift).Next -/
def slices_xorshift_Next.pt (r0 : Value) (w : World) (K : Value → World → Prop) : Prop :=
  pureK Tryz.prog (sNil r0) fun t4 =>
  readK Tryz.prog (sLoad T_slices_xorshift t4) (tick w) fun t5 =>
  pureK Tryz.prog (sNil r0) fun t7 =>
  readK Tryz.prog (sLoad T_slices_xorshift t7) (tick w) fun t8 =>
  pureK Tryz.prog (sBin .shl T_slices_xorshift (.tmp 8) (.const (.int .u64 13)) t8 (.int .u64 13)) fun t9 =>
  pureK Tryz.prog (sBin .xor T_slices_xorshift (.tmp 5) (.tmp 9) t5 t9) fun t10 =>
  pureK Tryz.prog (sNil r0) fun t11 =>
  upK Tryz.prog (sStore T_slices_xorshift t11 t10) (tick w) fun tu w1 =>
  pureK Tryz.prog (sNil r0) fun t13 =>
  readK Tryz.prog (sLoad T_slices_xorshift t13) (tick w1) fun t14 =>
  pureK Tryz.prog (sNil r0) fun t16 =>
  readK Tryz.prog (sLoad T_slices_xorshift t16) (tick w1) fun t17 =>
  pureK Tryz.prog (sBin .shr T_slices_xorshift (.tmp 17) (.const (.int .u64 7)) t17 (.int .u64 7)) fun t18 =>
  pureK Tryz.prog (sBin .xor T_slices_xorshift (.tmp 14) (.tmp 18) t14 t18) fun t19 =>
  pureK Tryz.prog (sNil r0) fun t20 =>
  upK Tryz.prog (sStore T_slices_xorshift t20 t19) (tick w1) fun tu_1 w2 =>
  pureK Tryz.prog (sNil r0) fun t22 =>
  readK Tryz.prog (sLoad T_slices_xorshift t22) (tick w2) fun t23 =>
  pureK Tryz.prog (sNil r0) fun t25 =>
  readK Tryz.prog (sLoad T_slices_xorshift t25) (tick w2) fun t26 =>
  pureK Tryz.prog (sBin .shl T_slices_xorshift (.tmp 26) (.const (.int .u64 17)) t26 (.int .u64 17)) fun t27 =>
  pureK Tryz.prog (sBin .xor T_slices_xorshift (.tmp 23) (.tmp 27) t23 t27) fun t28 =>
  pureK Tryz.prog (sNil r0) fun t29 =>
  upK Tryz.prog (sStore T_slices_xorshift t29 t28) (tick w2) fun tu_2 w3 =>
  pureK Tryz.prog (sNil r0) fun t31 =>
  readK Tryz.prog (sLoad T_slices_xorshift t31) w3 fun t32 =>
  K t32 w3
theorem slices_xorshift_Next.pt_eq : slices_xorshift_Next.pt = fun r0 w K => FN Tryz.prog Tryz.f165 (bodyOf Tryz.f165) [2] .leaf [r0] w K := by kernel_rfl
theorem slices_xorshift_Next.call {r0 : Value} {w : World} {K : Value → World → Prop} (h : slices_xorshift_Next.pt r0 w K) : Calls Tryz.prog F_slices_xorshift_Next #[r0] w (retK K) :=
  calls_FN (args := [r0]) Tryz.func165 (by kernel_rfl) (by rw [slices_xorshift_Next.pt_eq] at h; exact h)
theorem slices_xorshift_Next.up {r0 : Value} {w : World} {K : Value → World → Prop} (h : Calls Tryz.prog F_slices_xorshift_Next #[r0] w (retK K)) : upK Tryz.prog (sCall F_slices_xorshift_Next #[r0]) w K :=
  up_call (fn := Tryz.f165) Tryz.func165 (by kernel_rfl) (by kernel_rfl) h

/-- slices.medianAdjacentOrdered[int] -/
def slices_medianAdjacentOrdered_int.pt (data0 a1 swaps2 : Value) (w : World) (K : Value → World → Prop) : Prop :=
  pureK Tryz.prog (sBin .sub T_int (.tmp 8) (.const (.int .i64 1)) a1 (.int .i64 1)) fun t9 =>
  pureK Tryz.prog (sBin .add T_int (.tmp 11) (.const (.int .i64 1)) a1 (.int .i64 1)) fun t12 =>
  upK Tryz.prog (sCall F_slices_medianOrdered_int #[data0, t9, a1, t12, swaps2]) w fun t14 w1 =>
  K t14 w1
theorem slices_medianAdjacentOrdered_int.pt_eq : slices_medianAdjacentOrdered_int.pt = fun data0 a1 swaps2 w K => FN Tryz.prog Tryz.f166 (bodyOf Tryz.f166) [6] .leaf [data0, a1, swaps2] w K := by kernel_rfl
theorem slices_medianAdjacentOrdered_int.call {data0 a1 swaps2 : Value} {w : World} {K : Value → World → Prop} (h : slices_medianAdjacentOrdered_int.pt data0 a1 swaps2 w K) : Calls Tryz.prog F_slices_medianAdjacentOrdered_int #[data0, a1, swaps2] w (retK K) :=
  calls_FN (args := [data0, a1, swaps2]) Tryz.func166 (by kernel_rfl) (by rw [slices_medianAdjacentOrdered_int.pt_eq] at h; exact h)
theorem slices_medianAdjacentOrdered_int.up {data0 a1 swaps2 : Value} {w : World} {K : Value → World → Prop} (h : Calls Tryz.prog F_slices_medianAdjacentOrdered_int #[data0, a1, swaps2] w (retK K)) : upK Tryz.prog (sCall F_slices_medianAdjacentOrdered_int #[data0, a1, swaps2]) w K :=
  up_call (fn := Tryz.f166) Tryz.func166 (by kernel_rfl) (by kernel_rfl) h

/-- slices.medianOrdered[int] -/
def slices_medianOrdered_int.pt (data0 a1 b2 c3 swaps4 : Value) (w : World) (K : Value → World → Prop) : Prop :=
  upK Tryz.prog (sCall F_slices_order2Ordered_int #[data0, a1, b2, swaps4]) w fun t16 w1 =>
  pureK Tryz.prog (sExtract t16 0) fun t17 =>
  pureK Tryz.prog (sExtract t16 1) fun t18 =>
  upK Tryz.prog (sCall F_slices_order2Ordered_int #[data0, t18, c3, swaps4]) w1 fun t24 w2 =>
  pureK Tryz.prog (sExtract t24 0) fun t25 =>
  pureK Tryz.prog (sExtract t24 1) fun t26 =>
  upK Tryz.prog (sCall F_slices_order2Ordered_int #[data0, t17, t25, swaps4]) w2 fun t32 w3 =>
  pureK Tryz.prog (sExtract t32 0) fun t33 =>
  pureK Tryz.prog (sExtract t32 1) fun t34 =>
  K t34 w3
theorem slices_medianOrdered_int.pt_eq : slices_medianOrdered_int.pt = fun data0 a1 b2 c3 swaps4 w K => FN Tryz.prog Tryz.f167 (bodyOf Tryz.f167) [10] .leaf [data0, a1, b2, c3, swaps4] w K := by kernel_rfl
theorem slices_medianOrdered_int.call {data0 a1 b2 c3 swaps4 : Value} {w : World} {K : Value → World → Prop} (h : slices_medianOrdered_int.pt data0 a1 b2 c3 swaps4 w K) : Calls Tryz.prog F_slices_medianOrdered_int #[data0, a1, b2, c3, swaps4] w (retK K) :=
  calls_FN (args := [data0, a1, b2, c3, swaps4]) Tryz.func167 (by kernel_rfl) (by rw [slices_medianOrdered_int.pt_eq] at h; exact h)
theorem slices_medianOrdered_int.up {data0 a1 b2 c3 swaps4 : Value} {w : World} {K : Value → World → Prop} (h : Calls Tryz.prog F_slices_medianOrdered_int #[data0, a1, b2, c3, swaps4] w (retK K)) : upK Tryz.prog (sCall F_slices_medianOrdered_int #[data0, a1, b2, c3, swaps4]) w K :=
  up_call (fn := Tryz.f167) Tryz.func167 (by kernel_rfl) (by kernel_rfl) h

/-- cmp.isNaN[int] -/
def cmp_isNaN_int.pt (x0 : Value) (w : World) (K : Value → World → Prop) : Prop :=
  pureK Tryz.prog (sBin .neq T_int (.tmp 3) (.tmp 4) x0 x0) fun t5 =>
  K t5 w
theorem cmp_isNaN_int.pt_eq : cmp_isNaN_int.pt = fun x0 w K => FN Tryz.prog Tryz.f168 (bodyOf Tryz.f168) [2] .leaf [x0] w K := by kernel_rfl
theorem cmp_isNaN_int.call {x0 : Value} {w : World} {K : Value → World → Prop} (h : cmp_isNaN_int.pt x0 w K) : Calls Tryz.prog F_cmp_isNaN_int #[x0] w (retK K) :=
  calls_FN (args := [x0]) Tryz.func168 (by kernel_rfl) (by rw [cmp_isNaN_int.pt_eq] at h; exact h)
theorem cmp_isNaN_int.up {x0 : Value} {w : World} {K : Value → World → Prop} (h : Calls Tryz.prog F_cmp_isNaN_int #[x0] w (retK K)) : upK Tryz.prog (sCall F_cmp_isNaN_int #[x0]) w K :=
  up_call (fn := Tryz.f168) Tryz.func168 (by kernel_rfl) (by kernel_rfl) h

/-- internal/strconv.ParseInt -/
theorem internal_strconv_ParseInt.up {p0 p1 p2 : Value} {w : World} {K : Value → World → Prop} (h : Calls Tryz.prog F_internal_strconv_ParseInt #[p0, p1, p2] w (retK K)) : upK Tryz.prog (sCall F_internal_strconv_ParseInt #[p0, p1, p2]) w K :=
  up_call (fn := Tryz.f170) Tryz.func170 (by kernel_rfl) (by kernel_rfl) h

/-- strconv.syntaxError -/
theorem strconv_syntaxError.up {p0 p1 : Value} {w : World} {K : Value → World → Prop} (h : Calls Tryz.prog F_strconv_syntaxError #[p0, p1] w (retK K)) : upK Tryz.prog (sCall F_strconv_syntaxError #[p0, p1]) w K :=
  up_call (fn := Tryz.f171) Tryz.func171 (by kernel_rfl) (by kernel_rfl) h

/-- strconv.rangeError -/
theorem strconv_rangeError.up {p0 p1 : Value} {w : World} {K : Value → World → Prop} (h : Calls Tryz.prog F_strconv_rangeError #[p0, p1] w (retK K)) : upK Tryz.prog (sCall F_strconv_rangeError #[p0, p1]) w K :=
  up_call (fn := Tryz.f172) Tryz.func172 (by kernel_rfl) (by kernel_rfl) h

/-- strconv.baseError -/
theorem strconv_baseError.up {p0 p1 p2 : Value} {w : World} {K : Value → World → Prop} (h : Calls Tryz.prog F_strconv_baseError #[p0, p1, p2] w (retK K)) : upK Tryz.prog (sCall F_strconv_baseError #[p0, p1, p2]) w K :=
  up_call (fn := Tryz.f173) Tryz.func173 (by kernel_rfl) (by kernel_rfl) h

/-- strconv.bitSizeError -/
theorem strconv_bitSizeError.up {p0 p1 p2 : Value} {w : World} {K : Value → World → Prop} (h : Calls Tryz.prog F_strconv_bitSizeError #[p0, p1, p2] w (retK K)) : upK Tryz.prog (sCall F_strconv_bitSizeError #[p0, p1, p2]) w K :=
  up_call (fn := Tryz.f174) Tryz.func174 (by kernel_rfl) (by kernel_rfl) h

/-- internal/stringslite.HasPrefix -/
theorem internal_stringslite_HasPrefix.up {p0 p1 : Value} {w : World} {K : Value → World → Prop} (h : Calls Tryz.prog F_internal_stringslite_HasPrefix #[p0, p1] w (retK K)) : upK Tryz.prog (sCall F_internal_stringslite_HasPrefix #[p0, p1]) w K :=
  up_call (fn := Tryz.f175) Tryz.func175 (by kernel_rfl) (by kernel_rfl) h

/-- slices.IndexFunc[[]errata/api.Value,errata/api.Value] -/
def slices_IndexFunc_s_api_Value_api_Value.pt (s0 f1 : Value) (w : World) (K : Value → World → Prop) : Prop :=
  readK Tryz.prog (sBlt .len #[T_s_api_Value] T_int #[false] #[s0]) w fun t7 =>
  LOOP (X := Value × Unit) (fun lv1 w1 next1 =>
   pureK Tryz.prog (sBin .lss T_int (.tmp 8) (.tmp 7) lv1.1 t7) fun t9 =>
   ifB t9
   (pureK Tryz.prog (sIdxAddr T_s_api_Value s0 lv1.1) fun t14 =>
    readK Tryz.prog (sLoad T_api_Value t14) w1 fun t15 =>
    upK Tryz.prog (sCallV f1 #[t15]) w1 fun t16 w2 =>
    ifB t16
    (K lv1.1 w2)
    (pureK Tryz.prog (sBin .add T_int (.tmp 8) (.const (.int .i64 1)) lv1.1 (.int .i64 1)) fun t18 =>
     next1 (t18, ()) w2))
   (K (.int .i64 (-1)) w1))
  ((.int .i64 0), ()) w
theorem slices_IndexFunc_s_api_Value_api_Value.pt_eq : slices_IndexFunc_s_api_Value_api_Value.pt = fun s0 f1 w K => FN Tryz.prog Tryz.f176 (bodyOf Tryz.f176) [4] .leaf [s0, f1] w K := by kernel_rfl
theorem slices_IndexFunc_s_api_Value_api_Value.call {s0 f1 : Value} {w : World} {K : Value → World → Prop} (h : slices_IndexFunc_s_api_Value_api_Value.pt s0 f1 w K) : Calls Tryz.prog F_slices_IndexFunc_s_api_Value_api_Value #[s0, f1] w (retK K) :=
  calls_FN (args := [s0, f1]) Tryz.func176 (by kernel_rfl) (by rw [slices_IndexFunc_s_api_Value_api_Value.pt_eq] at h; exact h)
theorem slices_IndexFunc_s_api_Value_api_Value.up {s0 f1 : Value} {w : World} {K : Value → World → Prop} (h : Calls Tryz.prog F_slices_IndexFunc_s_api_Value_api_Value #[s0, f1] w (retK K)) : upK Tryz.prog (sCall F_slices_IndexFunc_s_api_Value_api_Value #[s0, f1]) w K :=
  up_call (fn := Tryz.f176) Tryz.func176 (by kernel_rfl) (by kernel_rfl) h

/-- errata/value.Int -/
def value_Int.pt (n0 : Value) (w : World) (K : Value → World → Prop) : Prop :=
  upK Tryz.prog (sAlloc T_api_Value) w fun t2 w1 =>
  pureK Tryz.prog (sBuild T_api_Value #[(0, (.int .i64 0)), (1, n0)]) fun t4 =>
  upK Tryz.prog (sStore T_api_Value t2 t4) w1 fun tu w2 =>
  readV Tryz.prog (do loadVar T_api_Value (← asAddr t2)) w2 fun t2_1 =>
  K t2_1 w2
theorem value_Int.pt_eq : value_Int.pt = fun n0 w K => FN Tryz.prog Tryz.f177 (bodyOf Tryz.f177) [] .leaf [n0] w K := by kernel_rfl
theorem value_Int.call {n0 : Value} {w : World} {K : Value → World → Prop} (h : value_Int.pt n0 w K) : Calls Tryz.prog F_value_Int #[n0] w (retK K) :=
  calls_FN (args := [n0]) Tryz.func177 (by kernel_rfl) (by rw [value_Int.pt_eq] at h; exact h)
theorem value_Int.up {n0 : Value} {w : World} {K : Value → World → Prop} (h : Calls Tryz.prog F_value_Int #[n0] w (retK K)) : upK Tryz.prog (sCall F_value_Int #[n0]) w K :=
  up_call (fn := Tryz.f177) Tryz.func177 (by kernel_rfl) (by kernel_rfl) h

/-- errata/value.Text -/
def value_Text.pt (s0 : Value) (w : World) (K : Value → World → Prop) : Prop :=
  upK Tryz.prog (sAlloc T_api_Value) w fun t2 w1 =>
  pureK Tryz.prog (sBuild T_api_Value #[(0, (.int .i64 1)), (2, s0)]) fun t4 =>
  upK Tryz.prog (sStore T_api_Value t2 t4) w1 fun tu w2 =>
  readV Tryz.prog (do loadVar T_api_Value (← asAddr t2)) w2 fun t2_1 =>
  K t2_1 w2
theorem value_Text.pt_eq : value_Text.pt = fun s0 w K => FN Tryz.prog Tryz.f178 (bodyOf Tryz.f178) [] .leaf [s0] w K := by kernel_rfl
theorem value_Text.call {s0 : Value} {w : World} {K : Value → World → Prop} (h : value_Text.pt s0 w K) : Calls Tryz.prog F_value_Text #[s0] w (retK K) :=
  calls_FN (args := [s0]) Tryz.func178 (by kernel_rfl) (by rw [value_Text.pt_eq] at h; exact h)
theorem value_Text.up {s0 : Value} {w : World} {K : Value → World → Prop} (h : Calls Tryz.prog F_value_Text #[s0] w (retK K)) : upK Tryz.prog (sCall F_value_Text #[s0]) w K :=
  up_call (fn := Tryz.f178) Tryz.func178 (by kernel_rfl) (by kernel_rfl) h

/-- errata/value.Bool -/
def value_Bool.pt (b0 : Value) (w : World) (K : Value → World → Prop) : Prop :=
  upK Tryz.prog (sAlloc T_api_Value) w fun t2 w1 =>
  ifB b0
  (pureK Tryz.prog (sBuild T_api_Value #[(0, (.int .i64 2)), (1, (.int .i64 1))]) fun t4 =>
   upK Tryz.prog (sStore T_api_Value t2 t4) w1 fun tu w2 =>
   readV Tryz.prog (do loadVar T_api_Value (← asAddr t2)) w2 fun t2_1 =>
   K t2_1 w2)
  (pureK Tryz.prog (sBuild T_api_Value #[(0, (.int .i64 2))]) fun t5 =>
   upK Tryz.prog (sStore T_api_Value t2 t5) w1 fun tu_1 w3 =>
   readV Tryz.prog (do loadVar T_api_Value (← asAddr t2)) w3 fun t2_2 =>
   K t2_2 w3)
theorem value_Bool.pt_eq : value_Bool.pt = fun b0 w K => FN Tryz.prog Tryz.f179 (bodyOf Tryz.f179) [] .leaf [b0] w K := by kernel_rfl
theorem value_Bool.call {b0 : Value} {w : World} {K : Value → World → Prop} (h : value_Bool.pt b0 w K) : Calls Tryz.prog F_value_Bool #[b0] w (retK K) :=
  calls_FN (args := [b0]) Tryz.func179 (by kernel_rfl) (by rw [value_Bool.pt_eq] at h; exact h)
theorem value_Bool.up {b0 : Value} {w : World} {K : Value → World → Prop} (h : Calls Tryz.prog F_value_Bool #[b0] w (retK K)) : upK Tryz.prog (sCall F_value_Bool #[b0]) w K :=
  up_call (fn := Tryz.f179) Tryz.func179 (by kernel_rfl) (by kernel_rfl) h

/-- slices.Reverse[[]errata/api.Producer,errata/api.Producer] -/
def slices_Reverse_s_api_Producer_api_Producer.pt (s0 : Value) (w : World) (K : Value → World → Prop) : Prop :=
  readK Tryz.prog (sBlt .len #[T_s_api_Producer] T_int #[false] #[s0]) w fun t5 =>
  pureK Tryz.prog (sBin .sub T_int (.tmp 5) (.const (.int .i64 1)) t5 (.int .i64 1)) fun t6 =>
  LOOP (X := Value × Value × Unit) (fun lv1 w1 next1 =>
   pureK Tryz.prog (sBin .lss T_int (.tmp 7) (.tmp 8) lv1.1 lv1.2.1) fun t9 =>
   ifB t9
   (pureK Tryz.prog (sIdxAddr T_s_api_Producer s0 lv1.2.1) fun t20 =>
    readK Tryz.prog (sLoad T_api_Producer t20) (tick w1) fun t21 =>
    pureK Tryz.prog (sIdxAddr T_s_api_Producer s0 lv1.1) fun t24 =>
    readK Tryz.prog (sLoad T_api_Producer t24) (tick w1) fun t25 =>
    pureK Tryz.prog (sIdxAddr T_s_api_Producer s0 lv1.1) fun t26 =>
    upK Tryz.prog (sStore T_api_Producer t26 t21) (tick w1) fun tu w2 =>
    pureK Tryz.prog (sIdxAddr T_s_api_Producer s0 lv1.2.1) fun t27 =>
    upK Tryz.prog (sStore T_api_Producer t27 t25) w2 fun tu_1 w3 =>
    pureK Tryz.prog (sBin .add T_int (.tmp 10) (.const (.int .i64 1)) lv1.1 (.int .i64 1)) fun t11 =>
    pureK Tryz.prog (sBin .sub T_int (.tmp 12) (.const (.int .i64 1)) lv1.2.1 (.int .i64 1)) fun t13 =>
    next1 (t11, t13, ()) w3)
   (K (.tuple #[]) w1))
  ((.int .i64 0), t6, ()) w
theorem slices_Reverse_s_api_Producer_api_Producer.pt_eq : slices_Reverse_s_api_Producer_api_Producer.pt = fun s0 w K => FN Tryz.prog Tryz.f180 (bodyOf Tryz.f180) [] .leaf [s0] w K := by kernel_rfl
theorem slices_Reverse_s_api_Producer_api_Producer.call {s0 : Value} {w : World} {K : Value → World → Prop} (h : slices_Reverse_s_api_Producer_api_Producer.pt s0 w K) : Calls Tryz.prog F_slices_Reverse_s_api_Producer_api_Producer #[s0] w (retK K) :=
  calls_FN (args := [s0]) Tryz.func180 (by kernel_rfl) (by rw [slices_Reverse_s_api_Producer_api_Producer.pt_eq] at h; exact h)
theorem slices_Reverse_s_api_Producer_api_Producer.up {s0 : Value} {w : World} {K : Value → World → Prop} (h : Calls Tryz.prog F_slices_Reverse_s_api_Producer_api_Producer #[s0] w (retK K)) : upK Tryz.prog (sCall F_slices_Reverse_s_api_Producer_api_Producer #[s0]) w K :=
  up_call (fn := Tryz.f180) Tryz.func180 (by kernel_rfl) (by kernel_rfl) h

/-- internal/strconv.log10Pow2 -/
theorem internal_strconv_log10Pow2.up {p0 : Value} {w : World} {K : Value → World → Prop} (h : Calls Tryz.prog F_internal_strconv_log10Pow2 #[p0] w (retK K)) : upK Tryz.prog (sCall F_internal_strconv_log10Pow2 #[p0]) w K :=
  up_call (fn := Tryz.f181) Tryz.func181 (by kernel_rfl) (by kernel_rfl) h

/-- internal/strconv.bool2[int] -/
theorem internal_strconv_bool2_int.up {p0 : Value} {w : World} {K : Value → World → Prop} (h : Calls Tryz.prog F_internal_strconv_bool2_int #[p0] w (retK K)) : upK Tryz.prog (sCall F_internal_strconv_bool2_int #[p0]) w K :=
  up_call (fn := Tryz.f182) Tryz.func182 (by kernel_rfl) (by kernel_rfl) h

/-- internal/strconv.isPowerOfTwo -/
theorem internal_strconv_isPowerOfTwo.up {p0 : Value} {w : World} {K : Value → World → Prop} (h : Calls Tryz.prog F_internal_strconv_isPowerOfTwo #[p0] w (retK K)) : upK Tryz.prog (sCall F_internal_strconv_isPowerOfTwo #[p0]) w K :=
  up_call (fn := Tryz.f183) Tryz.func183 (by kernel_rfl) (by kernel_rfl) h

/-- math/bits.TrailingZeros -/
theorem math_bits_TrailingZeros.up {p0 : Value} {w : World} {K : Value → World → Prop} (h : Calls Tryz.prog F_math_bits_TrailingZeros #[p0] w (retK K)) : upK Tryz.prog (sCall F_math_bits_TrailingZeros #[p0]) w K :=
  up_call (fn := Tryz.f184) Tryz.func184 (by kernel_rfl) (by kernel_rfl) h

/-- slices.order2Ordered[int] -/
def slices_order2Ordered_int.pt (data0 a1 b2 swaps3 : Value) (w : World) (K : Value → World → Prop) : Prop :=
  pureK Tryz.prog (sIdxAddr T_s_int data0 b2) fun t12 =>
  readK Tryz.prog (sLoad T_int t12) (tick w) fun t13 =>
  pureK Tryz.prog (sIdxAddr T_s_int data0 a1) fun t16 =>
  readK Tryz.prog (sLoad T_int t16) (tick w) fun t17 =>
  upK Tryz.prog (sCall F_cmp_Less_int #[t13, t17]) (tick w) fun t18 w1 =>
  ifB t18
  (pureK Tryz.prog (sNil swaps3) fun t20 =>
   readK Tryz.prog (sLoad T_int t20) w1 fun t21 =>
   pureK Tryz.prog (sBin .add T_int (.tmp 21) (.const (.int .i64 1)) t21 (.int .i64 1)) fun t22 =>
   pureK Tryz.prog (sNil swaps3) fun t23 =>
   upK Tryz.prog (sStore T_int t23 t22) w1 fun tu w2 =>
   K (.tuple #[b2, a1]) w2)
  (K (.tuple #[a1, b2]) w1)
theorem slices_order2Ordered_int.pt_eq : slices_order2Ordered_int.pt = fun data0 a1 b2 swaps3 w K => FN Tryz.prog Tryz.f185 (bodyOf Tryz.f185) [8, 9] .leaf [data0, a1, b2, swaps3] w K := by kernel_rfl
theorem slices_order2Ordered_int.call {data0 a1 b2 swaps3 : Value} {w : World} {K : Value → World → Prop} (h : slices_order2Ordered_int.pt data0 a1 b2 swaps3 w K) : Calls Tryz.prog F_slices_order2Ordered_int #[data0, a1, b2, swaps3] w (retK K) :=
  calls_FN (args := [data0, a1, b2, swaps3]) Tryz.func185 (by kernel_rfl) (by rw [slices_order2Ordered_int.pt_eq] at h; exact h)
theorem slices_order2Ordered_int.up {data0 a1 b2 swaps3 : Value} {w : World} {K : Value → World → Prop} (h : Calls Tryz.prog F_slices_order2Ordered_int #[data0, a1, b2, swaps3] w (retK K)) : upK Tryz.prog (sCall F_slices_order2Ordered_int #[data0, a1, b2, swaps3]) w K :=
  up_call (fn := Tryz.f185) Tryz.func185 (by kernel_rfl) (by kernel_rfl) h

/-- internal/strconv.ParseUint -/
theorem internal_strconv_ParseUint.up {p0 p1 p2 : Value} {w : World} {K : Value → World → Prop} (h : Calls Tryz.prog F_internal_strconv_ParseUint #[p0, p1, p2] w (retK K)) : upK Tryz.prog (sCall F_internal_strconv_ParseUint #[p0, p1, p2]) w K :=
  up_call (fn := Tryz.f186) Tryz.func186 (by kernel_rfl) (by kernel_rfl) h

/-- internal/stringslite.Clone -/
theorem internal_stringslite_Clone.up {p0 : Value} {w : World} {K : Value → World → Prop} (h : Calls Tryz.prog F_internal_stringslite_Clone #[p0] w (retK K)) : upK Tryz.prog (sCall F_internal_stringslite_Clone #[p0]) w K :=
  up_call (fn := Tryz.f187) Tryz.func187 (by kernel_rfl) (by kernel_rfl) h

/-- errors.New -/
theorem errors_New.up {p0 : Value} {w : World} {K : Value → World → Prop} (h : Calls Tryz.prog F_errors_New #[p0] w (retK K)) : upK Tryz.prog (sCall F_errors_New #[p0]) w K :=
  up_call (fn := Tryz.f188) Tryz.func188 (by kernel_rfl) (by kernel_rfl) h

/-- math/bits.TrailingZeros32 -/
theorem math_bits_TrailingZeros32.up {p0 : Value} {w : World} {K : Value → World → Prop} (h : Calls Tryz.prog F_math_bits_TrailingZeros32 #[p0] w (retK K)) : upK Tryz.prog (sCall F_math_bits_TrailingZeros32 #[p0]) w K :=
  up_call (fn := Tryz.f189) Tryz.func189 (by kernel_rfl) (by kernel_rfl) h

/-- math/bits.TrailingZeros64 -/
theorem math_bits_TrailingZeros64.up {p0 : Value} {w : World} {K : Value → World → Prop} (h : Calls Tryz.prog F_math_bits_TrailingZeros64 #[p0] w (retK K)) : upK Tryz.prog (sCall F_math_bits_TrailingZeros64 #[p0]) w K :=
  up_call (fn := Tryz.f190) Tryz.func190 (by kernel_rfl) (by kernel_rfl) h

/-- internal/strconv.lower -/
theorem internal_strconv_lower.up {p0 : Value} {w : World} {K : Value → World → Prop} (h : Calls Tryz.prog F_internal_strconv_lower #[p0] w (retK K)) : upK Tryz.prog (sCall F_internal_strconv_lower #[p0]) w K :=
  up_call (fn := Tryz.f191) Tryz.func191 (by kernel_rfl) (by kernel_rfl) h

/-- internal/strconv.underscoreOK -/
theorem internal_strconv_underscoreOK.up {p0 : Value} {w : World} {K : Value → World → Prop} (h : Calls Tryz.prog F_internal_strconv_underscoreOK #[p0] w (retK K)) : upK Tryz.prog (sCall F_internal_strconv_underscoreOK #[p0]) w K :=
  up_call (fn := Tryz.f192) Tryz.func192 (by kernel_rfl) (by kernel_rfl) h

end Go.Proofs.YtefinemhfgdpdaaGreatDoor
