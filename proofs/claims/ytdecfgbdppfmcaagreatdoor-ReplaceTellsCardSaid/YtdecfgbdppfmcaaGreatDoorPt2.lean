/-
  The reckoned conditions of the functions that this seat's statements reach, printed by program, each held against the translation by the kernel. No condition.
-/
import Derived.Test.YtdecfgbdppfmcaaGreatDoorNames
namespace Go.Proofs.YtdecfgbdppfmcaaGreatDoor
set_option linter.unusedVariables false
set_option maxRecDepth 100000

/-- slices.partitionOrdered[int] -/
def slices_partitionOrdered_int.pt (data0 a1 b2 pivot3 : Value) (w : World) (K : Value → World → Prop) : Prop :=
  pureK Tryz.prog (sIdxAddr T_s_int data0 pivot3) fun t18 =>
  readK Tryz.prog (sLoad T_int t18) (tick w) fun t19 =>
  pureK Tryz.prog (sIdxAddr T_s_int data0 a1) fun t22 =>
  readK Tryz.prog (sLoad T_int t22) (tick w) fun t23 =>
  pureK Tryz.prog (sIdxAddr T_s_int data0 a1) fun t24 =>
  upK Tryz.prog (sStore T_int t24 t19) (tick w) fun tu w1 =>
  pureK Tryz.prog (sIdxAddr T_s_int data0 pivot3) fun t25 =>
  upK Tryz.prog (sStore T_int t25 t23) w1 fun tu_1 w2 =>
  pureK Tryz.prog (sBin .add T_int (.tmp 26) (.const (.int .i64 1)) a1 (.int .i64 1)) fun t27 =>
  pureK Tryz.prog (sBin .sub T_int (.tmp 28) (.const (.int .i64 1)) b2 (.int .i64 1)) fun t29 =>
  LETJ (X := Value × Unit) (fun jv1 w3 =>
   LETJ (X := Value × Unit) (fun jv2 w4 =>
    pureK Tryz.prog (sBin .gtr T_int (.tmp 63) (.tmp 64) jv1.1 jv2.1) fun t65 =>
    ifB t65
    (pureK Tryz.prog (sIdxAddr T_s_int data0 a1) fun t72 =>
     readK Tryz.prog (sLoad T_int t72) (tick w4) fun t73 =>
     pureK Tryz.prog (sIdxAddr T_s_int data0 jv2.1) fun t76 =>
     readK Tryz.prog (sLoad T_int t76) (tick w4) fun t77 =>
     pureK Tryz.prog (sIdxAddr T_s_int data0 jv2.1) fun t78 =>
     upK Tryz.prog (sStore T_int t78 t73) (tick w4) fun tu_2 w5 =>
     pureK Tryz.prog (sIdxAddr T_s_int data0 a1) fun t79 =>
     upK Tryz.prog (sStore T_int t79 t77) w5 fun tu_3 w6 =>
     K (.tuple #[jv2.1, (.bool true)]) w6)
    (pureK Tryz.prog (sIdxAddr T_s_int data0 jv2.1) fun t87 =>
     readK Tryz.prog (sLoad T_int t87) (tick w4) fun t88 =>
     pureK Tryz.prog (sIdxAddr T_s_int data0 jv1.1) fun t91 =>
     readK Tryz.prog (sLoad T_int t91) (tick w4) fun t92 =>
     pureK Tryz.prog (sIdxAddr T_s_int data0 jv1.1) fun t93 =>
     upK Tryz.prog (sStore T_int t93 t88) (tick w4) fun tu_4 w7 =>
     pureK Tryz.prog (sIdxAddr T_s_int data0 jv2.1) fun t94 =>
     upK Tryz.prog (sStore T_int t94 t92) w7 fun tu_5 w8 =>
     pureK Tryz.prog (sBin .add T_int (.tmp 95) (.const (.int .i64 1)) jv1.1 (.int .i64 1)) fun t96 =>
     pureK Tryz.prog (sBin .sub T_int (.tmp 97) (.const (.int .i64 1)) jv2.1 (.int .i64 1)) fun t98 =>
     LETJ (X := Value × Unit) (fun jv3 w9 =>
      pureK Tryz.prog (sIdxAddr T_s_int data0 a1) fun t159 =>
      readK Tryz.prog (sLoad T_int t159) (tick w9) fun t160 =>
      pureK Tryz.prog (sIdxAddr T_s_int data0 jv3.1) fun t163 =>
      readK Tryz.prog (sLoad T_int t163) (tick w9) fun t164 =>
      pureK Tryz.prog (sIdxAddr T_s_int data0 jv3.1) fun t165 =>
      upK Tryz.prog (sStore T_int t165 t160) (tick w9) fun tu_6 w10 =>
      pureK Tryz.prog (sIdxAddr T_s_int data0 a1) fun t166 =>
      upK Tryz.prog (sStore T_int t166 t164) w10 fun tu_7 w11 =>
      K (.tuple #[jv3.1, (.bool false)]) w11)
     (fun J3 =>
      LOOP (X := Value × Value × Unit) (fun lv12 w12 next12 =>
       LETJ (X := Value × Unit) (fun jv4 w13 =>
        LETJ (X := Value × Unit) (fun jv5 w14 =>
         pureK Tryz.prog (sBin .gtr T_int (.tmp 132) (.tmp 133) jv4.1 jv5.1) fun t134 =>
         ifB t134
         (J3 (jv5.1, ()) w14)
         (pureK Tryz.prog (sIdxAddr T_s_int data0 jv5.1) fun t141 =>
          readK Tryz.prog (sLoad T_int t141) (tick w14) fun t142 =>
          pureK Tryz.prog (sIdxAddr T_s_int data0 jv4.1) fun t145 =>
          readK Tryz.prog (sLoad T_int t145) (tick w14) fun t146 =>
          pureK Tryz.prog (sIdxAddr T_s_int data0 jv4.1) fun t147 =>
          upK Tryz.prog (sStore T_int t147 t142) (tick w14) fun tu_8 w15 =>
          pureK Tryz.prog (sIdxAddr T_s_int data0 jv5.1) fun t148 =>
          upK Tryz.prog (sStore T_int t148 t146) w15 fun tu_9 w16 =>
          pureK Tryz.prog (sBin .add T_int (.tmp 149) (.const (.int .i64 1)) jv4.1 (.int .i64 1)) fun t150 =>
          pureK Tryz.prog (sBin .sub T_int (.tmp 151) (.const (.int .i64 1)) jv5.1 (.int .i64 1)) fun t152 =>
          next12 (t150, t152, ()) w16))
        (fun J5 =>
         LOOP (X := Value × Unit) (fun lv17 w17 next17 =>
          pureK Tryz.prog (sBin .leq T_int (.tmp 115) (.tmp 116) jv4.1 lv17.1) fun t117 =>
          ifB t117
          (pureK Tryz.prog (sIdxAddr T_s_int data0 lv17.1) fun t121 =>
           readK Tryz.prog (sLoad T_int t121) (tick w17) fun t122 =>
           pureK Tryz.prog (sIdxAddr T_s_int data0 a1) fun t125 =>
           readK Tryz.prog (sLoad T_int t125) (tick w17) fun t126 =>
           upK Tryz.prog (sCall F_cmp_Less_int #[t122, t126]) (tick w17) fun t127 w18 =>
           pureK Tryz.prog (sUn .not t127) fun t128 =>
           ifB t128
           (pureK Tryz.prog (sBin .sub T_int (.tmp 130) (.const (.int .i64 1)) lv17.1 (.int .i64 1)) fun t131 =>
            next17 (t131, ()) w18)
           (J5 (lv17.1, ()) w18))
          (J5 (lv17.1, ()) (tick w17)))
         (lv12.2.1, ()) w13))
       (fun J4 =>
        LOOP (X := Value × Unit) (fun lv19 w19 next19 =>
         pureK Tryz.prog (sBin .leq T_int (.tmp 99) (.tmp 100) lv19.1 lv12.2.1) fun t101 =>
         ifB t101
         (pureK Tryz.prog (sIdxAddr T_s_int data0 lv19.1) fun t105 =>
          readK Tryz.prog (sLoad T_int t105) (tick w19) fun t106 =>
          pureK Tryz.prog (sIdxAddr T_s_int data0 a1) fun t109 =>
          readK Tryz.prog (sLoad T_int t109) (tick w19) fun t110 =>
          upK Tryz.prog (sCall F_cmp_Less_int #[t106, t110]) (tick w19) fun t111 w20 =>
          ifB t111
          (pureK Tryz.prog (sBin .add T_int (.tmp 113) (.const (.int .i64 1)) lv19.1 (.int .i64 1)) fun t114 =>
           next19 (t114, ()) w20)
          (J4 (lv19.1, ()) w20))
         (J4 (lv19.1, ()) (tick w19)))
        (lv12.1, ()) w12))
      (t96, t98, ()) w8)))
   (fun J2 =>
    LOOP (X := Value × Unit) (fun lv21 w21 next21 =>
     pureK Tryz.prog (sBin .leq T_int (.tmp 46) (.tmp 47) jv1.1 lv21.1) fun t48 =>
     ifB t48
     (pureK Tryz.prog (sIdxAddr T_s_int data0 lv21.1) fun t52 =>
      readK Tryz.prog (sLoad T_int t52) (tick w21) fun t53 =>
      pureK Tryz.prog (sIdxAddr T_s_int data0 a1) fun t56 =>
      readK Tryz.prog (sLoad T_int t56) (tick w21) fun t57 =>
      upK Tryz.prog (sCall F_cmp_Less_int #[t53, t57]) (tick w21) fun t58 w22 =>
      pureK Tryz.prog (sUn .not t58) fun t59 =>
      ifB t59
      (pureK Tryz.prog (sBin .sub T_int (.tmp 61) (.const (.int .i64 1)) lv21.1 (.int .i64 1)) fun t62 =>
       next21 (t62, ()) w22)
      (J2 (lv21.1, ()) w22))
     (J2 (lv21.1, ()) (tick w21)))
    (t29, ()) w3))
  (fun J1 =>
   LOOP (X := Value × Unit) (fun lv23 w23 next23 =>
    pureK Tryz.prog (sBin .leq T_int (.tmp 30) (.tmp 31) lv23.1 t29) fun t32 =>
    ifB t32
    (pureK Tryz.prog (sIdxAddr T_s_int data0 lv23.1) fun t36 =>
     readK Tryz.prog (sLoad T_int t36) (tick w23) fun t37 =>
     pureK Tryz.prog (sIdxAddr T_s_int data0 a1) fun t40 =>
     readK Tryz.prog (sLoad T_int t40) (tick w23) fun t41 =>
     upK Tryz.prog (sCall F_cmp_Less_int #[t37, t41]) (tick w23) fun t42 w24 =>
     ifB t42
     (pureK Tryz.prog (sBin .add T_int (.tmp 44) (.const (.int .i64 1)) lv23.1 (.int .i64 1)) fun t45 =>
      next23 (t45, ()) w24)
     (J1 (lv23.1, ()) w24))
    (J1 (lv23.1, ()) (tick w23)))
   (t27, ()) w2)
theorem slices_partitionOrdered_int.pt_eq : slices_partitionOrdered_int.pt = fun data0 a1 b2 pivot3 w K => FN Tryz.prog Tryz.f96 (bodyOf Tryz.f96) [] (.node none .leaf (.node none .leaf (.node none .leaf (.node (some [10]) .leaf (.node (some [11]) .leaf (.node none .leaf (.node none .leaf (.node none .leaf (.node none .leaf (.node (some [11]) (.node none (.node none (.node none (.node (some [10]) .leaf (.node (some [11]) .leaf .leaf)) .leaf) .leaf) .leaf) .leaf)))))))))) [data0, a1, b2, pivot3] w K := by kernel_rfl
theorem slices_partitionOrdered_int.call {data0 a1 b2 pivot3 : Value} {w : World} {K : Value → World → Prop} (h : slices_partitionOrdered_int.pt data0 a1 b2 pivot3 w K) : Calls Tryz.prog F_slices_partitionOrdered_int #[data0, a1, b2, pivot3] w (retK K) :=
  calls_FN (args := [data0, a1, b2, pivot3]) Tryz.func96 (by kernel_rfl) (by rw [slices_partitionOrdered_int.pt_eq] at h; exact h)
theorem slices_partitionOrdered_int.up {data0 a1 b2 pivot3 : Value} {w : World} {K : Value → World → Prop} (h : Calls Tryz.prog F_slices_partitionOrdered_int #[data0, a1, b2, pivot3] w (retK K)) : upK Tryz.prog (sCall F_slices_partitionOrdered_int #[data0, a1, b2, pivot3]) w K :=
  up_call (fn := Tryz.f96) Tryz.func96 (by kernel_rfl) (by kernel_rfl) h

/-- math/bits.Len32 -/
theorem math_bits_Len32.up {p0 : Value} {w : World} {K : Value → World → Prop} (h : Calls Tryz.prog F_math_bits_Len32 #[p0] w (retK K)) : upK Tryz.prog (sCall F_math_bits_Len32 #[p0]) w K :=
  up_call (fn := Tryz.f97) Tryz.func97 (by kernel_rfl) (by kernel_rfl) h

/-- math/bits.Len64 -/
theorem math_bits_Len64.up {p0 : Value} {w : World} {K : Value → World → Prop} (h : Calls Tryz.prog F_math_bits_Len64 #[p0] w (retK K)) : upK Tryz.prog (sCall F_math_bits_Len64 #[p0]) w K :=
  up_call (fn := Tryz.f98) Tryz.func98 (by kernel_rfl) (by kernel_rfl) h

/-- internal/strconv.Itoa -/
theorem internal_strconv_Itoa.up {p0 : Value} {w : World} {K : Value → World → Prop} (h : Calls Tryz.prog F_internal_strconv_Itoa #[p0] w (retK K)) : upK Tryz.prog (sCall F_internal_strconv_Itoa #[p0]) w K :=
  up_call (fn := Tryz.f100) Tryz.func100 (by kernel_rfl) (by kernel_rfl) h

/-- internal/stringslite.IndexByte -/
theorem internal_stringslite_IndexByte.up {p0 p1 : Value} {w : World} {K : Value → World → Prop} (h : Calls Tryz.prog F_internal_stringslite_IndexByte #[p0, p1] w (retK K)) : upK Tryz.prog (sCall F_internal_stringslite_IndexByte #[p0, p1]) w K :=
  up_call (fn := Tryz.f101) Tryz.func101 (by kernel_rfl) (by kernel_rfl) h

/-- internal/strconv.Atoi -/
theorem internal_strconv_Atoi.up {p0 : Value} {w : World} {K : Value → World → Prop} (h : Calls Tryz.prog F_internal_strconv_Atoi #[p0] w (retK K)) : upK Tryz.prog (sCall F_internal_strconv_Atoi #[p0]) w K :=
  up_call (fn := Tryz.f102) Tryz.func102 (by kernel_rfl) (by kernel_rfl) h

/-- strconv.toError -/
theorem strconv_toError.up {p0 p1 p2 p3 p4 : Value} {w : World} {K : Value → World → Prop} (h : Calls Tryz.prog F_strconv_toError #[p0, p1, p2, p3, p4] w (retK K)) : upK Tryz.prog (sCall F_strconv_toError #[p0, p1, p2, p3, p4]) w K :=
  up_call (fn := Tryz.f103) Tryz.func103 (by kernel_rfl) (by kernel_rfl) h

/-- slices.siftDownOrdered[int] -/
def slices_siftDownOrdered_int.pt (data0 lo1 hi2 first3 : Value) (w : World) (K : Value → World → Prop) : Prop :=
  LOOP (X := Value × Unit) (fun lv1 w1 next1 =>
   pureK Tryz.prog (sBin .mul T_int (.const (.int .i64 2)) (.tmp 11) (.int .i64 2) lv1.1) fun t12 =>
   pureK Tryz.prog (sBin .add T_int (.tmp 12) (.const (.int .i64 1)) t12 (.int .i64 1)) fun t13 =>
   pureK Tryz.prog (sBin .geq T_int (.tmp 14) (.tmp 15) t13 hi2) fun t16 =>
   ifB t16
   (K (.tuple #[]) w1)
   (LETJ (X := Value × Unit) (fun jv1 w2 =>
     pureK Tryz.prog (sBin .add T_int (.tmp 40) (.tmp 41) first3 lv1.1) fun t42 =>
     pureK Tryz.prog (sIdxAddr T_s_int data0 t42) fun t43 =>
     readK Tryz.prog (sLoad T_int t43) (tick w2) fun t44 =>
     pureK Tryz.prog (sBin .add T_int (.tmp 46) (.tmp 47) first3 jv1.1) fun t48 =>
     pureK Tryz.prog (sIdxAddr T_s_int data0 t48) fun t49 =>
     readK Tryz.prog (sLoad T_int t49) (tick w2) fun t50 =>
     upK Tryz.prog (sCall F_cmp_Less_int #[t44, t50]) (tick w2) fun t51 w3 =>
     pureK Tryz.prog (sUn .not t51) fun t52 =>
     ifB t52
     (K (.tuple #[]) w3)
     (pureK Tryz.prog (sBin .add T_int (.tmp 54) (.tmp 55) first3 lv1.1) fun t56 =>
      pureK Tryz.prog (sBin .add T_int (.tmp 58) (.tmp 59) first3 jv1.1) fun t60 =>
      pureK Tryz.prog (sBin .add T_int (.tmp 62) (.tmp 63) first3 jv1.1) fun t64 =>
      pureK Tryz.prog (sIdxAddr T_s_int data0 t64) fun t65 =>
      readK Tryz.prog (sLoad T_int t65) (tick w3) fun t66 =>
      pureK Tryz.prog (sBin .add T_int (.tmp 68) (.tmp 69) first3 lv1.1) fun t70 =>
      pureK Tryz.prog (sIdxAddr T_s_int data0 t70) fun t71 =>
      readK Tryz.prog (sLoad T_int t71) (tick w3) fun t72 =>
      pureK Tryz.prog (sIdxAddr T_s_int data0 t56) fun t73 =>
      upK Tryz.prog (sStore T_int t73 t66) (tick w3) fun tu w4 =>
      pureK Tryz.prog (sIdxAddr T_s_int data0 t60) fun t74 =>
      upK Tryz.prog (sStore T_int t74 t72) w4 fun tu_1 w5 =>
      next1 (jv1.1, ()) w5))
    (fun J1 =>
     pureK Tryz.prog (sBin .add T_int (.tmp 17) (.const (.int .i64 1)) t13 (.int .i64 1)) fun t18 =>
     pureK Tryz.prog (sBin .lss T_int (.tmp 18) (.tmp 19) t18 hi2) fun t20 =>
     ifB t20
     (pureK Tryz.prog (sBin .add T_int (.tmp 23) (.tmp 24) first3 t13) fun t25 =>
      pureK Tryz.prog (sIdxAddr T_s_int data0 t25) fun t26 =>
      readK Tryz.prog (sLoad T_int t26) (tick w1) fun t27 =>
      pureK Tryz.prog (sBin .add T_int (.tmp 29) (.tmp 30) first3 t13) fun t31 =>
      pureK Tryz.prog (sBin .add T_int (.tmp 31) (.const (.int .i64 1)) t31 (.int .i64 1)) fun t32 =>
      pureK Tryz.prog (sIdxAddr T_s_int data0 t32) fun t33 =>
      readK Tryz.prog (sLoad T_int t33) (tick w1) fun t34 =>
      upK Tryz.prog (sCall F_cmp_Less_int #[t27, t34]) (tick w1) fun t35 w6 =>
      ifB t35
      (pureK Tryz.prog (sBin .add T_int (.tmp 37) (.const (.int .i64 1)) t13 (.int .i64 1)) fun t38 =>
       J1 (t38, ()) w6)
      (J1 (t13, ()) w6))
     (J1 (t13, ()) (tick w1)))))
  (lo1, ()) w
theorem slices_siftDownOrdered_int.pt_eq : slices_siftDownOrdered_int.pt = fun data0 lo1 hi2 first3 w K => FN Tryz.prog Tryz.f104 (bodyOf Tryz.f104) [] (.node none .leaf (.node none (.node none (.node none (.node none .leaf (.node none .leaf (.node (some [9]) .leaf .leaf))) .leaf) .leaf) .leaf)) [data0, lo1, hi2, first3] w K := by kernel_rfl
theorem slices_siftDownOrdered_int.call {data0 lo1 hi2 first3 : Value} {w : World} {K : Value → World → Prop} (h : slices_siftDownOrdered_int.pt data0 lo1 hi2 first3 w K) : Calls Tryz.prog F_slices_siftDownOrdered_int #[data0, lo1, hi2, first3] w (retK K) :=
  calls_FN (args := [data0, lo1, hi2, first3]) Tryz.func104 (by kernel_rfl) (by rw [slices_siftDownOrdered_int.pt_eq] at h; exact h)
theorem slices_siftDownOrdered_int.up {data0 lo1 hi2 first3 : Value} {w : World} {K : Value → World → Prop} (h : Calls Tryz.prog F_slices_siftDownOrdered_int #[data0, lo1, hi2, first3] w (retK K)) : upK Tryz.prog (sCall F_slices_siftDownOrdered_int #[data0, lo1, hi2, first3]) w K :=
  up_call (fn := Tryz.f104) Tryz.func104 (by kernel_rfl) (by kernel_rfl) h

/-- slices.nextPowerOfTwo -/
def slices_nextPowerOfTwo.pt (length0 : Value) (w : World) (K : Value → World → Prop) : Prop :=
  upK Tryz.prog (sConv T_int T_uint length0) w fun t4 w1 =>
  upK Tryz.prog (sCall F_math_bits_Len #[t4]) w1 fun t5 w2 =>
  pureK Tryz.prog (sBin .shl T_uint (.const (.int .u64 1)) (.tmp 5) (.int .u64 1) t5) fun t6 =>
  K t6 w2
theorem slices_nextPowerOfTwo.pt_eq : slices_nextPowerOfTwo.pt = fun length0 w K => FN Tryz.prog Tryz.f105 (bodyOf Tryz.f105) [2] .leaf [length0] w K := by kernel_rfl
theorem slices_nextPowerOfTwo.call {length0 : Value} {w : World} {K : Value → World → Prop} (h : slices_nextPowerOfTwo.pt length0 w K) : Calls Tryz.prog F_slices_nextPowerOfTwo #[length0] w (retK K) :=
  calls_FN (args := [length0]) Tryz.func105 (by kernel_rfl) (by rw [slices_nextPowerOfTwo.pt_eq] at h; exact h)
theorem slices_nextPowerOfTwo.up {length0 : Value} {w : World} {K : Value → World → Prop} (h : Calls Tryz.prog F_slices_nextPowerOfTwo #[length0] w (retK K)) : upK Tryz.prog (sCall F_slices_nextPowerOfTwo #[length0]) w K :=
  up_call (fn := Tryz.f105) Tryz.func105 (by kernel_rfl) (by kernel_rfl) h

/-- (*slices.xorshift).Next -/
def slices_xorshift_Next.pt (r0 : Value) (w : World) (K : Value → World → Prop) : Prop :=
  pureK Tryz.prog (sNil r0) fun t4 =>
  readK Tryz.prog (sLoad T_slices_xorshift t4) (tick w) fun t5 =>
  pureK Tryz.prog (sNil r0) fun t7 =>
  readK Tryz.prog (sLoad T_slices_xorshift t7) (tick w) fun t8 =>
  pureK Tryz.prog (sBin .shl T_slices_xorshift (.tmp 8) (.const (.int .u64 13)) t8 (.int .u64 13)) fun t9 =>
  pureK Tryz.prog (sBin .xor T_slices_xorshift (.tmp 5) (.tmp 9) t5 t9) fun t10 =>
  pureK Tryz.prog (sNil r0) fun t11 =>
  upK Tryz.prog (sStore T_slices_xorshift t11 t10) (tick w) fun tu w1 =>
  pureK Tryz.prog (sNil r0) fun t13 =>
  readK Tryz.prog (sLoad T_slices_xorshift t13) (tick w1) fun t14 =>
  pureK Tryz.prog (sNil r0) fun t16 =>
  readK Tryz.prog (sLoad T_slices_xorshift t16) (tick w1) fun t17 =>
  pureK Tryz.prog (sBin .shr T_slices_xorshift (.tmp 17) (.const (.int .u64 7)) t17 (.int .u64 7)) fun t18 =>
  pureK Tryz.prog (sBin .xor T_slices_xorshift (.tmp 14) (.tmp 18) t14 t18) fun t19 =>
  pureK Tryz.prog (sNil r0) fun t20 =>
  upK Tryz.prog (sStore T_slices_xorshift t20 t19) (tick w1) fun tu_1 w2 =>
  pureK Tryz.prog (sNil r0) fun t22 =>
  readK Tryz.prog (sLoad T_slices_xorshift t22) (tick w2) fun t23 =>
  pureK Tryz.prog (sNil r0) fun t25 =>
  readK Tryz.prog (sLoad T_slices_xorshift t25) (tick w2) fun t26 =>
  pureK Tryz.prog (sBin .shl T_slices_xorshift (.tmp 26) (.const (.int .u64 17)) t26 (.int .u64 17)) fun t27 =>
  pureK Tryz.prog (sBin .xor T_slices_xorshift (.tmp 23) (.tmp 27) t23 t27) fun t28 =>
  pureK Tryz.prog (sNil r0) fun t29 =>
  upK Tryz.prog (sStore T_slices_xorshift t29 t28) (tick w2) fun tu_2 w3 =>
  pureK Tryz.prog (sNil r0) fun t31 =>
  readK Tryz.prog (sLoad T_slices_xorshift t31) w3 fun t32 =>
  K t32 w3
theorem slices_xorshift_Next.pt_eq : slices_xorshift_Next.pt = fun r0 w K => FN Tryz.prog Tryz.f106 (bodyOf Tryz.f106) [2] .leaf [r0] w K := by kernel_rfl
theorem slices_xorshift_Next.call {r0 : Value} {w : World} {K : Value → World → Prop} (h : slices_xorshift_Next.pt r0 w K) : Calls Tryz.prog F_slices_xorshift_Next #[r0] w (retK K) :=
  calls_FN (args := [r0]) Tryz.func106 (by kernel_rfl) (by rw [slices_xorshift_Next.pt_eq] at h; exact h)
theorem slices_xorshift_Next.up {r0 : Value} {w : World} {K : Value → World → Prop} (h : Calls Tryz.prog F_slices_xorshift_Next #[r0] w (retK K)) : upK Tryz.prog (sCall F_slices_xorshift_Next #[r0]) w K :=
  up_call (fn := Tryz.f106) Tryz.func106 (by kernel_rfl) (by kernel_rfl) h

/-- slices.medianAdjacentOrdered[int] -/
def slices_medianAdjacentOrdered_int.pt (data0 a1 swaps2 : Value) (w : World) (K : Value → World → Prop) : Prop :=
  pureK Tryz.prog (sBin .sub T_int (.tmp 8) (.const (.int .i64 1)) a1 (.int .i64 1)) fun t9 =>
  pureK Tryz.prog (sBin .add T_int (.tmp 11) (.const (.int .i64 1)) a1 (.int .i64 1)) fun t12 =>
  upK Tryz.prog (sCall F_slices_medianOrdered_int #[data0, t9, a1, t12, swaps2]) w fun t14 w1 =>
  K t14 w1
theorem slices_medianAdjacentOrdered_int.pt_eq : slices_medianAdjacentOrdered_int.pt = fun data0 a1 swaps2 w K => FN Tryz.prog Tryz.f107 (bodyOf Tryz.f107) [6] .leaf [data0, a1, swaps2] w K := by kernel_rfl
theorem slices_medianAdjacentOrdered_int.call {data0 a1 swaps2 : Value} {w : World} {K : Value → World → Prop} (h : slices_medianAdjacentOrdered_int.pt data0 a1 swaps2 w K) : Calls Tryz.prog F_slices_medianAdjacentOrdered_int #[data0, a1, swaps2] w (retK K) :=
  calls_FN (args := [data0, a1, swaps2]) Tryz.func107 (by kernel_rfl) (by rw [slices_medianAdjacentOrdered_int.pt_eq] at h; exact h)
theorem slices_medianAdjacentOrdered_int.up {data0 a1 swaps2 : Value} {w : World} {K : Value → World → Prop} (h : Calls Tryz.prog F_slices_medianAdjacentOrdered_int #[data0, a1, swaps2] w (retK K)) : upK Tryz.prog (sCall F_slices_medianAdjacentOrdered_int #[data0, a1, swaps2]) w K :=
  up_call (fn := Tryz.f107) Tryz.func107 (by kernel_rfl) (by kernel_rfl) h

/-- slices.medianOrdered[int] -/
def slices_medianOrdered_int.pt (data0 a1 b2 c3 swaps4 : Value) (w : World) (K : Value → World → Prop) : Prop :=
  upK Tryz.prog (sCall F_slices_order2Ordered_int #[data0, a1, b2, swaps4]) w fun t16 w1 =>
  pureK Tryz.prog (sExtract t16 0) fun t17 =>
  pureK Tryz.prog (sExtract t16 1) fun t18 =>
  upK Tryz.prog (sCall F_slices_order2Ordered_int #[data0, t18, c3, swaps4]) w1 fun t24 w2 =>
  pureK Tryz.prog (sExtract t24 0) fun t25 =>
  pureK Tryz.prog (sExtract t24 1) fun t26 =>
  upK Tryz.prog (sCall F_slices_order2Ordered_int #[data0, t17, t25, swaps4]) w2 fun t32 w3 =>
  pureK Tryz.prog (sExtract t32 0) fun t33 =>
  pureK Tryz.prog (sExtract t32 1) fun t34 =>
  K t34 w3
theorem slices_medianOrdered_int.pt_eq : slices_medianOrdered_int.pt = fun data0 a1 b2 c3 swaps4 w K => FN Tryz.prog Tryz.f108 (bodyOf Tryz.f108) [10] .leaf [data0, a1, b2, c3, swaps4] w K := by kernel_rfl
theorem slices_medianOrdered_int.call {data0 a1 b2 c3 swaps4 : Value} {w : World} {K : Value → World → Prop} (h : slices_medianOrdered_int.pt data0 a1 b2 c3 swaps4 w K) : Calls Tryz.prog F_slices_medianOrdered_int #[data0, a1, b2, c3, swaps4] w (retK K) :=
  calls_FN (args := [data0, a1, b2, c3, swaps4]) Tryz.func108 (by kernel_rfl) (by rw [slices_medianOrdered_int.pt_eq] at h; exact h)
theorem slices_medianOrdered_int.up {data0 a1 b2 c3 swaps4 : Value} {w : World} {K : Value → World → Prop} (h : Calls Tryz.prog F_slices_medianOrdered_int #[data0, a1, b2, c3, swaps4] w (retK K)) : upK Tryz.prog (sCall F_slices_medianOrdered_int #[data0, a1, b2, c3, swaps4]) w K :=
  up_call (fn := Tryz.f108) Tryz.func108 (by kernel_rfl) (by kernel_rfl) h

/-- cmp.isNaN[int] -/
def cmp_isNaN_int.pt (x0 : Value) (w : World) (K : Value → World → Prop) : Prop :=
  pureK Tryz.prog (sBin .neq T_int (.tmp 3) (.tmp 4) x0 x0) fun t5 =>
  K t5 w
theorem cmp_isNaN_int.pt_eq : cmp_isNaN_int.pt = fun x0 w K => FN Tryz.prog Tryz.f109 (bodyOf Tryz.f109) [2] .leaf [x0] w K := by kernel_rfl
theorem cmp_isNaN_int.call {x0 : Value} {w : World} {K : Value → World → Prop} (h : cmp_isNaN_int.pt x0 w K) : Calls Tryz.prog F_cmp_isNaN_int #[x0] w (retK K) :=
  calls_FN (args := [x0]) Tryz.func109 (by kernel_rfl) (by rw [cmp_isNaN_int.pt_eq] at h; exact h)
theorem cmp_isNaN_int.up {x0 : Value} {w : World} {K : Value → World → Prop} (h : Calls Tryz.prog F_cmp_isNaN_int #[x0] w (retK K)) : upK Tryz.prog (sCall F_cmp_isNaN_int #[x0]) w K :=
  up_call (fn := Tryz.f109) Tryz.func109 (by kernel_rfl) (by kernel_rfl) h

/-- internal/strconv.FormatInt -/
theorem internal_strconv_FormatInt.up {p0 p1 : Value} {w : World} {K : Value → World → Prop} (h : Calls Tryz.prog F_internal_strconv_FormatInt #[p0, p1] w (retK K)) : upK Tryz.prog (sCall F_internal_strconv_FormatInt #[p0, p1]) w K :=
  up_call (fn := Tryz.f110) Tryz.func110 (by kernel_rfl) (by kernel_rfl) h

/-- internal/strconv.ParseInt -/
theorem internal_strconv_ParseInt.up {p0 p1 p2 : Value} {w : World} {K : Value → World → Prop} (h : Calls Tryz.prog F_internal_strconv_ParseInt #[p0, p1, p2] w (retK K)) : upK Tryz.prog (sCall F_internal_strconv_ParseInt #[p0, p1, p2]) w K :=
  up_call (fn := Tryz.f112) Tryz.func112 (by kernel_rfl) (by kernel_rfl) h

/-- strconv.syntaxError -/
theorem strconv_syntaxError.up {p0 p1 : Value} {w : World} {K : Value → World → Prop} (h : Calls Tryz.prog F_strconv_syntaxError #[p0, p1] w (retK K)) : upK Tryz.prog (sCall F_strconv_syntaxError #[p0, p1]) w K :=
  up_call (fn := Tryz.f113) Tryz.func113 (by kernel_rfl) (by kernel_rfl) h

/-- strconv.rangeError -/
theorem strconv_rangeError.up {p0 p1 : Value} {w : World} {K : Value → World → Prop} (h : Calls Tryz.prog F_strconv_rangeError #[p0, p1] w (retK K)) : upK Tryz.prog (sCall F_strconv_rangeError #[p0, p1]) w K :=
  up_call (fn := Tryz.f114) Tryz.func114 (by kernel_rfl) (by kernel_rfl) h

/-- strconv.baseError -/
theorem strconv_baseError.up {p0 p1 p2 : Value} {w : World} {K : Value → World → Prop} (h : Calls Tryz.prog F_strconv_baseError #[p0, p1, p2] w (retK K)) : upK Tryz.prog (sCall F_strconv_baseError #[p0, p1, p2]) w K :=
  up_call (fn := Tryz.f115) Tryz.func115 (by kernel_rfl) (by kernel_rfl) h

/-- strconv.bitSizeError -/
theorem strconv_bitSizeError.up {p0 p1 p2 : Value} {w : World} {K : Value → World → Prop} (h : Calls Tryz.prog F_strconv_bitSizeError #[p0, p1, p2] w (retK K)) : upK Tryz.prog (sCall F_strconv_bitSizeError #[p0, p1, p2]) w K :=
  up_call (fn := Tryz.f116) Tryz.func116 (by kernel_rfl) (by kernel_rfl) h

/-- slices.order2Ordered[int] -/
def slices_order2Ordered_int.pt (data0 a1 b2 swaps3 : Value) (w : World) (K : Value → World → Prop) : Prop :=
  pureK Tryz.prog (sIdxAddr T_s_int data0 b2) fun t12 =>
  readK Tryz.prog (sLoad T_int t12) (tick w) fun t13 =>
  pureK Tryz.prog (sIdxAddr T_s_int data0 a1) fun t16 =>
  readK Tryz.prog (sLoad T_int t16) (tick w) fun t17 =>
  upK Tryz.prog (sCall F_cmp_Less_int #[t13, t17]) (tick w) fun t18 w1 =>
  ifB t18
  (pureK Tryz.prog (sNil swaps3) fun t20 =>
   readK Tryz.prog (sLoad T_int t20) w1 fun t21 =>
   pureK Tryz.prog (sBin .add T_int (.tmp 21) (.const (.int .i64 1)) t21 (.int .i64 1)) fun t22 =>
   pureK Tryz.prog (sNil swaps3) fun t23 =>
   upK Tryz.prog (sStore T_int t23 t22) w1 fun tu w2 =>
   K (.tuple #[b2, a1]) w2)
  (K (.tuple #[a1, b2]) w1)
theorem slices_order2Ordered_int.pt_eq : slices_order2Ordered_int.pt = fun data0 a1 b2 swaps3 w K => FN Tryz.prog Tryz.f117 (bodyOf Tryz.f117) [8, 9] .leaf [data0, a1, b2, swaps3] w K := by kernel_rfl
theorem slices_order2Ordered_int.call {data0 a1 b2 swaps3 : Value} {w : World} {K : Value → World → Prop} (h : slices_order2Ordered_int.pt data0 a1 b2 swaps3 w K) : Calls Tryz.prog F_slices_order2Ordered_int #[data0, a1, b2, swaps3] w (retK K) :=
  calls_FN (args := [data0, a1, b2, swaps3]) Tryz.func117 (by kernel_rfl) (by rw [slices_order2Ordered_int.pt_eq] at h; exact h)
theorem slices_order2Ordered_int.up {data0 a1 b2 swaps3 : Value} {w : World} {K : Value → World → Prop} (h : Calls Tryz.prog F_slices_order2Ordered_int #[data0, a1, b2, swaps3] w (retK K)) : upK Tryz.prog (sCall F_slices_order2Ordered_int #[data0, a1, b2, swaps3]) w K :=
  up_call (fn := Tryz.f117) Tryz.func117 (by kernel_rfl) (by kernel_rfl) h

/-- internal/strconv.small -/
theorem internal_strconv_small.up {p0 : Value} {w : World} {K : Value → World → Prop} (h : Calls Tryz.prog F_internal_strconv_small #[p0] w (retK K)) : upK Tryz.prog (sCall F_internal_strconv_small #[p0]) w K :=
  up_call (fn := Tryz.f118) Tryz.func118 (by kernel_rfl) (by kernel_rfl) h

/-- internal/strconv.numDigits -/
theorem internal_strconv_numDigits.up {p0 : Value} {w : World} {K : Value → World → Prop} (h : Calls Tryz.prog F_internal_strconv_numDigits #[p0] w (retK K)) : upK Tryz.prog (sCall F_internal_strconv_numDigits #[p0]) w K :=
  up_call (fn := Tryz.f119) Tryz.func119 (by kernel_rfl) (by kernel_rfl) h

/-- internal/strconv.formatBase10 -/
theorem internal_strconv_formatBase10.up {p0 p1 : Value} {w : World} {K : Value → World → Prop} (h : Calls Tryz.prog F_internal_strconv_formatBase10 #[p0, p1] w (retK K)) : upK Tryz.prog (sCall F_internal_strconv_formatBase10 #[p0, p1]) w K :=
  up_call (fn := Tryz.f120) Tryz.func120 (by kernel_rfl) (by kernel_rfl) h

/-- internal/strconv.formatBits -/
theorem internal_strconv_formatBits.up {p0 p1 p2 p3 p4 : Value} {w : World} {K : Value → World → Prop} (h : Calls Tryz.prog F_internal_strconv_formatBits #[p0, p1, p2, p3, p4] w (retK K)) : upK Tryz.prog (sCall F_internal_strconv_formatBits #[p0, p1, p2, p3, p4]) w K :=
  up_call (fn := Tryz.f121) Tryz.func121 (by kernel_rfl) (by kernel_rfl) h

/-- internal/strconv.ParseUint -/
theorem internal_strconv_ParseUint.up {p0 p1 p2 : Value} {w : World} {K : Value → World → Prop} (h : Calls Tryz.prog F_internal_strconv_ParseUint #[p0, p1, p2] w (retK K)) : upK Tryz.prog (sCall F_internal_strconv_ParseUint #[p0, p1, p2]) w K :=
  up_call (fn := Tryz.f122) Tryz.func122 (by kernel_rfl) (by kernel_rfl) h

/-- internal/stringslite.Clone -/
theorem internal_stringslite_Clone.up {p0 : Value} {w : World} {K : Value → World → Prop} (h : Calls Tryz.prog F_internal_stringslite_Clone #[p0] w (retK K)) : upK Tryz.prog (sCall F_internal_stringslite_Clone #[p0]) w K :=
  up_call (fn := Tryz.f123) Tryz.func123 (by kernel_rfl) (by kernel_rfl) h

/-- errors.New -/
theorem errors_New.up {p0 : Value} {w : World} {K : Value → World → Prop} (h : Calls Tryz.prog F_errors_New #[p0] w (retK K)) : upK Tryz.prog (sCall F_errors_New #[p0]) w K :=
  up_call (fn := Tryz.f124) Tryz.func124 (by kernel_rfl) (by kernel_rfl) h

/-- internal/strconv.log10Pow2 -/
theorem internal_strconv_log10Pow2.up {p0 : Value} {w : World} {K : Value → World → Prop} (h : Calls Tryz.prog F_internal_strconv_log10Pow2 #[p0] w (retK K)) : upK Tryz.prog (sCall F_internal_strconv_log10Pow2 #[p0]) w K :=
  up_call (fn := Tryz.f125) Tryz.func125 (by kernel_rfl) (by kernel_rfl) h

/-- internal/strconv.bool2[int] -/
theorem internal_strconv_bool2_int.up {p0 : Value} {w : World} {K : Value → World → Prop} (h : Calls Tryz.prog F_internal_strconv_bool2_int #[p0] w (retK K)) : upK Tryz.prog (sCall F_internal_strconv_bool2_int #[p0]) w K :=
  up_call (fn := Tryz.f126) Tryz.func126 (by kernel_rfl) (by kernel_rfl) h

/-- internal/strconv.isPowerOfTwo -/
theorem internal_strconv_isPowerOfTwo.up {p0 : Value} {w : World} {K : Value → World → Prop} (h : Calls Tryz.prog F_internal_strconv_isPowerOfTwo #[p0] w (retK K)) : upK Tryz.prog (sCall F_internal_strconv_isPowerOfTwo #[p0]) w K :=
  up_call (fn := Tryz.f127) Tryz.func127 (by kernel_rfl) (by kernel_rfl) h

/-- math/bits.TrailingZeros -/
theorem math_bits_TrailingZeros.up {p0 : Value} {w : World} {K : Value → World → Prop} (h : Calls Tryz.prog F_math_bits_TrailingZeros #[p0] w (retK K)) : upK Tryz.prog (sCall F_math_bits_TrailingZeros #[p0]) w K :=
  up_call (fn := Tryz.f128) Tryz.func128 (by kernel_rfl) (by kernel_rfl) h

/-- internal/strconv.lower -/
theorem internal_strconv_lower.up {p0 : Value} {w : World} {K : Value → World → Prop} (h : Calls Tryz.prog F_internal_strconv_lower #[p0] w (retK K)) : upK Tryz.prog (sCall F_internal_strconv_lower #[p0]) w K :=
  up_call (fn := Tryz.f129) Tryz.func129 (by kernel_rfl) (by kernel_rfl) h

/-- internal/strconv.underscoreOK -/
theorem internal_strconv_underscoreOK.up {p0 : Value} {w : World} {K : Value → World → Prop} (h : Calls Tryz.prog F_internal_strconv_underscoreOK #[p0] w (retK K)) : upK Tryz.prog (sCall F_internal_strconv_underscoreOK #[p0]) w K :=
  up_call (fn := Tryz.f130) Tryz.func130 (by kernel_rfl) (by kernel_rfl) h

/-- math/bits.TrailingZeros32 -/
theorem math_bits_TrailingZeros32.up {p0 : Value} {w : World} {K : Value → World → Prop} (h : Calls Tryz.prog F_math_bits_TrailingZeros32 #[p0] w (retK K)) : upK Tryz.prog (sCall F_math_bits_TrailingZeros32 #[p0]) w K :=
  up_call (fn := Tryz.f131) Tryz.func131 (by kernel_rfl) (by kernel_rfl) h

/-- math/bits.TrailingZeros64 -/
theorem math_bits_TrailingZeros64.up {p0 : Value} {w : World} {K : Value → World → Prop} (h : Calls Tryz.prog F_math_bits_TrailingZeros64 #[p0] w (retK K)) : upK Tryz.prog (sCall F_math_bits_TrailingZeros64 #[p0]) w K :=
  up_call (fn := Tryz.f132) Tryz.func132 (by kernel_rfl) (by kernel_rfl) h

end Go.Proofs.YtdecfgbdppfmcaaGreatDoor
