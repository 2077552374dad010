/-
  The reckoned conditions of the functions that this seat's statements reach, printed by program, each held against the translation by the kernel. No condition.
-/
import Derived.Test.YtoebncgnjbblgaaNames
namespace Go.Proofs.Ytoebncgnjbblgaa
set_option linter.unusedVariables false
set_option maxRecDepth 100000

/-- slices.partialInsertionSortCmpFunc[errata/api.Value] -/
def slices_partialInsertionSortCmpFunc_api_Value.pt (data0 a1 b2 cmp3 : Value) (w : World) (K : Value → World → Prop) : Prop :=
  pureK Try.prog (sBin .add T_int (.tmp 13) (.const (.int .i64 1)) a1 (.int .i64 1)) fun t14 =>
  LOOP (X := Value × Value × Unit) (fun lv1 w1 next1 =>
   pureK Try.prog (sBin .lss T_int (.tmp 15) (.const (.int .i64 5)) lv1.2.1 (.int .i64 5)) fun t16 =>
   ifB t16
   (LETJ (X := Value × Unit) (fun jv1 w2 =>
     pureK Try.prog (sBin .add T_int (.tmp 17) (.const (.int .i64 1)) lv1.2.1 (.int .i64 1)) fun t18 =>
     next1 (jv1.1, t18, ()) w2)
    (fun J1 =>
     LETJ (X := Value × Unit) (fun jv2 w3 =>
      pureK Try.prog (sBin .eql T_int (.tmp 39) (.tmp 40) jv2.1 b2) fun t41 =>
      ifB t41
      (K (.bool true) w3)
      (pureK Try.prog (sBin .sub T_int (.tmp 42) (.tmp 43) b2 a1) fun t44 =>
       pureK Try.prog (sBin .lss T_int (.tmp 44) (.const (.int .i64 50)) t44 (.int .i64 50)) fun t45 =>
       ifB t45
       (K (.bool false) w3)
       (pureK Try.prog (sBin .sub T_int (.tmp 49) (.const (.int .i64 1)) jv2.1 (.int .i64 1)) fun t50 =>
        pureK Try.prog (sBin .sub T_int (.tmp 52) (.const (.int .i64 1)) jv2.1 (.int .i64 1)) fun t53 =>
        pureK Try.prog (sIdxAddr T_s_api_Value data0 t53) fun t54 =>
        readK Try.prog (sLoad T_api_Value t54) (tick w3) fun t55 =>
        pureK Try.prog (sIdxAddr T_s_api_Value data0 jv2.1) fun t58 =>
        readK Try.prog (sLoad T_api_Value t58) (tick w3) fun t59 =>
        pureK Try.prog (sIdxAddr T_s_api_Value data0 jv2.1) fun t60 =>
        upK Try.prog (sStore T_api_Value t60 t55) (tick w3) fun tu w4 =>
        pureK Try.prog (sIdxAddr T_s_api_Value data0 t50) fun t61 =>
        upK Try.prog (sStore T_api_Value t61 t59) w4 fun tu_1 w5 =>
        LETJ (X := Unit) (fun jv3 w6 =>
         pureK Try.prog (sBin .sub T_int (.tmp 101) (.tmp 102) b2 jv2.1) fun t103 =>
         pureK Try.prog (sBin .geq T_int (.tmp 103) (.const (.int .i64 2)) t103 (.int .i64 2)) fun t104 =>
         ifB t104
         (pureK Try.prog (sBin .add T_int (.tmp 105) (.const (.int .i64 1)) jv2.1 (.int .i64 1)) fun t106 =>
          LOOP (X := Value × Unit) (fun lv7 w7 next7 =>
           pureK Try.prog (sBin .lss T_int (.tmp 107) (.tmp 108) lv7.1 b2) fun t109 =>
           ifB t109
           (pureK Try.prog (sIdxAddr T_s_api_Value data0 lv7.1) fun t115 =>
            readK Try.prog (sLoad T_api_Value t115) (tick w7) fun t116 =>
            pureK Try.prog (sBin .sub T_int (.tmp 118) (.const (.int .i64 1)) lv7.1 (.int .i64 1)) fun t119 =>
            pureK Try.prog (sIdxAddr T_s_api_Value data0 t119) fun t120 =>
            readK Try.prog (sLoad T_api_Value t120) (tick w7) fun t121 =>
            upK Try.prog (sCallV cmp3 #[t116, t121]) (tick w7) fun t122 w8 =>
            pureK Try.prog (sBin .lss T_int (.tmp 122) (.const (.int .i64 0)) t122 (.int .i64 0)) fun t123 =>
            pureK Try.prog (sUn .not t123) fun t124 =>
            ifB t124
            (J1 (jv2.1, ()) w8)
            (pureK Try.prog (sBin .sub T_int (.tmp 128) (.const (.int .i64 1)) lv7.1 (.int .i64 1)) fun t129 =>
             pureK Try.prog (sBin .sub T_int (.tmp 131) (.const (.int .i64 1)) lv7.1 (.int .i64 1)) fun t132 =>
             pureK Try.prog (sIdxAddr T_s_api_Value data0 t132) fun t133 =>
             readK Try.prog (sLoad T_api_Value t133) (tick w8) fun t134 =>
             pureK Try.prog (sIdxAddr T_s_api_Value data0 lv7.1) fun t137 =>
             readK Try.prog (sLoad T_api_Value t137) (tick w8) fun t138 =>
             pureK Try.prog (sIdxAddr T_s_api_Value data0 lv7.1) fun t139 =>
             upK Try.prog (sStore T_api_Value t139 t134) (tick w8) fun tu_2 w9 =>
             pureK Try.prog (sIdxAddr T_s_api_Value data0 t129) fun t140 =>
             upK Try.prog (sStore T_api_Value t140 t138) w9 fun tu_3 w10 =>
             pureK Try.prog (sBin .add T_int (.tmp 110) (.const (.int .i64 1)) lv7.1 (.int .i64 1)) fun t111 =>
             next7 (t111, ()) w10))
           (J1 (jv2.1, ()) w7))
          (t106, ()) w6)
         (J1 (jv2.1, ()) w6))
        (fun J3 =>
         pureK Try.prog (sBin .sub T_int (.tmp 62) (.tmp 63) jv2.1 a1) fun t64 =>
         pureK Try.prog (sBin .geq T_int (.tmp 64) (.const (.int .i64 2)) t64 (.int .i64 2)) fun t65 =>
         ifB t65
         (pureK Try.prog (sBin .sub T_int (.tmp 66) (.const (.int .i64 1)) jv2.1 (.int .i64 1)) fun t67 =>
          LOOP (X := Value × Unit) (fun lv11 w11 next11 =>
           pureK Try.prog (sBin .geq T_int (.tmp 68) (.const (.int .i64 1)) lv11.1 (.int .i64 1)) fun t69 =>
           ifB t69
           (pureK Try.prog (sIdxAddr T_s_api_Value data0 lv11.1) fun t75 =>
            readK Try.prog (sLoad T_api_Value t75) (tick w11) fun t76 =>
            pureK Try.prog (sBin .sub T_int (.tmp 78) (.const (.int .i64 1)) lv11.1 (.int .i64 1)) fun t79 =>
            pureK Try.prog (sIdxAddr T_s_api_Value data0 t79) fun t80 =>
            readK Try.prog (sLoad T_api_Value t80) (tick w11) fun t81 =>
            upK Try.prog (sCallV cmp3 #[t76, t81]) (tick w11) fun t82 w12 =>
            pureK Try.prog (sBin .lss T_int (.tmp 82) (.const (.int .i64 0)) t82 (.int .i64 0)) fun t83 =>
            pureK Try.prog (sUn .not t83) fun t84 =>
            ifB t84
            (J3 (()) w12)
            (pureK Try.prog (sBin .sub T_int (.tmp 88) (.const (.int .i64 1)) lv11.1 (.int .i64 1)) fun t89 =>
             pureK Try.prog (sBin .sub T_int (.tmp 91) (.const (.int .i64 1)) lv11.1 (.int .i64 1)) fun t92 =>
             pureK Try.prog (sIdxAddr T_s_api_Value data0 t92) fun t93 =>
             readK Try.prog (sLoad T_api_Value t93) (tick w12) fun t94 =>
             pureK Try.prog (sIdxAddr T_s_api_Value data0 lv11.1) fun t97 =>
             readK Try.prog (sLoad T_api_Value t97) (tick w12) fun t98 =>
             pureK Try.prog (sIdxAddr T_s_api_Value data0 lv11.1) fun t99 =>
             upK Try.prog (sStore T_api_Value t99 t94) (tick w12) fun tu_4 w13 =>
             pureK Try.prog (sIdxAddr T_s_api_Value data0 t89) fun t100 =>
             upK Try.prog (sStore T_api_Value t100 t98) w13 fun tu_5 w14 =>
             pureK Try.prog (sBin .sub T_int (.tmp 70) (.const (.int .i64 1)) lv11.1 (.int .i64 1)) fun t71 =>
             next11 (t71, ()) w14))
           (J3 (()) w11))
          (t67, ()) w5)
         (J3 (()) w5)))))
     (fun J2 =>
      LOOP (X := Value × Unit) (fun lv15 w15 next15 =>
       pureK Try.prog (sBin .lss T_int (.tmp 19) (.tmp 20) lv15.1 b2) fun t21 =>
       ifB t21
       (pureK Try.prog (sIdxAddr T_s_api_Value data0 lv15.1) fun t26 =>
        readK Try.prog (sLoad T_api_Value t26) (tick w15) fun t27 =>
        pureK Try.prog (sBin .sub T_int (.tmp 29) (.const (.int .i64 1)) lv15.1 (.int .i64 1)) fun t30 =>
        pureK Try.prog (sIdxAddr T_s_api_Value data0 t30) fun t31 =>
        readK Try.prog (sLoad T_api_Value t31) (tick w15) fun t32 =>
        upK Try.prog (sCallV cmp3 #[t27, t32]) (tick w15) fun t33 w16 =>
        pureK Try.prog (sBin .lss T_int (.tmp 33) (.const (.int .i64 0)) t33 (.int .i64 0)) fun t34 =>
        pureK Try.prog (sUn .not t34) fun t35 =>
        ifB t35
        (pureK Try.prog (sBin .add T_int (.tmp 37) (.const (.int .i64 1)) lv15.1 (.int .i64 1)) fun t38 =>
         next15 (t38, ()) w16)
        (J2 (lv15.1, ()) w16))
       (J2 (lv15.1, ()) (tick w15)))
      (lv1.1, ()) w1)))
   (K (.bool false) w1))
  (t14, (.int .i64 0), ()) w
theorem slices_partialInsertionSortCmpFunc_api_Value.pt_eq : slices_partialInsertionSortCmpFunc_api_Value.pt = fun data0 a1 b2 cmp3 w K => FN Try.prog Try.f56 (bodyOf Try.f56) [8] (.node none .leaf (.node none .leaf (.node none (.node none .leaf (.node none (.node none (.node none .leaf (.node (some [9]) (.node none (.node (some [9]) .leaf (.node none .leaf (.node none .leaf (.node none .leaf (.node (some []) .leaf .leaf))))) .leaf) .leaf)) .leaf) .leaf)) .leaf))) [data0, a1, b2, cmp3] w K := by kernel_rfl
theorem slices_partialInsertionSortCmpFunc_api_Value.call {data0 a1 b2 cmp3 : Value} {w : World} {K : Value → World → Prop} (h : slices_partialInsertionSortCmpFunc_api_Value.pt data0 a1 b2 cmp3 w K) : Calls Try.prog F_slices_partialInsertionSortCmpFunc_api_Value #[data0, a1, b2, cmp3] w (retK K) :=
  calls_FN (args := [data0, a1, b2, cmp3]) Try.func56 (by kernel_rfl) (by rw [slices_partialInsertionSortCmpFunc_api_Value.pt_eq] at h; exact h)
theorem slices_partialInsertionSortCmpFunc_api_Value.up {data0 a1 b2 cmp3 : Value} {w : World} {K : Value → World → Prop} (h : Calls Try.prog F_slices_partialInsertionSortCmpFunc_api_Value #[data0, a1, b2, cmp3] w (retK K)) : upK Try.prog (sCall F_slices_partialInsertionSortCmpFunc_api_Value #[data0, a1, b2, cmp3]) w K :=
  up_call (fn := Try.f56) Try.func56 (by kernel_rfl) (by kernel_rfl) h

/-- slices.partitionEqualCmpFunc[errata/api.Value] -/
def slices_partitionEqualCmpFunc_api_Value.pt (data0 a1 b2 pivot3 cmp4 : Value) (w : World) (K : Value → World → Prop) : Prop :=
  pureK Try.prog (sIdxAddr T_s_api_Value data0 pivot3) fun t19 =>
  readK Try.prog (sLoad T_api_Value t19) (tick w) fun t20 =>
  pureK Try.prog (sIdxAddr T_s_api_Value data0 a1) fun t23 =>
  readK Try.prog (sLoad T_api_Value t23) (tick w) fun t24 =>
  pureK Try.prog (sIdxAddr T_s_api_Value data0 a1) fun t25 =>
  upK Try.prog (sStore T_api_Value t25 t20) (tick w) fun tu w1 =>
  pureK Try.prog (sIdxAddr T_s_api_Value data0 pivot3) fun t26 =>
  upK Try.prog (sStore T_api_Value t26 t24) w1 fun tu_1 w2 =>
  pureK Try.prog (sBin .add T_int (.tmp 27) (.const (.int .i64 1)) a1 (.int .i64 1)) fun t28 =>
  pureK Try.prog (sBin .sub T_int (.tmp 29) (.const (.int .i64 1)) b2 (.int .i64 1)) fun t30 =>
  LETJ (X := Value × Unit) (fun jv1 w3 =>
   K jv1.1 w3)
  (fun J1 =>
   LOOP (X := Value × Value × Unit) (fun lv4 w4 next4 =>
    LETJ (X := Value × Unit) (fun jv2 w5 =>
     LETJ (X := Value × Unit) (fun jv3 w6 =>
      pureK Try.prog (sBin .gtr T_int (.tmp 68) (.tmp 69) jv2.1 jv3.1) fun t70 =>
      ifB t70
      (J1 (jv2.1, ()) w6)
      (pureK Try.prog (sIdxAddr T_s_api_Value data0 jv3.1) fun t77 =>
       readK Try.prog (sLoad T_api_Value t77) (tick w6) fun t78 =>
       pureK Try.prog (sIdxAddr T_s_api_Value data0 jv2.1) fun t81 =>
       readK Try.prog (sLoad T_api_Value t81) (tick w6) fun t82 =>
       pureK Try.prog (sIdxAddr T_s_api_Value data0 jv2.1) fun t83 =>
       upK Try.prog (sStore T_api_Value t83 t78) (tick w6) fun tu_2 w7 =>
       pureK Try.prog (sIdxAddr T_s_api_Value data0 jv3.1) fun t84 =>
       upK Try.prog (sStore T_api_Value t84 t82) w7 fun tu_3 w8 =>
       pureK Try.prog (sBin .add T_int (.tmp 85) (.const (.int .i64 1)) jv2.1 (.int .i64 1)) fun t86 =>
       pureK Try.prog (sBin .sub T_int (.tmp 87) (.const (.int .i64 1)) jv3.1 (.int .i64 1)) fun t88 =>
       next4 (t86, t88, ()) w8))
     (fun J3 =>
      LOOP (X := Value × Unit) (fun lv9 w9 next9 =>
       pureK Try.prog (sBin .leq T_int (.tmp 50) (.tmp 51) jv2.1 lv9.1) fun t52 =>
       ifB t52
       (pureK Try.prog (sIdxAddr T_s_api_Value data0 a1) fun t57 =>
        readK Try.prog (sLoad T_api_Value t57) (tick w9) fun t58 =>
        pureK Try.prog (sIdxAddr T_s_api_Value data0 lv9.1) fun t61 =>
        readK Try.prog (sLoad T_api_Value t61) (tick w9) fun t62 =>
        upK Try.prog (sCallV cmp4 #[t58, t62]) (tick w9) fun t63 w10 =>
        pureK Try.prog (sBin .lss T_int (.tmp 63) (.const (.int .i64 0)) t63 (.int .i64 0)) fun t64 =>
        ifB t64
        (pureK Try.prog (sBin .sub T_int (.tmp 66) (.const (.int .i64 1)) lv9.1 (.int .i64 1)) fun t67 =>
         next9 (t67, ()) w10)
        (J3 (lv9.1, ()) w10))
       (J3 (lv9.1, ()) (tick w9)))
      (lv4.2.1, ()) w5))
    (fun J2 =>
     LOOP (X := Value × Unit) (fun lv11 w11 next11 =>
      pureK Try.prog (sBin .leq T_int (.tmp 31) (.tmp 32) lv11.1 lv4.2.1) fun t33 =>
      ifB t33
      (pureK Try.prog (sIdxAddr T_s_api_Value data0 a1) fun t38 =>
       readK Try.prog (sLoad T_api_Value t38) (tick w11) fun t39 =>
       pureK Try.prog (sIdxAddr T_s_api_Value data0 lv11.1) fun t42 =>
       readK Try.prog (sLoad T_api_Value t42) (tick w11) fun t43 =>
       upK Try.prog (sCallV cmp4 #[t39, t43]) (tick w11) fun t44 w12 =>
       pureK Try.prog (sBin .lss T_int (.tmp 44) (.const (.int .i64 0)) t44 (.int .i64 0)) fun t45 =>
       pureK Try.prog (sUn .not t45) fun t46 =>
       ifB t46
       (pureK Try.prog (sBin .add T_int (.tmp 48) (.const (.int .i64 1)) lv11.1 (.int .i64 1)) fun t49 =>
        next11 (t49, ()) w12)
       (J2 (lv11.1, ()) w12))
      (J2 (lv11.1, ()) (tick w11)))
     (lv4.1, ()) w4))
   (t28, t30, ()) w2)
theorem slices_partitionEqualCmpFunc_api_Value.pt_eq : slices_partitionEqualCmpFunc_api_Value.pt = fun data0 a1 b2 pivot3 cmp4 w K => FN Try.prog Try.f57 (bodyOf Try.f57) [] (.node none .leaf (.node none .leaf (.node none .leaf (.node (some [11]) (.node none (.node none (.node none (.node (some [11]) .leaf (.node (some [12]) .leaf .leaf)) .leaf) .leaf) .leaf) .leaf)))) [data0, a1, b2, pivot3, cmp4] w K := by kernel_rfl
theorem slices_partitionEqualCmpFunc_api_Value.call {data0 a1 b2 pivot3 cmp4 : Value} {w : World} {K : Value → World → Prop} (h : slices_partitionEqualCmpFunc_api_Value.pt data0 a1 b2 pivot3 cmp4 w K) : Calls Try.prog F_slices_partitionEqualCmpFunc_api_Value #[data0, a1, b2, pivot3, cmp4] w (retK K) :=
  calls_FN (args := [data0, a1, b2, pivot3, cmp4]) Try.func57 (by kernel_rfl) (by rw [slices_partitionEqualCmpFunc_api_Value.pt_eq] at h; exact h)
theorem slices_partitionEqualCmpFunc_api_Value.up {data0 a1 b2 pivot3 cmp4 : Value} {w : World} {K : Value → World → Prop} (h : Calls Try.prog F_slices_partitionEqualCmpFunc_api_Value #[data0, a1, b2, pivot3, cmp4] w (retK K)) : upK Try.prog (sCall F_slices_partitionEqualCmpFunc_api_Value #[data0, a1, b2, pivot3, cmp4]) w K :=
  up_call (fn := Try.f57) Try.func57 (by kernel_rfl) (by kernel_rfl) h

/-- slices.partitionCmpFunc[errata/api.Value] -/
def slices_partitionCmpFunc_api_Value.pt (data0 a1 b2 pivot3 cmp4 : Value) (w : World) (K : Value → World → Prop) : Prop :=
  pureK Try.prog (sIdxAddr T_s_api_Value data0 pivot3) fun t20 =>
  readK Try.prog (sLoad T_api_Value t20) (tick w) fun t21 =>
  pureK Try.prog (sIdxAddr T_s_api_Value data0 a1) fun t24 =>
  readK Try.prog (sLoad T_api_Value t24) (tick w) fun t25 =>
  pureK Try.prog (sIdxAddr T_s_api_Value data0 a1) fun t26 =>
  upK Try.prog (sStore T_api_Value t26 t21) (tick w) fun tu w1 =>
  pureK Try.prog (sIdxAddr T_s_api_Value data0 pivot3) fun t27 =>
  upK Try.prog (sStore T_api_Value t27 t25) w1 fun tu_1 w2 =>
  pureK Try.prog (sBin .add T_int (.tmp 28) (.const (.int .i64 1)) a1 (.int .i64 1)) fun t29 =>
  pureK Try.prog (sBin .sub T_int (.tmp 30) (.const (.int .i64 1)) b2 (.int .i64 1)) fun t31 =>
  LETJ (X := Value × Unit) (fun jv1 w3 =>
   LETJ (X := Value × Unit) (fun jv2 w4 =>
    pureK Try.prog (sBin .gtr T_int (.tmp 69) (.tmp 70) jv1.1 jv2.1) fun t71 =>
    ifB t71
    (pureK Try.prog (sIdxAddr T_s_api_Value data0 a1) fun t78 =>
     readK Try.prog (sLoad T_api_Value t78) (tick w4) fun t79 =>
     pureK Try.prog (sIdxAddr T_s_api_Value data0 jv2.1) fun t82 =>
     readK Try.prog (sLoad T_api_Value t82) (tick w4) fun t83 =>
     pureK Try.prog (sIdxAddr T_s_api_Value data0 jv2.1) fun t84 =>
     upK Try.prog (sStore T_api_Value t84 t79) (tick w4) fun tu_2 w5 =>
     pureK Try.prog (sIdxAddr T_s_api_Value data0 a1) fun t85 =>
     upK Try.prog (sStore T_api_Value t85 t83) w5 fun tu_3 w6 =>
     K (.tuple #[jv2.1, (.bool true)]) w6)
    (pureK Try.prog (sIdxAddr T_s_api_Value data0 jv2.1) fun t93 =>
     readK Try.prog (sLoad T_api_Value t93) (tick w4) fun t94 =>
     pureK Try.prog (sIdxAddr T_s_api_Value data0 jv1.1) fun t97 =>
     readK Try.prog (sLoad T_api_Value t97) (tick w4) fun t98 =>
     pureK Try.prog (sIdxAddr T_s_api_Value data0 jv1.1) fun t99 =>
     upK Try.prog (sStore T_api_Value t99 t94) (tick w4) fun tu_4 w7 =>
     pureK Try.prog (sIdxAddr T_s_api_Value data0 jv2.1) fun t100 =>
     upK Try.prog (sStore T_api_Value t100 t98) w7 fun tu_5 w8 =>
     pureK Try.prog (sBin .add T_int (.tmp 101) (.const (.int .i64 1)) jv1.1 (.int .i64 1)) fun t102 =>
     pureK Try.prog (sBin .sub T_int (.tmp 103) (.const (.int .i64 1)) jv2.1 (.int .i64 1)) fun t104 =>
     LETJ (X := Value × Unit) (fun jv3 w9 =>
      pureK Try.prog (sIdxAddr T_s_api_Value data0 a1) fun t169 =>
      readK Try.prog (sLoad T_api_Value t169) (tick w9) fun t170 =>
      pureK Try.prog (sIdxAddr T_s_api_Value data0 jv3.1) fun t173 =>
      readK Try.prog (sLoad T_api_Value t173) (tick w9) fun t174 =>
      pureK Try.prog (sIdxAddr T_s_api_Value data0 jv3.1) fun t175 =>
      upK Try.prog (sStore T_api_Value t175 t170) (tick w9) fun tu_6 w10 =>
      pureK Try.prog (sIdxAddr T_s_api_Value data0 a1) fun t176 =>
      upK Try.prog (sStore T_api_Value t176 t174) w10 fun tu_7 w11 =>
      K (.tuple #[jv3.1, (.bool false)]) w11)
     (fun J3 =>
      LOOP (X := Value × Value × Unit) (fun lv12 w12 next12 =>
       LETJ (X := Value × Unit) (fun jv4 w13 =>
        LETJ (X := Value × Unit) (fun jv5 w14 =>
         pureK Try.prog (sBin .gtr T_int (.tmp 142) (.tmp 143) jv4.1 jv5.1) fun t144 =>
         ifB t144
         (J3 (jv5.1, ()) w14)
         (pureK Try.prog (sIdxAddr T_s_api_Value data0 jv5.1) fun t151 =>
          readK Try.prog (sLoad T_api_Value t151) (tick w14) fun t152 =>
          pureK Try.prog (sIdxAddr T_s_api_Value data0 jv4.1) fun t155 =>
          readK Try.prog (sLoad T_api_Value t155) (tick w14) fun t156 =>
          pureK Try.prog (sIdxAddr T_s_api_Value data0 jv4.1) fun t157 =>
          upK Try.prog (sStore T_api_Value t157 t152) (tick w14) fun tu_8 w15 =>
          pureK Try.prog (sIdxAddr T_s_api_Value data0 jv5.1) fun t158 =>
          upK Try.prog (sStore T_api_Value t158 t156) w15 fun tu_9 w16 =>
          pureK Try.prog (sBin .add T_int (.tmp 159) (.const (.int .i64 1)) jv4.1 (.int .i64 1)) fun t160 =>
          pureK Try.prog (sBin .sub T_int (.tmp 161) (.const (.int .i64 1)) jv5.1 (.int .i64 1)) fun t162 =>
          next12 (t160, t162, ()) w16))
        (fun J5 =>
         LOOP (X := Value × Unit) (fun lv17 w17 next17 =>
          pureK Try.prog (sBin .leq T_int (.tmp 123) (.tmp 124) jv4.1 lv17.1) fun t125 =>
          ifB t125
          (pureK Try.prog (sIdxAddr T_s_api_Value data0 lv17.1) fun t130 =>
           readK Try.prog (sLoad T_api_Value t130) (tick w17) fun t131 =>
           pureK Try.prog (sIdxAddr T_s_api_Value data0 a1) fun t134 =>
           readK Try.prog (sLoad T_api_Value t134) (tick w17) fun t135 =>
           upK Try.prog (sCallV cmp4 #[t131, t135]) (tick w17) fun t136 w18 =>
           pureK Try.prog (sBin .lss T_int (.tmp 136) (.const (.int .i64 0)) t136 (.int .i64 0)) fun t137 =>
           pureK Try.prog (sUn .not t137) fun t138 =>
           ifB t138
           (pureK Try.prog (sBin .sub T_int (.tmp 140) (.const (.int .i64 1)) lv17.1 (.int .i64 1)) fun t141 =>
            next17 (t141, ()) w18)
           (J5 (lv17.1, ()) w18))
          (J5 (lv17.1, ()) (tick w17)))
         (lv12.2.1, ()) w13))
       (fun J4 =>
        LOOP (X := Value × Unit) (fun lv19 w19 next19 =>
         pureK Try.prog (sBin .leq T_int (.tmp 105) (.tmp 106) lv19.1 lv12.2.1) fun t107 =>
         ifB t107
         (pureK Try.prog (sIdxAddr T_s_api_Value data0 lv19.1) fun t112 =>
          readK Try.prog (sLoad T_api_Value t112) (tick w19) fun t113 =>
          pureK Try.prog (sIdxAddr T_s_api_Value data0 a1) fun t116 =>
          readK Try.prog (sLoad T_api_Value t116) (tick w19) fun t117 =>
          upK Try.prog (sCallV cmp4 #[t113, t117]) (tick w19) fun t118 w20 =>
          pureK Try.prog (sBin .lss T_int (.tmp 118) (.const (.int .i64 0)) t118 (.int .i64 0)) fun t119 =>
          ifB t119
          (pureK Try.prog (sBin .add T_int (.tmp 121) (.const (.int .i64 1)) lv19.1 (.int .i64 1)) fun t122 =>
           next19 (t122, ()) w20)
          (J4 (lv19.1, ()) w20))
         (J4 (lv19.1, ()) (tick w19)))
        (lv12.1, ()) w12))
      (t102, t104, ()) w8)))
   (fun J2 =>
    LOOP (X := Value × Unit) (fun lv21 w21 next21 =>
     pureK Try.prog (sBin .leq T_int (.tmp 50) (.tmp 51) jv1.1 lv21.1) fun t52 =>
     ifB t52
     (pureK Try.prog (sIdxAddr T_s_api_Value data0 lv21.1) fun t57 =>
      readK Try.prog (sLoad T_api_Value t57) (tick w21) fun t58 =>
      pureK Try.prog (sIdxAddr T_s_api_Value data0 a1) fun t61 =>
      readK Try.prog (sLoad T_api_Value t61) (tick w21) fun t62 =>
      upK Try.prog (sCallV cmp4 #[t58, t62]) (tick w21) fun t63 w22 =>
      pureK Try.prog (sBin .lss T_int (.tmp 63) (.const (.int .i64 0)) t63 (.int .i64 0)) fun t64 =>
      pureK Try.prog (sUn .not t64) fun t65 =>
      ifB t65
      (pureK Try.prog (sBin .sub T_int (.tmp 67) (.const (.int .i64 1)) lv21.1 (.int .i64 1)) fun t68 =>
       next21 (t68, ()) w22)
      (J2 (lv21.1, ()) w22))
     (J2 (lv21.1, ()) (tick w21)))
    (t31, ()) w3))
  (fun J1 =>
   LOOP (X := Value × Unit) (fun lv23 w23 next23 =>
    pureK Try.prog (sBin .leq T_int (.tmp 32) (.tmp 33) lv23.1 t31) fun t34 =>
    ifB t34
    (pureK Try.prog (sIdxAddr T_s_api_Value data0 lv23.1) fun t39 =>
     readK Try.prog (sLoad T_api_Value t39) (tick w23) fun t40 =>
     pureK Try.prog (sIdxAddr T_s_api_Value data0 a1) fun t43 =>
     readK Try.prog (sLoad T_api_Value t43) (tick w23) fun t44 =>
     upK Try.prog (sCallV cmp4 #[t40, t44]) (tick w23) fun t45 w24 =>
     pureK Try.prog (sBin .lss T_int (.tmp 45) (.const (.int .i64 0)) t45 (.int .i64 0)) fun t46 =>
     ifB t46
     (pureK Try.prog (sBin .add T_int (.tmp 48) (.const (.int .i64 1)) lv23.1 (.int .i64 1)) fun t49 =>
      next23 (t49, ()) w24)
     (J1 (lv23.1, ()) w24))
    (J1 (lv23.1, ()) (tick w23)))
   (t29, ()) w2)
theorem slices_partitionCmpFunc_api_Value.pt_eq : slices_partitionCmpFunc_api_Value.pt = fun data0 a1 b2 pivot3 cmp4 w K => FN Try.prog Try.f58 (bodyOf Try.f58) [] (.node none .leaf (.node none .leaf (.node none .leaf (.node (some [12]) .leaf (.node (some [13]) .leaf (.node none .leaf (.node none .leaf (.node none .leaf (.node none .leaf (.node (some [13]) (.node none (.node none (.node none (.node (some [12]) .leaf (.node (some [13]) .leaf .leaf)) .leaf) .leaf) .leaf) .leaf)))))))))) [data0, a1, b2, pivot3, cmp4] w K := by kernel_rfl
theorem slices_partitionCmpFunc_api_Value.call {data0 a1 b2 pivot3 cmp4 : Value} {w : World} {K : Value → World → Prop} (h : slices_partitionCmpFunc_api_Value.pt data0 a1 b2 pivot3 cmp4 w K) : Calls Try.prog F_slices_partitionCmpFunc_api_Value #[data0, a1, b2, pivot3, cmp4] w (retK K) :=
  calls_FN (args := [data0, a1, b2, pivot3, cmp4]) Try.func58 (by kernel_rfl) (by rw [slices_partitionCmpFunc_api_Value.pt_eq] at h; exact h)
theorem slices_partitionCmpFunc_api_Value.up {data0 a1 b2 pivot3 cmp4 : Value} {w : World} {K : Value → World → Prop} (h : Calls Try.prog F_slices_partitionCmpFunc_api_Value #[data0, a1, b2, pivot3, cmp4] w (retK K)) : upK Try.prog (sCall F_slices_partitionCmpFunc_api_Value #[data0, a1, b2, pivot3, cmp4]) w K :=
  up_call (fn := Try.f58) Try.func58 (by kernel_rfl) (by kernel_rfl) h

/-- math/bits.Len32 -/
theorem math_bits_Len32.up {p0 : Value} {w : World} {K : Value → World → Prop} (h : Calls Try.prog F_math_bits_Len32 #[p0] w (retK K)) : upK Try.prog (sCall F_math_bits_Len32 #[p0]) w K :=
  up_call (fn := Try.f59) Try.func59 (by kernel_rfl) (by kernel_rfl) h

/-- math/bits.Len64 -/
theorem math_bits_Len64.up {p0 : Value} {w : World} {K : Value → World → Prop} (h : Calls Try.prog F_math_bits_Len64 #[p0] w (retK K)) : upK Try.prog (sCall F_math_bits_Len64 #[p0]) w K :=
  up_call (fn := Try.f60) Try.func60 (by kernel_rfl) (by kernel_rfl) h

/-- slices.siftDownCmpFunc[errata/api.Value] -/
def slices_siftDownCmpFunc_api_Value.pt (data0 lo1 hi2 first3 cmp4 : Value) (w : World) (K : Value → World → Prop) : Prop :=
  LOOP (X := Value × Unit) (fun lv1 w1 next1 =>
   pureK Try.prog (sBin .mul T_int (.const (.int .i64 2)) (.tmp 13) (.int .i64 2) lv1.1) fun t14 =>
   pureK Try.prog (sBin .add T_int (.tmp 14) (.const (.int .i64 1)) t14 (.int .i64 1)) fun t15 =>
   pureK Try.prog (sBin .geq T_int (.tmp 16) (.tmp 17) t15 hi2) fun t18 =>
   ifB t18
   (K (.tuple #[]) w1)
   (LETJ (X := Value × Unit) (fun jv1 w2 =>
     pureK Try.prog (sBin .add T_int (.tmp 45) (.tmp 46) first3 lv1.1) fun t47 =>
     pureK Try.prog (sIdxAddr T_s_api_Value data0 t47) fun t48 =>
     readK Try.prog (sLoad T_api_Value t48) (tick w2) fun t49 =>
     pureK Try.prog (sBin .add T_int (.tmp 51) (.tmp 52) first3 jv1.1) fun t53 =>
     pureK Try.prog (sIdxAddr T_s_api_Value data0 t53) fun t54 =>
     readK Try.prog (sLoad T_api_Value t54) (tick w2) fun t55 =>
     upK Try.prog (sCallV cmp4 #[t49, t55]) (tick w2) fun t56 w3 =>
     pureK Try.prog (sBin .lss T_int (.tmp 56) (.const (.int .i64 0)) t56 (.int .i64 0)) fun t57 =>
     pureK Try.prog (sUn .not t57) fun t58 =>
     ifB t58
     (K (.tuple #[]) w3)
     (pureK Try.prog (sBin .add T_int (.tmp 60) (.tmp 61) first3 lv1.1) fun t62 =>
      pureK Try.prog (sBin .add T_int (.tmp 64) (.tmp 65) first3 jv1.1) fun t66 =>
      pureK Try.prog (sBin .add T_int (.tmp 68) (.tmp 69) first3 jv1.1) fun t70 =>
      pureK Try.prog (sIdxAddr T_s_api_Value data0 t70) fun t71 =>
      readK Try.prog (sLoad T_api_Value t71) (tick w3) fun t72 =>
      pureK Try.prog (sBin .add T_int (.tmp 74) (.tmp 75) first3 lv1.1) fun t76 =>
      pureK Try.prog (sIdxAddr T_s_api_Value data0 t76) fun t77 =>
      readK Try.prog (sLoad T_api_Value t77) (tick w3) fun t78 =>
      pureK Try.prog (sIdxAddr T_s_api_Value data0 t62) fun t79 =>
      upK Try.prog (sStore T_api_Value t79 t72) (tick w3) fun tu w4 =>
      pureK Try.prog (sIdxAddr T_s_api_Value data0 t66) fun t80 =>
      upK Try.prog (sStore T_api_Value t80 t78) w4 fun tu_1 w5 =>
      next1 (jv1.1, ()) w5))
    (fun J1 =>
     pureK Try.prog (sBin .add T_int (.tmp 19) (.const (.int .i64 1)) t15 (.int .i64 1)) fun t20 =>
     pureK Try.prog (sBin .lss T_int (.tmp 20) (.tmp 21) t20 hi2) fun t22 =>
     ifB t22
     (pureK Try.prog (sBin .add T_int (.tmp 26) (.tmp 27) first3 t15) fun t28 =>
      pureK Try.prog (sIdxAddr T_s_api_Value data0 t28) fun t29 =>
      readK Try.prog (sLoad T_api_Value t29) (tick w1) fun t30 =>
      pureK Try.prog (sBin .add T_int (.tmp 32) (.tmp 33) first3 t15) fun t34 =>
      pureK Try.prog (sBin .add T_int (.tmp 34) (.const (.int .i64 1)) t34 (.int .i64 1)) fun t35 =>
      pureK Try.prog (sIdxAddr T_s_api_Value data0 t35) fun t36 =>
      readK Try.prog (sLoad T_api_Value t36) (tick w1) fun t37 =>
      upK Try.prog (sCallV cmp4 #[t30, t37]) (tick w1) fun t38 w6 =>
      pureK Try.prog (sBin .lss T_int (.tmp 38) (.const (.int .i64 0)) t38 (.int .i64 0)) fun t39 =>
      ifB t39
      (pureK Try.prog (sBin .add T_int (.tmp 41) (.const (.int .i64 1)) t15 (.int .i64 1)) fun t42 =>
       J1 (t42, ()) w6)
      (J1 (t15, ()) w6))
     (J1 (t15, ()) (tick w1)))))
  (lo1, ()) w
theorem slices_siftDownCmpFunc_api_Value.pt_eq : slices_siftDownCmpFunc_api_Value.pt = fun data0 lo1 hi2 first3 cmp4 w K => FN Try.prog Try.f62 (bodyOf Try.f62) [] (.node none .leaf (.node none (.node none (.node none (.node none .leaf (.node none .leaf (.node (some [11]) .leaf .leaf))) .leaf) .leaf) .leaf)) [data0, lo1, hi2, first3, cmp4] w K := by kernel_rfl
theorem slices_siftDownCmpFunc_api_Value.call {data0 lo1 hi2 first3 cmp4 : Value} {w : World} {K : Value → World → Prop} (h : slices_siftDownCmpFunc_api_Value.pt data0 lo1 hi2 first3 cmp4 w K) : Calls Try.prog F_slices_siftDownCmpFunc_api_Value #[data0, lo1, hi2, first3, cmp4] w (retK K) :=
  calls_FN (args := [data0, lo1, hi2, first3, cmp4]) Try.func62 (by kernel_rfl) (by rw [slices_siftDownCmpFunc_api_Value.pt_eq] at h; exact h)
theorem slices_siftDownCmpFunc_api_Value.up {data0 lo1 hi2 first3 cmp4 : Value} {w : World} {K : Value → World → Prop} (h : Calls Try.prog F_slices_siftDownCmpFunc_api_Value #[data0, lo1, hi2, first3, cmp4] w (retK K)) : upK Try.prog (sCall F_slices_siftDownCmpFunc_api_Value #[data0, lo1, hi2, first3, cmp4]) w K :=
  up_call (fn := Try.f62) Try.func62 (by kernel_rfl) (by kernel_rfl) h

/-- slices.nextPowerOfTwo -/
def slices_nextPowerOfTwo.pt (length0 : Value) (w : World) (K : Value → World → Prop) : Prop :=
  upK Try.prog (sConv T_int T_uint length0) w fun t4 w1 =>
  upK Try.prog (sCall F_math_bits_Len #[t4]) w1 fun t5 w2 =>
  pureK Try.prog (sBin .shl T_uint (.const (.int .u64 1)) (.tmp 5) (.int .u64 1) t5) fun t6 =>
  K t6 w2
theorem slices_nextPowerOfTwo.pt_eq : slices_nextPowerOfTwo.pt = fun length0 w K => FN Try.prog Try.f63 (bodyOf Try.f63) [2] .leaf [length0] w K := by kernel_rfl
theorem slices_nextPowerOfTwo.call {length0 : Value} {w : World} {K : Value → World → Prop} (h : slices_nextPowerOfTwo.pt length0 w K) : Calls Try.prog F_slices_nextPowerOfTwo #[length0] w (retK K) :=
  calls_FN (args := [length0]) Try.func63 (by kernel_rfl) (by rw [slices_nextPowerOfTwo.pt_eq] at h; exact h)
theorem slices_nextPowerOfTwo.up {length0 : Value} {w : World} {K : Value → World → Prop} (h : Calls Try.prog F_slices_nextPowerOfTwo #[length0] w (retK K)) : upK Try.prog (sCall F_slices_nextPowerOfTwo #[length0]) w K :=
  up_call (fn := Try.f63) Try.func63 (by kernel_rfl) (by kernel_rfl) h

/-- (*slices.xorshift).Next -/
def slices_xorshift_Next.pt (r0 : Value) (w : World) (K : Value → World → Prop) : Prop :=
  pureK Try.prog (sNil r0) fun t4 =>
  readK Try.prog (sLoad T_slices_xorshift t4) (tick w) fun t5 =>
  pureK Try.prog (sNil r0) fun t7 =>
  readK Try.prog (sLoad T_slices_xorshift t7) (tick w) fun t8 =>
  pureK Try.prog (sBin .shl T_slices_xorshift (.tmp 8) (.const (.int .u64 13)) t8 (.int .u64 13)) fun t9 =>
  pureK Try.prog (sBin .xor T_slices_xorshift (.tmp 5) (.tmp 9) t5 t9) fun t10 =>
  pureK Try.prog (sNil r0) fun t11 =>
  upK Try.prog (sStore T_slices_xorshift t11 t10) (tick w) fun tu w1 =>
  pureK Try.prog (sNil r0) fun t13 =>
  readK Try.prog (sLoad T_slices_xorshift t13) (tick w1) fun t14 =>
  pureK Try.prog (sNil r0) fun t16 =>
  readK Try.prog (sLoad T_slices_xorshift t16) (tick w1) fun t17 =>
  pureK Try.prog (sBin .shr T_slices_xorshift (.tmp 17) (.const (.int .u64 7)) t17 (.int .u64 7)) fun t18 =>
  pureK Try.prog (sBin .xor T_slices_xorshift (.tmp 14) (.tmp 18) t14 t18) fun t19 =>
  pureK Try.prog (sNil r0) fun t20 =>
  upK Try.prog (sStore T_slices_xorshift t20 t19) (tick w1) fun tu_1 w2 =>
  pureK Try.prog (sNil r0) fun t22 =>
  readK Try.prog (sLoad T_slices_xorshift t22) (tick w2) fun t23 =>
  pureK Try.prog (sNil r0) fun t25 =>
  readK Try.prog (sLoad T_slices_xorshift t25) (tick w2) fun t26 =>
  pureK Try.prog (sBin .shl T_slices_xorshift (.tmp 26) (.const (.int .u64 17)) t26 (.int .u64 17)) fun t27 =>
  pureK Try.prog (sBin .xor T_slices_xorshift (.tmp 23) (.tmp 27) t23 t27) fun t28 =>
  pureK Try.prog (sNil r0) fun t29 =>
  upK Try.prog (sStore T_slices_xorshift t29 t28) (tick w2) fun tu_2 w3 =>
  pureK Try.prog (sNil r0) fun t31 =>
  readK Try.prog (sLoad T_slices_xorshift t31) w3 fun t32 =>
  K t32 w3
theorem slices_xorshift_Next.pt_eq : slices_xorshift_Next.pt = fun r0 w K => FN Try.prog Try.f64 (bodyOf Try.f64) [2] .leaf [r0] w K := by kernel_rfl
theorem slices_xorshift_Next.call {r0 : Value} {w : World} {K : Value → World → Prop} (h : slices_xorshift_Next.pt r0 w K) : Calls Try.prog F_slices_xorshift_Next #[r0] w (retK K) :=
  calls_FN (args := [r0]) Try.func64 (by kernel_rfl) (by rw [slices_xorshift_Next.pt_eq] at h; exact h)
theorem slices_xorshift_Next.up {r0 : Value} {w : World} {K : Value → World → Prop} (h : Calls Try.prog F_slices_xorshift_Next #[r0] w (retK K)) : upK Try.prog (sCall F_slices_xorshift_Next #[r0]) w K :=
  up_call (fn := Try.f64) Try.func64 (by kernel_rfl) (by kernel_rfl) h

/-- slices.medianAdjacentCmpFunc[errata/api.Value] -/
def slices_medianAdjacentCmpFunc_api_Value.pt (data0 a1 swaps2 cmp3 : Value) (w : World) (K : Value → World → Prop) : Prop :=
  pureK Try.prog (sBin .sub T_int (.tmp 10) (.const (.int .i64 1)) a1 (.int .i64 1)) fun t11 =>
  pureK Try.prog (sBin .add T_int (.tmp 13) (.const (.int .i64 1)) a1 (.int .i64 1)) fun t14 =>
  upK Try.prog (sCall F_slices_medianCmpFunc_api_Value #[data0, t11, a1, t14, swaps2, cmp3]) w fun t17 w1 =>
  K t17 w1
theorem slices_medianAdjacentCmpFunc_api_Value.pt_eq : slices_medianAdjacentCmpFunc_api_Value.pt = fun data0 a1 swaps2 cmp3 w K => FN Try.prog Try.f65 (bodyOf Try.f65) [8] .leaf [data0, a1, swaps2, cmp3] w K := by kernel_rfl
theorem slices_medianAdjacentCmpFunc_api_Value.call {data0 a1 swaps2 cmp3 : Value} {w : World} {K : Value → World → Prop} (h : slices_medianAdjacentCmpFunc_api_Value.pt data0 a1 swaps2 cmp3 w K) : Calls Try.prog F_slices_medianAdjacentCmpFunc_api_Value #[data0, a1, swaps2, cmp3] w (retK K) :=
  calls_FN (args := [data0, a1, swaps2, cmp3]) Try.func65 (by kernel_rfl) (by rw [slices_medianAdjacentCmpFunc_api_Value.pt_eq] at h; exact h)
theorem slices_medianAdjacentCmpFunc_api_Value.up {data0 a1 swaps2 cmp3 : Value} {w : World} {K : Value → World → Prop} (h : Calls Try.prog F_slices_medianAdjacentCmpFunc_api_Value #[data0, a1, swaps2, cmp3] w (retK K)) : upK Try.prog (sCall F_slices_medianAdjacentCmpFunc_api_Value #[data0, a1, swaps2, cmp3]) w K :=
  up_call (fn := Try.f65) Try.func65 (by kernel_rfl) (by kernel_rfl) h

/-- slices.medianCmpFunc[errata/api.Value] -/
def slices_medianCmpFunc_api_Value.pt (data0 a1 b2 c3 swaps4 cmp5 : Value) (w : World) (K : Value → World → Prop) : Prop :=
  upK Try.prog (sCall F_slices_order2CmpFunc_api_Value #[data0, a1, b2, swaps4, cmp5]) w fun t19 w1 =>
  pureK Try.prog (sExtract t19 0) fun t20 =>
  pureK Try.prog (sExtract t19 1) fun t21 =>
  upK Try.prog (sCall F_slices_order2CmpFunc_api_Value #[data0, t21, c3, swaps4, cmp5]) w1 fun t28 w2 =>
  pureK Try.prog (sExtract t28 0) fun t29 =>
  pureK Try.prog (sExtract t28 1) fun t30 =>
  upK Try.prog (sCall F_slices_order2CmpFunc_api_Value #[data0, t20, t29, swaps4, cmp5]) w2 fun t37 w3 =>
  pureK Try.prog (sExtract t37 0) fun t38 =>
  pureK Try.prog (sExtract t37 1) fun t39 =>
  K t39 w3
theorem slices_medianCmpFunc_api_Value.pt_eq : slices_medianCmpFunc_api_Value.pt = fun data0 a1 b2 c3 swaps4 cmp5 w K => FN Try.prog Try.f66 (bodyOf Try.f66) [12] .leaf [data0, a1, b2, c3, swaps4, cmp5] w K := by kernel_rfl
theorem slices_medianCmpFunc_api_Value.call {data0 a1 b2 c3 swaps4 cmp5 : Value} {w : World} {K : Value → World → Prop} (h : slices_medianCmpFunc_api_Value.pt data0 a1 b2 c3 swaps4 cmp5 w K) : Calls Try.prog F_slices_medianCmpFunc_api_Value #[data0, a1, b2, c3, swaps4, cmp5] w (retK K) :=
  calls_FN (args := [data0, a1, b2, c3, swaps4, cmp5]) Try.func66 (by kernel_rfl) (by rw [slices_medianCmpFunc_api_Value.pt_eq] at h; exact h)
theorem slices_medianCmpFunc_api_Value.up {data0 a1 b2 c3 swaps4 cmp5 : Value} {w : World} {K : Value → World → Prop} (h : Calls Try.prog F_slices_medianCmpFunc_api_Value #[data0, a1, b2, c3, swaps4, cmp5] w (retK K)) : upK Try.prog (sCall F_slices_medianCmpFunc_api_Value #[data0, a1, b2, c3, swaps4, cmp5]) w K :=
  up_call (fn := Try.f66) Try.func66 (by kernel_rfl) (by kernel_rfl) h

/-- slices.order2CmpFunc[errata/api.Value] -/
def slices_order2CmpFunc_api_Value.pt (data0 a1 b2 swaps3 cmp4 : Value) (w : World) (K : Value → World → Prop) : Prop :=
  pureK Try.prog (sIdxAddr T_s_api_Value data0 b2) fun t15 =>
  readK Try.prog (sLoad T_api_Value t15) (tick w) fun t16 =>
  pureK Try.prog (sIdxAddr T_s_api_Value data0 a1) fun t19 =>
  readK Try.prog (sLoad T_api_Value t19) (tick w) fun t20 =>
  upK Try.prog (sCallV cmp4 #[t16, t20]) (tick w) fun t21 w1 =>
  pureK Try.prog (sBin .lss T_int (.tmp 21) (.const (.int .i64 0)) t21 (.int .i64 0)) fun t22 =>
  ifB t22
  (pureK Try.prog (sNil swaps3) fun t24 =>
   readK Try.prog (sLoad T_int t24) w1 fun t25 =>
   pureK Try.prog (sBin .add T_int (.tmp 25) (.const (.int .i64 1)) t25 (.int .i64 1)) fun t26 =>
   pureK Try.prog (sNil swaps3) fun t27 =>
   upK Try.prog (sStore T_int t27 t26) w1 fun tu w2 =>
   K (.tuple #[b2, a1]) w2)
  (K (.tuple #[a1, b2]) w1)
theorem slices_order2CmpFunc_api_Value.pt_eq : slices_order2CmpFunc_api_Value.pt = fun data0 a1 b2 swaps3 cmp4 w K => FN Try.prog Try.f67 (bodyOf Try.f67) [10, 11] .leaf [data0, a1, b2, swaps3, cmp4] w K := by kernel_rfl
theorem slices_order2CmpFunc_api_Value.call {data0 a1 b2 swaps3 cmp4 : Value} {w : World} {K : Value → World → Prop} (h : slices_order2CmpFunc_api_Value.pt data0 a1 b2 swaps3 cmp4 w K) : Calls Try.prog F_slices_order2CmpFunc_api_Value #[data0, a1, b2, swaps3, cmp4] w (retK K) :=
  calls_FN (args := [data0, a1, b2, swaps3, cmp4]) Try.func67 (by kernel_rfl) (by rw [slices_order2CmpFunc_api_Value.pt_eq] at h; exact h)
theorem slices_order2CmpFunc_api_Value.up {data0 a1 b2 swaps3 cmp4 : Value} {w : World} {K : Value → World → Prop} (h : Calls Try.prog F_slices_order2CmpFunc_api_Value #[data0, a1, b2, swaps3, cmp4] w (retK K)) : upK Try.prog (sCall F_slices_order2CmpFunc_api_Value #[data0, a1, b2, swaps3, cmp4]) w K :=
  up_call (fn := Try.f67) Try.func67 (by kernel_rfl) (by kernel_rfl) h

end Go.Proofs.Ytoebncgnjbblgaa
