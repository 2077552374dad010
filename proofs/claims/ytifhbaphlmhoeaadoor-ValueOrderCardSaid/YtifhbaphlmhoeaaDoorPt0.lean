/-
  The reckoned conditions of the functions that this seat's statements reach, printed by program, each held against the translation by the kernel. No condition.
-/
import Derived.Test.YtifhbaphlmhoeaaDoorNames
namespace Go.Proofs.YtifhbaphlmhoeaaDoor
set_option linter.unusedVariables false
set_option maxRecDepth 100000

/-- errata/erratalaw03.ValueShows -/
def erratalaw03_ValueShows.pt (r0 s1 : Value) (w : World) (K : Value → World → Prop) : Prop :=
  upK Tryd.prog (sCall F_erratalaw03_small #[]) w fun t16 w1 =>
  upK Tryd.prog (sCall F_errataref03_Short #[r0, (.int .i64 15)]) w1 fun t18 w2 =>
  pureK Tryd.prog (sUn .not t18) fun t19 =>
  ifB t19
  (K t16 w2)
  (readK Tryd.prog (sBlt .len #[T_string] T_int #[false] #[s1]) w2 fun t22 =>
   pureK Tryd.prog (sBin .gtr T_int (.tmp 22) (.const (.int .i64 500)) t22 (.int .i64 500)) fun t23 =>
   ifB t23
   (K t16 w2)
   (LOOP (X := Value × Value × Unit) (fun lv3 w3 next3 =>
     readK Tryd.prog (sBlt .len #[T_s_api_Value] T_int #[false] #[r0]) w3 fun t28 =>
     pureK Tryd.prog (sBin .lss T_int (.tmp 26) (.tmp 28) lv3.2.1 t28) fun t29 =>
     ifB t29
     (LETJ (X := Value × Unit) (fun jv1 w4 =>
       pureK Tryd.prog (sBin .add T_int (.tmp 30) (.const (.int .i64 1)) lv3.2.1 (.int .i64 1)) fun t31 =>
       next3 (jv1.1, t31, ()) w4)
      (fun J1 =>
       pureK Tryd.prog (sIdxAddr T_s_api_Value r0 lv3.2.1) fun t35 =>
       readK Tryd.prog (sLoad T_api_Value t35) w3 fun t36 =>
       upK Tryd.prog (sCall F_value_Show #[t36]) w3 fun t37 w5 =>
       upK Tryd.prog (sCall F_value_Parse #[t37]) w5 fun t38 w6 =>
       pureK Tryd.prog (sExtract t38 0) fun t39 =>
       pureK Tryd.prog (sExtract t38 1) fun t40 =>
       upK Tryd.prog (sAlloc T_api_Value) w6 fun v8 w7 =>
       upK Tryd.prog (sStore T_api_Value v8 t39) w7 fun tu w8 =>
       LETJ (X := Unit) (fun jv2 w9 =>
        ifB lv3.1
        (J1 (t40, ()) w9)
        (J1 ((.bool false), ()) w9))
       (fun J2 =>
        pureK Tryd.prog (sIdxAddr T_s_api_Value r0 lv3.2.1) fun t43 =>
        readK Tryd.prog (sLoad T_api_Value t43) (tick w8) fun t44 =>
        upK Tryd.prog (sCall F_value_Right #[t44]) (tick w8) fun t45 w10 =>
        pureK Tryd.prog (sBin .neq T_bool (.tmp 45) (.tmp 46) t45 t40) fun t47 =>
        ifB t47
        (K (.bool false) w10)
        (ifB t40
         (readK Tryd.prog (sLoad T_api_Value v8) w10 fun t51 =>
          pureK Tryd.prog (sIdxAddr T_s_api_Value r0 lv3.2.1) fun t54 =>
          readK Tryd.prog (sLoad T_api_Value t54) w10 fun t55 =>
          pureK Tryd.prog (sBin .neq T_api_Value (.tmp 51) (.tmp 55) t51 t55) fun t56 =>
          ifB t56
          (K (.bool false) w10)
          (J2 (()) w10))
         (J2 (()) w10)))))
     (upK Tryd.prog (sCall F_value_ShowRow #[r0]) w3 fun t65 w11 =>
      upK Tryd.prog (sCall F_value_ParseRow #[t65]) w11 fun t66 w12 =>
      pureK Tryd.prog (sExtract t66 0) fun t67 =>
      pureK Tryd.prog (sExtract t66 1) fun t68 =>
      LETJ (X := Unit) (fun jv3 w13 =>
       upK Tryd.prog (sCall F_value_Parse #[s1]) w13 fun t83 w14 =>
       pureK Tryd.prog (sExtract t83 0) fun t84 =>
       pureK Tryd.prog (sExtract t83 1) fun t85 =>
       upK Tryd.prog (sAlloc T_api_Value) w14 fun v12 w15 =>
       upK Tryd.prog (sStore T_api_Value v12 t84) w15 fun tu_1 w16 =>
       upK Tryd.prog (sCall F_value_ParseRow #[s1]) w16 fun t88 w17 =>
       pureK Tryd.prog (sExtract t88 0) fun t89 =>
       pureK Tryd.prog (sExtract t88 1) fun t90 =>
       LETJ (X := Unit) (fun jv4 w18 =>
        K t16 w18)
       (fun J4 =>
        ifB t85
        (readK Tryd.prog (sLoad T_api_Value v12) w17 fun t93 =>
         upK Tryd.prog (sCall F_value_Show #[t93]) w17 fun t94 w19 =>
         pureK Tryd.prog (sBin .neq T_string (.tmp 94) (.tmp 95) t94 s1) fun t96 =>
         ifB t96
         (K (.bool false) w19)
         (readK Tryd.prog (sLoad T_api_Value v12) w19 fun t98 =>
          upK Tryd.prog (sCall F_value_Right #[t98]) w19 fun t99 w20 =>
          pureK Tryd.prog (sUn .not t99) fun t100 =>
          ifB t100
          (K (.bool false) w20)
          (pureK Tryd.prog (sUn .not t85) fun t105 =>
           ifB t105
           (readK Tryd.prog (sLoad T_api_Value v12) w20 fun t107 =>
            pureK Tryd.prog (sBuild T_api_Value #[]) fun t108 =>
            pureK Tryd.prog (sBin .neq T_api_Value (.tmp 107) (.tmp 108) t107 t108) fun t109 =>
            ifB t109
            (K (.bool false) w20)
            (ifB t90
             (upK Tryd.prog (sCall F_value_ShowRow #[t89]) w20 fun t116 w21 =>
              pureK Tryd.prog (sBin .neq T_string (.tmp 116) (.tmp 117) t116 s1) fun t118 =>
              ifB t118
              (K (.bool false) w21)
              (pureK Tryd.prog (sUn .not t90) fun t123 =>
               ifB t123
               (readK Tryd.prog (sBlt .len #[T_s_api_Value] T_int #[false] #[t89]) w21 fun t126 =>
                pureK Tryd.prog (sBin .neq T_int (.tmp 126) (.const (.int .i64 0)) t126 (.int .i64 0)) fun t127 =>
                ifB t127
                (K (.bool false) w21)
                (J4 (()) w21))
               (J4 (()) w21)))
             (pureK Tryd.prog (sUn .not t90) fun t123_1 =>
              ifB t123_1
              (readK Tryd.prog (sBlt .len #[T_s_api_Value] T_int #[false] #[t89]) w20 fun t126_1 =>
               pureK Tryd.prog (sBin .neq T_int (.tmp 126) (.const (.int .i64 0)) t126_1 (.int .i64 0)) fun t127_1 =>
               ifB t127_1
               (K (.bool false) w20)
               (J4 (()) w20))
              (J4 (()) w20))))
           (ifB t90
            (upK Tryd.prog (sCall F_value_ShowRow #[t89]) w20 fun t116_1 w22 =>
             pureK Tryd.prog (sBin .neq T_string (.tmp 116) (.tmp 117) t116_1 s1) fun t118_1 =>
             ifB t118_1
             (K (.bool false) w22)
             (pureK Tryd.prog (sUn .not t90) fun t123_2 =>
              ifB t123_2
              (readK Tryd.prog (sBlt .len #[T_s_api_Value] T_int #[false] #[t89]) w22 fun t126_2 =>
               pureK Tryd.prog (sBin .neq T_int (.tmp 126) (.const (.int .i64 0)) t126_2 (.int .i64 0)) fun t127_2 =>
               ifB t127_2
               (K (.bool false) w22)
               (J4 (()) w22))
              (J4 (()) w22)))
            (pureK Tryd.prog (sUn .not t90) fun t123_3 =>
             ifB t123_3
             (readK Tryd.prog (sBlt .len #[T_s_api_Value] T_int #[false] #[t89]) w20 fun t126_3 =>
              pureK Tryd.prog (sBin .neq T_int (.tmp 126) (.const (.int .i64 0)) t126_3 (.int .i64 0)) fun t127_3 =>
              ifB t127_3
              (K (.bool false) w20)
              (J4 (()) w20))
             (J4 (()) w20))))))
        (pureK Tryd.prog (sUn .not t85) fun t105_1 =>
         ifB t105_1
         (readK Tryd.prog (sLoad T_api_Value v12) w17 fun t107_1 =>
          pureK Tryd.prog (sBuild T_api_Value #[]) fun t108_1 =>
          pureK Tryd.prog (sBin .neq T_api_Value (.tmp 107) (.tmp 108) t107_1 t108_1) fun t109_1 =>
          ifB t109_1
          (K (.bool false) w17)
          (ifB t90
           (upK Tryd.prog (sCall F_value_ShowRow #[t89]) w17 fun t116_2 w23 =>
            pureK Tryd.prog (sBin .neq T_string (.tmp 116) (.tmp 117) t116_2 s1) fun t118_2 =>
            ifB t118_2
            (K (.bool false) w23)
            (pureK Tryd.prog (sUn .not t90) fun t123_4 =>
             ifB t123_4
             (readK Tryd.prog (sBlt .len #[T_s_api_Value] T_int #[false] #[t89]) w23 fun t126_4 =>
              pureK Tryd.prog (sBin .neq T_int (.tmp 126) (.const (.int .i64 0)) t126_4 (.int .i64 0)) fun t127_4 =>
              ifB t127_4
              (K (.bool false) w23)
              (J4 (()) w23))
             (J4 (()) w23)))
           (pureK Tryd.prog (sUn .not t90) fun t123_5 =>
            ifB t123_5
            (readK Tryd.prog (sBlt .len #[T_s_api_Value] T_int #[false] #[t89]) w17 fun t126_5 =>
             pureK Tryd.prog (sBin .neq T_int (.tmp 126) (.const (.int .i64 0)) t126_5 (.int .i64 0)) fun t127_5 =>
             ifB t127_5
             (K (.bool false) w17)
             (J4 (()) w17))
            (J4 (()) w17))))
         (ifB t90
          (upK Tryd.prog (sCall F_value_ShowRow #[t89]) w17 fun t116_3 w24 =>
           pureK Tryd.prog (sBin .neq T_string (.tmp 116) (.tmp 117) t116_3 s1) fun t118_3 =>
           ifB t118_3
           (K (.bool false) w24)
           (pureK Tryd.prog (sUn .not t90) fun t123_6 =>
            ifB t123_6
            (readK Tryd.prog (sBlt .len #[T_s_api_Value] T_int #[false] #[t89]) w24 fun t126_6 =>
             pureK Tryd.prog (sBin .neq T_int (.tmp 126) (.const (.int .i64 0)) t126_6 (.int .i64 0)) fun t127_6 =>
             ifB t127_6
             (K (.bool false) w24)
             (J4 (()) w24))
            (J4 (()) w24)))
          (pureK Tryd.prog (sUn .not t90) fun t123_7 =>
           ifB t123_7
           (readK Tryd.prog (sBlt .len #[T_s_api_Value] T_int #[false] #[t89]) w17 fun t126_7 =>
            pureK Tryd.prog (sBin .neq T_int (.tmp 126) (.const (.int .i64 0)) t126_7 (.int .i64 0)) fun t127_7 =>
            ifB t127_7
            (K (.bool false) w17)
            (J4 (()) w17))
           (J4 (()) w17))))))
      (fun J3 =>
       pureK Tryd.prog (sBin .neq T_bool (.tmp 69) (.tmp 70) t68 lv3.1) fun t71 =>
       ifB t71
       (K (.bool false) w12)
       (ifB t68
        (upK Tryd.prog (sCall F_value_SameRows #[t67, r0]) w12 fun t77 w25 =>
         pureK Tryd.prog (sUn .not t77) fun t78 =>
         ifB t78
         (K (.bool false) w25)
         (J3 (()) w25))
        (J3 (()) w12)))))
    ((.bool true), (.int .i64 0), ()) w2))
theorem erratalaw03_ValueShows.pt_eq : erratalaw03_ValueShows.pt = fun r0 s1 w K => FN Tryd.prog Tryd.f3 (bodyOf Tryd.f3) [4] (.node none .leaf (.node none .leaf (.node none .leaf (.node none .leaf (.node none (.node none .leaf (.node none (.node none (.node none .leaf (.node (some [6]) (.node none (.node none .leaf (.node (some []) .leaf .leaf)) .leaf) .leaf)) .leaf) .leaf)) (.node none .leaf (.node (some []) .leaf (.node none .leaf (.node none .leaf (.node (some []) .leaf .leaf)))))))))) [r0, s1] w K := by kernel_rfl
theorem erratalaw03_ValueShows.call {r0 s1 : Value} {w : World} {K : Value → World → Prop} (h : erratalaw03_ValueShows.pt r0 s1 w K) : Calls Tryd.prog F_erratalaw03_ValueShows #[r0, s1] w (retK K) :=
  calls_FN (args := [r0, s1]) Tryd.func3 (by kernel_rfl) (by rw [erratalaw03_ValueShows.pt_eq] at h; exact h)
theorem erratalaw03_ValueShows.up {r0 s1 : Value} {w : World} {K : Value → World → Prop} (h : Calls Tryd.prog F_erratalaw03_ValueShows #[r0, s1] w (retK K)) : upK Tryd.prog (sCall F_erratalaw03_ValueShows #[r0, s1]) w K :=
  up_call (fn := Tryd.f3) Tryd.func3 (by kernel_rfl) (by kernel_rfl) h

/-- errata/erratalaw03.ValueOrder -/
def erratalaw03_ValueOrder.pt (a0 b1 c2 behind3 : Value) (w : World) (K : Value → World → Prop) : Prop :=
  upK Tryd.prog (sCall F_erratalaw03_small #[]) w fun t17 w1 =>
  upK Tryd.prog (sCall F_errataref03_Short #[a0, (.int .i64 15)]) w1 fun t19 w2 =>
  pureK Tryd.prog (sUn .not t19) fun t20 =>
  ifB t20
  (K t17 w2)
  (upK Tryd.prog (sCall F_errataref03_Short #[b1, (.int .i64 15)]) w2 fun t23 w3 =>
   pureK Tryd.prog (sUn .not t23) fun t24 =>
   ifB t24
   (K t17 w3)
   (upK Tryd.prog (sCall F_errataref03_Short #[c2, (.int .i64 15)]) w3 fun t28 w4 =>
    pureK Tryd.prog (sUn .not t28) fun t29 =>
    ifB t29
    (K t17 w4)
    (upK Tryd.prog (sCall F_errataref03_Short #[behind3, (.int .i64 5)]) w4 fun t33 w5 =>
     pureK Tryd.prog (sUn .not t33) fun t34 =>
     ifB t34
     (K t17 w5)
     (upK Tryd.prog (sCall F_value_CompareRows #[a0, b1]) w5 fun t39 w6 =>
      upK Tryd.prog (sCall F_value_CompareRows #[b1, c2]) w6 fun t42 w7 =>
      upK Tryd.prog (sCall F_value_CompareRows #[a0, c2]) w7 fun t45 w8 =>
      LETJ (X := Unit) (fun jv1 w9 =>
       pureK Tryd.prog (sBin .eql T_int (.tmp 92) (.const (.int .i64 0)) t39 (.int .i64 0)) fun t93 =>
       upK Tryd.prog (sCall F_value_RowBytes #[a0]) w9 fun t95 w10 =>
       upK Tryd.prog (sCall F_value_RowBytes #[b1]) w10 fun t97 w11 =>
       pureK Tryd.prog (sBin .eql T_string (.tmp 95) (.tmp 97) t95 t97) fun t98 =>
       pureK Tryd.prog (sBin .neq T_bool (.tmp 93) (.tmp 98) t93 t98) fun t99 =>
       ifB t99
       (K (.bool false) w11)
       (upK Tryd.prog (sCall F_value_SameRows #[a0, b1]) w11 fun t103 w12 =>
        pureK Tryd.prog (sBin .eql T_int (.tmp 104) (.const (.int .i64 0)) t39 (.int .i64 0)) fun t105 =>
        pureK Tryd.prog (sBin .neq T_bool (.tmp 103) (.tmp 105) t103 t105) fun t106 =>
        ifB t106
        (K (.bool false) w12)
        (upK Tryd.prog (sCall F_value_CompareRows #[a0, a0]) w12 fun t111 w13 =>
         pureK Tryd.prog (sBin .neq T_int (.tmp 111) (.const (.int .i64 0)) t111 (.int .i64 0)) fun t112 =>
         ifB t112
         (K (.bool false) w13)
         (LETJ (X := Value × Unit) (fun jv2 w14 =>
           upK Tryd.prog (sBuildSlice T_s_api_Value 0 #[]) w14 fun t180 w15 =>
           upK Tryd.prog (sBlt .append #[T_s_api_Value, T_s_api_Value] T_s_api_Value #[false, false] #[t180, a0]) w15 fun t182 w16 =>
           upK Tryd.prog (sBlt .append #[T_s_api_Value, T_s_api_Value] T_s_api_Value #[false, false] #[t182, behind3]) w16 fun t184 w17 =>
           LETJ (X := Unit) (fun jv3 w18 =>
            ifB t17
            (readK Tryd.prog (sBlt .len #[T_s_api_Value] T_int #[false] #[behind3]) w18 fun t196 =>
             pureK Tryd.prog (sBin .eql T_int (.tmp 196) (.const (.int .i64 0)) t196 (.int .i64 0)) fun t197 =>
             ifB t197
             (K (.bool true) w18)
             (upK Tryd.prog (sCall F_value_CompareRows #[a0, t184]) w18 fun t201 w19 =>
              pureK Tryd.prog (sBin .eql T_int (.tmp 201) (.const (.int .i64 (-1))) t201 (.int .i64 (-1))) fun t202 =>
              K t202 w19))
            (K (.bool false) w18))
           (fun J3 =>
            ifB jv2.1
            (upK Tryd.prog (sCall F_value_CompareRows #[t184, b1]) w17 fun t189 w20 =>
             pureK Tryd.prog (sBin .neq T_int (.tmp 189) (.tmp 190) t189 t39) fun t191 =>
             ifB t191
             (K (.bool false) w20)
             (J3 (()) w20))
            (J3 (()) w17)))
          (fun J2 =>
           LOOP (X := Value × Value × Unit) (fun lv21 w21 next21 =>
            readK Tryd.prog (sBlt .len #[T_s_api_Value] T_int #[false] #[a0]) w21 fun t116 =>
            pureK Tryd.prog (sBin .lss T_int (.tmp 114) (.tmp 116) lv21.2.1 t116) fun t117 =>
            ifB t117
            (readK Tryd.prog (sBlt .len #[T_s_api_Value] T_int #[false] #[b1]) w21 fun t121 =>
             pureK Tryd.prog (sBin .lss T_int (.tmp 119) (.tmp 121) lv21.2.1 t121) fun t122 =>
             ifB t122
             (LETJ (X := Value × Unit) (fun jv4 w22 =>
               pureK Tryd.prog (sBin .add T_int (.tmp 124) (.const (.int .i64 1)) lv21.2.1 (.int .i64 1)) fun t125 =>
               next21 (jv4.1, t125, ()) w22)
              (fun J4 =>
               pureK Tryd.prog (sIdxAddr T_s_api_Value a0 lv21.2.1) fun t128 =>
               readK Tryd.prog (sLoad T_api_Value t128) (tick w21) fun t129 =>
               pureK Tryd.prog (sIdxAddr T_s_api_Value b1 lv21.2.1) fun t132 =>
               readK Tryd.prog (sLoad T_api_Value t132) (tick w21) fun t133 =>
               upK Tryd.prog (sCall F_value_Compare #[t129, t133]) (tick w21) fun t134 w23 =>
               pureK Tryd.prog (sBin .add T_int (.tmp 138) (.const (.int .i64 1)) lv21.2.1 (.int .i64 1)) fun t139 =>
               pureK Tryd.prog (sSlice T_s_api_Value a0 (some lv21.2.1) (some t139) none) fun t140 =>
               pureK Tryd.prog (sBin .add T_int (.tmp 143) (.const (.int .i64 1)) lv21.2.1 (.int .i64 1)) fun t144 =>
               pureK Tryd.prog (sSlice T_s_api_Value b1 (some lv21.2.1) (some t144) none) fun t145 =>
               upK Tryd.prog (sCall F_value_CompareRows #[t140, t145]) (tick w23) fun t146 w24 =>
               pureK Tryd.prog (sBin .neq T_int (.tmp 135) (.tmp 146) t134 t146) fun t147 =>
               ifB t147
               (K (.bool false) w24)
               (pureK Tryd.prog (sBin .eql T_int (.tmp 149) (.const (.int .i64 0)) t134 (.int .i64 0)) fun t150 =>
                pureK Tryd.prog (sIdxAddr T_s_api_Value a0 lv21.2.1) fun t153 =>
                readK Tryd.prog (sLoad T_api_Value t153) w24 fun t154 =>
                pureK Tryd.prog (sIdxAddr T_s_api_Value b1 lv21.2.1) fun t158 =>
                readK Tryd.prog (sLoad T_api_Value t158) w24 fun t159 =>
                upK Tryd.prog (sCall F_value_Bytes #[t154]) w24 fun t155 w25 =>
                Is Tryd.prog (sLoad T_api_Value t158) t159 w25 ∧ upK Tryd.prog (sCall F_value_Bytes #[t159]) w25 fun t160 w26 =>
                pureK Tryd.prog (sBin .eql T_string (.tmp 155) (.tmp 160) t155 t160) fun t161 =>
                pureK Tryd.prog (sBin .neq T_bool (.tmp 150) (.tmp 161) t150 t161) fun t162 =>
                ifB t162
                (K (.bool false) w26)
                (LETJ (X := Unit) (fun jv5 w27 =>
                  ifB lv21.1
                  (J4 ((.bool true), ()) w27)
                  (pureK Tryd.prog (sBin .neq T_int (.tmp 177) (.const (.int .i64 0)) t134 (.int .i64 0)) fun t178 =>
                   J4 (t178, ()) w27))
                 (fun J5 =>
                  pureK Tryd.prog (sUn .not lv21.1) fun t165 =>
                  ifB t165
                  (pureK Tryd.prog (sBin .neq T_int (.tmp 167) (.const (.int .i64 0)) t134 (.int .i64 0)) fun t168 =>
                   ifB t168
                   (pureK Tryd.prog (sBin .neq T_int (.tmp 171) (.tmp 172) t134 t39) fun t173 =>
                    ifB t173
                    (K (.bool false) w26)
                    (J5 (()) w26))
                   (J5 (()) w26))
                  (J5 (()) w26))))))
             (J2 (lv21.1, ()) w21))
            (J2 (lv21.1, ()) w21))
           ((.bool false), (.int .i64 0), ()) w13)))))
      (fun J1 =>
       pureK Tryd.prog (sBin .lss T_int (.tmp 46) (.const (.int .i64 (-1))) t39 (.int .i64 (-1))) fun t47 =>
       ifB t47
       (K (.bool false) w8)
       (pureK Tryd.prog (sBin .gtr T_int (.tmp 49) (.const (.int .i64 1)) t39 (.int .i64 1)) fun t50 =>
        ifB t50
        (K (.bool false) w8)
        (upK Tryd.prog (sCall F_value_CompareRows #[b1, a0]) w8 fun t55 w28 =>
         pureK Tryd.prog (sUn .neg t39) fun t57 =>
         pureK Tryd.prog (sBin .neq T_int (.tmp 55) (.tmp 57) t55 t57) fun t58 =>
         ifB t58
         (K (.bool false) w28)
         (pureK Tryd.prog (sBin .leq T_int (.tmp 61) (.const (.int .i64 0)) t39 (.int .i64 0)) fun t62 =>
          ifB t62
          (pureK Tryd.prog (sBin .leq T_int (.tmp 64) (.const (.int .i64 0)) t42 (.int .i64 0)) fun t65 =>
           ifB t65
           (pureK Tryd.prog (sBin .gtr T_int (.tmp 68) (.const (.int .i64 0)) t45 (.int .i64 0)) fun t69 =>
            ifB t69
            (K (.bool false) w28)
            (pureK Tryd.prog (sBin .leq T_int (.tmp 73) (.const (.int .i64 0)) t39 (.int .i64 0)) fun t74 =>
             ifB t74
             (pureK Tryd.prog (sBin .leq T_int (.tmp 76) (.const (.int .i64 0)) t42 (.int .i64 0)) fun t77 =>
              ifB t77
              (pureK Tryd.prog (sBin .lss T_int (.tmp 80) (.const (.int .i64 0)) t39 (.int .i64 0)) fun t81 =>
               ifB t81
               (pureK Tryd.prog (sBin .eql T_int (.tmp 88) (.const (.int .i64 0)) t45 (.int .i64 0)) fun t89 =>
                ifB t89
                (K (.bool false) w28)
                (J1 (()) w28))
               (pureK Tryd.prog (sBin .lss T_int (.tmp 83) (.const (.int .i64 0)) t42 (.int .i64 0)) fun t84 =>
                ifB t84
                (pureK Tryd.prog (sBin .eql T_int (.tmp 88) (.const (.int .i64 0)) t45 (.int .i64 0)) fun t89_1 =>
                 ifB t89_1
                 (K (.bool false) w28)
                 (J1 (()) w28))
                (J1 (()) w28)))
              (J1 (()) w28))
             (J1 (()) w28)))
           (pureK Tryd.prog (sBin .leq T_int (.tmp 73) (.const (.int .i64 0)) t39 (.int .i64 0)) fun t74_1 =>
            ifB t74_1
            (pureK Tryd.prog (sBin .leq T_int (.tmp 76) (.const (.int .i64 0)) t42 (.int .i64 0)) fun t77_1 =>
             ifB t77_1
             (pureK Tryd.prog (sBin .lss T_int (.tmp 80) (.const (.int .i64 0)) t39 (.int .i64 0)) fun t81_1 =>
              ifB t81_1
              (pureK Tryd.prog (sBin .eql T_int (.tmp 88) (.const (.int .i64 0)) t45 (.int .i64 0)) fun t89_2 =>
               ifB t89_2
               (K (.bool false) w28)
               (J1 (()) w28))
              (pureK Tryd.prog (sBin .lss T_int (.tmp 83) (.const (.int .i64 0)) t42 (.int .i64 0)) fun t84_1 =>
               ifB t84_1
               (pureK Tryd.prog (sBin .eql T_int (.tmp 88) (.const (.int .i64 0)) t45 (.int .i64 0)) fun t89_3 =>
                ifB t89_3
                (K (.bool false) w28)
                (J1 (()) w28))
               (J1 (()) w28)))
             (J1 (()) w28))
            (J1 (()) w28)))
          (pureK Tryd.prog (sBin .leq T_int (.tmp 73) (.const (.int .i64 0)) t39 (.int .i64 0)) fun t74_2 =>
           ifB t74_2
           (pureK Tryd.prog (sBin .leq T_int (.tmp 76) (.const (.int .i64 0)) t42 (.int .i64 0)) fun t77_2 =>
            ifB t77_2
            (pureK Tryd.prog (sBin .lss T_int (.tmp 80) (.const (.int .i64 0)) t39 (.int .i64 0)) fun t81_2 =>
             ifB t81_2
             (pureK Tryd.prog (sBin .eql T_int (.tmp 88) (.const (.int .i64 0)) t45 (.int .i64 0)) fun t89_4 =>
              ifB t89_4
              (K (.bool false) w28)
              (J1 (()) w28))
             (pureK Tryd.prog (sBin .lss T_int (.tmp 83) (.const (.int .i64 0)) t42 (.int .i64 0)) fun t84_2 =>
              ifB t84_2
              (pureK Tryd.prog (sBin .eql T_int (.tmp 88) (.const (.int .i64 0)) t45 (.int .i64 0)) fun t89_5 =>
               ifB t89_5
               (K (.bool false) w28)
               (J1 (()) w28))
              (J1 (()) w28)))
            (J1 (()) w28))
           (J1 (()) w28))))))))))
theorem erratalaw03_ValueOrder.pt_eq : erratalaw03_ValueOrder.pt = fun a0 b1 c2 behind3 w K => FN Tryd.prog Tryd.f4 (bodyOf Tryd.f4) [8] (.node none .leaf (.node none .leaf (.node none .leaf (.node none .leaf (.node none .leaf (.node none .leaf (.node (some []) .leaf (.node none .leaf (.node none .leaf (.node (some [13]) (.node none .leaf (.node none (.node none (.node none .leaf (.node (some [13]) (.node none (.node none .leaf (.node none .leaf (.node (some []) .leaf .leaf))) .leaf) .leaf)) .leaf) .leaf)) (.node none .leaf (.node (some []) .leaf .leaf)))))))))))) [a0, b1, c2, behind3] w K := by kernel_rfl
theorem erratalaw03_ValueOrder.call {a0 b1 c2 behind3 : Value} {w : World} {K : Value → World → Prop} (h : erratalaw03_ValueOrder.pt a0 b1 c2 behind3 w K) : Calls Tryd.prog F_erratalaw03_ValueOrder #[a0, b1, c2, behind3] w (retK K) :=
  calls_FN (args := [a0, b1, c2, behind3]) Tryd.func4 (by kernel_rfl) (by rw [erratalaw03_ValueOrder.pt_eq] at h; exact h)
theorem erratalaw03_ValueOrder.up {a0 b1 c2 behind3 : Value} {w : World} {K : Value → World → Prop} (h : Calls Tryd.prog F_erratalaw03_ValueOrder #[a0, b1, c2, behind3] w (retK K)) : upK Tryd.prog (sCall F_erratalaw03_ValueOrder #[a0, b1, c2, behind3]) w K :=
  up_call (fn := Tryd.f4) Tryd.func4 (by kernel_rfl) (by kernel_rfl) h

/-- errata/erratalaw03.ValueMakes -/
def erratalaw03_ValueMakes.pt (a0 b1 s2 t3 r4 : Value) (w : World) (K : Value → World → Prop) : Prop :=
  upK Tryd.prog (sCall F_erratalaw03_small #[]) w fun t17 w1 =>
  readK Tryd.prog (sBlt .len #[T_string] T_int #[false] #[s2]) w1 fun t19 =>
  pureK Tryd.prog (sBin .gtr T_int (.tmp 19) (.const (.int .i64 300)) t19 (.int .i64 300)) fun t20 =>
  ifB t20
  (K t17 w1)
  (readK Tryd.prog (sBlt .len #[T_string] T_int #[false] #[t3]) w1 fun t23 =>
   pureK Tryd.prog (sBin .gtr T_int (.tmp 23) (.const (.int .i64 300)) t23 (.int .i64 300)) fun t24 =>
   ifB t24
   (K t17 w1)
   (upK Tryd.prog (sCall F_errataref03_Short #[r4, (.int .i64 15)]) w1 fun t28 w2 =>
    pureK Tryd.prog (sUn .not t28) fun t29 =>
    ifB t29
    (K t17 w2)
    (upK Tryd.prog (sCall F_value_Int #[a0]) w2 fun t33 w3 =>
     upK Tryd.prog (sAlloc T_api_Value) w3 fun x12 w4 =>
     upK Tryd.prog (sStore T_api_Value x12 t33) w4 fun tu w5 =>
     upK Tryd.prog (sCall F_value_Text #[s2]) w5 fun t35 w6 =>
     upK Tryd.prog (sAlloc T_api_Value) w6 fun vy13 w7 =>
     upK Tryd.prog (sStore T_api_Value vy13 t35) w7 fun tu_1 w8 =>
     pureK Tryd.prog (sBin .gtr T_int (.tmp 36) (.tmp 37) a0 b1) fun t38 =>
     upK Tryd.prog (sCall F_value_Bool #[t38]) w8 fun t39 w9 =>
     upK Tryd.prog (sAlloc T_api_Value) w9 fun z14 w10 =>
     upK Tryd.prog (sStore T_api_Value z14 t39) w10 fun tu_2 w11 =>
     pureK Tryd.prog (sFieldAddr T_api_Value x12 0) fun t40 =>
     readK Tryd.prog (sLoad T_int t40) w11 fun t41 =>
     pureK Tryd.prog (sBin .neq T_int (.tmp 41) (.const (.int .i64 0)) t41 (.int .i64 0)) fun t42 =>
     ifB t42
     (K (.bool false) w11)
     (pureK Tryd.prog (sFieldAddr T_api_Value x12 1) fun t44 =>
      readK Tryd.prog (sLoad T_int t44) w11 fun t45 =>
      pureK Tryd.prog (sBin .neq T_int (.tmp 45) (.tmp 46) t45 a0) fun t47 =>
      ifB t47
      (K (.bool false) w11)
      (readK Tryd.prog (sLoad T_api_Value x12) w11 fun t50 =>
       upK Tryd.prog (sCall F_value_Right #[t50]) w11 fun t51 w12 =>
       pureK Tryd.prog (sUn .not t51) fun t52 =>
       ifB t52
       (K (.bool false) w12)
       (pureK Tryd.prog (sFieldAddr T_api_Value vy13 0) fun t55 =>
        readK Tryd.prog (sLoad T_int t55) w12 fun t56 =>
        pureK Tryd.prog (sBin .neq T_int (.tmp 56) (.const (.int .i64 1)) t56 (.int .i64 1)) fun t57 =>
        ifB t57
        (K (.bool false) w12)
        (pureK Tryd.prog (sFieldAddr T_api_Value vy13 2) fun t60 =>
         readK Tryd.prog (sLoad T_string t60) w12 fun t61 =>
         pureK Tryd.prog (sBin .neq T_string (.tmp 61) (.tmp 62) t61 s2) fun t63 =>
         ifB t63
         (K (.bool false) w12)
         (readK Tryd.prog (sLoad T_api_Value vy13) w12 fun t66 =>
          upK Tryd.prog (sCall F_value_Right #[t66]) w12 fun t67 w13 =>
          readK Tryd.prog (sBlt .len #[T_string] T_int #[false] #[s2]) w13 fun t69 =>
          pureK Tryd.prog (sBin .leq T_int (.tmp 69) (.const (.int .i64 200)) t69 (.int .i64 200)) fun t70 =>
          pureK Tryd.prog (sBin .neq T_bool (.tmp 67) (.tmp 70) t67 t70) fun t71 =>
          ifB t71
          (K (.bool false) w13)
          (pureK Tryd.prog (sFieldAddr T_api_Value z14 0) fun t74 =>
           readK Tryd.prog (sLoad T_int t74) w13 fun t75 =>
           pureK Tryd.prog (sBin .neq T_int (.tmp 75) (.const (.int .i64 2)) t75 (.int .i64 2)) fun t76 =>
           ifB t76
           (K (.bool false) w13)
           (pureK Tryd.prog (sFieldAddr T_api_Value z14 1) fun t79 =>
            readK Tryd.prog (sLoad T_int t79) w13 fun t80 =>
            pureK Tryd.prog (sBin .eql T_int (.tmp 80) (.const (.int .i64 1)) t80 (.int .i64 1)) fun t81 =>
            pureK Tryd.prog (sBin .gtr T_int (.tmp 82) (.tmp 83) a0 b1) fun t84 =>
            pureK Tryd.prog (sBin .neq T_bool (.tmp 81) (.tmp 84) t81 t84) fun t85 =>
            ifB t85
            (K (.bool false) w13)
            (readK Tryd.prog (sLoad T_api_Value z14) w13 fun t88 =>
             upK Tryd.prog (sCall F_value_Right #[t88]) w13 fun t89 w14 =>
             pureK Tryd.prog (sUn .not t89) fun t90 =>
             ifB t90
             (K (.bool false) w14)
             (readK Tryd.prog (sLoad T_api_Value x12) (tick w14) fun t92 =>
              pureK Tryd.prog (sBin .lss T_int (.tmp 97) (.tmp 98) a0 b1) fun t99 =>
              upK Tryd.prog (sCall F_value_Int #[b1]) (tick w14) fun t94 w15 =>
              Is Tryd.prog (sLoad T_api_Value x12) t92 w15 ∧ upK Tryd.prog (sCall F_value_Compare #[t92, t94]) w15 fun t95 w16 =>
              pureK Tryd.prog (sBin .lss T_int (.tmp 95) (.const (.int .i64 0)) t95 (.int .i64 0)) fun t96 =>
              pureK Tryd.prog (sBin .neq T_bool (.tmp 96) (.tmp 99) t96 t99) fun t100 =>
              ifB t100
              (K (.bool false) w16)
              (readK Tryd.prog (sLoad T_api_Value vy13) w16 fun t102 =>
               pureK Tryd.prog (sBin .lss T_string (.tmp 107) (.tmp 108) s2 t3) fun t109 =>
               upK Tryd.prog (sCall F_value_Text #[t3]) w16 fun t104 w17 =>
               Is Tryd.prog (sLoad T_api_Value vy13) t102 w17 ∧ upK Tryd.prog (sCall F_value_Compare #[t102, t104]) w17 fun t105 w18 =>
               pureK Tryd.prog (sBin .lss T_int (.tmp 105) (.const (.int .i64 0)) t105 (.int .i64 0)) fun t106 =>
               pureK Tryd.prog (sBin .neq T_bool (.tmp 106) (.tmp 109) t106 t109) fun t110 =>
               ifB t110
               (K (.bool false) w18)
               (upK Tryd.prog (sCall F_value_Bool #[(.bool false)]) w18 fun t113 w19 =>
                upK Tryd.prog (sCall F_value_Bool #[(.bool true)]) w19 fun t114 w20 =>
                upK Tryd.prog (sCall F_value_Compare #[t113, t114]) w20 fun t115 w21 =>
                pureK Tryd.prog (sBin .neq T_int (.tmp 115) (.const (.int .i64 (-1))) t115 (.int .i64 (-1))) fun t116 =>
                ifB t116
                (K (.bool false) w21)
                (upK Tryd.prog (sCall F_value_Zero #[(.int .i64 1)]) (tick w21) fun t118 w22 =>
                 upK Tryd.prog (sCall F_value_Text #[(.string ⟨#[]⟩)]) w22 fun t119 w23 =>
                 pureK Tryd.prog (sBin .neq T_api_Value (.tmp 118) (.tmp 119) t118 t119) fun t120 =>
                 ifB t120
                 (K (.bool false) w23)
                 (upK Tryd.prog (sCall F_value_Zero #[(.int .i64 2)]) w23 fun t122 w24 =>
                  upK Tryd.prog (sCall F_value_Bool #[(.bool false)]) w24 fun t123 w25 =>
                  pureK Tryd.prog (sBin .neq T_api_Value (.tmp 122) (.tmp 123) t122 t123) fun t124 =>
                  ifB t124
                  (K (.bool false) w25)
                  (upK Tryd.prog (sCall F_value_Zero #[(.int .i64 0)]) w25 fun t127 w26 =>
                   upK Tryd.prog (sCall F_value_Int #[(.int .i64 0)]) w26 fun t128 w27 =>
                   pureK Tryd.prog (sBin .neq T_api_Value (.tmp 127) (.tmp 128) t127 t128) fun t129 =>
                   ifB t129
                   (K (.bool false) w27)
                   (readK Tryd.prog (sLoad T_api_Value vy13) w27 fun t133 =>
                    upK Tryd.prog (sCall F_value_Zero #[(.int .i64 1)]) w27 fun t132 w28 =>
                    Is Tryd.prog (sLoad T_api_Value vy13) t133 w28 ∧ upK Tryd.prog (sCall F_value_Compare #[t132, t133]) w28 fun t134 w29 =>
                    pureK Tryd.prog (sBin .gtr T_int (.tmp 134) (.const (.int .i64 0)) t134 (.int .i64 0)) fun t135 =>
                    ifB t135
                    (K (.bool false) w29)
                    (readK Tryd.prog (sBlt .len #[T_s_api_Value] T_int #[false] #[r4]) w29 fun t138 =>
                     pureK Tryd.prog (sBin .leq T_int (.tmp 138) (.const (.int .i64 12)) t138 (.int .i64 12)) fun t139 =>
                     LOOP (X := Value × Value × Unit) (fun lv30 w30 next30 =>
                      readK Tryd.prog (sBlt .len #[T_s_api_Value] T_int #[false] #[r4]) w30 fun t142 =>
                      pureK Tryd.prog (sBin .lss T_int (.tmp 140) (.tmp 142) lv30.2.1 t142) fun t143 =>
                      ifB t143
                      (LETJ (X := Value × Unit) (fun jv1 w31 =>
                        pureK Tryd.prog (sBin .add T_int (.tmp 144) (.const (.int .i64 1)) lv30.2.1 (.int .i64 1)) fun t145 =>
                        next30 (jv1.1, t145, ()) w31)
                       (fun J1 =>
                        ifB lv30.1
                        (pureK Tryd.prog (sIdxAddr T_s_api_Value r4 lv30.2.1) fun t150 =>
                         readK Tryd.prog (sLoad T_api_Value t150) w30 fun t151 =>
                         upK Tryd.prog (sCall F_value_Right #[t151]) w30 fun t152 w32 =>
                         J1 (t152, ()) w32)
                        (J1 ((.bool false), ()) w30)))
                      (ifB t17
                       (upK Tryd.prog (sCall F_value_RightRow #[r4]) w30 fun t157 w33 =>
                        pureK Tryd.prog (sBin .eql T_bool (.tmp 157) (.tmp 158) t157 lv30.1) fun t159 =>
                        ifB t159
                        (pureK Tryd.prog (sUn .not lv30.1) fun t163 =>
                         ifB t163
                         (K (.bool true) w33)
                         (upK Tryd.prog (sCall F_value_RowBytes #[r4]) w33 fun t166 w34 =>
                          readK Tryd.prog (sBlt .len #[T_string] T_int #[false] #[t166]) w34 fun t167 =>
                          pureK Tryd.prog (sBin .leq T_int (.tmp 167) (.const (.int .i64 4000)) t167 (.int .i64 4000)) fun t168 =>
                          K t168 w34))
                        (K (.bool false) w33))
                       (K (.bool false) w30)))
                     (t139, (.int .i64 0), ()) w29)))))))))))))))))))
theorem erratalaw03_ValueMakes.pt_eq : erratalaw03_ValueMakes.pt = fun a0 b1 s2 t3 r4 w K => FN Tryd.prog Tryd.f5 (bodyOf Tryd.f5) [10] (.node none .leaf (.node none .leaf (.node none .leaf (.node none .leaf (.node none .leaf (.node none .leaf (.node none .leaf (.node none .leaf (.node none .leaf (.node none .leaf (.node none (.node none .leaf (.node none (.node none (.node none .leaf (.node (some [15]) .leaf .leaf)) .leaf) .leaf)) .leaf))))))))))) [a0, b1, s2, t3, r4] w K := by kernel_rfl
theorem erratalaw03_ValueMakes.call {a0 b1 s2 t3 r4 : Value} {w : World} {K : Value → World → Prop} (h : erratalaw03_ValueMakes.pt a0 b1 s2 t3 r4 w K) : Calls Tryd.prog F_erratalaw03_ValueMakes #[a0, b1, s2, t3, r4] w (retK K) :=
  calls_FN (args := [a0, b1, s2, t3, r4]) Tryd.func5 (by kernel_rfl) (by rw [erratalaw03_ValueMakes.pt_eq] at h; exact h)
theorem erratalaw03_ValueMakes.up {a0 b1 s2 t3 r4 : Value} {w : World} {K : Value → World → Prop} (h : Calls Tryd.prog F_erratalaw03_ValueMakes #[a0, b1, s2, t3, r4] w (retK K)) : upK Tryd.prog (sCall F_erratalaw03_ValueMakes #[a0, b1, s2, t3, r4]) w K :=
  up_call (fn := Tryd.f5) Tryd.func5 (by kernel_rfl) (by kernel_rfl) h

/-- errata/erratalaw03.ValueBack -/
def erratalaw03_ValueBack.pt (r0 s1 : Value) (w : World) (K : Value → World → Prop) : Prop :=
  upK Tryd.prog (sCall F_erratalaw03_small #[]) w fun t15 w1 =>
  upK Tryd.prog (sCall F_errataref03_Short #[r0, (.int .i64 15)]) w1 fun t17 w2 =>
  pureK Tryd.prog (sUn .not t17) fun t18 =>
  ifB t18
  (K t15 w2)
  (readK Tryd.prog (sBlt .len #[T_string] T_int #[false] #[s1]) w2 fun t21 =>
   pureK Tryd.prog (sBin .gtr T_int (.tmp 21) (.const (.int .i64 500)) t21 (.int .i64 500)) fun t22 =>
   ifB t22
   (K t15 w2)
   (upK Tryd.prog (sCall F_value_RowBytes #[r0]) w2 fun t27 w3 =>
    upK Tryd.prog (sCall F_value_ReadRow #[t27]) w3 fun t28 w4 =>
    pureK Tryd.prog (sExtract t28 0) fun t29 =>
    pureK Tryd.prog (sExtract t28 1) fun t30 =>
    pureK Tryd.prog (sUn .not t30) fun t32 =>
    ifB t32
    (K (.bool false) w4)
    (upK Tryd.prog (sCall F_value_SameRows #[t29, r0]) w4 fun t36 w5 =>
     pureK Tryd.prog (sUn .not t36) fun t37 =>
     ifB t37
     (K (.bool false) w5)
     (LOOP (X := Value × Unit) (fun lv6 w6 next6 =>
       readK Tryd.prog (sBlt .len #[T_s_api_Value] T_int #[false] #[r0]) w6 fun t41 =>
       pureK Tryd.prog (sBin .lss T_int (.tmp 39) (.tmp 41) lv6.1 t41) fun t42 =>
       ifB t42
       (pureK Tryd.prog (sIdxAddr T_s_api_Value r0 lv6.1) fun t48 =>
        readK Tryd.prog (sLoad T_api_Value t48) w6 fun t49 =>
        upK Tryd.prog (sCall F_value_Bytes #[t49]) w6 fun t50 w7 =>
        upK Tryd.prog (sCall F_value_Read #[t50]) w7 fun t51 w8 =>
        pureK Tryd.prog (sExtract t51 0) fun t52 =>
        pureK Tryd.prog (sExtract t51 1) fun t53 =>
        upK Tryd.prog (sAlloc T_api_Value) w8 fun v9 w9 =>
        upK Tryd.prog (sStore T_api_Value v9 t52) w9 fun tu w10 =>
        pureK Tryd.prog (sUn .not t53) fun t55 =>
        ifB t55
        (K (.bool false) (tick w10))
        (readK Tryd.prog (sLoad T_api_Value v9) (tick w10) fun t57 =>
         pureK Tryd.prog (sIdxAddr T_s_api_Value r0 lv6.1) fun t60 =>
         readK Tryd.prog (sLoad T_api_Value t60) (tick w10) fun t61 =>
         pureK Tryd.prog (sBin .neq T_api_Value (.tmp 57) (.tmp 61) t57 t61) fun t62 =>
         ifB t62
         (K (.bool false) (tick w10))
         (pureK Tryd.prog (sBin .add T_int (.tmp 43) (.const (.int .i64 1)) lv6.1 (.int .i64 1)) fun t44 =>
          next6 (t44, ()) (tick w10))))
       (upK Tryd.prog (sCall F_value_Read #[s1]) w6 fun t66 w11 =>
        pureK Tryd.prog (sExtract t66 0) fun t67 =>
        pureK Tryd.prog (sExtract t66 1) fun t68 =>
        upK Tryd.prog (sAlloc T_api_Value) w11 fun v11 w12 =>
        upK Tryd.prog (sStore T_api_Value v11 t67) w12 fun tu_1 w13 =>
        upK Tryd.prog (sCall F_value_ReadRow #[s1]) w13 fun t71 w14 =>
        pureK Tryd.prog (sExtract t71 0) fun t72 =>
        pureK Tryd.prog (sExtract t71 1) fun t73 =>
        LETJ (X := Unit) (fun jv1 w15 =>
         K t15 w15)
        (fun J1 =>
         ifB t68
         (readK Tryd.prog (sLoad T_api_Value v11) w14 fun t76 =>
          upK Tryd.prog (sCall F_value_Bytes #[t76]) w14 fun t77 w16 =>
          pureK Tryd.prog (sBin .neq T_string (.tmp 77) (.tmp 78) t77 s1) fun t79 =>
          ifB t79
          (K (.bool false) w16)
          (pureK Tryd.prog (sUn .not t68) fun t83 =>
           ifB t83
           (readK Tryd.prog (sLoad T_api_Value v11) w16 fun t85 =>
            pureK Tryd.prog (sBuild T_api_Value #[]) fun t86 =>
            pureK Tryd.prog (sBin .neq T_api_Value (.tmp 85) (.tmp 86) t85 t86) fun t87 =>
            ifB t87
            (K (.bool false) w16)
            (ifB t73
             (upK Tryd.prog (sCall F_value_RowBytes #[t72]) w16 fun t94 w17 =>
              pureK Tryd.prog (sBin .neq T_string (.tmp 94) (.tmp 95) t94 s1) fun t96 =>
              ifB t96
              (K (.bool false) w17)
              (pureK Tryd.prog (sUn .not t73) fun t101 =>
               ifB t101
               (readK Tryd.prog (sBlt .len #[T_s_api_Value] T_int #[false] #[t72]) w17 fun t104 =>
                pureK Tryd.prog (sBin .neq T_int (.tmp 104) (.const (.int .i64 0)) t104 (.int .i64 0)) fun t105 =>
                ifB t105
                (K (.bool false) w17)
                (J1 (()) w17))
               (J1 (()) w17)))
             (pureK Tryd.prog (sUn .not t73) fun t101_1 =>
              ifB t101_1
              (readK Tryd.prog (sBlt .len #[T_s_api_Value] T_int #[false] #[t72]) w16 fun t104_1 =>
               pureK Tryd.prog (sBin .neq T_int (.tmp 104) (.const (.int .i64 0)) t104_1 (.int .i64 0)) fun t105_1 =>
               ifB t105_1
               (K (.bool false) w16)
               (J1 (()) w16))
              (J1 (()) w16))))
           (ifB t73
            (upK Tryd.prog (sCall F_value_RowBytes #[t72]) w16 fun t94_1 w18 =>
             pureK Tryd.prog (sBin .neq T_string (.tmp 94) (.tmp 95) t94_1 s1) fun t96_1 =>
             ifB t96_1
             (K (.bool false) w18)
             (pureK Tryd.prog (sUn .not t73) fun t101_2 =>
              ifB t101_2
              (readK Tryd.prog (sBlt .len #[T_s_api_Value] T_int #[false] #[t72]) w18 fun t104_2 =>
               pureK Tryd.prog (sBin .neq T_int (.tmp 104) (.const (.int .i64 0)) t104_2 (.int .i64 0)) fun t105_2 =>
               ifB t105_2
               (K (.bool false) w18)
               (J1 (()) w18))
              (J1 (()) w18)))
            (pureK Tryd.prog (sUn .not t73) fun t101_3 =>
             ifB t101_3
             (readK Tryd.prog (sBlt .len #[T_s_api_Value] T_int #[false] #[t72]) w16 fun t104_3 =>
              pureK Tryd.prog (sBin .neq T_int (.tmp 104) (.const (.int .i64 0)) t104_3 (.int .i64 0)) fun t105_3 =>
              ifB t105_3
              (K (.bool false) w16)
              (J1 (()) w16))
             (J1 (()) w16)))))
         (pureK Tryd.prog (sUn .not t68) fun t83_1 =>
          ifB t83_1
          (readK Tryd.prog (sLoad T_api_Value v11) w14 fun t85_1 =>
           pureK Tryd.prog (sBuild T_api_Value #[]) fun t86_1 =>
           pureK Tryd.prog (sBin .neq T_api_Value (.tmp 85) (.tmp 86) t85_1 t86_1) fun t87_1 =>
           ifB t87_1
           (K (.bool false) w14)
           (ifB t73
            (upK Tryd.prog (sCall F_value_RowBytes #[t72]) w14 fun t94_2 w19 =>
             pureK Tryd.prog (sBin .neq T_string (.tmp 94) (.tmp 95) t94_2 s1) fun t96_2 =>
             ifB t96_2
             (K (.bool false) w19)
             (pureK Tryd.prog (sUn .not t73) fun t101_4 =>
              ifB t101_4
              (readK Tryd.prog (sBlt .len #[T_s_api_Value] T_int #[false] #[t72]) w19 fun t104_4 =>
               pureK Tryd.prog (sBin .neq T_int (.tmp 104) (.const (.int .i64 0)) t104_4 (.int .i64 0)) fun t105_4 =>
               ifB t105_4
               (K (.bool false) w19)
               (J1 (()) w19))
              (J1 (()) w19)))
            (pureK Tryd.prog (sUn .not t73) fun t101_5 =>
             ifB t101_5
             (readK Tryd.prog (sBlt .len #[T_s_api_Value] T_int #[false] #[t72]) w14 fun t104_5 =>
              pureK Tryd.prog (sBin .neq T_int (.tmp 104) (.const (.int .i64 0)) t104_5 (.int .i64 0)) fun t105_5 =>
              ifB t105_5
              (K (.bool false) w14)
              (J1 (()) w14))
             (J1 (()) w14))))
          (ifB t73
           (upK Tryd.prog (sCall F_value_RowBytes #[t72]) w14 fun t94_3 w20 =>
            pureK Tryd.prog (sBin .neq T_string (.tmp 94) (.tmp 95) t94_3 s1) fun t96_3 =>
            ifB t96_3
            (K (.bool false) w20)
            (pureK Tryd.prog (sUn .not t73) fun t101_6 =>
             ifB t101_6
             (readK Tryd.prog (sBlt .len #[T_s_api_Value] T_int #[false] #[t72]) w20 fun t104_6 =>
              pureK Tryd.prog (sBin .neq T_int (.tmp 104) (.const (.int .i64 0)) t104_6 (.int .i64 0)) fun t105_6 =>
              ifB t105_6
              (K (.bool false) w20)
              (J1 (()) w20))
             (J1 (()) w20)))
           (pureK Tryd.prog (sUn .not t73) fun t101_7 =>
            ifB t101_7
            (readK Tryd.prog (sBlt .len #[T_s_api_Value] T_int #[false] #[t72]) w14 fun t104_7 =>
             pureK Tryd.prog (sBin .neq T_int (.tmp 104) (.const (.int .i64 0)) t104_7 (.int .i64 0)) fun t105_7 =>
             ifB t105_7
             (K (.bool false) w14)
             (J1 (()) w14))
            (J1 (()) w14)))))))
      ((.int .i64 0), ()) w5))))
theorem erratalaw03_ValueBack.pt_eq : erratalaw03_ValueBack.pt = fun r0 s1 w K => FN Tryd.prog Tryd.f6 (bodyOf Tryd.f6) [4] (.node none .leaf (.node none .leaf (.node none .leaf (.node none .leaf (.node none .leaf (.node none .leaf (.node none .leaf (.node none .leaf (.node (some []) .leaf .leaf))))))))) [r0, s1] w K := by kernel_rfl
theorem erratalaw03_ValueBack.call {r0 s1 : Value} {w : World} {K : Value → World → Prop} (h : erratalaw03_ValueBack.pt r0 s1 w K) : Calls Tryd.prog F_erratalaw03_ValueBack #[r0, s1] w (retK K) :=
  calls_FN (args := [r0, s1]) Tryd.func6 (by kernel_rfl) (by rw [erratalaw03_ValueBack.pt_eq] at h; exact h)
theorem erratalaw03_ValueBack.up {r0 s1 : Value} {w : World} {K : Value → World → Prop} (h : Calls Tryd.prog F_erratalaw03_ValueBack #[r0, s1] w (retK K)) : upK Tryd.prog (sCall F_erratalaw03_ValueBack #[r0, s1]) w K :=
  up_call (fn := Tryd.f6) Tryd.func6 (by kernel_rfl) (by kernel_rfl) h

/-- errata/erratalaw03.small -/
def erratalaw03_small.pt (w : World) (K : Value → World → Prop) : Prop :=
  upK Tryd.prog (sCall F_value_Int #[(.int .i64 (-3))]) w fun t8 w1 =>
  upK Tryd.prog (sCall F_value_Text #[(.string ⟨#[97, 34, 98]⟩)]) w1 fun t9 w2 =>
  upK Tryd.prog (sCall F_value_Bool #[(.bool true)]) w2 fun t10 w3 =>
  upK Tryd.prog (sBuildSlice T_s_api_Value 3 #[(0, t8), (1, t9), (2, t10)]) w3 fun t11 w4 =>
  upK Tryd.prog (sCall F_value_ShowRow #[t11]) w4 fun t13 w5 =>
  upK Tryd.prog (sCall F_value_ParseRow #[t13]) w5 fun t16 w6 =>
  pureK Tryd.prog (sExtract t16 0) fun t17 =>
  pureK Tryd.prog (sExtract t16 1) fun t18 =>
  upK Tryd.prog (sCall F_value_ParseRow #[(.string ⟨#[40, 41]⟩)]) w6 fun t20 w7 =>
  pureK Tryd.prog (sExtract t20 0) fun t21 =>
  pureK Tryd.prog (sExtract t20 1) fun t22 =>
  pureK Tryd.prog (sBin .eql T_string (.tmp 23) (.const (.string ⟨#[40, 45, 51, 44, 32, 34, 97, 92, 34, 98, 34, 44, 32, 116, 114, 117, 101, 41]⟩)) t13 (.string ⟨#[40, 45, 51, 44, 32, 34, 97, 92, 34, 98, 34, 44, 32, 116, 114, 117, 101, 41]⟩)) fun t24 =>
  ifB t24
  (ifB t18
   (upK Tryd.prog (sCall F_value_SameRows #[t17, t11]) w7 fun t31 w8 =>
    ifB t31
    (ifB t22
     (upK Tryd.prog (sCall F_value_ShowRow #[(.slice none 0 0)]) w8 fun t37 w9 =>
      pureK Tryd.prog (sBin .eql T_string (.tmp 37) (.const (.string ⟨#[40, 41]⟩)) t37 (.string ⟨#[40, 41]⟩)) fun t38 =>
      ifB t38
      (upK Tryd.prog (sCall F_value_Int #[(.int .i64 5)]) w9 fun t42 w10 =>
       upK Tryd.prog (sCall F_value_Text #[(.string ⟨#[97]⟩)]) w10 fun t43 w11 =>
       upK Tryd.prog (sCall F_value_Compare #[t42, t43]) w11 fun t44 w12 =>
       pureK Tryd.prog (sBin .eql T_int (.tmp 44) (.const (.int .i64 (-1))) t44 (.int .i64 (-1))) fun t45 =>
       ifB t45
       (pureK Tryd.prog (sSlice T_s_api_Value t11 none (some (.int .i64 1)) none) fun t49 =>
        upK Tryd.prog (sCall F_value_CompareRows #[t49, t11]) w12 fun t51 w13 =>
        pureK Tryd.prog (sBin .eql T_int (.tmp 51) (.const (.int .i64 (-1))) t51 (.int .i64 (-1))) fun t52 =>
        ifB t52
        (upK Tryd.prog (sCall F_value_RightRow #[t11]) w13 fun t56 w14 =>
         K t56 w14)
        (K (.bool false) w13))
       (K (.bool false) w12))
      (K (.bool false) w9))
     (K (.bool false) w8))
    (K (.bool false) w8))
   (K (.bool false) w7))
  (K (.bool false) w7)
theorem erratalaw03_small.pt_eq : erratalaw03_small.pt = fun  w K => FN Tryd.prog Tryd.f7 (bodyOf Tryd.f7) [0] .leaf [] w K := by kernel_rfl
theorem erratalaw03_small.call {w : World} {K : Value → World → Prop} (h : erratalaw03_small.pt  w K) : Calls Tryd.prog F_erratalaw03_small #[] w (retK K) :=
  calls_FN (args := []) Tryd.func7 (by kernel_rfl) (by rw [erratalaw03_small.pt_eq] at h; exact h)
theorem erratalaw03_small.up {w : World} {K : Value → World → Prop} (h : Calls Tryd.prog F_erratalaw03_small #[] w (retK K)) : upK Tryd.prog (sCall F_erratalaw03_small #[]) w K :=
  up_call (fn := Tryd.f7) Tryd.func7 (by kernel_rfl) (by kernel_rfl) h

/-- errata/errataref03.Short -/
def errataref03_Short.pt (r0 n1 : Value) (w : World) (K : Value → World → Prop) : Prop :=
  LOOP (X := Value × Unit) (fun lv1 w1 next1 =>
   readK Tryd.prog (sBlt .len #[T_s_api_Value] T_int #[false] #[r0]) w1 fun t8 =>
   pureK Tryd.prog (sBin .lss T_int (.tmp 6) (.tmp 8) lv1.1 t8) fun t9 =>
   ifB t9
   (pureK Tryd.prog (sIdxAddr T_s_api_Value r0 lv1.1) fun t14 =>
    pureK Tryd.prog (sFieldAddr T_api_Value t14 2) fun t15 =>
    readK Tryd.prog (sLoad T_string t15) w1 fun t16 =>
    readK Tryd.prog (sBlt .len #[T_string] T_int #[false] #[t16]) w1 fun t17 =>
    pureK Tryd.prog (sBin .gtr T_int (.tmp 17) (.const (.int .i64 300)) t17 (.int .i64 300)) fun t18 =>
    ifB t18
    (K (.bool false) w1)
    (pureK Tryd.prog (sBin .add T_int (.tmp 10) (.const (.int .i64 1)) lv1.1 (.int .i64 1)) fun t11 =>
     next1 (t11, ()) w1))
   (readK Tryd.prog (sBlt .len #[T_s_api_Value] T_int #[false] #[r0]) w1 fun t20 =>
    pureK Tryd.prog (sBin .leq T_int (.tmp 20) (.tmp 21) t20 n1) fun t22 =>
    K t22 w1))
  ((.int .i64 0), ()) w
theorem errataref03_Short.pt_eq : errataref03_Short.pt = fun r0 n1 w K => FN Tryd.prog Tryd.f8 (bodyOf Tryd.f8) [4] .leaf [r0, n1] w K := by kernel_rfl
theorem errataref03_Short.call {r0 n1 : Value} {w : World} {K : Value → World → Prop} (h : errataref03_Short.pt r0 n1 w K) : Calls Tryd.prog F_errataref03_Short #[r0, n1] w (retK K) :=
  calls_FN (args := [r0, n1]) Tryd.func8 (by kernel_rfl) (by rw [errataref03_Short.pt_eq] at h; exact h)
theorem errataref03_Short.up {r0 n1 : Value} {w : World} {K : Value → World → Prop} (h : Calls Tryd.prog F_errataref03_Short #[r0, n1] w (retK K)) : upK Tryd.prog (sCall F_errataref03_Short #[r0, n1]) w K :=
  up_call (fn := Tryd.f8) Tryd.func8 (by kernel_rfl) (by kernel_rfl) h

/-- errata/value.Parse -/
def value_Parse.pt (s0 : Value) (w : World) (K : Value → World → Prop) : Prop :=
  upK Tryd.prog (sAlloc T_api_Value) w fun t2 w1 =>
  pureK Tryd.prog (sBin .eql T_string (.tmp 8) (.const (.string ⟨#[116, 114, 117, 101]⟩)) s0 (.string ⟨#[116, 114, 117, 101]⟩)) fun t9 =>
  ifB t9
  (pureK Tryd.prog (sBin .eql T_string (.tmp 14) (.const (.string ⟨#[116, 114, 117, 101]⟩)) s0 (.string ⟨#[116, 114, 117, 101]⟩)) fun t15 =>
   upK Tryd.prog (sCall F_value_Bool #[t15]) w1 fun t16 w2 =>
   upK Tryd.prog (sStore T_api_Value t2 t16) w2 fun tu w3 =>
   readV Tryd.prog (do loadVar T_api_Value (← asAddr t2)) w3 fun t2_1 =>
   K (.tuple #[t2_1, (.bool true)]) w3)
  (pureK Tryd.prog (sBin .eql T_string (.tmp 11) (.const (.string ⟨#[102, 97, 108, 115, 101]⟩)) s0 (.string ⟨#[102, 97, 108, 115, 101]⟩)) fun t12 =>
   ifB t12
   (pureK Tryd.prog (sBin .eql T_string (.tmp 14) (.const (.string ⟨#[116, 114, 117, 101]⟩)) s0 (.string ⟨#[116, 114, 117, 101]⟩)) fun t15_1 =>
    upK Tryd.prog (sCall F_value_Bool #[t15_1]) w1 fun t16_1 w4 =>
    upK Tryd.prog (sStore T_api_Value t2 t16_1) w4 fun tu_1 w5 =>
    readV Tryd.prog (do loadVar T_api_Value (← asAddr t2)) w5 fun t2_2 =>
    K (.tuple #[t2_2, (.bool true)]) w5)
   (upK Tryd.prog (sCall F_text_Int #[s0]) w1 fun t19 w6 =>
    pureK Tryd.prog (sExtract t19 0) fun t20 =>
    pureK Tryd.prog (sExtract t19 1) fun t21 =>
    ifB t21
    (upK Tryd.prog (sCall F_value_Int #[t20]) w6 fun t24 w7 =>
     upK Tryd.prog (sStore T_api_Value t2 t24) w7 fun tu_2 w8 =>
     readV Tryd.prog (do loadVar T_api_Value (← asAddr t2)) w8 fun t2_3 =>
     K (.tuple #[t2_3, (.bool true)]) w8)
    (LETJ (X := Unit) (fun jv1 w9 =>
      pureK Tryd.prog (sBuild T_api_Value #[]) fun t38 =>
      upK Tryd.prog (sStore T_api_Value t2 t38) w9 fun tu_3 w10 =>
      readV Tryd.prog (do loadVar T_api_Value (← asAddr t2)) w10 fun t2_4 =>
      K (.tuple #[t2_4, (.bool false)]) w10)
     (fun J1 =>
      upK Tryd.prog (sCall F_text_Unquote #[s0]) w6 fun t27 w11 =>
      pureK Tryd.prog (sExtract t27 0) fun t28 =>
      pureK Tryd.prog (sExtract t27 1) fun t29 =>
      ifB t29
      (readK Tryd.prog (sBlt .len #[T_string] T_int #[false] #[t28]) w11 fun t33 =>
       pureK Tryd.prog (sBin .leq T_int (.tmp 33) (.const (.int .i64 200)) t33 (.int .i64 200)) fun t34 =>
       ifB t34
       (upK Tryd.prog (sCall F_value_Text #[t28]) w11 fun t37 w12 =>
        upK Tryd.prog (sStore T_api_Value t2 t37) w12 fun tu_4 w13 =>
        readV Tryd.prog (do loadVar T_api_Value (← asAddr t2)) w13 fun t2_5 =>
        K (.tuple #[t2_5, (.bool true)]) w13)
       (J1 (()) w11))
      (J1 (()) w11)))))
theorem value_Parse.pt_eq : value_Parse.pt = fun s0 w K => FN Tryd.prog Tryd.f9 (bodyOf Tryd.f9) [3] (.node none .leaf (.node none .leaf (.node none .leaf (.node (some []) .leaf .leaf)))) [s0] w K := by kernel_rfl
theorem value_Parse.call {s0 : Value} {w : World} {K : Value → World → Prop} (h : value_Parse.pt s0 w K) : Calls Tryd.prog F_value_Parse #[s0] w (retK K) :=
  calls_FN (args := [s0]) Tryd.func9 (by kernel_rfl) (by rw [value_Parse.pt_eq] at h; exact h)
theorem value_Parse.up {s0 : Value} {w : World} {K : Value → World → Prop} (h : Calls Tryd.prog F_value_Parse #[s0] w (retK K)) : upK Tryd.prog (sCall F_value_Parse #[s0]) w K :=
  up_call (fn := Tryd.f9) Tryd.func9 (by kernel_rfl) (by kernel_rfl) h

/-- errata/value.Show -/
def value_Show.pt (v0 : Value) (w : World) (K : Value → World → Prop) : Prop :=
  upK Tryd.prog (sBox T_api_Value v0) w fun v1 w1 =>
  readK Tryd.prog (sLoad T_api_Value v1) w1 fun t4 =>
  upK Tryd.prog (sCall F_value_Right #[t4]) w1 fun t5 w2 =>
  pureK Tryd.prog (sUn .not t5) fun t6 =>
  ifB t6
  (K (.string ⟨#[]⟩) w2)
  (pureK Tryd.prog (sFieldAddr T_api_Value v1 0) fun t8 =>
   readK Tryd.prog (sLoad T_int t8) w2 fun t9 =>
   pureK Tryd.prog (sBin .eql T_int (.tmp 9) (.const (.int .i64 0)) t9 (.int .i64 0)) fun t10 =>
   ifB t10
   (pureK Tryd.prog (sFieldAddr T_api_Value v1 1) fun t11 =>
    readK Tryd.prog (sLoad T_int t11) w2 fun t12 =>
    upK Tryd.prog (sCall F_text_Decimal #[t12]) w2 fun t13 w3 =>
    K t13 w3)
   (pureK Tryd.prog (sFieldAddr T_api_Value v1 0) fun t15 =>
    readK Tryd.prog (sLoad T_int t15) w2 fun t16 =>
    pureK Tryd.prog (sBin .eql T_int (.tmp 16) (.const (.int .i64 1)) t16 (.int .i64 1)) fun t17 =>
    ifB t17
    (pureK Tryd.prog (sFieldAddr T_api_Value v1 2) fun t18 =>
     readK Tryd.prog (sLoad T_string t18) w2 fun t19 =>
     upK Tryd.prog (sCall F_text_Quote #[t19]) w2 fun t20 w4 =>
     K t20 w4)
    (pureK Tryd.prog (sFieldAddr T_api_Value v1 1) fun t22 =>
     readK Tryd.prog (sLoad T_int t22) w2 fun t23 =>
     pureK Tryd.prog (sBin .eql T_int (.tmp 23) (.const (.int .i64 1)) t23 (.int .i64 1)) fun t24 =>
     ifB t24
     (K (.string ⟨#[116, 114, 117, 101]⟩) w2)
     (K (.string ⟨#[102, 97, 108, 115, 101]⟩) w2))))
theorem value_Show.pt_eq : value_Show.pt = fun v0 w K => FN Tryd.prog Tryd.f10 (bodyOf Tryd.f10) [2] .leaf [v0] w K := by kernel_rfl
theorem value_Show.call {v0 : Value} {w : World} {K : Value → World → Prop} (h : value_Show.pt v0 w K) : Calls Tryd.prog F_value_Show #[v0] w (retK K) :=
  calls_FN (args := [v0]) Tryd.func10 (by kernel_rfl) (by rw [value_Show.pt_eq] at h; exact h)
theorem value_Show.up {v0 : Value} {w : World} {K : Value → World → Prop} (h : Calls Tryd.prog F_value_Show #[v0] w (retK K)) : upK Tryd.prog (sCall F_value_Show #[v0]) w K :=
  up_call (fn := Tryd.f10) Tryd.func10 (by kernel_rfl) (by kernel_rfl) h

/-- errata/value.Right -/
def value_Right.pt (v0 : Value) (w : World) (K : Value → World → Prop) : Prop :=
  upK Tryd.prog (sBox T_api_Value v0) w fun v1 w1 =>
  pureK Tryd.prog (sFieldAddr T_api_Value v1 0) fun t3 =>
  readK Tryd.prog (sLoad T_int t3) w1 fun t4 =>
  pureK Tryd.prog (sBin .eql T_int (.tmp 4) (.const (.int .i64 0)) t4 (.int .i64 0)) fun t6 =>
  ifB t6
  (readK Tryd.prog (sLoad T_api_Value v1) (tick w1) fun t7 =>
   pureK Tryd.prog (sFieldAddr T_api_Value v1 1) fun t8 =>
   readK Tryd.prog (sLoad T_int t8) (tick w1) fun t9 =>
   upK Tryd.prog (sCall F_value_Int #[t9]) (tick w1) fun t10 w2 =>
   Is Tryd.prog (sLoad T_api_Value v1) t7 w2 ∧ pureK Tryd.prog (sBin .eql T_api_Value (.tmp 7) (.tmp 10) t7 t10) fun t11 =>
   K t11 w2)
  (pureK Tryd.prog (sBin .eql T_int (.tmp 4) (.const (.int .i64 1)) t4 (.int .i64 1)) fun t13 =>
   ifB t13
   (readK Tryd.prog (sLoad T_api_Value v1) (tick w1) fun t14 =>
    pureK Tryd.prog (sFieldAddr T_api_Value v1 2) fun t15 =>
    readK Tryd.prog (sLoad T_string t15) (tick w1) fun t16 =>
    upK Tryd.prog (sCall F_value_Text #[t16]) (tick w1) fun t17 w3 =>
    Is Tryd.prog (sLoad T_api_Value v1) t14 w3 ∧ pureK Tryd.prog (sBin .eql T_api_Value (.tmp 14) (.tmp 17) t14 t17) fun t18 =>
    ifB t18
    (pureK Tryd.prog (sFieldAddr T_api_Value v1 2) fun t20 =>
     readK Tryd.prog (sLoad T_string t20) w3 fun t21 =>
     readK Tryd.prog (sBlt .len #[T_string] T_int #[false] #[t21]) w3 fun t22 =>
     pureK Tryd.prog (sBin .leq T_int (.tmp 22) (.const (.int .i64 200)) t22 (.int .i64 200)) fun t23 =>
     K t23 w3)
    (K (.bool false) w3))
   (readK Tryd.prog (sLoad T_api_Value v1) (tick w1) fun t25 =>
    upK Tryd.prog (sCall F_value_Bool #[(.bool false)]) (tick w1) fun t26 w4 =>
    Is Tryd.prog (sLoad T_api_Value v1) t25 w4 ∧ pureK Tryd.prog (sBin .eql T_api_Value (.tmp 25) (.tmp 26) t25 t26) fun t27 =>
    ifB t27
    (K (.bool true) w4)
    (readK Tryd.prog (sLoad T_api_Value v1) w4 fun t29 =>
     upK Tryd.prog (sCall F_value_Bool #[(.bool true)]) w4 fun t30 w5 =>
     Is Tryd.prog (sLoad T_api_Value v1) t29 w5 ∧ pureK Tryd.prog (sBin .eql T_api_Value (.tmp 29) (.tmp 30) t29 t30) fun t31 =>
     K t31 w5)))
theorem value_Right.pt_eq : value_Right.pt = fun v0 w K => FN Tryd.prog Tryd.f11 (bodyOf Tryd.f11) [2] .leaf [v0] w K := by kernel_rfl
theorem value_Right.call {v0 : Value} {w : World} {K : Value → World → Prop} (h : value_Right.pt v0 w K) : Calls Tryd.prog F_value_Right #[v0] w (retK K) :=
  calls_FN (args := [v0]) Tryd.func11 (by kernel_rfl) (by rw [value_Right.pt_eq] at h; exact h)
theorem value_Right.up {v0 : Value} {w : World} {K : Value → World → Prop} (h : Calls Tryd.prog F_value_Right #[v0] w (retK K)) : upK Tryd.prog (sCall F_value_Right #[v0]) w K :=
  up_call (fn := Tryd.f11) Tryd.func11 (by kernel_rfl) (by kernel_rfl) h

/-- errata/value.ParseRow -/
def value_ParseRow.pt (s0 : Value) (w : World) (K : Value → World → Prop) : Prop :=
  upK Tryd.prog (sBox T_string s0) w fun s1 w1 =>
  readK Tryd.prog (sLoad T_string s1) w1 fun t6 =>
  readK Tryd.prog (sBlt .len #[T_string] T_int #[false] #[t6]) w1 fun t7 =>
  pureK Tryd.prog (sBin .lss T_int (.tmp 7) (.const (.int .i64 2)) t7 (.int .i64 2)) fun t8 =>
  ifB t8
  (K (.tuple #[(.slice none 0 0), (.bool false)]) w1)
  (readK Tryd.prog (sLoad T_string s1) w1 fun t10 =>
   pureK Tryd.prog (sIdx T_string t10 (.int .i64 0)) fun t11 =>
   pureK Tryd.prog (sBin .neq T_uint8 (.tmp 11) (.const (.int .u8 40)) t11 (.int .u8 40)) fun t12 =>
   ifB t12
   (K (.tuple #[(.slice none 0 0), (.bool false)]) w1)
   (readK Tryd.prog (sLoad T_string s1) w1 fun t15 =>
    readK Tryd.prog (sLoad T_string s1) w1 fun t16 =>
    readK Tryd.prog (sBlt .len #[T_string] T_int #[false] #[t16]) w1 fun t17 =>
    pureK Tryd.prog (sBin .sub T_int (.tmp 17) (.const (.int .i64 1)) t17 (.int .i64 1)) fun t18 =>
    pureK Tryd.prog (sIdx T_string t15 t18) fun t19 =>
    pureK Tryd.prog (sBin .neq T_uint8 (.tmp 19) (.const (.int .u8 41)) t19 (.int .u8 41)) fun t20 =>
    ifB t20
    (K (.tuple #[(.slice none 0 0), (.bool false)]) w1)
    (readK Tryd.prog (sLoad T_string s1) w1 fun t22 =>
     readK Tryd.prog (sLoad T_string s1) w1 fun t23 =>
     readK Tryd.prog (sBlt .len #[T_string] T_int #[false] #[t23]) w1 fun t24 =>
     pureK Tryd.prog (sBin .sub T_int (.tmp 24) (.const (.int .i64 1)) t24 (.int .i64 1)) fun t25 =>
     pureK Tryd.prog (sSlice T_string t22 (some (.int .i64 1)) (some t25) none) fun t26 =>
     upK Tryd.prog (sStore T_string s1 t26) w1 fun tu w2 =>
     upK Tryd.prog (sAlloc T_s_api_Value) w2 fun out4 w3 =>
     pureK Tryd.prog (sMkFunc (.func F_value_ParseRow_1) #[] #[s1, out4]) fun t27 =>
     readK Tryd.prog (sLoad T_string s1) w3 fun t28 =>
     pureK Tryd.prog (sBin .eql T_string (.tmp 28) (.const (.string ⟨#[]⟩)) t28 (.string ⟨#[]⟩)) fun t29 =>
     ifB t29
     (K (.tuple #[(.slice none 0 0), (.bool true)]) w3)
     (LETJ (X := Unit) (fun jv1 w4 =>
       K (.tuple #[(.slice none 0 0), (.bool false)]) w4)
      (fun J1 =>
       LOOP (X := Unit) (fun lv5 w5 next5 =>
        upK Tryd.prog (sCallV t27 #[]) w5 fun t31 w6 =>
        ifB t31
        (readK Tryd.prog (sLoad T_string s1) w6 fun t32 =>
         pureK Tryd.prog (sBin .eql T_string (.tmp 32) (.const (.string ⟨#[]⟩)) t32 (.string ⟨#[]⟩)) fun t33 =>
         ifB t33
         (readK Tryd.prog (sLoad T_s_api_Value out4) w6 fun t34 =>
          K (.tuple #[t34, (.bool true)]) w6)
         (readK Tryd.prog (sLoad T_string s1) w6 fun t35 =>
          upK Tryd.prog (sCall F_strings_HasPrefix #[t35, (.string ⟨#[44, 32]⟩)]) w6 fun t36 w7 =>
          pureK Tryd.prog (sUn .not t36) fun t37 =>
          ifB t37
          (K (.tuple #[(.slice none 0 0), (.bool false)]) w7)
          (readK Tryd.prog (sLoad T_string s1) w7 fun t38 =>
           pureK Tryd.prog (sSlice T_string t38 (some (.int .i64 2)) none none) fun t39 =>
           upK Tryd.prog (sStore T_string s1 t39) w7 fun tu_1 w8 =>
           next5 (()) w8)))
        (J1 (()) w6))
       (()) w3)))))
theorem value_ParseRow.pt_eq : value_ParseRow.pt = fun s0 w K => FN Tryd.prog Tryd.f12 (bodyOf Tryd.f12) [2, 3] (.node none .leaf (.node none .leaf (.node none .leaf (.node none .leaf (.node none .leaf (.node none .leaf (.node (some []) .leaf .leaf))))))) [s0] w K := by kernel_rfl
theorem value_ParseRow.call {s0 : Value} {w : World} {K : Value → World → Prop} (h : value_ParseRow.pt s0 w K) : Calls Tryd.prog F_value_ParseRow #[s0] w (retK K) :=
  calls_FN (args := [s0]) Tryd.func12 (by kernel_rfl) (by rw [value_ParseRow.pt_eq] at h; exact h)
theorem value_ParseRow.up {s0 : Value} {w : World} {K : Value → World → Prop} (h : Calls Tryd.prog F_value_ParseRow #[s0] w (retK K)) : upK Tryd.prog (sCall F_value_ParseRow #[s0]) w K :=
  up_call (fn := Tryd.f12) Tryd.func12 (by kernel_rfl) (by kernel_rfl) h

/-- errata/value.ShowRow -/
def value_ShowRow.pt (r0 : Value) (w : World) (K : Value → World → Prop) : Prop :=
  upK Tryd.prog (sCall F_value_all #[r0]) w fun t7 w1 =>
  pureK Tryd.prog (sUn .not t7) fun t8 =>
  ifB t8
  (K (.string ⟨#[]⟩) w1)
  (readK Tryd.prog (sBlt .len #[T_s_api_Value] T_int #[false] #[r0]) w1 fun t10 =>
   upK Tryd.prog (sMkSlice T_s_string t10 t10) w1 fun t11 w2 =>
   readK Tryd.prog (sBlt .len #[T_s_api_Value] T_int #[false] #[r0]) w2 fun t13 =>
   LOOP (X := Value × Unit) (fun lv3 w3 next3 =>
    pureK Tryd.prog (sBin .lss T_int (.tmp 14) (.tmp 13) lv3.1 t13) fun t15 =>
    ifB t15
    (pureK Tryd.prog (sIdxAddr T_s_api_Value r0 lv3.1) fun t17 =>
     readK Tryd.prog (sLoad T_api_Value t17) w3 fun t18 =>
     upK Tryd.prog (sAlloc T_api_Value) w3 fun v5 w4 =>
     upK Tryd.prog (sStore T_api_Value v5 t18) w4 fun tu w5 =>
     readK Tryd.prog (sLoad T_api_Value v5) w5 fun t21 =>
     upK Tryd.prog (sCall F_value_Show #[t21]) w5 fun t22 w6 =>
     pureK Tryd.prog (sIdxAddr T_s_string t11 lv3.1) fun t23 =>
     upK Tryd.prog (sStore T_string t23 t22) w6 fun tu_1 w7 =>
     pureK Tryd.prog (sBin .add T_int (.tmp 14) (.const (.int .i64 1)) lv3.1 (.int .i64 1)) fun t24 =>
     next3 (t24, ()) w7)
    (upK Tryd.prog (sCall F_strings_Join #[t11, (.string ⟨#[44, 32]⟩)]) w3 fun t26 w8 =>
     pureK Tryd.prog (sBin .add T_string (.const (.string ⟨#[40]⟩)) (.tmp 26) (.string ⟨#[40]⟩) t26) fun t27 =>
     pureK Tryd.prog (sBin .add T_string (.tmp 27) (.const (.string ⟨#[41]⟩)) t27 (.string ⟨#[41]⟩)) fun t28 =>
     K t28 w8))
   ((.int .i64 0), ()) w2)
theorem value_ShowRow.pt_eq : value_ShowRow.pt = fun r0 w K => FN Tryd.prog Tryd.f13 (bodyOf Tryd.f13) [2] .leaf [r0] w K := by kernel_rfl
theorem value_ShowRow.call {r0 : Value} {w : World} {K : Value → World → Prop} (h : value_ShowRow.pt r0 w K) : Calls Tryd.prog F_value_ShowRow #[r0] w (retK K) :=
  calls_FN (args := [r0]) Tryd.func13 (by kernel_rfl) (by rw [value_ShowRow.pt_eq] at h; exact h)
theorem value_ShowRow.up {r0 : Value} {w : World} {K : Value → World → Prop} (h : Calls Tryd.prog F_value_ShowRow #[r0] w (retK K)) : upK Tryd.prog (sCall F_value_ShowRow #[r0]) w K :=
  up_call (fn := Tryd.f13) Tryd.func13 (by kernel_rfl) (by kernel_rfl) h

/-- errata/value.SameRows -/
def value_SameRows.pt (a0 b1 : Value) (w : World) (K : Value → World → Prop) : Prop :=
  upK Tryd.prog (sCall F_slices_Equal_s_api_Value_api_Value #[a0, b1]) w fun t7 w1 =>
  K t7 w1
theorem value_SameRows.pt_eq : value_SameRows.pt = fun a0 b1 w K => FN Tryd.prog Tryd.f14 (bodyOf Tryd.f14) [4] .leaf [a0, b1] w K := by kernel_rfl
theorem value_SameRows.call {a0 b1 : Value} {w : World} {K : Value → World → Prop} (h : value_SameRows.pt a0 b1 w K) : Calls Tryd.prog F_value_SameRows #[a0, b1] w (retK K) :=
  calls_FN (args := [a0, b1]) Tryd.func14 (by kernel_rfl) (by rw [value_SameRows.pt_eq] at h; exact h)
theorem value_SameRows.up {a0 b1 : Value} {w : World} {K : Value → World → Prop} (h : Calls Tryd.prog F_value_SameRows #[a0, b1] w (retK K)) : upK Tryd.prog (sCall F_value_SameRows #[a0, b1]) w K :=
  up_call (fn := Tryd.f14) Tryd.func14 (by kernel_rfl) (by kernel_rfl) h

/-- errata/value.CompareRows -/
def value_CompareRows.pt (a0 b1 : Value) (w : World) (K : Value → World → Prop) : Prop :=
  upK Tryd.prog (sCall F_slices_CompareFunc_s_api_Value_s_api_Value_api_Value_api_Value #[a0, b1, (.func (.func 17) #[] #[])]) w fun t7 w1 =>
  K t7 w1
theorem value_CompareRows.pt_eq : value_CompareRows.pt = fun a0 b1 w K => FN Tryd.prog Tryd.f15 (bodyOf Tryd.f15) [4] .leaf [a0, b1] w K := by kernel_rfl
theorem value_CompareRows.call {a0 b1 : Value} {w : World} {K : Value → World → Prop} (h : value_CompareRows.pt a0 b1 w K) : Calls Tryd.prog F_value_CompareRows #[a0, b1] w (retK K) :=
  calls_FN (args := [a0, b1]) Tryd.func15 (by kernel_rfl) (by rw [value_CompareRows.pt_eq] at h; exact h)
theorem value_CompareRows.up {a0 b1 : Value} {w : World} {K : Value → World → Prop} (h : Calls Tryd.prog F_value_CompareRows #[a0, b1] w (retK K)) : upK Tryd.prog (sCall F_value_CompareRows #[a0, b1]) w K :=
  up_call (fn := Tryd.f15) Tryd.func15 (by kernel_rfl) (by kernel_rfl) h

/-- errata/value.RowBytes -/
def value_RowBytes.pt (r0 : Value) (w : World) (K : Value → World → Prop) : Prop :=
  upK Tryd.prog (sAlloc T_strings_Builder) w fun b3 w1 =>
  readK Tryd.prog (sBlt .len #[T_s_api_Value] T_int #[false] #[r0]) w1 fun t7 =>
  upK Tryd.prog (sCall F_wire_Num #[t7]) w1 fun t8 w2 =>
  upK Tryd.prog (sCall F_strings_Builder_WriteString #[b3, t8]) w2 fun t9 w3 =>
  readK Tryd.prog (sBlt .len #[T_s_api_Value] T_int #[false] #[r0]) w3 fun t11 =>
  LOOP (X := Value × Unit) (fun lv4 w4 next4 =>
   pureK Tryd.prog (sBin .lss T_int (.tmp 12) (.tmp 11) lv4.1 t11) fun t13 =>
   ifB t13
   (pureK Tryd.prog (sIdxAddr T_s_api_Value r0 lv4.1) fun t14 =>
    readK Tryd.prog (sLoad T_api_Value t14) w4 fun t15 =>
    upK Tryd.prog (sAlloc T_api_Value) w4 fun v5 w5 =>
    upK Tryd.prog (sStore T_api_Value v5 t15) w5 fun tu w6 =>
    readK Tryd.prog (sLoad T_api_Value v5) w6 fun t16 =>
    upK Tryd.prog (sCall F_value_Bytes #[t16]) w6 fun t17 w7 =>
    upK Tryd.prog (sCall F_strings_Builder_WriteString #[b3, t17]) w7 fun t18 w8 =>
    pureK Tryd.prog (sBin .add T_int (.tmp 12) (.const (.int .i64 1)) lv4.1 (.int .i64 1)) fun t19 =>
    next4 (t19, ()) w8)
   (upK Tryd.prog (sCall F_strings_Builder_String #[b3]) w4 fun t20 w9 =>
    K t20 w9))
  ((.int .i64 0), ()) w3
theorem value_RowBytes.pt_eq : value_RowBytes.pt = fun r0 w K => FN Tryd.prog Tryd.f16 (bodyOf Tryd.f16) [2] .leaf [r0] w K := by kernel_rfl
theorem value_RowBytes.call {r0 : Value} {w : World} {K : Value → World → Prop} (h : value_RowBytes.pt r0 w K) : Calls Tryd.prog F_value_RowBytes #[r0] w (retK K) :=
  calls_FN (args := [r0]) Tryd.func16 (by kernel_rfl) (by rw [value_RowBytes.pt_eq] at h; exact h)
theorem value_RowBytes.up {r0 : Value} {w : World} {K : Value → World → Prop} (h : Calls Tryd.prog F_value_RowBytes #[r0] w (retK K)) : upK Tryd.prog (sCall F_value_RowBytes #[r0]) w K :=
  up_call (fn := Tryd.f16) Tryd.func16 (by kernel_rfl) (by kernel_rfl) h

/-- errata/value.Compare -/
def value_Compare.pt (a0 b1 : Value) (w : World) (K : Value → World → Prop) : Prop :=
  upK Tryd.prog (sBox T_api_Value a0) w fun a2 w1 =>
  upK Tryd.prog (sBox T_api_Value b1) w1 fun b3 w2 =>
  pureK Tryd.prog (sFieldAddr T_api_Value a2 0) fun t5 =>
  readK Tryd.prog (sLoad T_int t5) (tick w2) fun t6 =>
  pureK Tryd.prog (sFieldAddr T_api_Value b3 0) fun t7 =>
  readK Tryd.prog (sLoad T_int t7) (tick w2) fun t8 =>
  pureK Tryd.prog (sFieldAddr T_api_Value a2 1) fun t10 =>
  readK Tryd.prog (sLoad T_int t10) (tick w2) fun t11 =>
  pureK Tryd.prog (sFieldAddr T_api_Value b3 1) fun t12 =>
  readK Tryd.prog (sLoad T_int t12) (tick w2) fun t13 =>
  pureK Tryd.prog (sFieldAddr T_api_Value a2 2) fun t15 =>
  readK Tryd.prog (sLoad T_string t15) (tick w2) fun t16 =>
  pureK Tryd.prog (sFieldAddr T_api_Value b3 2) fun t17 =>
  readK Tryd.prog (sLoad T_string t17) (tick w2) fun t18 =>
  upK Tryd.prog (sCall F_cmp_Compare_int #[t6, t8]) (tick w2) fun t9 w3 =>
  Is Tryd.prog (sLoad T_string t17) t18 w3 ∧ Is Tryd.prog (sLoad T_string t15) t16 w3 ∧ Is Tryd.prog (sLoad T_int t12) t13 w3 ∧ Is Tryd.prog (sLoad T_int t10) t11 w3 ∧ upK Tryd.prog (sCall F_cmp_Compare_int #[t11, t13]) w3 fun t14 w4 =>
  Is Tryd.prog (sLoad T_string t17) t18 w4 ∧ Is Tryd.prog (sLoad T_string t15) t16 w4 ∧ upK Tryd.prog (sCall F_strings_Compare #[t16, t18]) w4 fun t19 w5 =>
  upK Tryd.prog (sBuildSlice T_s_int 3 #[(0, t9), (1, t14), (2, t19)]) w5 fun t20 w6 =>
  upK Tryd.prog (sCall F_cmp_Or_int #[t20]) w6 fun t21 w7 =>
  K t21 w7
theorem value_Compare.pt_eq : value_Compare.pt = fun a0 b1 w K => FN Tryd.prog Tryd.f17 (bodyOf Tryd.f17) [4] .leaf [a0, b1] w K := by kernel_rfl
theorem value_Compare.call {a0 b1 : Value} {w : World} {K : Value → World → Prop} (h : value_Compare.pt a0 b1 w K) : Calls Tryd.prog F_value_Compare #[a0, b1] w (retK K) :=
  calls_FN (args := [a0, b1]) Tryd.func17 (by kernel_rfl) (by rw [value_Compare.pt_eq] at h; exact h)
theorem value_Compare.up {a0 b1 : Value} {w : World} {K : Value → World → Prop} (h : Calls Tryd.prog F_value_Compare #[a0, b1] w (retK K)) : upK Tryd.prog (sCall F_value_Compare #[a0, b1]) w K :=
  up_call (fn := Tryd.f17) Tryd.func17 (by kernel_rfl) (by kernel_rfl) h

/-- errata/value.Bytes -/
def value_Bytes.pt (v0 : Value) (w : World) (K : Value → World → Prop) : Prop :=
  upK Tryd.prog (sBox T_api_Value v0) w fun v1 w1 =>
  pureK Tryd.prog (sFieldAddr T_api_Value v1 0) fun t3 =>
  readK Tryd.prog (sLoad T_int t3) (tick w1) fun t4 =>
  pureK Tryd.prog (sFieldAddr T_api_Value v1 1) fun t6 =>
  readK Tryd.prog (sLoad T_int t6) (tick w1) fun t7 =>
  pureK Tryd.prog (sFieldAddr T_api_Value v1 2) fun t10 =>
  readK Tryd.prog (sLoad T_string t10) (tick w1) fun t11 =>
  upK Tryd.prog (sCall F_wire_Int #[t4]) (tick w1) fun t5 w2 =>
  Is Tryd.prog (sLoad T_string t10) t11 w2 ∧ Is Tryd.prog (sLoad T_int t6) t7 w2 ∧ upK Tryd.prog (sCall F_wire_Int #[t7]) w2 fun t8 w3 =>
  Is Tryd.prog (sLoad T_string t10) t11 w3 ∧ pureK Tryd.prog (sBin .add T_string (.tmp 5) (.tmp 8) t5 t8) fun t9 =>
  upK Tryd.prog (sCall F_wire_Text #[t11]) w3 fun t12 w4 =>
  pureK Tryd.prog (sBin .add T_string (.tmp 9) (.tmp 12) t9 t12) fun t13 =>
  K t13 w4
theorem value_Bytes.pt_eq : value_Bytes.pt = fun v0 w K => FN Tryd.prog Tryd.f18 (bodyOf Tryd.f18) [2] .leaf [v0] w K := by kernel_rfl
theorem value_Bytes.call {v0 : Value} {w : World} {K : Value → World → Prop} (h : value_Bytes.pt v0 w K) : Calls Tryd.prog F_value_Bytes #[v0] w (retK K) :=
  calls_FN (args := [v0]) Tryd.func18 (by kernel_rfl) (by rw [value_Bytes.pt_eq] at h; exact h)
theorem value_Bytes.up {v0 : Value} {w : World} {K : Value → World → Prop} (h : Calls Tryd.prog F_value_Bytes #[v0] w (retK K)) : upK Tryd.prog (sCall F_value_Bytes #[v0]) w K :=
  up_call (fn := Tryd.f18) Tryd.func18 (by kernel_rfl) (by kernel_rfl) h

/-- errata/value.Int -/
def value_Int.pt (n0 : Value) (w : World) (K : Value → World → Prop) : Prop :=
  upK Tryd.prog (sAlloc T_api_Value) w fun t2 w1 =>
  pureK Tryd.prog (sBuild T_api_Value #[(0, (.int .i64 0)), (1, n0)]) fun t4 =>
  upK Tryd.prog (sStore T_api_Value t2 t4) w1 fun tu w2 =>
  readV Tryd.prog (do loadVar T_api_Value (← asAddr t2)) w2 fun t2_1 =>
  K t2_1 w2
theorem value_Int.pt_eq : value_Int.pt = fun n0 w K => FN Tryd.prog Tryd.f19 (bodyOf Tryd.f19) [] .leaf [n0] w K := by kernel_rfl
theorem value_Int.call {n0 : Value} {w : World} {K : Value → World → Prop} (h : value_Int.pt n0 w K) : Calls Tryd.prog F_value_Int #[n0] w (retK K) :=
  calls_FN (args := [n0]) Tryd.func19 (by kernel_rfl) (by rw [value_Int.pt_eq] at h; exact h)
theorem value_Int.up {n0 : Value} {w : World} {K : Value → World → Prop} (h : Calls Tryd.prog F_value_Int #[n0] w (retK K)) : upK Tryd.prog (sCall F_value_Int #[n0]) w K :=
  up_call (fn := Tryd.f19) Tryd.func19 (by kernel_rfl) (by kernel_rfl) h

/-- errata/value.Text -/
def value_Text.pt (s0 : Value) (w : World) (K : Value → World → Prop) : Prop :=
  upK Tryd.prog (sAlloc T_api_Value) w fun t2 w1 =>
  pureK Tryd.prog (sBuild T_api_Value #[(0, (.int .i64 1)), (2, s0)]) fun t4 =>
  upK Tryd.prog (sStore T_api_Value t2 t4) w1 fun tu w2 =>
  readV Tryd.prog (do loadVar T_api_Value (← asAddr t2)) w2 fun t2_1 =>
  K t2_1 w2
theorem value_Text.pt_eq : value_Text.pt = fun s0 w K => FN Tryd.prog Tryd.f20 (bodyOf Tryd.f20) [] .leaf [s0] w K := by kernel_rfl
theorem value_Text.call {s0 : Value} {w : World} {K : Value → World → Prop} (h : value_Text.pt s0 w K) : Calls Tryd.prog F_value_Text #[s0] w (retK K) :=
  calls_FN (args := [s0]) Tryd.func20 (by kernel_rfl) (by rw [value_Text.pt_eq] at h; exact h)
theorem value_Text.up {s0 : Value} {w : World} {K : Value → World → Prop} (h : Calls Tryd.prog F_value_Text #[s0] w (retK K)) : upK Tryd.prog (sCall F_value_Text #[s0]) w K :=
  up_call (fn := Tryd.f20) Tryd.func20 (by kernel_rfl) (by kernel_rfl) h

/-- errata/value.Bool -/
def value_Bool.pt (b0 : Value) (w : World) (K : Value → World → Prop) : Prop :=
  upK Tryd.prog (sAlloc T_api_Value) w fun t2 w1 =>
  ifB b0
  (pureK Tryd.prog (sBuild T_api_Value #[(0, (.int .i64 2)), (1, (.int .i64 1))]) fun t4 =>
   upK Tryd.prog (sStore T_api_Value t2 t4) w1 fun tu w2 =>
   readV Tryd.prog (do loadVar T_api_Value (← asAddr t2)) w2 fun t2_1 =>
   K t2_1 w2)
  (pureK Tryd.prog (sBuild T_api_Value #[(0, (.int .i64 2))]) fun t5 =>
   upK Tryd.prog (sStore T_api_Value t2 t5) w1 fun tu_1 w3 =>
   readV Tryd.prog (do loadVar T_api_Value (← asAddr t2)) w3 fun t2_2 =>
   K t2_2 w3)
theorem value_Bool.pt_eq : value_Bool.pt = fun b0 w K => FN Tryd.prog Tryd.f21 (bodyOf Tryd.f21) [] .leaf [b0] w K := by kernel_rfl
theorem value_Bool.call {b0 : Value} {w : World} {K : Value → World → Prop} (h : value_Bool.pt b0 w K) : Calls Tryd.prog F_value_Bool #[b0] w (retK K) :=
  calls_FN (args := [b0]) Tryd.func21 (by kernel_rfl) (by rw [value_Bool.pt_eq] at h; exact h)
theorem value_Bool.up {b0 : Value} {w : World} {K : Value → World → Prop} (h : Calls Tryd.prog F_value_Bool #[b0] w (retK K)) : upK Tryd.prog (sCall F_value_Bool #[b0]) w K :=
  up_call (fn := Tryd.f21) Tryd.func21 (by kernel_rfl) (by kernel_rfl) h

/-- errata/value.Zero -/
def value_Zero.pt (kind0 : Value) (w : World) (K : Value → World → Prop) : Prop :=
  upK Tryd.prog (sAlloc T_api_Value) w fun t2 w1 =>
  pureK Tryd.prog (sBuild T_api_Value #[(0, kind0)]) fun t4 =>
  upK Tryd.prog (sStore T_api_Value t2 t4) w1 fun tu w2 =>
  readV Tryd.prog (do loadVar T_api_Value (← asAddr t2)) w2 fun t2_1 =>
  K t2_1 w2
theorem value_Zero.pt_eq : value_Zero.pt = fun kind0 w K => FN Tryd.prog Tryd.f22 (bodyOf Tryd.f22) [] .leaf [kind0] w K := by kernel_rfl
theorem value_Zero.call {kind0 : Value} {w : World} {K : Value → World → Prop} (h : value_Zero.pt kind0 w K) : Calls Tryd.prog F_value_Zero #[kind0] w (retK K) :=
  calls_FN (args := [kind0]) Tryd.func22 (by kernel_rfl) (by rw [value_Zero.pt_eq] at h; exact h)
theorem value_Zero.up {kind0 : Value} {w : World} {K : Value → World → Prop} (h : Calls Tryd.prog F_value_Zero #[kind0] w (retK K)) : upK Tryd.prog (sCall F_value_Zero #[kind0]) w K :=
  up_call (fn := Tryd.f22) Tryd.func22 (by kernel_rfl) (by kernel_rfl) h

/-- errata/value.RightRow -/
def value_RightRow.pt (r0 : Value) (w : World) (K : Value → World → Prop) : Prop :=
  readK Tryd.prog (sBlt .len #[T_s_api_Value] T_int #[false] #[r0]) w fun t4 =>
  pureK Tryd.prog (sBin .leq T_int (.tmp 4) (.const (.int .i64 12)) t4 (.int .i64 12)) fun t5 =>
  ifB t5
  (upK Tryd.prog (sCall F_value_all #[r0]) w fun t8 w1 =>
   K t8 w1)
  (K (.bool false) w)
theorem value_RightRow.pt_eq : value_RightRow.pt = fun r0 w K => FN Tryd.prog Tryd.f23 (bodyOf Tryd.f23) [2] .leaf [r0] w K := by kernel_rfl
theorem value_RightRow.call {r0 : Value} {w : World} {K : Value → World → Prop} (h : value_RightRow.pt r0 w K) : Calls Tryd.prog F_value_RightRow #[r0] w (retK K) :=
  calls_FN (args := [r0]) Tryd.func23 (by kernel_rfl) (by rw [value_RightRow.pt_eq] at h; exact h)
theorem value_RightRow.up {r0 : Value} {w : World} {K : Value → World → Prop} (h : Calls Tryd.prog F_value_RightRow #[r0] w (retK K)) : upK Tryd.prog (sCall F_value_RightRow #[r0]) w K :=
  up_call (fn := Tryd.f23) Tryd.func23 (by kernel_rfl) (by kernel_rfl) h

/-- errata/value.ReadRow -/
def value_ReadRow.pt (s0 : Value) (w : World) (K : Value → World → Prop) : Prop :=
  upK Tryd.prog (sCall F_wire_Open #[s0]) w fun t8 w1 =>
  upK Tryd.prog (sCall F_wire_Reader_Num #[t8]) w1 fun t10 w2 =>
  LOOP (X := Value × Value × Unit) (fun lv3 w3 next3 =>
   pureK Tryd.prog (sBin .gtr T_int (.tmp 11) (.const (.int .i64 0)) lv3.2.1 (.int .i64 0)) fun t12 =>
   ifB t12
   (upK Tryd.prog (sCall F_wire_Reader_Left #[t8]) w3 fun t16 w4 =>
    pureK Tryd.prog (sBin .eql T_int (.tmp 16) (.const (.int .i64 0)) t16 (.int .i64 0)) fun t17 =>
    ifB t17
    (K (.tuple #[(.slice none 0 0), (.bool false)]) w4)
    (upK Tryd.prog (sCall F_value_take #[t8]) w4 fun t20 w5 =>
     upK Tryd.prog (sBuildSlice T_s_api_Value 1 #[(0, t20)]) w5 fun t21 w6 =>
     upK Tryd.prog (sBlt .append #[T_s_api_Value, T_s_api_Value] T_s_api_Value #[false, false] #[lv3.1, t21]) w6 fun t22 w7 =>
     pureK Tryd.prog (sBin .sub T_int (.tmp 13) (.const (.int .i64 1)) lv3.2.1 (.int .i64 1)) fun t14 =>
     next3 (t22, t14, ()) w7))
   (upK Tryd.prog (sCall F_wire_Reader_Done #[t8]) w3 fun t24 w8 =>
    pureK Tryd.prog (sUn .not t24) fun t25 =>
    ifB t25
    (K (.tuple #[(.slice none 0 0), (.bool false)]) w8)
    (K (.tuple #[lv3.1, (.bool true)]) w8)))
  ((.slice none 0 0), t10, ()) w2
theorem value_ReadRow.pt_eq : value_ReadRow.pt = fun s0 w K => FN Tryd.prog Tryd.f24 (bodyOf Tryd.f24) [2, 3] .leaf [s0] w K := by kernel_rfl
theorem value_ReadRow.call {s0 : Value} {w : World} {K : Value → World → Prop} (h : value_ReadRow.pt s0 w K) : Calls Tryd.prog F_value_ReadRow #[s0] w (retK K) :=
  calls_FN (args := [s0]) Tryd.func24 (by kernel_rfl) (by rw [value_ReadRow.pt_eq] at h; exact h)
theorem value_ReadRow.up {s0 : Value} {w : World} {K : Value → World → Prop} (h : Calls Tryd.prog F_value_ReadRow #[s0] w (retK K)) : upK Tryd.prog (sCall F_value_ReadRow #[s0]) w K :=
  up_call (fn := Tryd.f24) Tryd.func24 (by kernel_rfl) (by kernel_rfl) h

/-- errata/value.Read -/
def value_Read.pt (s0 : Value) (w : World) (K : Value → World → Prop) : Prop :=
  upK Tryd.prog (sAlloc T_api_Value) w fun t2 w1 =>
  upK Tryd.prog (sCall F_wire_Open #[s0]) w1 fun t7 w2 =>
  upK Tryd.prog (sCall F_value_take #[t7]) w2 fun t9 w3 =>
  upK Tryd.prog (sAlloc T_api_Value) w3 fun v5 w4 =>
  upK Tryd.prog (sStore T_api_Value v5 t9) w4 fun tu w5 =>
  upK Tryd.prog (sCall F_wire_Reader_Done #[t7]) w5 fun t11 w6 =>
  pureK Tryd.prog (sUn .not t11) fun t12 =>
  ifB t12
  (pureK Tryd.prog (sBuild T_api_Value #[]) fun t13 =>
   upK Tryd.prog (sStore T_api_Value t2 t13) w6 fun tu_1 w7 =>
   readV Tryd.prog (do loadVar T_api_Value (← asAddr t2)) w7 fun t2_1 =>
   K (.tuple #[t2_1, (.bool false)]) w7)
  (readK Tryd.prog (sLoad T_api_Value v5) w6 fun t14 =>
   upK Tryd.prog (sStore T_api_Value t2 t14) w6 fun tu_2 w8 =>
   readV Tryd.prog (do loadVar T_api_Value (← asAddr t2)) w8 fun t2_2 =>
   K (.tuple #[t2_2, (.bool true)]) w8)
theorem value_Read.pt_eq : value_Read.pt = fun s0 w K => FN Tryd.prog Tryd.f25 (bodyOf Tryd.f25) [3] .leaf [s0] w K := by kernel_rfl
theorem value_Read.call {s0 : Value} {w : World} {K : Value → World → Prop} (h : value_Read.pt s0 w K) : Calls Tryd.prog F_value_Read #[s0] w (retK K) :=
  calls_FN (args := [s0]) Tryd.func25 (by kernel_rfl) (by rw [value_Read.pt_eq] at h; exact h)
theorem value_Read.up {s0 : Value} {w : World} {K : Value → World → Prop} (h : Calls Tryd.prog F_value_Read #[s0] w (retK K)) : upK Tryd.prog (sCall F_value_Read #[s0]) w K :=
  up_call (fn := Tryd.f25) Tryd.func25 (by kernel_rfl) (by kernel_rfl) h

/-- errata/text.Int -/
def text_Int.pt (s0 : Value) (w : World) (K : Value → World → Prop) : Prop :=
  upK Tryd.prog (sCall F_strconv_ParseInt #[s0, (.int .i64 10), (.int .i64 64)]) w fun t8 w1 =>
  pureK Tryd.prog (sExtract t8 0) fun t9 =>
  pureK Tryd.prog (sExtract t8 1) fun t10 =>
  pureK Tryd.prog (sBin .neq T_error (.tmp 11) (.const .nilIface) t10 .nilIface) fun t12 =>
  ifB t12
  (K (.tuple #[(.int .i64 0), (.bool false)]) w1)
  (upK Tryd.prog (sCall F_strconv_FormatInt #[t9, (.int .i64 10)]) w1 fun t15 w2 =>
   pureK Tryd.prog (sBin .neq T_string (.tmp 15) (.tmp 16) t15 s0) fun t17 =>
   ifB t17
   (K (.tuple #[(.int .i64 0), (.bool false)]) w2)
   (K (.tuple #[t9, (.bool true)]) w2))
theorem text_Int.pt_eq : text_Int.pt = fun s0 w K => FN Tryd.prog Tryd.f26 (bodyOf Tryd.f26) [2, 3] .leaf [s0] w K := by kernel_rfl
theorem text_Int.call {s0 : Value} {w : World} {K : Value → World → Prop} (h : text_Int.pt s0 w K) : Calls Tryd.prog F_text_Int #[s0] w (retK K) :=
  calls_FN (args := [s0]) Tryd.func26 (by kernel_rfl) (by rw [text_Int.pt_eq] at h; exact h)
theorem text_Int.up {s0 : Value} {w : World} {K : Value → World → Prop} (h : Calls Tryd.prog F_text_Int #[s0] w (retK K)) : upK Tryd.prog (sCall F_text_Int #[s0]) w K :=
  up_call (fn := Tryd.f26) Tryd.func26 (by kernel_rfl) (by kernel_rfl) h

/-- errata/text.Unquote -/
def text_Unquote.pt (s0 : Value) (w : World) (K : Value → World → Prop) : Prop :=
  upK Tryd.prog (sAlloc T_strings_Builder) w fun b4 w1 =>
  LOOP (X := Value × Unit) (fun lv2 w2 next2 =>
   readK Tryd.prog (sBlt .len #[T_string] T_int #[false] #[s0]) w2 fun t8 =>
   pureK Tryd.prog (sBin .sub T_int (.tmp 8) (.const (.int .i64 1)) t8 (.int .i64 1)) fun t9 =>
   pureK Tryd.prog (sBin .lss T_int (.tmp 6) (.tmp 9) lv2.1 t9) fun t10 =>
   ifB t10
   (LETJ (X := Value × Unit) (fun jv1 w3 =>
     pureK Tryd.prog (sBin .add T_int (.tmp 11) (.const (.int .i64 1)) jv1.1 (.int .i64 1)) fun t12 =>
     next2 (t12, ()) w3)
    (fun J1 =>
     pureK Tryd.prog (sIdx T_string s0 lv2.1) fun t15 =>
     pureK Tryd.prog (sBin .neq T_uint8 (.tmp 15) (.const (.int .u8 92)) t15 (.int .u8 92)) fun t16 =>
     ifB t16
     (pureK Tryd.prog (sIdx T_string s0 lv2.1) fun t27 =>
      upK Tryd.prog (sCall F_strings_Builder_WriteByte #[b4, t27]) w2 fun t28 w4 =>
      J1 (lv2.1, ()) w4)
     (pureK Tryd.prog (sBin .add T_int (.tmp 18) (.const (.int .i64 1)) lv2.1 (.int .i64 1)) fun t19 =>
      readK Tryd.prog (sBlt .len #[T_string] T_int #[false] #[s0]) w2 fun t21 =>
      pureK Tryd.prog (sBin .sub T_int (.tmp 21) (.const (.int .i64 1)) t21 (.int .i64 1)) fun t22 =>
      pureK Tryd.prog (sBin .geq T_int (.tmp 19) (.tmp 22) t19 t22) fun t23 =>
      ifB t23
      (pureK Tryd.prog (sIdx T_string s0 lv2.1) fun t27_1 =>
       upK Tryd.prog (sCall F_strings_Builder_WriteByte #[b4, t27_1]) w2 fun t28_1 w5 =>
       J1 (lv2.1, ()) w5)
      (pureK Tryd.prog (sBin .add T_int (.tmp 29) (.const (.int .i64 1)) lv2.1 (.int .i64 1)) fun t30 =>
       pureK Tryd.prog (sIdx T_string s0 t30) fun t38 =>
       pureK Tryd.prog (sBin .eql T_uint8 (.tmp 38) (.const (.int .u8 110)) t38 (.int .u8 110)) fun t39 =>
       ifB t39
       (upK Tryd.prog (sCall F_strings_Builder_WriteByte #[b4, (.int .u8 10)]) w2 fun t40 w6 =>
        J1 (t30, ()) w6)
       (pureK Tryd.prog (sIdx T_string s0 t30) fun t44 =>
        pureK Tryd.prog (sBin .eql T_uint8 (.tmp 44) (.const (.int .u8 120)) t44 (.int .u8 120)) fun t45 =>
        ifB t45
        (pureK Tryd.prog (sBin .add T_int (.tmp 47) (.const (.int .i64 2)) t30 (.int .i64 2)) fun t48 =>
         readK Tryd.prog (sBlt .len #[T_string] T_int #[false] #[s0]) w2 fun t50 =>
         pureK Tryd.prog (sBin .sub T_int (.tmp 50) (.const (.int .i64 1)) t50 (.int .i64 1)) fun t51 =>
         pureK Tryd.prog (sBin .lss T_int (.tmp 48) (.tmp 51) t48 t51) fun t52 =>
         ifB t52
         (pureK Tryd.prog (sBin .add T_int (.tmp 55) (.const (.int .i64 1)) t30 (.int .i64 1)) fun t56 =>
          pureK Tryd.prog (sIdx T_string s0 t56) fun t57 =>
          pureK Tryd.prog (sBin .add T_int (.tmp 61) (.const (.int .i64 2)) t30 (.int .i64 2)) fun t62 =>
          pureK Tryd.prog (sIdx T_string s0 t62) fun t63 =>
          upK Tryd.prog (sCall F_strings_IndexByte #[(.string ⟨#[48, 49, 50, 51, 52, 53, 54, 55, 56, 57, 97, 98, 99, 100, 101, 102]⟩), t57]) (tick w2) fun t58 w7 =>
          pureK Tryd.prog (sBin .shl T_int (.tmp 58) (.const (.int .u64 4)) t58 (.int .u64 4)) fun t59 =>
          upK Tryd.prog (sCall F_strings_IndexByte #[(.string ⟨#[48, 49, 50, 51, 52, 53, 54, 55, 56, 57, 97, 98, 99, 100, 101, 102]⟩), t63]) w7 fun t64 w8 =>
          pureK Tryd.prog (sBin .or T_int (.tmp 59) (.tmp 64) t59 t64) fun t65 =>
          upK Tryd.prog (sConv T_int T_uint8 t65) w8 fun t66 w9 =>
          upK Tryd.prog (sCall F_strings_Builder_WriteByte #[b4, t66]) w9 fun t67 w10 =>
          pureK Tryd.prog (sBin .add T_int (.tmp 68) (.const (.int .i64 2)) t30 (.int .i64 2)) fun t69 =>
          J1 (t69, ()) w10)
         (pureK Tryd.prog (sIdx T_string s0 t30) fun t33 =>
          upK Tryd.prog (sCall F_strings_Builder_WriteByte #[b4, t33]) w2 fun t34 w11 =>
          J1 (t30, ()) w11))
        (pureK Tryd.prog (sIdx T_string s0 t30) fun t33_1 =>
         upK Tryd.prog (sCall F_strings_Builder_WriteByte #[b4, t33_1]) w2 fun t34_1 w12 =>
         J1 (t30, ()) w12))))))
   (upK Tryd.prog (sCall F_strings_Builder_String #[b4]) w2 fun t70 w13 =>
    upK Tryd.prog (sCall F_text_Quote #[t70]) w13 fun t71 w14 =>
    pureK Tryd.prog (sBin .neq T_string (.tmp 71) (.tmp 72) t71 s0) fun t73 =>
    ifB t73
    (K (.tuple #[(.string ⟨#[]⟩), (.bool false)]) w14)
    (upK Tryd.prog (sCall F_strings_Builder_String #[b4]) w14 fun t74 w15 =>
     K (.tuple #[t74, (.bool true)]) w15)))
  ((.int .i64 1), ()) w1
theorem text_Unquote.pt_eq : text_Unquote.pt = fun s0 w K => FN Tryd.prog Tryd.f27 (bodyOf Tryd.f27) [2, 3] (.node none .leaf (.node none .leaf (.node none (.node none .leaf (.node none (.node none (.node none .leaf (.node (some [5]) .leaf .leaf)) .leaf) .leaf)) .leaf))) [s0] w K := by kernel_rfl
theorem text_Unquote.call {s0 : Value} {w : World} {K : Value → World → Prop} (h : text_Unquote.pt s0 w K) : Calls Tryd.prog F_text_Unquote #[s0] w (retK K) :=
  calls_FN (args := [s0]) Tryd.func27 (by kernel_rfl) (by rw [text_Unquote.pt_eq] at h; exact h)
theorem text_Unquote.up {s0 : Value} {w : World} {K : Value → World → Prop} (h : Calls Tryd.prog F_text_Unquote #[s0] w (retK K)) : upK Tryd.prog (sCall F_text_Unquote #[s0]) w K :=
  up_call (fn := Tryd.f27) Tryd.func27 (by kernel_rfl) (by kernel_rfl) h

/-- errata/text.Decimal -/
def text_Decimal.pt (n0 : Value) (w : World) (K : Value → World → Prop) : Prop :=
  upK Tryd.prog (sCall F_strconv_Itoa #[n0]) w fun t4 w1 =>
  K t4 w1
theorem text_Decimal.pt_eq : text_Decimal.pt = fun n0 w K => FN Tryd.prog Tryd.f28 (bodyOf Tryd.f28) [2] .leaf [n0] w K := by kernel_rfl
theorem text_Decimal.call {n0 : Value} {w : World} {K : Value → World → Prop} (h : text_Decimal.pt n0 w K) : Calls Tryd.prog F_text_Decimal #[n0] w (retK K) :=
  calls_FN (args := [n0]) Tryd.func28 (by kernel_rfl) (by rw [text_Decimal.pt_eq] at h; exact h)
theorem text_Decimal.up {n0 : Value} {w : World} {K : Value → World → Prop} (h : Calls Tryd.prog F_text_Decimal #[n0] w (retK K)) : upK Tryd.prog (sCall F_text_Decimal #[n0]) w K :=
  up_call (fn := Tryd.f28) Tryd.func28 (by kernel_rfl) (by kernel_rfl) h

/-- errata/text.Quote -/
def text_Quote.pt (s0 : Value) (w : World) (K : Value → World → Prop) : Prop :=
  upK Tryd.prog (sAlloc T_strings_Builder) w fun b3 w1 =>
  upK Tryd.prog (sCall F_strings_Builder_WriteByte #[b3, (.int .u8 34)]) w1 fun t6 w2 =>
  readK Tryd.prog (sBlt .len #[T_string] T_int #[false] #[s0]) w2 fun t8 =>
  LOOP (X := Value × Unit) (fun lv3 w3 next3 =>
   pureK Tryd.prog (sBin .lss T_int (.tmp 9) (.tmp 8) lv3.1 t8) fun t10 =>
   ifB t10
   (LETJ (X := Unit) (fun jv1 w4 =>
     pureK Tryd.prog (sBin .add T_int (.tmp 9) (.const (.int .i64 1)) lv3.1 (.int .i64 1)) fun t47 =>
     next3 (t47, ()) w4)
    (fun J1 =>
     pureK Tryd.prog (sIdx T_string s0 lv3.1) fun t14 =>
     pureK Tryd.prog (sBin .eql T_uint8 (.tmp 25) (.const (.int .u8 34)) t14 (.int .u8 34)) fun t26 =>
     ifB t26
     (upK Tryd.prog (sCall F_strings_Builder_WriteByte #[b3, (.int .u8 92)]) w3 fun t31 w5 =>
      upK Tryd.prog (sCall F_strings_Builder_WriteByte #[b3, t14]) w5 fun t33 w6 =>
      J1 (()) w6)
     (pureK Tryd.prog (sBin .eql T_uint8 (.tmp 28) (.const (.int .u8 92)) t14 (.int .u8 92)) fun t29 =>
      ifB t29
      (upK Tryd.prog (sCall F_strings_Builder_WriteByte #[b3, (.int .u8 92)]) w3 fun t31_1 w7 =>
       upK Tryd.prog (sCall F_strings_Builder_WriteByte #[b3, t14]) w7 fun t33_1 w8 =>
       J1 (()) w8)
      (pureK Tryd.prog (sBin .eql T_uint8 (.tmp 35) (.const (.int .u8 10)) t14 (.int .u8 10)) fun t36 =>
       ifB t36
       (upK Tryd.prog (sCall F_strings_Builder_WriteString #[b3, (.string ⟨#[92, 110]⟩)]) w3 fun t37 w9 =>
        J1 (()) w9)
       (pureK Tryd.prog (sBin .geq T_uint8 (.tmp 39) (.const (.int .u8 32)) t14 (.int .u8 32)) fun t40 =>
        ifB t40
        (pureK Tryd.prog (sBin .leq T_uint8 (.tmp 42) (.const (.int .u8 126)) t14 (.int .u8 126)) fun t43 =>
         ifB t43
         (upK Tryd.prog (sCall F_strings_Builder_WriteByte #[b3, t14]) w3 fun t46 w10 =>
          J1 (()) w10)
         (upK Tryd.prog (sCall F_strings_Builder_WriteString #[b3, (.string ⟨#[92, 120]⟩)]) w3 fun t15 w11 =>
          pureK Tryd.prog (sBin .quo T_uint8 (.tmp 16) (.const (.int .u8 16)) t14 (.int .u8 16)) fun t17 =>
          pureK Tryd.prog (sIdx T_string (.string ⟨#[48, 49, 50, 51, 52, 53, 54, 55, 56, 57, 97, 98, 99, 100, 101, 102]⟩) t17) fun t18 =>
          upK Tryd.prog (sCall F_strings_Builder_WriteByte #[b3, t18]) w11 fun t19 w12 =>
          pureK Tryd.prog (sBin .rem T_uint8 (.tmp 20) (.const (.int .u8 16)) t14 (.int .u8 16)) fun t21 =>
          pureK Tryd.prog (sIdx T_string (.string ⟨#[48, 49, 50, 51, 52, 53, 54, 55, 56, 57, 97, 98, 99, 100, 101, 102]⟩) t21) fun t22 =>
          upK Tryd.prog (sCall F_strings_Builder_WriteByte #[b3, t22]) w12 fun t23 w13 =>
          J1 (()) w13))
        (upK Tryd.prog (sCall F_strings_Builder_WriteString #[b3, (.string ⟨#[92, 120]⟩)]) w3 fun t15_1 w14 =>
         pureK Tryd.prog (sBin .quo T_uint8 (.tmp 16) (.const (.int .u8 16)) t14 (.int .u8 16)) fun t17_1 =>
         pureK Tryd.prog (sIdx T_string (.string ⟨#[48, 49, 50, 51, 52, 53, 54, 55, 56, 57, 97, 98, 99, 100, 101, 102]⟩) t17_1) fun t18_1 =>
         upK Tryd.prog (sCall F_strings_Builder_WriteByte #[b3, t18_1]) w14 fun t19_1 w15 =>
         pureK Tryd.prog (sBin .rem T_uint8 (.tmp 20) (.const (.int .u8 16)) t14 (.int .u8 16)) fun t21_1 =>
         pureK Tryd.prog (sIdx T_string (.string ⟨#[48, 49, 50, 51, 52, 53, 54, 55, 56, 57, 97, 98, 99, 100, 101, 102]⟩) t21_1) fun t22_1 =>
         upK Tryd.prog (sCall F_strings_Builder_WriteByte #[b3, t22_1]) w15 fun t23_1 w16 =>
         J1 (()) w16))))))
   (upK Tryd.prog (sCall F_strings_Builder_WriteByte #[b3, (.int .u8 34)]) w3 fun t48 w17 =>
    upK Tryd.prog (sCall F_strings_Builder_String #[b3]) w17 fun t49 w18 =>
    K t49 w18))
  ((.int .i64 0), ()) w2
theorem text_Quote.pt_eq : text_Quote.pt = fun s0 w K => FN Tryd.prog Tryd.f29 (bodyOf Tryd.f29) [2] (.node none .leaf (.node none .leaf (.node none .leaf (.node none (.node none .leaf (.node none (.node none (.node none .leaf (.node none .leaf (.node (some []) .leaf .leaf))) .leaf) .leaf)) .leaf)))) [s0] w K := by kernel_rfl
theorem text_Quote.call {s0 : Value} {w : World} {K : Value → World → Prop} (h : text_Quote.pt s0 w K) : Calls Tryd.prog F_text_Quote #[s0] w (retK K) :=
  calls_FN (args := [s0]) Tryd.func29 (by kernel_rfl) (by rw [text_Quote.pt_eq] at h; exact h)
theorem text_Quote.up {s0 : Value} {w : World} {K : Value → World → Prop} (h : Calls Tryd.prog F_text_Quote #[s0] w (retK K)) : upK Tryd.prog (sCall F_text_Quote #[s0]) w K :=
  up_call (fn := Tryd.f29) Tryd.func29 (by kernel_rfl) (by kernel_rfl) h

/-- errata/value.ParseRow$1 -/
def value_ParseRow_1.pt (t0 t1 : Value) (w : World) (K : Value → World → Prop) : Prop :=
  readK Tryd.prog (sLoad T_string t0) w fun t6 =>
  upK Tryd.prog (sCall F_value_end #[t6]) w fun t7 w1 =>
  readK Tryd.prog (sLoad T_string t0) w1 fun t9 =>
  pureK Tryd.prog (sSlice T_string t9 none (some t7) none) fun t11 =>
  upK Tryd.prog (sCall F_value_Parse #[t11]) w1 fun t12 w2 =>
  pureK Tryd.prog (sExtract t12 0) fun t13 =>
  pureK Tryd.prog (sExtract t12 1) fun t14 =>
  upK Tryd.prog (sAlloc T_api_Value) w2 fun v4 w3 =>
  upK Tryd.prog (sStore T_api_Value v4 t13) w3 fun tu w4 =>
  readK Tryd.prog (sLoad T_s_api_Value t1) (tick w4) fun t15 =>
  readK Tryd.prog (sLoad T_api_Value v4) (tick w4) fun t16 =>
  readK Tryd.prog (sLoad T_string t0) (tick w4) fun t19 =>
  pureK Tryd.prog (sSlice T_string t19 (some t7) none none) fun t21 =>
  upK Tryd.prog (sBuildSlice T_s_api_Value 1 #[(0, t16)]) (tick w4) fun t17 w5 =>
  Is Tryd.prog (sLoad T_string t0) t19 w5 ∧ Is Tryd.prog (sLoad T_s_api_Value t1) t15 w5 ∧ upK Tryd.prog (sBlt .append #[T_s_api_Value, T_s_api_Value] T_s_api_Value #[false, false] #[t15, t17]) w5 fun t18 w6 =>
  Is Tryd.prog (sLoad T_string t0) t19 w6 ∧ upK Tryd.prog (sStore T_s_api_Value t1 t18) w6 fun tu_1 w7 =>
  Is Tryd.prog (sLoad T_string t0) t19 w7 ∧ upK Tryd.prog (sStore T_string t0 t21) w7 fun tu_2 w8 =>
  K t14 w8
theorem value_ParseRow_1.pt_eq : value_ParseRow_1.pt = fun t0 t1 w K => FN Tryd.prog Tryd.f30 (bodyOf Tryd.f30) [2] .leaf [t0, t1] w K := by kernel_rfl
theorem value_ParseRow_1.call {t0 t1 : Value} {w : World} {K : Value → World → Prop} (h : value_ParseRow_1.pt t0 t1 w K) : Calls Tryd.prog F_value_ParseRow_1 #[t0, t1] w (retK K) :=
  calls_FN (args := [t0, t1]) Tryd.func30 (by kernel_rfl) (by rw [value_ParseRow_1.pt_eq] at h; exact h)
theorem value_ParseRow_1.up {t0 t1 : Value} {w : World} {K : Value → World → Prop} (h : Calls Tryd.prog F_value_ParseRow_1 #[t0, t1] w (retK K)) : upK Tryd.prog (sCall F_value_ParseRow_1 #[t0, t1]) w K :=
  up_call (fn := Tryd.f30) Tryd.func30 (by kernel_rfl) (by kernel_rfl) h

/-- errata/value.end -/
def value_end.pt (s0 : Value) (w : World) (K : Value → World → Prop) : Prop :=
  pureK Tryd.prog (sBin .eql T_string (.tmp 4) (.const (.string ⟨#[]⟩)) s0 (.string ⟨#[]⟩)) fun t5 =>
  ifB t5
  (pureK Tryd.prog (sBin .add T_string (.tmp 11) (.const (.string ⟨#[44]⟩)) s0 (.string ⟨#[44]⟩)) fun t12 =>
   upK Tryd.prog (sCall F_strings_IndexByte #[t12, (.int .u8 44)]) w fun t13 w1 =>
   K t13 w1)
  (pureK Tryd.prog (sIdx T_string s0 (.int .i64 0)) fun t8 =>
   pureK Tryd.prog (sBin .neq T_uint8 (.tmp 8) (.const (.int .u8 34)) t8 (.int .u8 34)) fun t9 =>
   ifB t9
   (pureK Tryd.prog (sBin .add T_string (.tmp 11) (.const (.string ⟨#[44]⟩)) s0 (.string ⟨#[44]⟩)) fun t12_1 =>
    upK Tryd.prog (sCall F_strings_IndexByte #[t12_1, (.int .u8 44)]) w fun t13_1 w2 =>
    K t13_1 w2)
   (LOOP (X := Value × Unit) (fun lv3 w3 next3 =>
     readK Tryd.prog (sBlt .len #[T_string] T_int #[false] #[s0]) w3 fun t16 =>
     pureK Tryd.prog (sBin .lss T_int (.tmp 14) (.tmp 16) lv3.1 t16) fun t17 =>
     ifB t17
     (LETJ (X := Value × Unit) (fun jv1 w4 =>
       pureK Tryd.prog (sBin .add T_int (.tmp 18) (.const (.int .i64 1)) jv1.1 (.int .i64 1)) fun t19 =>
       next3 (t19, ()) w4)
      (fun J1 =>
       pureK Tryd.prog (sIdx T_string s0 lv3.1) fun t22 =>
       pureK Tryd.prog (sBin .eql T_uint8 (.tmp 22) (.const (.int .u8 92)) t22 (.int .u8 92)) fun t24 =>
       ifB t24
       (pureK Tryd.prog (sBin .add T_int (.tmp 25) (.const (.int .i64 1)) lv3.1 (.int .i64 1)) fun t26 =>
        J1 (t26, ()) w3)
       (pureK Tryd.prog (sBin .eql T_uint8 (.tmp 22) (.const (.int .u8 34)) t22 (.int .u8 34)) fun t28 =>
        ifB t28
        (pureK Tryd.prog (sBin .add T_int (.tmp 29) (.const (.int .i64 1)) lv3.1 (.int .i64 1)) fun t30 =>
         K t30 w3)
        (J1 (lv3.1, ()) w3))))
     (readK Tryd.prog (sBlt .len #[T_string] T_int #[false] #[s0]) w3 fun t32 =>
      K t32 w3))
    ((.int .i64 1), ()) w))
theorem value_end.pt_eq : value_end.pt = fun s0 w K => FN Tryd.prog Tryd.f31 (bodyOf Tryd.f31) [2] (.node none .leaf (.node none .leaf (.node none (.node none .leaf (.node none (.node none (.node none .leaf (.node (some [3]) .leaf .leaf)) .leaf) .leaf)) .leaf))) [s0] w K := by kernel_rfl
theorem value_end.call {s0 : Value} {w : World} {K : Value → World → Prop} (h : value_end.pt s0 w K) : Calls Tryd.prog F_value_end #[s0] w (retK K) :=
  calls_FN (args := [s0]) Tryd.func31 (by kernel_rfl) (by rw [value_end.pt_eq] at h; exact h)
theorem value_end.up {s0 : Value} {w : World} {K : Value → World → Prop} (h : Calls Tryd.prog F_value_end #[s0] w (retK K)) : upK Tryd.prog (sCall F_value_end #[s0]) w K :=
  up_call (fn := Tryd.f31) Tryd.func31 (by kernel_rfl) (by kernel_rfl) h

/-- strings.HasPrefix -/
theorem strings_HasPrefix.up {p0 p1 : Value} {w : World} {K : Value → World → Prop} (h : Calls Tryd.prog F_strings_HasPrefix #[p0, p1] w (retK K)) : upK Tryd.prog (sCall F_strings_HasPrefix #[p0, p1]) w K :=
  up_call (fn := Tryd.f32) Tryd.func32 (by kernel_rfl) (by kernel_rfl) h

/-- errata/value.all -/
def value_all.pt (r0 : Value) (w : World) (K : Value → World → Prop) : Prop :=
  upK Tryd.prog (sCall F_slices_ContainsFunc_s_api_Value_api_Value #[r0, (.func (.func 57) #[] #[])]) w fun t4 w1 =>
  pureK Tryd.prog (sUn .not t4) fun t5 =>
  K t5 w1
theorem value_all.pt_eq : value_all.pt = fun r0 w K => FN Tryd.prog Tryd.f33 (bodyOf Tryd.f33) [2] .leaf [r0] w K := by kernel_rfl
theorem value_all.call {r0 : Value} {w : World} {K : Value → World → Prop} (h : value_all.pt r0 w K) : Calls Tryd.prog F_value_all #[r0] w (retK K) :=
  calls_FN (args := [r0]) Tryd.func33 (by kernel_rfl) (by rw [value_all.pt_eq] at h; exact h)
theorem value_all.up {r0 : Value} {w : World} {K : Value → World → Prop} (h : Calls Tryd.prog F_value_all #[r0] w (retK K)) : upK Tryd.prog (sCall F_value_all #[r0]) w K :=
  up_call (fn := Tryd.f33) Tryd.func33 (by kernel_rfl) (by kernel_rfl) h

/-- strings.Join -/
theorem strings_Join.up {p0 p1 : Value} {w : World} {K : Value → World → Prop} (h : Calls Tryd.prog F_strings_Join #[p0, p1] w (retK K)) : upK Tryd.prog (sCall F_strings_Join #[p0, p1]) w K :=
  up_call (fn := Tryd.f34) Tryd.func34 (by kernel_rfl) (by kernel_rfl) h

/-- slices.Equal[[]errata/api.Value,errata/api.Value] -/
def slices_Equal_s_api_Value_api_Value.pt (s10 s21 : Value) (w : World) (K : Value → World → Prop) : Prop :=
  readK Tryd.prog (sBlt .len #[T_s_api_Value] T_int #[false] #[s10]) w fun t7 =>
  readK Tryd.prog (sBlt .len #[T_s_api_Value] T_int #[false] #[s21]) w fun t9 =>
  pureK Tryd.prog (sBin .neq T_int (.tmp 7) (.tmp 9) t7 t9) fun t10 =>
  ifB t10
  (K (.bool false) w)
  (readK Tryd.prog (sBlt .len #[T_s_api_Value] T_int #[false] #[s10]) w fun t12 =>
   LOOP (X := Value × Unit) (fun lv1 w1 next1 =>
    pureK Tryd.prog (sBin .lss T_int (.tmp 13) (.tmp 12) lv1.1 t12) fun t14 =>
    ifB t14
    (pureK Tryd.prog (sIdxAddr T_s_api_Value s10 lv1.1) fun t18 =>
     readK Tryd.prog (sLoad T_api_Value t18) (tick w1) fun t19 =>
     pureK Tryd.prog (sIdxAddr T_s_api_Value s21 lv1.1) fun t22 =>
     readK Tryd.prog (sLoad T_api_Value t22) (tick w1) fun t23 =>
     pureK Tryd.prog (sBin .neq T_api_Value (.tmp 19) (.tmp 23) t19 t23) fun t24 =>
     ifB t24
     (K (.bool false) (tick w1))
     (pureK Tryd.prog (sBin .add T_int (.tmp 13) (.const (.int .i64 1)) lv1.1 (.int .i64 1)) fun t25 =>
      next1 (t25, ()) (tick w1)))
    (K (.bool true) w1))
   ((.int .i64 0), ()) w)
theorem slices_Equal_s_api_Value_api_Value.pt_eq : slices_Equal_s_api_Value_api_Value.pt = fun s10 s21 w K => FN Tryd.prog Tryd.f35 (bodyOf Tryd.f35) [4] .leaf [s10, s21] w K := by kernel_rfl
theorem slices_Equal_s_api_Value_api_Value.call {s10 s21 : Value} {w : World} {K : Value → World → Prop} (h : slices_Equal_s_api_Value_api_Value.pt s10 s21 w K) : Calls Tryd.prog F_slices_Equal_s_api_Value_api_Value #[s10, s21] w (retK K) :=
  calls_FN (args := [s10, s21]) Tryd.func35 (by kernel_rfl) (by rw [slices_Equal_s_api_Value_api_Value.pt_eq] at h; exact h)
theorem slices_Equal_s_api_Value_api_Value.up {s10 s21 : Value} {w : World} {K : Value → World → Prop} (h : Calls Tryd.prog F_slices_Equal_s_api_Value_api_Value #[s10, s21] w (retK K)) : upK Tryd.prog (sCall F_slices_Equal_s_api_Value_api_Value #[s10, s21]) w K :=
  up_call (fn := Tryd.f35) Tryd.func35 (by kernel_rfl) (by kernel_rfl) h

/-- slices.CompareFunc[[]errata/api.Value,[]errata/api.Value,errata/api.Value,errata/api.Value] -/
def slices_CompareFunc_s_api_Value_s_api_Value_api_Value_api_Value.pt (s10 s21 cmp2 : Value) (w : World) (K : Value → World → Prop) : Prop :=
  readK Tryd.prog (sBlt .len #[T_s_api_Value] T_int #[false] #[s10]) w fun t12 =>
  LOOP (X := Value × Unit) (fun lv1 w1 next1 =>
   pureK Tryd.prog (sBin .lss T_int (.tmp 13) (.tmp 12) lv1.1 t12) fun t14 =>
   ifB t14
   (pureK Tryd.prog (sIdxAddr T_s_api_Value s10 lv1.1) fun t16 =>
    readK Tryd.prog (sLoad T_api_Value t16) w1 fun t17 =>
    upK Tryd.prog (sAlloc T_api_Value) w1 fun v18 w2 =>
    upK Tryd.prog (sStore T_api_Value v18 t17) w2 fun tu w3 =>
    readK Tryd.prog (sBlt .len #[T_s_api_Value] T_int #[false] #[s21]) w3 fun t20 =>
    pureK Tryd.prog (sBin .geq T_int (.tmp 18) (.tmp 20) lv1.1 t20) fun t21 =>
    ifB t21
    (K (.int .i64 1) w3)
    (pureK Tryd.prog (sIdxAddr T_s_api_Value s21 lv1.1) fun t24 =>
     readK Tryd.prog (sLoad T_api_Value t24) w3 fun t25 =>
     upK Tryd.prog (sAlloc T_api_Value) w3 fun v29 w4 =>
     upK Tryd.prog (sStore T_api_Value v29 t25) w4 fun tu_1 w5 =>
     readK Tryd.prog (sLoad T_api_Value v18) w5 fun t27 =>
     readK Tryd.prog (sLoad T_api_Value v29) w5 fun t28 =>
     upK Tryd.prog (sCallV cmp2 #[t27, t28]) w5 fun t29 w6 =>
     pureK Tryd.prog (sBin .neq T_int (.tmp 30) (.const (.int .i64 0)) t29 (.int .i64 0)) fun t31 =>
     ifB t31
     (K t29 w6)
     (pureK Tryd.prog (sBin .add T_int (.tmp 13) (.const (.int .i64 1)) lv1.1 (.int .i64 1)) fun t33 =>
      next1 (t33, ()) w6)))
   (readK Tryd.prog (sBlt .len #[T_s_api_Value] T_int #[false] #[s10]) w1 fun t35 =>
    readK Tryd.prog (sBlt .len #[T_s_api_Value] T_int #[false] #[s21]) w1 fun t37 =>
    pureK Tryd.prog (sBin .lss T_int (.tmp 35) (.tmp 37) t35 t37) fun t38 =>
    ifB t38
    (K (.int .i64 (-1)) w1)
    (K (.int .i64 0) w1)))
  ((.int .i64 0), ()) w
theorem slices_CompareFunc_s_api_Value_s_api_Value_api_Value_api_Value.pt_eq : slices_CompareFunc_s_api_Value_s_api_Value_api_Value_api_Value.pt = fun s10 s21 cmp2 w K => FN Tryd.prog Tryd.f36 (bodyOf Tryd.f36) [6] .leaf [s10, s21, cmp2] w K := by kernel_rfl
theorem slices_CompareFunc_s_api_Value_s_api_Value_api_Value_api_Value.call {s10 s21 cmp2 : Value} {w : World} {K : Value → World → Prop} (h : slices_CompareFunc_s_api_Value_s_api_Value_api_Value_api_Value.pt s10 s21 cmp2 w K) : Calls Tryd.prog F_slices_CompareFunc_s_api_Value_s_api_Value_api_Value_api_Value #[s10, s21, cmp2] w (retK K) :=
  calls_FN (args := [s10, s21, cmp2]) Tryd.func36 (by kernel_rfl) (by rw [slices_CompareFunc_s_api_Value_s_api_Value_api_Value_api_Value.pt_eq] at h; exact h)
theorem slices_CompareFunc_s_api_Value_s_api_Value_api_Value_api_Value.up {s10 s21 cmp2 : Value} {w : World} {K : Value → World → Prop} (h : Calls Tryd.prog F_slices_CompareFunc_s_api_Value_s_api_Value_api_Value_api_Value #[s10, s21, cmp2] w (retK K)) : upK Tryd.prog (sCall F_slices_CompareFunc_s_api_Value_s_api_Value_api_Value_api_Value #[s10, s21, cmp2]) w K :=
  up_call (fn := Tryd.f36) Tryd.func36 (by kernel_rfl) (by kernel_rfl) h

/-- (*strings.Builder).WriteString -/
def strings_Builder_WriteString.pt (b0 s1 : Value) (w : World) (K : Value → World → Prop) : Prop :=
  upK Tryd.prog (sCall F_strings_Builder_copyCheck #[b0]) w fun t7 w1 =>
  pureK Tryd.prog (sNil b0) fun t10 =>
  pureK Tryd.prog (sFieldAddr T_strings_Builder t10 1) fun t11 =>
  readK Tryd.prog (sLoad T_s_uint8 t11) w1 fun t12 =>
  upK Tryd.prog (sBlt .append #[T_s_uint8, T_string] T_s_uint8 #[false, false] #[t12, s1]) w1 fun t14 w2 =>
  pureK Tryd.prog (sNil b0) fun t15 =>
  pureK Tryd.prog (sFieldAddr T_strings_Builder t15 1) fun t16 =>
  upK Tryd.prog (sStore T_s_uint8 t16 t14) w2 fun tu w3 =>
  readK Tryd.prog (sBlt .len #[T_string] T_int #[false] #[s1]) w3 fun t18 =>
  K (.tuple #[t18, .nilIface]) w3
theorem strings_Builder_WriteString.pt_eq : strings_Builder_WriteString.pt = fun b0 s1 w K => FN Tryd.prog Tryd.f37 (bodyOf Tryd.f37) [4, 5] .leaf [b0, s1] w K := by kernel_rfl
theorem strings_Builder_WriteString.call {b0 s1 : Value} {w : World} {K : Value → World → Prop} (h : strings_Builder_WriteString.pt b0 s1 w K) : Calls Tryd.prog F_strings_Builder_WriteString #[b0, s1] w (retK K) :=
  calls_FN (args := [b0, s1]) Tryd.func37 (by kernel_rfl) (by rw [strings_Builder_WriteString.pt_eq] at h; exact h)
theorem strings_Builder_WriteString.up {b0 s1 : Value} {w : World} {K : Value → World → Prop} (h : Calls Tryd.prog F_strings_Builder_WriteString #[b0, s1] w (retK K)) : upK Tryd.prog (sCall F_strings_Builder_WriteString #[b0, s1]) w K :=
  up_call (fn := Tryd.f37) Tryd.func37 (by kernel_rfl) (by kernel_rfl) h

/-- errata/wire.Num -/
def wire_Num.pt (n0 : Value) (w : World) (K : Value → World → Prop) : Prop :=
  pureK Tryd.prog (sBin .lss T_int (.tmp 3) (.const (.int .i64 0)) n0 (.int .i64 0)) fun t4 =>
  ifB t4
  (K (.string ⟨#[]⟩) w)
  (upK Tryd.prog (sCall F_wire_Int #[n0]) w fun t6 w1 =>
   K t6 w1)
theorem wire_Num.pt_eq : wire_Num.pt = fun n0 w K => FN Tryd.prog Tryd.f38 (bodyOf Tryd.f38) [2] .leaf [n0] w K := by kernel_rfl
theorem wire_Num.call {n0 : Value} {w : World} {K : Value → World → Prop} (h : wire_Num.pt n0 w K) : Calls Tryd.prog F_wire_Num #[n0] w (retK K) :=
  calls_FN (args := [n0]) Tryd.func38 (by kernel_rfl) (by rw [wire_Num.pt_eq] at h; exact h)
theorem wire_Num.up {n0 : Value} {w : World} {K : Value → World → Prop} (h : Calls Tryd.prog F_wire_Num #[n0] w (retK K)) : upK Tryd.prog (sCall F_wire_Num #[n0]) w K :=
  up_call (fn := Tryd.f38) Tryd.func38 (by kernel_rfl) (by kernel_rfl) h

/-- (*strings.Builder).String -/
theorem strings_Builder_String.up {p0 : Value} {w : World} {K : Value → World → Prop} (h : Calls Tryd.prog F_strings_Builder_String #[p0] w (retK K)) : upK Tryd.prog (sCall F_strings_Builder_String #[p0]) w K :=
  up_call (fn := Tryd.f39) Tryd.func39 (by kernel_rfl) (by kernel_rfl) h

/-- cmp.Or[int] -/
def cmp_Or_int.pt (vals0 : Value) (w : World) (K : Value → World → Prop) : Prop :=
  readK Tryd.prog (sBlt .len #[T_s_int] T_int #[false] #[vals0]) w fun t7 =>
  LOOP (X := Value × Unit) (fun lv1 w1 next1 =>
   pureK Tryd.prog (sBin .lss T_int (.tmp 8) (.tmp 7) lv1.1 t7) fun t9 =>
   ifB t9
   (pureK Tryd.prog (sIdxAddr T_s_int vals0 lv1.1) fun t10 =>
    readK Tryd.prog (sLoad T_int t10) w1 fun t11 =>
    pureK Tryd.prog (sBin .neq T_int (.tmp 12) (.tmp 13) t11 (.int .i64 0)) fun t14 =>
    ifB t14
    (K t11 w1)
    (pureK Tryd.prog (sBin .add T_int (.tmp 8) (.const (.int .i64 1)) lv1.1 (.int .i64 1)) fun t16 =>
     next1 (t16, ()) w1))
   (K (.int .i64 0) w1))
  ((.int .i64 0), ()) w
theorem cmp_Or_int.pt_eq : cmp_Or_int.pt = fun vals0 w K => FN Tryd.prog Tryd.f40 (bodyOf Tryd.f40) [2] .leaf [vals0] w K := by kernel_rfl
theorem cmp_Or_int.call {vals0 : Value} {w : World} {K : Value → World → Prop} (h : cmp_Or_int.pt vals0 w K) : Calls Tryd.prog F_cmp_Or_int #[vals0] w (retK K) :=
  calls_FN (args := [vals0]) Tryd.func40 (by kernel_rfl) (by rw [cmp_Or_int.pt_eq] at h; exact h)
theorem cmp_Or_int.up {vals0 : Value} {w : World} {K : Value → World → Prop} (h : Calls Tryd.prog F_cmp_Or_int #[vals0] w (retK K)) : upK Tryd.prog (sCall F_cmp_Or_int #[vals0]) w K :=
  up_call (fn := Tryd.f40) Tryd.func40 (by kernel_rfl) (by kernel_rfl) h

/-- cmp.Compare[int] -/
def cmp_Compare_int.pt (x0 vy1 : Value) (w : World) (K : Value → World → Prop) : Prop :=
  upK Tryd.prog (sCall F_cmp_isNaN_int #[x0]) w fun t8 w1 =>
  upK Tryd.prog (sCall F_cmp_isNaN_int #[vy1]) w1 fun t10 w2 =>
  ifB t8
  (ifB t10
   (K (.int .i64 0) w2)
   (K (.int .i64 (-1)) w2))
  (ifB t10
   (K (.int .i64 1) w2)
   (pureK Tryd.prog (sBin .lss T_int (.tmp 14) (.tmp 15) x0 vy1) fun t16 =>
    ifB t16
    (K (.int .i64 (-1)) w2)
    (pureK Tryd.prog (sBin .gtr T_int (.tmp 17) (.tmp 18) x0 vy1) fun t19 =>
     ifB t19
     (K (.int .i64 1) w2)
     (K (.int .i64 0) w2))))
theorem cmp_Compare_int.pt_eq : cmp_Compare_int.pt = fun x0 vy1 w K => FN Tryd.prog Tryd.f41 (bodyOf Tryd.f41) [4] .leaf [x0, vy1] w K := by kernel_rfl
theorem cmp_Compare_int.call {x0 vy1 : Value} {w : World} {K : Value → World → Prop} (h : cmp_Compare_int.pt x0 vy1 w K) : Calls Tryd.prog F_cmp_Compare_int #[x0, vy1] w (retK K) :=
  calls_FN (args := [x0, vy1]) Tryd.func41 (by kernel_rfl) (by rw [cmp_Compare_int.pt_eq] at h; exact h)
theorem cmp_Compare_int.up {x0 vy1 : Value} {w : World} {K : Value → World → Prop} (h : Calls Tryd.prog F_cmp_Compare_int #[x0, vy1] w (retK K)) : upK Tryd.prog (sCall F_cmp_Compare_int #[x0, vy1]) w K :=
  up_call (fn := Tryd.f41) Tryd.func41 (by kernel_rfl) (by kernel_rfl) h

/-- strings.Compare -/
theorem strings_Compare.up {p0 p1 : Value} {w : World} {K : Value → World → Prop} (h : Calls Tryd.prog F_strings_Compare #[p0, p1] w (retK K)) : upK Tryd.prog (sCall F_strings_Compare #[p0, p1]) w K :=
  up_call (fn := Tryd.f42) Tryd.func42 (by kernel_rfl) (by kernel_rfl) h

/-- errata/wire.Int -/
def wire_Int.pt (n0 : Value) (w : World) (K : Value → World → Prop) : Prop :=
  upK Tryd.prog (sCall F_strconv_Itoa #[n0]) w fun t4 w1 =>
  pureK Tryd.prog (sBin .add T_string (.tmp 4) (.const (.string ⟨#[59]⟩)) t4 (.string ⟨#[59]⟩)) fun t5 =>
  K t5 w1
theorem wire_Int.pt_eq : wire_Int.pt = fun n0 w K => FN Tryd.prog Tryd.f43 (bodyOf Tryd.f43) [2] .leaf [n0] w K := by kernel_rfl
theorem wire_Int.call {n0 : Value} {w : World} {K : Value → World → Prop} (h : wire_Int.pt n0 w K) : Calls Tryd.prog F_wire_Int #[n0] w (retK K) :=
  calls_FN (args := [n0]) Tryd.func43 (by kernel_rfl) (by rw [wire_Int.pt_eq] at h; exact h)
theorem wire_Int.up {n0 : Value} {w : World} {K : Value → World → Prop} (h : Calls Tryd.prog F_wire_Int #[n0] w (retK K)) : upK Tryd.prog (sCall F_wire_Int #[n0]) w K :=
  up_call (fn := Tryd.f43) Tryd.func43 (by kernel_rfl) (by kernel_rfl) h

/-- errata/wire.Text -/
def wire_Text.pt (s0 : Value) (w : World) (K : Value → World → Prop) : Prop :=
  readK Tryd.prog (sBlt .len #[T_string] T_int #[false] #[s0]) w fun t4 =>
  upK Tryd.prog (sCall F_strconv_Itoa #[t4]) w fun t5 w1 =>
  pureK Tryd.prog (sBin .add T_string (.tmp 5) (.const (.string ⟨#[58]⟩)) t5 (.string ⟨#[58]⟩)) fun t6 =>
  pureK Tryd.prog (sBin .add T_string (.tmp 6) (.tmp 7) t6 s0) fun t8 =>
  pureK Tryd.prog (sBin .add T_string (.tmp 8) (.const (.string ⟨#[44]⟩)) t8 (.string ⟨#[44]⟩)) fun t9 =>
  K t9 w1
theorem wire_Text.pt_eq : wire_Text.pt = fun s0 w K => FN Tryd.prog Tryd.f44 (bodyOf Tryd.f44) [2] .leaf [s0] w K := by kernel_rfl
theorem wire_Text.call {s0 : Value} {w : World} {K : Value → World → Prop} (h : wire_Text.pt s0 w K) : Calls Tryd.prog F_wire_Text #[s0] w (retK K) :=
  calls_FN (args := [s0]) Tryd.func44 (by kernel_rfl) (by rw [wire_Text.pt_eq] at h; exact h)
theorem wire_Text.up {s0 : Value} {w : World} {K : Value → World → Prop} (h : Calls Tryd.prog F_wire_Text #[s0] w (retK K)) : upK Tryd.prog (sCall F_wire_Text #[s0]) w K :=
  up_call (fn := Tryd.f44) Tryd.func44 (by kernel_rfl) (by kernel_rfl) h

/-- errata/wire.Open -/
def wire_Open.pt (s0 : Value) (w : World) (K : Value → World → Prop) : Prop :=
  pureK Tryd.prog (sBuild T_wire_Reader #[(0, s0)]) fun t4 =>
  upK Tryd.prog (sBox T_wire_Reader t4) w fun t5 w1 =>
  K t5 w1
theorem wire_Open.pt_eq : wire_Open.pt = fun s0 w K => FN Tryd.prog Tryd.f45 (bodyOf Tryd.f45) [2] .leaf [s0] w K := by kernel_rfl
theorem wire_Open.call {s0 : Value} {w : World} {K : Value → World → Prop} (h : wire_Open.pt s0 w K) : Calls Tryd.prog F_wire_Open #[s0] w (retK K) :=
  calls_FN (args := [s0]) Tryd.func45 (by kernel_rfl) (by rw [wire_Open.pt_eq] at h; exact h)
theorem wire_Open.up {s0 : Value} {w : World} {K : Value → World → Prop} (h : Calls Tryd.prog F_wire_Open #[s0] w (retK K)) : upK Tryd.prog (sCall F_wire_Open #[s0]) w K :=
  up_call (fn := Tryd.f45) Tryd.func45 (by kernel_rfl) (by kernel_rfl) h

/-- (*errata/wire.Reader).Num -/
def wire_Reader_Num.pt (r0 : Value) (w : World) (K : Value → World → Prop) : Prop :=
  upK Tryd.prog (sCall F_wire_Reader_number #[r0, (.int .u8 59), (.int .i64 0)]) w fun t4 w1 =>
  K t4 w1
theorem wire_Reader_Num.pt_eq : wire_Reader_Num.pt = fun r0 w K => FN Tryd.prog Tryd.f46 (bodyOf Tryd.f46) [2] .leaf [r0] w K := by kernel_rfl
theorem wire_Reader_Num.call {r0 : Value} {w : World} {K : Value → World → Prop} (h : wire_Reader_Num.pt r0 w K) : Calls Tryd.prog F_wire_Reader_Num #[r0] w (retK K) :=
  calls_FN (args := [r0]) Tryd.func46 (by kernel_rfl) (by rw [wire_Reader_Num.pt_eq] at h; exact h)
theorem wire_Reader_Num.up {r0 : Value} {w : World} {K : Value → World → Prop} (h : Calls Tryd.prog F_wire_Reader_Num #[r0] w (retK K)) : upK Tryd.prog (sCall F_wire_Reader_Num #[r0]) w K :=
  up_call (fn := Tryd.f46) Tryd.func46 (by kernel_rfl) (by kernel_rfl) h

/-- (*errata/wire.Reader).Left -/
def wire_Reader_Left.pt (r0 : Value) (w : World) (K : Value → World → Prop) : Prop :=
  pureK Tryd.prog (sNil r0) fun t4 =>
  pureK Tryd.prog (sFieldAddr T_wire_Reader t4 0) fun t5 =>
  readK Tryd.prog (sLoad T_string t5) w fun t6 =>
  readK Tryd.prog (sBlt .len #[T_string] T_int #[false] #[t6]) w fun t7 =>
  K t7 w
theorem wire_Reader_Left.pt_eq : wire_Reader_Left.pt = fun r0 w K => FN Tryd.prog Tryd.f47 (bodyOf Tryd.f47) [2] .leaf [r0] w K := by kernel_rfl
theorem wire_Reader_Left.call {r0 : Value} {w : World} {K : Value → World → Prop} (h : wire_Reader_Left.pt r0 w K) : Calls Tryd.prog F_wire_Reader_Left #[r0] w (retK K) :=
  calls_FN (args := [r0]) Tryd.func47 (by kernel_rfl) (by rw [wire_Reader_Left.pt_eq] at h; exact h)
theorem wire_Reader_Left.up {r0 : Value} {w : World} {K : Value → World → Prop} (h : Calls Tryd.prog F_wire_Reader_Left #[r0] w (retK K)) : upK Tryd.prog (sCall F_wire_Reader_Left #[r0]) w K :=
  up_call (fn := Tryd.f47) Tryd.func47 (by kernel_rfl) (by kernel_rfl) h

/-- errata/value.take -/
def value_take.pt (r0 : Value) (w : World) (K : Value → World → Prop) : Prop :=
  upK Tryd.prog (sAlloc T_api_Value) w fun t2 w1 =>
  upK Tryd.prog (sCall F_wire_Reader_Int #[r0]) w1 fun t5 w2 =>
  upK Tryd.prog (sCall F_wire_Reader_Int #[r0]) w2 fun t7 w3 =>
  pureK Tryd.prog (sBuild T_api_Value #[(0, t5), (1, t7)]) fun t8 =>
  upK Tryd.prog (sAlloc T_api_Value) w3 fun v3 w4 =>
  upK Tryd.prog (sStore T_api_Value v3 t8) w4 fun tu w5 =>
  upK Tryd.prog (sCall F_wire_Reader_Text #[r0]) w5 fun t10 w6 =>
  pureK Tryd.prog (sFieldAddr T_api_Value v3 2) fun t11 =>
  upK Tryd.prog (sStore T_string t11 t10) w6 fun tu_1 w7 =>
  readK Tryd.prog (sLoad T_api_Value v3) w7 fun t12 =>
  upK Tryd.prog (sStore T_api_Value t2 t12) w7 fun tu_2 w8 =>
  readV Tryd.prog (do loadVar T_api_Value (← asAddr t2)) w8 fun t2_1 =>
  K t2_1 w8
theorem value_take.pt_eq : value_take.pt = fun r0 w K => FN Tryd.prog Tryd.f48 (bodyOf Tryd.f48) [] .leaf [r0] w K := by kernel_rfl
theorem value_take.call {r0 : Value} {w : World} {K : Value → World → Prop} (h : value_take.pt r0 w K) : Calls Tryd.prog F_value_take #[r0] w (retK K) :=
  calls_FN (args := [r0]) Tryd.func48 (by kernel_rfl) (by rw [value_take.pt_eq] at h; exact h)
theorem value_take.up {r0 : Value} {w : World} {K : Value → World → Prop} (h : Calls Tryd.prog F_value_take #[r0] w (retK K)) : upK Tryd.prog (sCall F_value_take #[r0]) w K :=
  up_call (fn := Tryd.f48) Tryd.func48 (by kernel_rfl) (by kernel_rfl) h

/-- (*errata/wire.Reader).Done -/
def wire_Reader_Done.pt (r0 : Value) (w : World) (K : Value → World → Prop) : Prop :=
  pureK Tryd.prog (sNil r0) fun t4 =>
  pureK Tryd.prog (sFieldAddr T_wire_Reader t4 1) fun t5 =>
  readK Tryd.prog (sLoad T_bool t5) w fun t6 =>
  pureK Tryd.prog (sUn .not t6) fun t7 =>
  ifB t7
  (pureK Tryd.prog (sNil r0) fun t10 =>
   pureK Tryd.prog (sFieldAddr T_wire_Reader t10 0) fun t11 =>
   readK Tryd.prog (sLoad T_string t11) w fun t12 =>
   pureK Tryd.prog (sBin .eql T_string (.tmp 12) (.const (.string ⟨#[]⟩)) t12 (.string ⟨#[]⟩)) fun t13 =>
   K t13 w)
  (K (.bool false) w)
theorem wire_Reader_Done.pt_eq : wire_Reader_Done.pt = fun r0 w K => FN Tryd.prog Tryd.f49 (bodyOf Tryd.f49) [2] .leaf [r0] w K := by kernel_rfl
theorem wire_Reader_Done.call {r0 : Value} {w : World} {K : Value → World → Prop} (h : wire_Reader_Done.pt r0 w K) : Calls Tryd.prog F_wire_Reader_Done #[r0] w (retK K) :=
  calls_FN (args := [r0]) Tryd.func49 (by kernel_rfl) (by rw [wire_Reader_Done.pt_eq] at h; exact h)
theorem wire_Reader_Done.up {r0 : Value} {w : World} {K : Value → World → Prop} (h : Calls Tryd.prog F_wire_Reader_Done #[r0] w (retK K)) : upK Tryd.prog (sCall F_wire_Reader_Done #[r0]) w K :=
  up_call (fn := Tryd.f49) Tryd.func49 (by kernel_rfl) (by kernel_rfl) h

/-- strconv.ParseInt -/
theorem strconv_ParseInt.up {p0 p1 p2 : Value} {w : World} {K : Value → World → Prop} (h : Calls Tryd.prog F_strconv_ParseInt #[p0, p1, p2] w (retK K)) : upK Tryd.prog (sCall F_strconv_ParseInt #[p0, p1, p2]) w K :=
  up_call (fn := Tryd.f50) Tryd.func50 (by kernel_rfl) (by kernel_rfl) h

/-- strconv.FormatInt -/
theorem strconv_FormatInt.up {p0 p1 : Value} {w : World} {K : Value → World → Prop} (h : Calls Tryd.prog F_strconv_FormatInt #[p0, p1] w (retK K)) : upK Tryd.prog (sCall F_strconv_FormatInt #[p0, p1]) w K :=
  up_call (fn := Tryd.f51) Tryd.func51 (by kernel_rfl) (by kernel_rfl) h

/-- (*strings.Builder).WriteByte -/
theorem strings_Builder_WriteByte.up {p0 p1 : Value} {w : World} {K : Value → World → Prop} (h : Calls Tryd.prog F_strings_Builder_WriteByte #[p0, p1] w (retK K)) : upK Tryd.prog (sCall F_strings_Builder_WriteByte #[p0, p1]) w K :=
  up_call (fn := Tryd.f52) Tryd.func52 (by kernel_rfl) (by kernel_rfl) h

/-- strings.IndexByte -/
theorem strings_IndexByte.up {p0 p1 : Value} {w : World} {K : Value → World → Prop} (h : Calls Tryd.prog F_strings_IndexByte #[p0, p1] w (retK K)) : upK Tryd.prog (sCall F_strings_IndexByte #[p0, p1]) w K :=
  up_call (fn := Tryd.f53) Tryd.func53 (by kernel_rfl) (by kernel_rfl) h

/-- strconv.Itoa -/
theorem strconv_Itoa.up {p0 : Value} {w : World} {K : Value → World → Prop} (h : Calls Tryd.prog F_strconv_Itoa #[p0] w (retK K)) : upK Tryd.prog (sCall F_strconv_Itoa #[p0]) w K :=
  up_call (fn := Tryd.f54) Tryd.func54 (by kernel_rfl) (by kernel_rfl) h

/-- internal/stringslite.HasPrefix -/
theorem internal_stringslite_HasPrefix.up {p0 p1 : Value} {w : World} {K : Value → World → Prop} (h : Calls Tryd.prog F_internal_stringslite_HasPrefix #[p0, p1] w (retK K)) : upK Tryd.prog (sCall F_internal_stringslite_HasPrefix #[p0, p1]) w K :=
  up_call (fn := Tryd.f55) Tryd.func55 (by kernel_rfl) (by kernel_rfl) h

/-- slices.ContainsFunc[[]errata/api.Value,errata/api.Value] -/
def slices_ContainsFunc_s_api_Value_api_Value.pt (s0 f1 : Value) (w : World) (K : Value → World → Prop) : Prop :=
  upK Tryd.prog (sCall F_slices_IndexFunc_s_api_Value_api_Value #[s0, f1]) w fun t7 w1 =>
  pureK Tryd.prog (sBin .geq T_int (.tmp 7) (.const (.int .i64 0)) t7 (.int .i64 0)) fun t8 =>
  K t8 w1
theorem slices_ContainsFunc_s_api_Value_api_Value.pt_eq : slices_ContainsFunc_s_api_Value_api_Value.pt = fun s0 f1 w K => FN Tryd.prog Tryd.f56 (bodyOf Tryd.f56) [4] .leaf [s0, f1] w K := by kernel_rfl
theorem slices_ContainsFunc_s_api_Value_api_Value.call {s0 f1 : Value} {w : World} {K : Value → World → Prop} (h : slices_ContainsFunc_s_api_Value_api_Value.pt s0 f1 w K) : Calls Tryd.prog F_slices_ContainsFunc_s_api_Value_api_Value #[s0, f1] w (retK K) :=
  calls_FN (args := [s0, f1]) Tryd.func56 (by kernel_rfl) (by rw [slices_ContainsFunc_s_api_Value_api_Value.pt_eq] at h; exact h)
theorem slices_ContainsFunc_s_api_Value_api_Value.up {s0 f1 : Value} {w : World} {K : Value → World → Prop} (h : Calls Tryd.prog F_slices_ContainsFunc_s_api_Value_api_Value #[s0, f1] w (retK K)) : upK Tryd.prog (sCall F_slices_ContainsFunc_s_api_Value_api_Value #[s0, f1]) w K :=
  up_call (fn := Tryd.f56) Tryd.func56 (by kernel_rfl) (by kernel_rfl) h

/-- errata/value.all$1 -/
def value_all_1.pt (v0 : Value) (w : World) (K : Value → World → Prop) : Prop :=
  upK Tryd.prog (sBox T_api_Value v0) w fun v1 w1 =>
  readK Tryd.prog (sLoad T_api_Value v1) w1 fun t3 =>
  upK Tryd.prog (sCall F_value_Right #[t3]) w1 fun t4 w2 =>
  pureK Tryd.prog (sUn .not t4) fun t5 =>
  K t5 w2
theorem value_all_1.pt_eq : value_all_1.pt = fun v0 w K => FN Tryd.prog Tryd.f57 (bodyOf Tryd.f57) [2] .leaf [v0] w K := by kernel_rfl
theorem value_all_1.call {v0 : Value} {w : World} {K : Value → World → Prop} (h : value_all_1.pt v0 w K) : Calls Tryd.prog F_value_all_1 #[v0] w (retK K) :=
  calls_FN (args := [v0]) Tryd.func57 (by kernel_rfl) (by rw [value_all_1.pt_eq] at h; exact h)
theorem value_all_1.up {v0 : Value} {w : World} {K : Value → World → Prop} (h : Calls Tryd.prog F_value_all_1 #[v0] w (retK K)) : upK Tryd.prog (sCall F_value_all_1 #[v0]) w K :=
  up_call (fn := Tryd.f57) Tryd.func57 (by kernel_rfl) (by kernel_rfl) h

/-- (*strings.Builder).Grow -/
theorem strings_Builder_Grow.up {p0 p1 : Value} {w : World} {K : Value → World → Prop} (h : Calls Tryd.prog F_strings_Builder_Grow #[p0, p1] w (retK K)) : upK Tryd.prog (sCall F_strings_Builder_Grow #[p0, p1]) w K :=
  up_call (fn := Tryd.f58) Tryd.func58 (by kernel_rfl) (by kernel_rfl) h

end Go.Proofs.YtifhbaphlmhoeaaDoor
