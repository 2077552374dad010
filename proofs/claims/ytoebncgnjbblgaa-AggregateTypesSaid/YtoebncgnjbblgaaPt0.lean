/-
  The reckoned conditions of the functions that this seat's statements reach, printed by program, each held against the translation by the kernel. No condition.
-/
import Derived.Test.YtoebncgnjbblgaaNames
namespace Go.Proofs.Ytoebncgnjbblgaa
set_option linter.unusedVariables false
set_option maxRecDepth 100000

/-- errata/erratalaw30.AggregateTypes -/
def erratalaw30_AggregateTypes.pt (aggs0 cols1 rows2 : Value) (w : World) (K : Value → World → Prop) : Prop :=
  upK Try.prog (sCall F_erratalaw30_small #[]) w fun t18 w1 =>
  upK Try.prog (sCall F_erratalaw30_right #[aggs0]) w1 fun t20 w2 =>
  pureK Try.prog (sUn .not t20) fun t21 =>
  ifB t21
  (K t18 w2)
  (readK Try.prog (sBlt .len #[T_s_api_Col] T_int #[false] #[cols1]) w2 fun t24 =>
   pureK Try.prog (sBin .gtr T_int (.tmp 24) (.const (.int .i64 12)) t24 (.int .i64 12)) fun t25 =>
   ifB t25
   (K t18 w2)
   (readK Try.prog (sBlt .len #[T_s_s_api_Value] T_int #[false] #[rows2]) w2 fun t29 =>
    pureK Try.prog (sBin .gtr T_int (.tmp 29) (.const (.int .i64 40)) t29 (.int .i64 40)) fun t30 =>
    ifB t30
    (K t18 w2)
    (upK Try.prog (sCall F_aggregate_Cols #[aggs0, cols1]) w2 fun t36 w3 =>
     pureK Try.prog (sExtract t36 0) fun t37 =>
     pureK Try.prog (sExtract t36 1) fun t38 =>
     readK Try.prog (sBlt .len #[T_s_api_Agg] T_int #[false] #[aggs0]) w3 fun t40 =>
     pureK Try.prog (sBin .sub T_int (.tmp 40) (.const (.int .i64 1)) t40 (.int .i64 1)) fun t41 =>
     LOOP (X := Value × Value × Unit) (fun lv4 w4 next4 =>
      pureK Try.prog (sBin .geq T_int (.tmp 42) (.const (.int .i64 0)) lv4.2.1 (.int .i64 0)) fun t43 =>
      ifB t43
      (LETJ (X := Value × Unit) (fun jv1 w5 =>
        pureK Try.prog (sBin .sub T_int (.tmp 44) (.const (.int .i64 1)) lv4.2.1 (.int .i64 1)) fun t45 =>
        next4 (jv1.1, t45, ()) w5)
       (fun J1 =>
        pureK Try.prog (sIdxAddr T_s_api_Agg aggs0 lv4.2.1) fun t49 =>
        readK Try.prog (sLoad T_api_Agg t49) w4 fun t50 =>
        upK Try.prog (sCall F_aggregate_Type #[t50, cols1]) w4 fun t52 w6 =>
        pureK Try.prog (sExtract t52 0) fun t53 =>
        pureK Try.prog (sExtract t52 1) fun t54 =>
        pureK Try.prog (sBin .neq T_api_Errno (.tmp 55) (.const (.int .i64 0)) t54 (.int .i64 0)) fun t56 =>
        ifB t56
        (J1 (t54, ()) w6)
        (J1 (lv4.1, ()) w6)))
      (LETJ (X := Unit) (fun jv2 w7 =>
        pureK Try.prog (sBin .neq T_api_Errno (.tmp 81) (.const (.int .i64 0)) t38 (.int .i64 0)) fun t82 =>
        ifB t82
        (K t18 w7)
        (upK Try.prog (sCall F_aggregate_New #[aggs0]) w7 fun t85 w8 =>
         pureK Try.prog (sBin .eql T_p_aggregate_Acc (.tmp 86) (.const (.pointer none)) t85 (.pointer none)) fun t87 =>
         ifB t87
         (K (.bool false) w8)
         (LOOP (X := Value × Unit) (fun lv9 w9 next9 =>
           readK Try.prog (sBlt .len #[T_s_s_api_Value] T_int #[false] #[rows2]) w9 fun t90 =>
           pureK Try.prog (sBin .lss T_int (.tmp 88) (.tmp 90) lv9.1 t90) fun t91 =>
           ifB t91
           (pureK Try.prog (sIdxAddr T_s_s_api_Value rows2 lv9.1) fun t96 =>
            readK Try.prog (sLoad T_s_api_Value t96) w9 fun t97 =>
            upK Try.prog (sCall F_shape_Fits #[t97, cols1]) w9 fun t99 w10 =>
            pureK Try.prog (sUn .not t99) fun t100 =>
            ifB t100
            (K t18 w10)
            (pureK Try.prog (sIdxAddr T_s_s_api_Value rows2 lv9.1) fun t105 =>
             readK Try.prog (sLoad T_s_api_Value t105) w10 fun t106 =>
             upK Try.prog (sCall F_aggregate_Acc_Add #[t85, t106, (.int .i64 1)]) w10 fun t107 w11 =>
             pureK Try.prog (sBin .add T_int (.tmp 92) (.const (.int .i64 1)) lv9.1 (.int .i64 1)) fun t93 =>
             next9 (t93, ()) w11))
           (upK Try.prog (sCall F_aggregate_Acc_Result #[t85]) w9 fun t109 w12 =>
            readK Try.prog (sBlt .len #[T_s_api_Value] T_int #[false] #[t109]) w12 fun t111 =>
            readK Try.prog (sBlt .len #[T_s_api_Col] T_int #[false] #[t37]) w12 fun t113 =>
            pureK Try.prog (sBin .neq T_int (.tmp 111) (.tmp 113) t111 t113) fun t114 =>
            ifB t114
            (K (.bool false) w12)
            (LOOP (X := Value × Unit) (fun lv13 w13 next13 =>
              readK Try.prog (sBlt .len #[T_s_api_Col] T_int #[false] #[t37]) w13 fun t117 =>
              pureK Try.prog (sBin .lss T_int (.tmp 115) (.tmp 117) lv13.1 t117) fun t118 =>
              ifB t118
              (LETJ (X := Unit) (fun jv3 w14 =>
                pureK Try.prog (sBin .add T_int (.tmp 119) (.const (.int .i64 1)) lv13.1 (.int .i64 1)) fun t120 =>
                next13 (t120, ()) w14)
               (fun J3 =>
                pureK Try.prog (sIdxAddr T_s_api_Col t37 lv13.1) fun t123 =>
                pureK Try.prog (sFieldAddr T_api_Col t123 0) fun t124 =>
                readK Try.prog (sLoad T_string t124) (tick w13) fun t125 =>
                pureK Try.prog (sIdxAddr T_s_api_Agg aggs0 lv13.1) fun t128 =>
                pureK Try.prog (sFieldAddr T_api_Agg t128 2) fun t129 =>
                readK Try.prog (sLoad T_string t129) (tick w13) fun t130 =>
                pureK Try.prog (sBin .neq T_string (.tmp 125) (.tmp 130) t125 t130) fun t131 =>
                ifB t131
                (K (.bool false) (tick w13))
                (readK Try.prog (sBlt .len #[T_s_s_api_Value] T_int #[false] #[rows2]) (tick w13) fun t134 =>
                 pureK Try.prog (sBin .gtr T_int (.tmp 134) (.const (.int .i64 0)) t134 (.int .i64 0)) fun t135 =>
                 ifB t135
                 (pureK Try.prog (sIdxAddr T_s_api_Value t109 lv13.1) fun t139 =>
                  pureK Try.prog (sFieldAddr T_api_Value t139 0) fun t140 =>
                  readK Try.prog (sLoad T_int t140) (tick w13) fun t141 =>
                  pureK Try.prog (sIdxAddr T_s_api_Col t37 lv13.1) fun t144 =>
                  pureK Try.prog (sFieldAddr T_api_Col t144 1) fun t145 =>
                  readK Try.prog (sLoad T_int t145) (tick w13) fun t146 =>
                  pureK Try.prog (sBin .neq T_int (.tmp 141) (.tmp 146) t141 t146) fun t147 =>
                  ifB t147
                  (K (.bool false) (tick w13))
                  (pureK Try.prog (sIdxAddr T_s_api_Value t109 lv13.1) fun t151 =>
                   readK Try.prog (sLoad T_api_Value t151) (tick w13) fun t152 =>
                   upK Try.prog (sCall F_value_Right #[t152]) (tick w13) fun t153 w15 =>
                   pureK Try.prog (sUn .not t153) fun t154 =>
                   ifB t154
                   (K (.bool false) w15)
                   (J3 (()) w15)))
                 (J3 (()) (tick w13)))))
              (K t18 w13))
             ((.int .i64 0), ()) w12)))
          ((.int .i64 0), ()) w8)))
       (fun J2 =>
        pureK Try.prog (sBin .neq T_api_Errno (.tmp 58) (.tmp 59) t38 lv4.1) fun t60 =>
        ifB t60
        (K (.bool false) w4)
        (pureK Try.prog (sBin .neq T_api_Errno (.tmp 62) (.const (.int .i64 0)) t38 (.int .i64 0)) fun t63 =>
         ifB t63
         (readK Try.prog (sBlt .len #[T_s_api_Col] T_int #[false] #[t37]) w4 fun t66 =>
          pureK Try.prog (sBin .neq T_int (.tmp 66) (.const (.int .i64 0)) t66 (.int .i64 0)) fun t67 =>
          ifB t67
          (K (.bool false) w4)
          (pureK Try.prog (sBin .eql T_api_Errno (.tmp 71) (.const (.int .i64 0)) t38 (.int .i64 0)) fun t72 =>
           ifB t72
           (readK Try.prog (sBlt .len #[T_s_api_Col] T_int #[false] #[t37]) w4 fun t75 =>
            readK Try.prog (sBlt .len #[T_s_api_Agg] T_int #[false] #[aggs0]) w4 fun t77 =>
            pureK Try.prog (sBin .neq T_int (.tmp 75) (.tmp 77) t75 t77) fun t78 =>
            ifB t78
            (K (.bool false) w4)
            (J2 (()) w4))
           (J2 (()) w4)))
         (pureK Try.prog (sBin .eql T_api_Errno (.tmp 71) (.const (.int .i64 0)) t38 (.int .i64 0)) fun t72_1 =>
          ifB t72_1
          (readK Try.prog (sBlt .len #[T_s_api_Col] T_int #[false] #[t37]) w4 fun t75_1 =>
           readK Try.prog (sBlt .len #[T_s_api_Agg] T_int #[false] #[aggs0]) w4 fun t77_1 =>
           pureK Try.prog (sBin .neq T_int (.tmp 75) (.tmp 77) t75_1 t77_1) fun t78_1 =>
           ifB t78_1
           (K (.bool false) w4)
           (J2 (()) w4))
          (J2 (()) w4))))))
     ((.int .i64 0), t41, ()) w3)))
theorem erratalaw30_AggregateTypes.pt_eq : erratalaw30_AggregateTypes.pt = fun aggs0 cols1 rows2 w K => FN Try.prog Try.f3 (bodyOf Try.f3) [6] (.node none .leaf (.node none .leaf (.node none .leaf (.node none .leaf (.node none .leaf (.node none (.node none .leaf (.node none (.node none (.node none .leaf (.node (some [10]) .leaf .leaf)) .leaf) .leaf)) (.node (some []) .leaf (.node none .leaf (.node none .leaf (.node none .leaf (.node none .leaf (.node none .leaf (.node none .leaf (.node none (.node none .leaf (.node none (.node none (.node none .leaf (.node (some []) .leaf .leaf)) .leaf) .leaf)) .leaf)))))))))))))) [aggs0, cols1, rows2] w K := by kernel_rfl
theorem erratalaw30_AggregateTypes.call {aggs0 cols1 rows2 : Value} {w : World} {K : Value → World → Prop} (h : erratalaw30_AggregateTypes.pt aggs0 cols1 rows2 w K) : Calls Try.prog F_erratalaw30_AggregateTypes #[aggs0, cols1, rows2] w (retK K) :=
  calls_FN (args := [aggs0, cols1, rows2]) Try.func3 (by kernel_rfl) (by rw [erratalaw30_AggregateTypes.pt_eq] at h; exact h)
theorem erratalaw30_AggregateTypes.up {aggs0 cols1 rows2 : Value} {w : World} {K : Value → World → Prop} (h : Calls Try.prog F_erratalaw30_AggregateTypes #[aggs0, cols1, rows2] w (retK K)) : upK Try.prog (sCall F_erratalaw30_AggregateTypes #[aggs0, cols1, rows2]) w K :=
  up_call (fn := Try.f3) Try.func3 (by kernel_rfl) (by kernel_rfl) h

/-- errata/erratalaw30.small -/
def erratalaw30_small.pt (w : World) (K : Value → World → Prop) : Prop :=
  pureK Try.prog (sBuild T_api_Agg #[(0, (.int .i64 0))]) fun t4 =>
  pureK Try.prog (sBuild T_api_Agg #[(0, (.int .i64 1))]) fun t5 =>
  pureK Try.prog (sBuild T_api_Agg #[(0, (.int .i64 3))]) fun t6 =>
  upK Try.prog (sBuildSlice T_s_api_Agg 3 #[(0, t4), (1, t5), (2, t6)]) w fun t7 w1 =>
  upK Try.prog (sCall F_aggregate_New #[t7]) w1 fun t8 w2 =>
  pureK Try.prog (sBin .eql T_p_aggregate_Acc (.tmp 9) (.const (.pointer none)) t8 (.pointer none)) fun t10 =>
  ifB t10
  (K (.bool false) w2)
  (pureK Try.prog (sBuild T_api_Value #[(1, (.int .i64 5))]) fun t12 =>
   upK Try.prog (sBuildSlice T_s_api_Value 1 #[(0, t12)]) w2 fun t13 w3 =>
   upK Try.prog (sCall F_aggregate_Acc_Add #[t8, t13, (.int .i64 2)]) w3 fun t14 w4 =>
   pureK Try.prog (sBuild T_api_Value #[(1, (.int .i64 9))]) fun t16 =>
   upK Try.prog (sBuildSlice T_s_api_Value 1 #[(0, t16)]) w4 fun t17 w5 =>
   upK Try.prog (sCall F_aggregate_Acc_Add #[t8, t17, (.int .i64 1)]) w5 fun t18 w6 =>
   upK Try.prog (sCall F_aggregate_Acc_Result #[t8]) w6 fun t20 w7 =>
   pureK Try.prog (sBuild T_api_Value #[(1, (.int .i64 3))]) fun t21 =>
   pureK Try.prog (sBuild T_api_Value #[(1, (.int .i64 19))]) fun t22 =>
   pureK Try.prog (sBuild T_api_Value #[(1, (.int .i64 9))]) fun t23 =>
   upK Try.prog (sBuildSlice T_s_api_Value 3 #[(0, t21), (1, t22), (2, t23)]) w7 fun t24 w8 =>
   upK Try.prog (sCall F_errataref03_Same #[t20, t24]) w8 fun t25 w9 =>
   pureK Try.prog (sBuild T_api_Value #[(1, (.int .i64 9))]) fun t27 =>
   upK Try.prog (sBuildSlice T_s_api_Value 1 #[(0, t27)]) w9 fun t28 w10 =>
   upK Try.prog (sCall F_aggregate_Acc_Add #[t8, t28, (.int .i64 (-1))]) w10 fun t29 w11 =>
   upK Try.prog (sCall F_aggregate_Acc_Result #[t8]) w11 fun t31 w12 =>
   pureK Try.prog (sBuild T_api_Value #[(1, (.int .i64 2))]) fun t32 =>
   pureK Try.prog (sBuild T_api_Value #[(1, (.int .i64 10))]) fun t33 =>
   pureK Try.prog (sBuild T_api_Value #[(1, (.int .i64 5))]) fun t34 =>
   upK Try.prog (sBuildSlice T_s_api_Value 3 #[(0, t32), (1, t33), (2, t34)]) w12 fun t35 w13 =>
   upK Try.prog (sCall F_errataref03_Same #[t31, t35]) w13 fun t36 w14 =>
   ifB t36
   (upK Try.prog (sCall F_aggregate_Acc_Rows #[t8]) w14 fun t39 w15 =>
    pureK Try.prog (sBin .eql T_int (.tmp 39) (.const (.int .i64 1)) t39 (.int .i64 1)) fun t40 =>
    ifB t40
    (upK Try.prog (sCall F_aggregate_Acc_Empty #[t8]) w15 fun t44 w16 =>
     pureK Try.prog (sUn .not t44) fun t45 =>
     pureK Try.prog (sBuild T_api_Value #[(1, (.int .i64 5))]) fun t48 =>
     upK Try.prog (sBuildSlice T_s_api_Value 1 #[(0, t48)]) w16 fun t49 w17 =>
     upK Try.prog (sCall F_aggregate_Acc_Add #[t8, t49, (.int .i64 (-2))]) w17 fun t50 w18 =>
     ifB t25
     (ifB t45
      (upK Try.prog (sCall F_aggregate_Acc_Result #[t8]) w18 fun t57 w19 =>
       pureK Try.prog (sBuild T_api_Value #[]) fun t58 =>
       pureK Try.prog (sBuild T_api_Value #[]) fun t59 =>
       pureK Try.prog (sBuild T_api_Value #[]) fun t60 =>
       upK Try.prog (sBuildSlice T_s_api_Value 3 #[(0, t58), (1, t59), (2, t60)]) w19 fun t61 w20 =>
       upK Try.prog (sCall F_errataref03_Same #[t57, t61]) w20 fun t62 w21 =>
       ifB t62
       (upK Try.prog (sCall F_aggregate_Acc_Empty #[t8]) w21 fun t66 w22 =>
        K t66 w22)
       (K (.bool false) w21))
      (K (.bool false) w18))
     (K (.bool false) w18))
    (pureK Try.prog (sBuild T_api_Value #[(1, (.int .i64 5))]) fun t48_1 =>
     upK Try.prog (sBuildSlice T_s_api_Value 1 #[(0, t48_1)]) w15 fun t49_1 w23 =>
     upK Try.prog (sCall F_aggregate_Acc_Add #[t8, t49_1, (.int .i64 (-2))]) w23 fun t50_1 w24 =>
     ifB t25
     (K (.bool false) w24)
     (K (.bool false) w24)))
   (pureK Try.prog (sBuild T_api_Value #[(1, (.int .i64 5))]) fun t48_2 =>
    upK Try.prog (sBuildSlice T_s_api_Value 1 #[(0, t48_2)]) w14 fun t49_2 w25 =>
    upK Try.prog (sCall F_aggregate_Acc_Add #[t8, t49_2, (.int .i64 (-2))]) w25 fun t50_2 w26 =>
    ifB t25
    (K (.bool false) w26)
    (K (.bool false) w26)))
theorem erratalaw30_small.pt_eq : erratalaw30_small.pt = fun  w K => FN Try.prog Try.f4 (bodyOf Try.f4) [0] .leaf [] w K := by kernel_rfl
theorem erratalaw30_small.call {w : World} {K : Value → World → Prop} (h : erratalaw30_small.pt  w K) : Calls Try.prog F_erratalaw30_small #[] w (retK K) :=
  calls_FN (args := []) Try.func4 (by kernel_rfl) (by rw [erratalaw30_small.pt_eq] at h; exact h)
theorem erratalaw30_small.up {w : World} {K : Value → World → Prop} (h : Calls Try.prog F_erratalaw30_small #[] w (retK K)) : upK Try.prog (sCall F_erratalaw30_small #[]) w K :=
  up_call (fn := Try.f4) Try.func4 (by kernel_rfl) (by kernel_rfl) h

/-- errata/erratalaw30.right -/
def erratalaw30_right.pt (aggs0 : Value) (w : World) (K : Value → World → Prop) : Prop :=
  LOOP (X := Value × Unit) (fun lv1 w1 next1 =>
   readK Try.prog (sBlt .len #[T_s_api_Agg] T_int #[false] #[aggs0]) w1 fun t6 =>
   pureK Try.prog (sBin .lss T_int (.tmp 4) (.tmp 6) lv1.1 t6) fun t7 =>
   ifB t7
   (pureK Try.prog (sIdxAddr T_s_api_Agg aggs0 lv1.1) fun t12 =>
    pureK Try.prog (sFieldAddr T_api_Agg t12 0) fun t13 =>
    readK Try.prog (sLoad T_int t13) w1 fun t14 =>
    pureK Try.prog (sBin .lss T_int (.tmp 14) (.const (.int .i64 0)) t14 (.int .i64 0)) fun t15 =>
    ifB t15
    (K (.bool false) w1)
    (pureK Try.prog (sIdxAddr T_s_api_Agg aggs0 lv1.1) fun t19 =>
     pureK Try.prog (sFieldAddr T_api_Agg t19 0) fun t20 =>
     readK Try.prog (sLoad T_int t20) w1 fun t21 =>
     pureK Try.prog (sBin .geq T_int (.tmp 21) (.const (.int .i64 4)) t21 (.int .i64 4)) fun t22 =>
     ifB t22
     (K (.bool false) w1)
     (pureK Try.prog (sIdxAddr T_s_api_Agg aggs0 lv1.1) fun t27 =>
      pureK Try.prog (sFieldAddr T_api_Agg t27 1) fun t28 =>
      readK Try.prog (sLoad T_int t28) w1 fun t29 =>
      pureK Try.prog (sBin .lss T_int (.tmp 29) (.const (.int .i64 0)) t29 (.int .i64 0)) fun t30 =>
      ifB t30
      (K (.bool false) w1)
      (pureK Try.prog (sBin .add T_int (.tmp 8) (.const (.int .i64 1)) lv1.1 (.int .i64 1)) fun t9 =>
       next1 (t9, ()) w1))))
   (readK Try.prog (sBlt .len #[T_s_api_Agg] T_int #[false] #[aggs0]) w1 fun t33 =>
    pureK Try.prog (sBin .leq T_int (.tmp 33) (.const (.int .i64 8)) t33 (.int .i64 8)) fun t34 =>
    K t34 w1))
  ((.int .i64 0), ()) w
theorem erratalaw30_right.pt_eq : erratalaw30_right.pt = fun aggs0 w K => FN Try.prog Try.f5 (bodyOf Try.f5) [2] .leaf [aggs0] w K := by kernel_rfl
theorem erratalaw30_right.call {aggs0 : Value} {w : World} {K : Value → World → Prop} (h : erratalaw30_right.pt aggs0 w K) : Calls Try.prog F_erratalaw30_right #[aggs0] w (retK K) :=
  calls_FN (args := [aggs0]) Try.func5 (by kernel_rfl) (by rw [erratalaw30_right.pt_eq] at h; exact h)
theorem erratalaw30_right.up {aggs0 : Value} {w : World} {K : Value → World → Prop} (h : Calls Try.prog F_erratalaw30_right #[aggs0] w (retK K)) : upK Try.prog (sCall F_erratalaw30_right #[aggs0]) w K :=
  up_call (fn := Try.f5) Try.func5 (by kernel_rfl) (by kernel_rfl) h

/-- errata/aggregate.Cols -/
def aggregate_Cols.pt (aggs0 cols1 : Value) (w : World) (K : Value → World → Prop) : Prop :=
  readK Try.prog (sBlt .len #[T_s_api_Agg] T_int #[false] #[aggs0]) w fun t13 =>
  LOOP (X := Value × Value × Unit) (fun lv1 w1 next1 =>
   pureK Try.prog (sBin .lss T_int (.tmp 14) (.tmp 13) lv1.2.1 t13) fun t15 =>
   ifB t15
   (pureK Try.prog (sIdxAddr T_s_api_Agg aggs0 lv1.2.1) fun t16 =>
    readK Try.prog (sLoad T_api_Agg t16) w1 fun t17 =>
    upK Try.prog (sAlloc T_api_Agg) w1 fun g8 w2 =>
    upK Try.prog (sStore T_api_Agg g8 t17) w2 fun tu w3 =>
    readK Try.prog (sLoad T_api_Agg g8) w3 fun t19 =>
    upK Try.prog (sCall F_aggregate_Type #[t19, cols1]) w3 fun t21 w4 =>
    pureK Try.prog (sExtract t21 0) fun t22 =>
    pureK Try.prog (sExtract t21 1) fun t23 =>
    pureK Try.prog (sBin .neq T_api_Errno (.tmp 24) (.const (.int .i64 0)) t23 (.int .i64 0)) fun t25 =>
    ifB t25
    (K (.tuple #[(.slice none 0 0), t23]) w4)
    (pureK Try.prog (sFieldAddr T_api_Agg g8 2) fun t27 =>
     readK Try.prog (sLoad T_string t27) w4 fun t28 =>
     pureK Try.prog (sBuild T_api_Col #[(0, t28), (1, t22)]) fun t30 =>
     upK Try.prog (sAlloc T_api_Col) w4 fun c11 w5 =>
     upK Try.prog (sStore T_api_Col c11 t30) w5 fun tu_1 w6 =>
     LETJ (X := Unit) (fun jv1 w7 =>
      readK Try.prog (sLoad T_api_Col c11) w7 fun t42 =>
      upK Try.prog (sBuildSlice T_s_api_Col 1 #[(0, t42)]) w7 fun t43 w8 =>
      upK Try.prog (sBlt .append #[T_s_api_Col, T_s_api_Col] T_s_api_Col #[false, false] #[lv1.1, t43]) w8 fun t44 w9 =>
      pureK Try.prog (sBin .add T_int (.tmp 14) (.const (.int .i64 1)) lv1.2.1 (.int .i64 1)) fun t45 =>
      next1 (t44, t45, ()) w9)
     (fun J1 =>
      pureK Try.prog (sFieldAddr T_api_Agg g8 0) fun t31 =>
      readK Try.prog (sLoad T_int t31) w6 fun t32 =>
      pureK Try.prog (sBin .neq T_int (.tmp 32) (.const (.int .i64 0)) t32 (.int .i64 0)) fun t33 =>
      ifB t33
      (pureK Try.prog (sFieldAddr T_api_Agg g8 1) fun t35 =>
       readK Try.prog (sLoad T_int t35) w6 fun t36 =>
       pureK Try.prog (sIdxAddr T_s_api_Col cols1 t36) fun t37 =>
       pureK Try.prog (sFieldAddr T_api_Col t37 2) fun t38 =>
       readK Try.prog (sLoad T_string t38) w6 fun t39 =>
       pureK Try.prog (sFieldAddr T_api_Col c11 2) fun t40 =>
       upK Try.prog (sStore T_string t40 t39) w6 fun tu_2 w10 =>
       J1 (()) w10)
      (J1 (()) w6))))
   (K (.tuple #[lv1.1, (.int .i64 0)]) w1))
  ((.slice none 0 0), (.int .i64 0), ()) w
theorem aggregate_Cols.pt_eq : aggregate_Cols.pt = fun aggs0 cols1 w K => FN Try.prog Try.f6 (bodyOf Try.f6) [4, 5] (.node none .leaf (.node none .leaf (.node none (.node none .leaf (.node none (.node none (.node none .leaf (.node none .leaf (.node none (.node none (.node none .leaf (.node none .leaf (.node none .leaf (.node none .leaf (.node (some []) .leaf .leaf))))) .leaf) .leaf))) .leaf) .leaf)) .leaf))) [aggs0, cols1] w K := by kernel_rfl
theorem aggregate_Cols.call {aggs0 cols1 : Value} {w : World} {K : Value → World → Prop} (h : aggregate_Cols.pt aggs0 cols1 w K) : Calls Try.prog F_aggregate_Cols #[aggs0, cols1] w (retK K) :=
  calls_FN (args := [aggs0, cols1]) Try.func6 (by kernel_rfl) (by rw [aggregate_Cols.pt_eq] at h; exact h)
theorem aggregate_Cols.up {aggs0 cols1 : Value} {w : World} {K : Value → World → Prop} (h : Calls Try.prog F_aggregate_Cols #[aggs0, cols1] w (retK K)) : upK Try.prog (sCall F_aggregate_Cols #[aggs0, cols1]) w K :=
  up_call (fn := Try.f6) Try.func6 (by kernel_rfl) (by kernel_rfl) h

/-- errata/aggregate.Type -/
def aggregate_Type.pt (g0 cols1 : Value) (w : World) (K : Value → World → Prop) : Prop :=
  upK Try.prog (sBox T_api_Agg g0) w fun g2 w1 =>
  LETJ (X := Unit) (fun jv1 w2 =>
   pureK Try.prog (sFieldAddr T_api_Agg g2 1) fun t44 =>
   readK Try.prog (sLoad T_int t44) w2 fun t45 =>
   pureK Try.prog (sIdxAddr T_s_api_Col cols1 t45) fun t46 =>
   pureK Try.prog (sFieldAddr T_api_Col t46 1) fun t47 =>
   readK Try.prog (sLoad T_int t47) w2 fun t48 =>
   K (.tuple #[t48, (.int .i64 0)]) w2)
  (fun J1 =>
   pureK Try.prog (sFieldAddr T_api_Agg g2 0) fun t7 =>
   readK Try.prog (sLoad T_int t7) w1 fun t8 =>
   pureK Try.prog (sBin .lss T_int (.tmp 8) (.const (.int .i64 0)) t8 (.int .i64 0)) fun t9 =>
   ifB t9
   (K (.tuple #[(.int .i64 0), (.int .i64 1)]) w1)
   (pureK Try.prog (sFieldAddr T_api_Agg g2 0) fun t11 =>
    readK Try.prog (sLoad T_int t11) w1 fun t12 =>
    pureK Try.prog (sBin .geq T_int (.tmp 12) (.const (.int .i64 4)) t12 (.int .i64 4)) fun t13 =>
    ifB t13
    (K (.tuple #[(.int .i64 0), (.int .i64 1)]) w1)
    (pureK Try.prog (sFieldAddr T_api_Agg g2 0) fun t16 =>
     readK Try.prog (sLoad T_int t16) w1 fun t17 =>
     pureK Try.prog (sBin .eql T_int (.tmp 17) (.const (.int .i64 0)) t17 (.int .i64 0)) fun t18 =>
     ifB t18
     (K (.tuple #[(.int .i64 0), (.int .i64 0)]) w1)
     (pureK Try.prog (sFieldAddr T_api_Agg g2 1) fun t20 =>
      readK Try.prog (sLoad T_int t20) w1 fun t21 =>
      pureK Try.prog (sBin .lss T_int (.tmp 21) (.const (.int .i64 0)) t21 (.int .i64 0)) fun t22 =>
      ifB t22
      (K (.tuple #[(.int .i64 0), (.int .i64 3)]) w1)
      (pureK Try.prog (sFieldAddr T_api_Agg g2 1) fun t24 =>
       readK Try.prog (sLoad T_int t24) w1 fun t25 =>
       readK Try.prog (sBlt .len #[T_s_api_Col] T_int #[false] #[cols1]) w1 fun t27 =>
       pureK Try.prog (sBin .geq T_int (.tmp 25) (.tmp 27) t25 t27) fun t28 =>
       ifB t28
       (K (.tuple #[(.int .i64 0), (.int .i64 3)]) w1)
       (pureK Try.prog (sFieldAddr T_api_Agg g2 0) fun t31 =>
        readK Try.prog (sLoad T_int t31) w1 fun t32 =>
        pureK Try.prog (sBin .eql T_int (.tmp 32) (.const (.int .i64 1)) t32 (.int .i64 1)) fun t33 =>
        ifB t33
        (pureK Try.prog (sFieldAddr T_api_Agg g2 1) fun t36 =>
         readK Try.prog (sLoad T_int t36) w1 fun t37 =>
         pureK Try.prog (sIdxAddr T_s_api_Col cols1 t37) fun t38 =>
         pureK Try.prog (sFieldAddr T_api_Col t38 1) fun t39 =>
         readK Try.prog (sLoad T_int t39) w1 fun t40 =>
         pureK Try.prog (sBin .neq T_int (.tmp 40) (.const (.int .i64 0)) t40 (.int .i64 0)) fun t41 =>
         ifB t41
         (K (.tuple #[(.int .i64 0), (.int .i64 13)]) w1)
         (J1 (()) w1))
        (J1 (()) w1)))))))
theorem aggregate_Type.pt_eq : aggregate_Type.pt = fun g0 cols1 w K => FN Try.prog Try.f7 (bodyOf Try.f7) [4, 5] (.node none .leaf (.node (some []) .leaf .leaf)) [g0, cols1] w K := by kernel_rfl
theorem aggregate_Type.call {g0 cols1 : Value} {w : World} {K : Value → World → Prop} (h : aggregate_Type.pt g0 cols1 w K) : Calls Try.prog F_aggregate_Type #[g0, cols1] w (retK K) :=
  calls_FN (args := [g0, cols1]) Try.func7 (by kernel_rfl) (by rw [aggregate_Type.pt_eq] at h; exact h)
theorem aggregate_Type.up {g0 cols1 : Value} {w : World} {K : Value → World → Prop} (h : Calls Try.prog F_aggregate_Type #[g0, cols1] w (retK K)) : upK Try.prog (sCall F_aggregate_Type #[g0, cols1]) w K :=
  up_call (fn := Try.f7) Try.func7 (by kernel_rfl) (by kernel_rfl) h

/-- errata/aggregate.New -/
def aggregate_New.pt (aggs0 : Value) (w : World) (K : Value → World → Prop) : Prop :=
  LETJ (X := Value × Unit) (fun jv1 w1 =>
   readK Try.prog (sBlt .len #[T_s_api_Agg] T_int #[false] #[aggs0]) w1 fun t17 =>
   LOOP (X := Value × Unit) (fun lv2 w2 next2 =>
    pureK Try.prog (sBin .lss T_int (.tmp 18) (.tmp 17) lv2.1 t17) fun t19 =>
    ifB t19
    (LETJ (X := Unit) (fun jv2 w3 =>
      pureK Try.prog (sBin .add T_int (.tmp 18) (.const (.int .i64 1)) lv2.1 (.int .i64 1)) fun t32 =>
      next2 (t32, ()) w3)
     (fun J2 =>
      pureK Try.prog (sIdxAddr T_s_api_Agg aggs0 lv2.1) fun t21 =>
      readK Try.prog (sLoad T_api_Agg t21) w2 fun t22 =>
      upK Try.prog (sAlloc T_api_Agg) w2 fun g5 w4 =>
      upK Try.prog (sStore T_api_Agg g5 t22) w4 fun tu w5 =>
      readK Try.prog (sLoad T_api_Agg g5) w5 fun t23 =>
      upK Try.prog (sCall F_aggregate_ordered #[t23]) w5 fun t24 w6 =>
      ifB t24
      (pureK Try.prog (sNil jv1.1) fun t26 =>
       pureK Try.prog (sFieldAddr T_aggregate_Acc t26 3) fun t27 =>
       readK Try.prog (sLoad T_s_map_api_Value_int t27) w6 fun t28 =>
       upK Try.prog (sMkMap T_map_api_Value_int none) w6 fun t30 w7 =>
       pureK Try.prog (sIdxAddr T_s_map_api_Value_int t28 lv2.1) fun t31 =>
       upK Try.prog (sStore T_map_api_Value_int t31 t30) w7 fun tu_1 w8 =>
       J2 (()) w8)
      (J2 (()) w6)))
    (K jv1.1 w2))
   ((.int .i64 0), ()) w1)
  (fun J1 =>
   readK Try.prog (sBlt .len #[T_s_api_Agg] T_int #[false] #[aggs0]) (tick w) fun t9 =>
   readK Try.prog (sBlt .len #[T_s_api_Agg] T_int #[false] #[aggs0]) (tick w) fun t12 =>
   ((upK Try.prog (sCall F_slices_Clone_s_api_Agg_api_Agg #[aggs0]) (tick w) fun t7 w9 =>
     Is Try.prog (sBlt .len #[T_s_api_Agg] T_int #[false] #[aggs0]) t12 w9 ∧ Is Try.prog (sBlt .len #[T_s_api_Agg] T_int #[false] #[aggs0]) t9 w9 ∧ ((upK Try.prog (sMkSlice T_s_int t9 t9) w9 fun t10 w10 =>
       Is Try.prog (sBlt .len #[T_s_api_Agg] T_int #[false] #[aggs0]) t12 w10 ∧ upK Try.prog (sMkSlice T_s_map_api_Value_int t12 t12) w10 fun t13 w11 =>
       Is Try.prog (sBlt .len #[T_s_api_Agg] T_int #[false] #[aggs0]) t9 w11 ∧ pureK Try.prog (sBuild T_aggregate_Acc #[(0, t7), (2, t10), (3, t13)]) fun t14 =>
       upK Try.prog (sBox T_aggregate_Acc t14) w11 fun t15 w12 =>
       J1 (t15, ()) w12)
      ∧ (upK Try.prog (sMkSlice T_s_map_api_Value_int t12 t12) w9 fun t13_1 w13 =>
       Is Try.prog (sBlt .len #[T_s_api_Agg] T_int #[false] #[aggs0]) t9 w13 ∧ upK Try.prog (sMkSlice T_s_int t9 t9) w13 fun t10_1 w14 =>
       Is Try.prog (sBlt .len #[T_s_api_Agg] T_int #[false] #[aggs0]) t12 w14 ∧ pureK Try.prog (sBuild T_aggregate_Acc #[(0, t7), (2, t10_1), (3, t13_1)]) fun t14_1 =>
       upK Try.prog (sBox T_aggregate_Acc t14_1) w14 fun t15_1 w15 =>
       J1 (t15_1, ()) w15)))
    ∧ ((upK Try.prog (sMkSlice T_s_int t9 t9) (tick w) fun t10_2 w16 =>
      Is Try.prog (sBlt .len #[T_s_api_Agg] T_int #[false] #[aggs0]) t12 w16 ∧ ((upK Try.prog (sCall F_slices_Clone_s_api_Agg_api_Agg #[aggs0]) w16 fun t7_1 w17 =>
        Is Try.prog (sBlt .len #[T_s_api_Agg] T_int #[false] #[aggs0]) t12 w17 ∧ Is Try.prog (sBlt .len #[T_s_api_Agg] T_int #[false] #[aggs0]) t9 w17 ∧ upK Try.prog (sMkSlice T_s_map_api_Value_int t12 t12) w17 fun t13_2 w18 =>
        Is Try.prog (sBlt .len #[T_s_api_Agg] T_int #[false] #[aggs0]) t9 w18 ∧ pureK Try.prog (sBuild T_aggregate_Acc #[(0, t7_1), (2, t10_2), (3, t13_2)]) fun t14_2 =>
        upK Try.prog (sBox T_aggregate_Acc t14_2) w18 fun t15_2 w19 =>
        J1 (t15_2, ()) w19)
       ∧ (upK Try.prog (sMkSlice T_s_map_api_Value_int t12 t12) w16 fun t13_3 w20 =>
        Is Try.prog (sBlt .len #[T_s_api_Agg] T_int #[false] #[aggs0]) t9 w20 ∧ upK Try.prog (sCall F_slices_Clone_s_api_Agg_api_Agg #[aggs0]) w20 fun t7_2 w21 =>
        Is Try.prog (sBlt .len #[T_s_api_Agg] T_int #[false] #[aggs0]) t12 w21 ∧ Is Try.prog (sBlt .len #[T_s_api_Agg] T_int #[false] #[aggs0]) t9 w21 ∧ pureK Try.prog (sBuild T_aggregate_Acc #[(0, t7_2), (2, t10_2), (3, t13_3)]) fun t14_3 =>
        upK Try.prog (sBox T_aggregate_Acc t14_3) w21 fun t15_3 w22 =>
        J1 (t15_3, ()) w22)))
     ∧ (upK Try.prog (sMkSlice T_s_map_api_Value_int t12 t12) (tick w) fun t13_4 w23 =>
      Is Try.prog (sBlt .len #[T_s_api_Agg] T_int #[false] #[aggs0]) t9 w23 ∧ ((upK Try.prog (sCall F_slices_Clone_s_api_Agg_api_Agg #[aggs0]) w23 fun t7_3 w24 =>
        Is Try.prog (sBlt .len #[T_s_api_Agg] T_int #[false] #[aggs0]) t12 w24 ∧ Is Try.prog (sBlt .len #[T_s_api_Agg] T_int #[false] #[aggs0]) t9 w24 ∧ upK Try.prog (sMkSlice T_s_int t9 t9) w24 fun t10_3 w25 =>
        Is Try.prog (sBlt .len #[T_s_api_Agg] T_int #[false] #[aggs0]) t12 w25 ∧ pureK Try.prog (sBuild T_aggregate_Acc #[(0, t7_3), (2, t10_3), (3, t13_4)]) fun t14_4 =>
        upK Try.prog (sBox T_aggregate_Acc t14_4) w25 fun t15_4 w26 =>
        J1 (t15_4, ()) w26)
       ∧ (upK Try.prog (sMkSlice T_s_int t9 t9) w23 fun t10_4 w27 =>
        Is Try.prog (sBlt .len #[T_s_api_Agg] T_int #[false] #[aggs0]) t12 w27 ∧ upK Try.prog (sCall F_slices_Clone_s_api_Agg_api_Agg #[aggs0]) w27 fun t7_4 w28 =>
        Is Try.prog (sBlt .len #[T_s_api_Agg] T_int #[false] #[aggs0]) t12 w28 ∧ Is Try.prog (sBlt .len #[T_s_api_Agg] T_int #[false] #[aggs0]) t9 w28 ∧ pureK Try.prog (sBuild T_aggregate_Acc #[(0, t7_4), (2, t10_4), (3, t13_4)]) fun t14_5 =>
        upK Try.prog (sBox T_aggregate_Acc t14_5) w28 fun t15_5 w29 =>
        J1 (t15_5, ()) w29))))))
theorem aggregate_New.pt_eq : aggregate_New.pt = fun aggs0 w K => FN Try.prog Try.f8 (bodyOf Try.f8) [2] (.node none .leaf (.node (some [3]) .leaf (.node none (.node none .leaf (.node none (.node none (.node none .leaf (.node none .leaf (.node (some []) .leaf .leaf))) .leaf) .leaf)) .leaf))) [aggs0] w K := by kernel_rfl
theorem aggregate_New.call {aggs0 : Value} {w : World} {K : Value → World → Prop} (h : aggregate_New.pt aggs0 w K) : Calls Try.prog F_aggregate_New #[aggs0] w (retK K) :=
  calls_FN (args := [aggs0]) Try.func8 (by kernel_rfl) (by rw [aggregate_New.pt_eq] at h; exact h)
theorem aggregate_New.up {aggs0 : Value} {w : World} {K : Value → World → Prop} (h : Calls Try.prog F_aggregate_New #[aggs0] w (retK K)) : upK Try.prog (sCall F_aggregate_New #[aggs0]) w K :=
  up_call (fn := Try.f8) Try.func8 (by kernel_rfl) (by kernel_rfl) h

/-- errata/shape.Fits -/
def shape_Fits.pt (row0 cols1 : Value) (w : World) (K : Value → World → Prop) : Prop :=
  readK Try.prog (sBlt .len #[T_s_api_Value] T_int #[false] #[row0]) w fun t8 =>
  readK Try.prog (sBlt .len #[T_s_api_Col] T_int #[false] #[cols1]) w fun t10 =>
  pureK Try.prog (sBin .neq T_int (.tmp 8) (.tmp 10) t8 t10) fun t11 =>
  ifB t11
  (K (.bool false) w)
  (upK Try.prog (sCall F_value_RightRow #[row0]) w fun t14 w1 =>
   pureK Try.prog (sUn .not t14) fun t15 =>
   ifB t15
   (K (.bool false) w1)
   (readK Try.prog (sBlt .len #[T_s_api_Col] T_int #[false] #[cols1]) w1 fun t18 =>
    LOOP (X := Value × Unit) (fun lv2 w2 next2 =>
     pureK Try.prog (sBin .lss T_int (.tmp 19) (.tmp 18) lv2.1 t18) fun t20 =>
     ifB t20
     (pureK Try.prog (sIdxAddr T_s_api_Col cols1 lv2.1) fun t22 =>
      readK Try.prog (sLoad T_api_Col t22) w2 fun t23 =>
      upK Try.prog (sAlloc T_api_Col) w2 fun c6 w3 =>
      upK Try.prog (sStore T_api_Col c6 t23) w3 fun tu w4 =>
      pureK Try.prog (sIdxAddr T_s_api_Value row0 lv2.1) fun t26 =>
      pureK Try.prog (sFieldAddr T_api_Value t26 0) fun t27 =>
      readK Try.prog (sLoad T_int t27) (tick w4) fun t28 =>
      pureK Try.prog (sFieldAddr T_api_Col c6 1) fun t29 =>
      readK Try.prog (sLoad T_int t29) (tick w4) fun t30 =>
      pureK Try.prog (sBin .neq T_int (.tmp 28) (.tmp 30) t28 t30) fun t31 =>
      ifB t31
      (K (.bool false) (tick w4))
      (pureK Try.prog (sBin .add T_int (.tmp 19) (.const (.int .i64 1)) lv2.1 (.int .i64 1)) fun t32 =>
       next2 (t32, ()) (tick w4)))
     (K (.bool true) w2))
    ((.int .i64 0), ()) w1))
theorem shape_Fits.pt_eq : shape_Fits.pt = fun row0 cols1 w K => FN Try.prog Try.f9 (bodyOf Try.f9) [4] .leaf [row0, cols1] w K := by kernel_rfl
theorem shape_Fits.call {row0 cols1 : Value} {w : World} {K : Value → World → Prop} (h : shape_Fits.pt row0 cols1 w K) : Calls Try.prog F_shape_Fits #[row0, cols1] w (retK K) :=
  calls_FN (args := [row0, cols1]) Try.func9 (by kernel_rfl) (by rw [shape_Fits.pt_eq] at h; exact h)
theorem shape_Fits.up {row0 cols1 : Value} {w : World} {K : Value → World → Prop} (h : Calls Try.prog F_shape_Fits #[row0, cols1] w (retK K)) : upK Try.prog (sCall F_shape_Fits #[row0, cols1]) w K :=
  up_call (fn := Try.f9) Try.func9 (by kernel_rfl) (by kernel_rfl) h

/-- (*errata/aggregate.Acc).Add -/
def aggregate_Acc_Add.pt (a0 row1 n2 : Value) (w : World) (K : Value → World → Prop) : Prop :=
  pureK Try.prog (sNil a0) fun t10 =>
  pureK Try.prog (sFieldAddr T_aggregate_Acc t10 1) fun t11 =>
  readK Try.prog (sLoad T_int t11) w fun t12 =>
  pureK Try.prog (sBin .add T_int (.tmp 12) (.tmp 13) t12 n2) fun t14 =>
  pureK Try.prog (sNil a0) fun t15 =>
  pureK Try.prog (sFieldAddr T_aggregate_Acc t15 1) fun t16 =>
  upK Try.prog (sStore T_int t16 t14) w fun tu w1 =>
  pureK Try.prog (sNil a0) fun t18 =>
  pureK Try.prog (sFieldAddr T_aggregate_Acc t18 0) fun t19 =>
  readK Try.prog (sLoad T_s_api_Agg t19) w1 fun t20 =>
  readK Try.prog (sBlt .len #[T_s_api_Agg] T_int #[false] #[t20]) w1 fun t21 =>
  LOOP (X := Value × Unit) (fun lv2 w2 next2 =>
   pureK Try.prog (sBin .lss T_int (.tmp 22) (.tmp 21) lv2.1 t21) fun t23 =>
   ifB t23
   (LETJ (X := Unit) (fun jv1 w3 =>
     pureK Try.prog (sBin .add T_int (.tmp 22) (.const (.int .i64 1)) lv2.1 (.int .i64 1)) fun t61 =>
     next2 (t61, ()) w3)
    (fun J1 =>
     pureK Try.prog (sIdxAddr T_s_api_Agg t20 lv2.1) fun t25 =>
     readK Try.prog (sLoad T_api_Agg t25) w2 fun t26 =>
     upK Try.prog (sAlloc T_api_Agg) w2 fun g7 w4 =>
     upK Try.prog (sStore T_api_Agg g7 t26) w4 fun tu_1 w5 =>
     pureK Try.prog (sFieldAddr T_api_Agg g7 1) fun t28 =>
     readK Try.prog (sLoad T_int t28) w5 fun t29 =>
     upK Try.prog (sCall F_aggregate_at #[row1, t29]) w5 fun t30 w6 =>
     upK Try.prog (sAlloc T_api_Value) w6 fun v8 w7 =>
     upK Try.prog (sStore T_api_Value v8 t30) w7 fun tu_2 w8 =>
     pureK Try.prog (sFieldAddr T_api_Agg g7 0) fun t32 =>
     readK Try.prog (sLoad T_int t32) w8 fun t33 =>
     pureK Try.prog (sBin .eql T_int (.tmp 33) (.const (.int .i64 1)) t33 (.int .i64 1)) fun t34 =>
     ifB t34
     (pureK Try.prog (sNil a0) fun t36 =>
      pureK Try.prog (sFieldAddr T_aggregate_Acc t36 2) fun t37 =>
      readK Try.prog (sLoad T_s_int t37) (tick w8) fun t38 =>
      pureK Try.prog (sIdxAddr T_s_int t38 lv2.1) fun t40 =>
      readK Try.prog (sLoad T_int t40) (tick w8) fun t41 =>
      pureK Try.prog (sFieldAddr T_api_Value v8 1) fun t43 =>
      readK Try.prog (sLoad T_int t43) (tick w8) fun t44 =>
      pureK Try.prog (sBin .mul T_int (.tmp 42) (.tmp 44) n2 t44) fun t45 =>
      pureK Try.prog (sBin .add T_int (.tmp 41) (.tmp 45) t41 t45) fun t46 =>
      pureK Try.prog (sIdxAddr T_s_int t38 lv2.1) fun t47 =>
      upK Try.prog (sStore T_int t47 t46) (tick w8) fun tu_3 w9 =>
      J1 (()) w9)
     (readK Try.prog (sLoad T_api_Agg g7) w8 fun t49 =>
      upK Try.prog (sCall F_aggregate_ordered #[t49]) w8 fun t50 w10 =>
      ifB t50
      (pureK Try.prog (sNil a0) fun t52 =>
       pureK Try.prog (sFieldAddr T_aggregate_Acc t52 3) fun t53 =>
       readK Try.prog (sLoad T_s_map_api_Value_int t53) (tick w10) fun t54 =>
       pureK Try.prog (sIdxAddr T_s_map_api_Value_int t54 lv2.1) fun t56 =>
       readK Try.prog (sLoad T_map_api_Value_int t56) (tick w10) fun t57 =>
       readK Try.prog (sLoad T_api_Value v8) (tick w10) fun t58 =>
       upK Try.prog (sCall F_aggregate_put #[t57, t58, n2]) (tick w10) fun t60 w11 =>
       J1 (()) w11)
      (J1 (()) w10))))
   (K (.tuple #[]) w2))
  ((.int .i64 0), ()) w1
theorem aggregate_Acc_Add.pt_eq : aggregate_Acc_Add.pt = fun a0 row1 n2 w K => FN Try.prog Try.f10 (bodyOf Try.f10) [] (.node none .leaf (.node none .leaf (.node none (.node none (.node none .leaf (.node none .leaf (.node (some []) .leaf .leaf))) .leaf) .leaf))) [a0, row1, n2] w K := by kernel_rfl
theorem aggregate_Acc_Add.call {a0 row1 n2 : Value} {w : World} {K : Value → World → Prop} (h : aggregate_Acc_Add.pt a0 row1 n2 w K) : Calls Try.prog F_aggregate_Acc_Add #[a0, row1, n2] w (retK K) :=
  calls_FN (args := [a0, row1, n2]) Try.func10 (by kernel_rfl) (by rw [aggregate_Acc_Add.pt_eq] at h; exact h)
theorem aggregate_Acc_Add.up {a0 row1 n2 : Value} {w : World} {K : Value → World → Prop} (h : Calls Try.prog F_aggregate_Acc_Add #[a0, row1, n2] w (retK K)) : upK Try.prog (sCall F_aggregate_Acc_Add #[a0, row1, n2]) w K :=
  up_call (fn := Try.f10) Try.func10 (by kernel_rfl) (by kernel_rfl) h

/-- (*errata/aggregate.Acc).Result -/
def aggregate_Acc_Result.pt (a0 : Value) (w : World) (K : Value → World → Prop) : Prop :=
  pureK Try.prog (sNil a0) fun t7 =>
  pureK Try.prog (sFieldAddr T_aggregate_Acc t7 0) fun t8 =>
  readK Try.prog (sLoad T_s_api_Agg t8) w fun t9 =>
  readK Try.prog (sBlt .len #[T_s_api_Agg] T_int #[false] #[t9]) w fun t10 =>
  LOOP (X := Value × Value × Unit) (fun lv1 w1 next1 =>
   pureK Try.prog (sBin .lss T_int (.tmp 11) (.tmp 10) lv1.2.1 t10) fun t12 =>
   ifB t12
   (LETJ (X := Value × Unit) (fun jv1 w2 =>
     pureK Try.prog (sBin .add T_int (.tmp 11) (.const (.int .i64 1)) lv1.2.1 (.int .i64 1)) fun t47 =>
     next1 (jv1.1, t47, ()) w2)
    (fun J1 =>
     pureK Try.prog (sIdxAddr T_s_api_Agg t9 lv1.2.1) fun t14 =>
     readK Try.prog (sLoad T_api_Agg t14) w1 fun t15 =>
     upK Try.prog (sAlloc T_api_Agg) w1 fun g5 w3 =>
     upK Try.prog (sStore T_api_Agg g5 t15) w3 fun tu w4 =>
     pureK Try.prog (sFieldAddr T_api_Agg g5 0) fun t16 =>
     readK Try.prog (sLoad T_int t16) w4 fun t17 =>
     pureK Try.prog (sBin .eql T_int (.tmp 17) (.const (.int .i64 0)) t17 (.int .i64 0)) fun t25 =>
     ifB t25
     (pureK Try.prog (sNil a0) fun t28 =>
      pureK Try.prog (sFieldAddr T_aggregate_Acc t28 1) fun t29 =>
      readK Try.prog (sLoad T_int t29) w4 fun t30 =>
      upK Try.prog (sCall F_value_Int #[t30]) w4 fun t31 w5 =>
      upK Try.prog (sBuildSlice T_s_api_Value 1 #[(0, t31)]) w5 fun t32 w6 =>
      upK Try.prog (sBlt .append #[T_s_api_Value, T_s_api_Value] T_s_api_Value #[false, false] #[lv1.1, t32]) w6 fun t33 w7 =>
      J1 (t33, ()) w7)
     (pureK Try.prog (sBin .eql T_int (.tmp 17) (.const (.int .i64 1)) t17 (.int .i64 1)) fun t35 =>
      ifB t35
      (pureK Try.prog (sNil a0) fun t38 =>
       pureK Try.prog (sFieldAddr T_aggregate_Acc t38 2) fun t39 =>
       readK Try.prog (sLoad T_s_int t39) w4 fun t40 =>
       pureK Try.prog (sIdxAddr T_s_int t40 lv1.2.1) fun t42 =>
       readK Try.prog (sLoad T_int t42) w4 fun t43 =>
       upK Try.prog (sCall F_value_Int #[t43]) w4 fun t44 w8 =>
       upK Try.prog (sBuildSlice T_s_api_Value 1 #[(0, t44)]) w8 fun t45 w9 =>
       upK Try.prog (sBlt .append #[T_s_api_Value, T_s_api_Value] T_s_api_Value #[false, false] #[lv1.1, t45]) w9 fun t46 w10 =>
       J1 (t46, ()) w10)
      (upK Try.prog (sCall F_aggregate_Acc_best #[a0, lv1.2.1]) w4 fun t21 w11 =>
       upK Try.prog (sBuildSlice T_s_api_Value 1 #[(0, t21)]) w11 fun t22 w12 =>
       upK Try.prog (sBlt .append #[T_s_api_Value, T_s_api_Value] T_s_api_Value #[false, false] #[lv1.1, t22]) w12 fun t23 w13 =>
       J1 (t23, ()) w13))))
   (K lv1.1 w1))
  ((.slice none 0 0), (.int .i64 0), ()) w
theorem aggregate_Acc_Result.pt_eq : aggregate_Acc_Result.pt = fun a0 w K => FN Try.prog Try.f11 (bodyOf Try.f11) [2] (.node none .leaf (.node none .leaf (.node none (.node none .leaf (.node none (.node none (.node none .leaf (.node none .leaf (.node (some [3]) .leaf .leaf))) .leaf) .leaf)) .leaf))) [a0] w K := by kernel_rfl
theorem aggregate_Acc_Result.call {a0 : Value} {w : World} {K : Value → World → Prop} (h : aggregate_Acc_Result.pt a0 w K) : Calls Try.prog F_aggregate_Acc_Result #[a0] w (retK K) :=
  calls_FN (args := [a0]) Try.func11 (by kernel_rfl) (by rw [aggregate_Acc_Result.pt_eq] at h; exact h)
theorem aggregate_Acc_Result.up {a0 : Value} {w : World} {K : Value → World → Prop} (h : Calls Try.prog F_aggregate_Acc_Result #[a0] w (retK K)) : upK Try.prog (sCall F_aggregate_Acc_Result #[a0]) w K :=
  up_call (fn := Try.f11) Try.func11 (by kernel_rfl) (by kernel_rfl) h

/-- errata/value.Right -/
def value_Right.pt (v0 : Value) (w : World) (K : Value → World → Prop) : Prop :=
  upK Try.prog (sBox T_api_Value v0) w fun v1 w1 =>
  pureK Try.prog (sFieldAddr T_api_Value v1 0) fun t3 =>
  readK Try.prog (sLoad T_int t3) w1 fun t4 =>
  pureK Try.prog (sBin .eql T_int (.tmp 4) (.const (.int .i64 0)) t4 (.int .i64 0)) fun t6 =>
  ifB t6
  (readK Try.prog (sLoad T_api_Value v1) (tick w1) fun t7 =>
   pureK Try.prog (sFieldAddr T_api_Value v1 1) fun t8 =>
   readK Try.prog (sLoad T_int t8) (tick w1) fun t9 =>
   upK Try.prog (sCall F_value_Int #[t9]) (tick w1) fun t10 w2 =>
   Is Try.prog (sLoad T_api_Value v1) t7 w2 ∧ pureK Try.prog (sBin .eql T_api_Value (.tmp 7) (.tmp 10) t7 t10) fun t11 =>
   K t11 w2)
  (pureK Try.prog (sBin .eql T_int (.tmp 4) (.const (.int .i64 1)) t4 (.int .i64 1)) fun t13 =>
   ifB t13
   (readK Try.prog (sLoad T_api_Value v1) (tick w1) fun t14 =>
    pureK Try.prog (sFieldAddr T_api_Value v1 2) fun t15 =>
    readK Try.prog (sLoad T_string t15) (tick w1) fun t16 =>
    upK Try.prog (sCall F_value_Text #[t16]) (tick w1) fun t17 w3 =>
    Is Try.prog (sLoad T_api_Value v1) t14 w3 ∧ pureK Try.prog (sBin .eql T_api_Value (.tmp 14) (.tmp 17) t14 t17) fun t18 =>
    ifB t18
    (pureK Try.prog (sFieldAddr T_api_Value v1 2) fun t20 =>
     readK Try.prog (sLoad T_string t20) w3 fun t21 =>
     readK Try.prog (sBlt .len #[T_string] T_int #[false] #[t21]) w3 fun t22 =>
     pureK Try.prog (sBin .leq T_int (.tmp 22) (.const (.int .i64 200)) t22 (.int .i64 200)) fun t23 =>
     K t23 w3)
    (K (.bool false) w3))
   (readK Try.prog (sLoad T_api_Value v1) (tick w1) fun t25 =>
    upK Try.prog (sCall F_value_Bool #[(.bool false)]) (tick w1) fun t26 w4 =>
    Is Try.prog (sLoad T_api_Value v1) t25 w4 ∧ pureK Try.prog (sBin .eql T_api_Value (.tmp 25) (.tmp 26) t25 t26) fun t27 =>
    ifB t27
    (K (.bool true) w4)
    (readK Try.prog (sLoad T_api_Value v1) w4 fun t29 =>
     upK Try.prog (sCall F_value_Bool #[(.bool true)]) w4 fun t30 w5 =>
     Is Try.prog (sLoad T_api_Value v1) t29 w5 ∧ pureK Try.prog (sBin .eql T_api_Value (.tmp 29) (.tmp 30) t29 t30) fun t31 =>
     K t31 w5)))
theorem value_Right.pt_eq : value_Right.pt = fun v0 w K => FN Try.prog Try.f12 (bodyOf Try.f12) [2] .leaf [v0] w K := by kernel_rfl
theorem value_Right.call {v0 : Value} {w : World} {K : Value → World → Prop} (h : value_Right.pt v0 w K) : Calls Try.prog F_value_Right #[v0] w (retK K) :=
  calls_FN (args := [v0]) Try.func12 (by kernel_rfl) (by rw [value_Right.pt_eq] at h; exact h)
theorem value_Right.up {v0 : Value} {w : World} {K : Value → World → Prop} (h : Calls Try.prog F_value_Right #[v0] w (retK K)) : upK Try.prog (sCall F_value_Right #[v0]) w K :=
  up_call (fn := Try.f12) Try.func12 (by kernel_rfl) (by kernel_rfl) h

/-- errata/errataref03.Same -/
def errataref03_Same.pt (a0 b1 : Value) (w : World) (K : Value → World → Prop) : Prop :=
  upK Try.prog (sCall F_errataref03_CompareRows #[a0, b1]) w fun t7 w1 =>
  pureK Try.prog (sBin .eql T_int (.tmp 7) (.const (.int .i64 0)) t7 (.int .i64 0)) fun t8 =>
  K t8 w1
theorem errataref03_Same.pt_eq : errataref03_Same.pt = fun a0 b1 w K => FN Try.prog Try.f13 (bodyOf Try.f13) [4] .leaf [a0, b1] w K := by kernel_rfl
theorem errataref03_Same.call {a0 b1 : Value} {w : World} {K : Value → World → Prop} (h : errataref03_Same.pt a0 b1 w K) : Calls Try.prog F_errataref03_Same #[a0, b1] w (retK K) :=
  calls_FN (args := [a0, b1]) Try.func13 (by kernel_rfl) (by rw [errataref03_Same.pt_eq] at h; exact h)
theorem errataref03_Same.up {a0 b1 : Value} {w : World} {K : Value → World → Prop} (h : Calls Try.prog F_errataref03_Same #[a0, b1] w (retK K)) : upK Try.prog (sCall F_errataref03_Same #[a0, b1]) w K :=
  up_call (fn := Try.f13) Try.func13 (by kernel_rfl) (by kernel_rfl) h

/-- (*errata/aggregate.Acc).Rows -/
def aggregate_Acc_Rows.pt (a0 : Value) (w : World) (K : Value → World → Prop) : Prop :=
  pureK Try.prog (sNil a0) fun t7 =>
  pureK Try.prog (sFieldAddr T_aggregate_Acc t7 3) fun t8 =>
  readK Try.prog (sLoad T_s_map_api_Value_int t8) w fun t9 =>
  readK Try.prog (sBlt .len #[T_s_map_api_Value_int] T_int #[false] #[t9]) w fun t10 =>
  LOOP (X := Value × Value × Unit) (fun lv1 w1 next1 =>
   pureK Try.prog (sBin .lss T_int (.tmp 11) (.tmp 10) lv1.2.1 t10) fun t12 =>
   ifB t12
   (pureK Try.prog (sIdxAddr T_s_map_api_Value_int t9 lv1.2.1) fun t13 =>
    readK Try.prog (sLoad T_map_api_Value_int t13) w1 fun t14 =>
    readK Try.prog (sBlt .len #[T_map_api_Value_int] T_int #[false] #[t14]) w1 fun t17 =>
    pureK Try.prog (sBin .add T_int (.tmp 15) (.tmp 17) lv1.1 t17) fun t18 =>
    pureK Try.prog (sBin .add T_int (.tmp 11) (.const (.int .i64 1)) lv1.2.1 (.int .i64 1)) fun t19 =>
    next1 (t18, t19, ()) w1)
   (K lv1.1 w1))
  ((.int .i64 0), (.int .i64 0), ()) w
theorem aggregate_Acc_Rows.pt_eq : aggregate_Acc_Rows.pt = fun a0 w K => FN Try.prog Try.f14 (bodyOf Try.f14) [2] .leaf [a0] w K := by kernel_rfl
theorem aggregate_Acc_Rows.call {a0 : Value} {w : World} {K : Value → World → Prop} (h : aggregate_Acc_Rows.pt a0 w K) : Calls Try.prog F_aggregate_Acc_Rows #[a0] w (retK K) :=
  calls_FN (args := [a0]) Try.func14 (by kernel_rfl) (by rw [aggregate_Acc_Rows.pt_eq] at h; exact h)
theorem aggregate_Acc_Rows.up {a0 : Value} {w : World} {K : Value → World → Prop} (h : Calls Try.prog F_aggregate_Acc_Rows #[a0] w (retK K)) : upK Try.prog (sCall F_aggregate_Acc_Rows #[a0]) w K :=
  up_call (fn := Try.f14) Try.func14 (by kernel_rfl) (by kernel_rfl) h

/-- (*errata/aggregate.Acc).Empty -/
def aggregate_Acc_Empty.pt (a0 : Value) (w : World) (K : Value → World → Prop) : Prop :=
  pureK Try.prog (sNil a0) fun t4 =>
  pureK Try.prog (sFieldAddr T_aggregate_Acc t4 1) fun t5 =>
  readK Try.prog (sLoad T_int t5) w fun t6 =>
  pureK Try.prog (sBin .eql T_int (.tmp 6) (.const (.int .i64 0)) t6 (.int .i64 0)) fun t7 =>
  ifB t7
  (upK Try.prog (sCall F_aggregate_Acc_Rows #[a0]) w fun t10 w1 =>
   pureK Try.prog (sBin .eql T_int (.tmp 10) (.const (.int .i64 0)) t10 (.int .i64 0)) fun t11 =>
   ifB t11
   (pureK Try.prog (sNil a0) fun t15 =>
    pureK Try.prog (sFieldAddr T_aggregate_Acc t15 2) fun t16 =>
    readK Try.prog (sLoad T_s_int t16) w1 fun t17 =>
    upK Try.prog (sCall F_slices_ContainsFunc_s_int_int #[t17, (.func (.func 27) #[] #[])]) w1 fun t18 w2 =>
    pureK Try.prog (sUn .not t18) fun t19 =>
    K t19 w2)
   (K (.bool false) w1))
  (K (.bool false) w)
theorem aggregate_Acc_Empty.pt_eq : aggregate_Acc_Empty.pt = fun a0 w K => FN Try.prog Try.f15 (bodyOf Try.f15) [2] .leaf [a0] w K := by kernel_rfl
theorem aggregate_Acc_Empty.call {a0 : Value} {w : World} {K : Value → World → Prop} (h : aggregate_Acc_Empty.pt a0 w K) : Calls Try.prog F_aggregate_Acc_Empty #[a0] w (retK K) :=
  calls_FN (args := [a0]) Try.func15 (by kernel_rfl) (by rw [aggregate_Acc_Empty.pt_eq] at h; exact h)
theorem aggregate_Acc_Empty.up {a0 : Value} {w : World} {K : Value → World → Prop} (h : Calls Try.prog F_aggregate_Acc_Empty #[a0] w (retK K)) : upK Try.prog (sCall F_aggregate_Acc_Empty #[a0]) w K :=
  up_call (fn := Try.f15) Try.func15 (by kernel_rfl) (by kernel_rfl) h

/-- slices.Clone[[]errata/api.Agg,errata/api.Agg] -/
def slices_Clone_s_api_Agg_api_Agg.pt (s0 : Value) (w : World) (K : Value → World → Prop) : Prop :=
  pureK Try.prog (sBin .eql T_s_api_Agg (.tmp 3) (.const (.slice none 0 0)) s0 (.slice none 0 0)) fun t4 =>
  ifB t4
  (K (.slice none 0 0) w)
  (upK Try.prog (sBuildSlice T_s_api_Agg 0 #[]) w fun t5 w1 =>
   upK Try.prog (sBlt .append #[T_s_api_Agg, T_s_api_Agg] T_s_api_Agg #[false, false] #[t5, s0]) w1 fun t7 w2 =>
   K t7 w2)
theorem slices_Clone_s_api_Agg_api_Agg.pt_eq : slices_Clone_s_api_Agg_api_Agg.pt = fun s0 w K => FN Try.prog Try.f16 (bodyOf Try.f16) [2] .leaf [s0] w K := by kernel_rfl
theorem slices_Clone_s_api_Agg_api_Agg.call {s0 : Value} {w : World} {K : Value → World → Prop} (h : slices_Clone_s_api_Agg_api_Agg.pt s0 w K) : Calls Try.prog F_slices_Clone_s_api_Agg_api_Agg #[s0] w (retK K) :=
  calls_FN (args := [s0]) Try.func16 (by kernel_rfl) (by rw [slices_Clone_s_api_Agg_api_Agg.pt_eq] at h; exact h)
theorem slices_Clone_s_api_Agg_api_Agg.up {s0 : Value} {w : World} {K : Value → World → Prop} (h : Calls Try.prog F_slices_Clone_s_api_Agg_api_Agg #[s0] w (retK K)) : upK Try.prog (sCall F_slices_Clone_s_api_Agg_api_Agg #[s0]) w K :=
  up_call (fn := Try.f16) Try.func16 (by kernel_rfl) (by kernel_rfl) h

/-- errata/aggregate.ordered -/
def aggregate_ordered.pt (g0 : Value) (w : World) (K : Value → World → Prop) : Prop :=
  upK Try.prog (sBox T_api_Agg g0) w fun g1 w1 =>
  pureK Try.prog (sFieldAddr T_api_Agg g1 0) fun t3 =>
  readK Try.prog (sLoad T_int t3) w1 fun t4 =>
  pureK Try.prog (sBin .eql T_int (.tmp 4) (.const (.int .i64 2)) t4 (.int .i64 2)) fun t5 =>
  ifB t5
  (K (.bool true) w1)
  (pureK Try.prog (sFieldAddr T_api_Agg g1 0) fun t7 =>
   readK Try.prog (sLoad T_int t7) w1 fun t8 =>
   pureK Try.prog (sBin .eql T_int (.tmp 8) (.const (.int .i64 3)) t8 (.int .i64 3)) fun t9 =>
   K t9 w1)
theorem aggregate_ordered.pt_eq : aggregate_ordered.pt = fun g0 w K => FN Try.prog Try.f17 (bodyOf Try.f17) [2] .leaf [g0] w K := by kernel_rfl
theorem aggregate_ordered.call {g0 : Value} {w : World} {K : Value → World → Prop} (h : aggregate_ordered.pt g0 w K) : Calls Try.prog F_aggregate_ordered #[g0] w (retK K) :=
  calls_FN (args := [g0]) Try.func17 (by kernel_rfl) (by rw [aggregate_ordered.pt_eq] at h; exact h)
theorem aggregate_ordered.up {g0 : Value} {w : World} {K : Value → World → Prop} (h : Calls Try.prog F_aggregate_ordered #[g0] w (retK K)) : upK Try.prog (sCall F_aggregate_ordered #[g0]) w K :=
  up_call (fn := Try.f17) Try.func17 (by kernel_rfl) (by kernel_rfl) h

/-- errata/value.RightRow -/
def value_RightRow.pt (r0 : Value) (w : World) (K : Value → World → Prop) : Prop :=
  readK Try.prog (sBlt .len #[T_s_api_Value] T_int #[false] #[r0]) w fun t4 =>
  pureK Try.prog (sBin .leq T_int (.tmp 4) (.const (.int .i64 12)) t4 (.int .i64 12)) fun t5 =>
  ifB t5
  (upK Try.prog (sCall F_value_all #[r0]) w fun t8 w1 =>
   K t8 w1)
  (K (.bool false) w)
theorem value_RightRow.pt_eq : value_RightRow.pt = fun r0 w K => FN Try.prog Try.f18 (bodyOf Try.f18) [2] .leaf [r0] w K := by kernel_rfl
theorem value_RightRow.call {r0 : Value} {w : World} {K : Value → World → Prop} (h : value_RightRow.pt r0 w K) : Calls Try.prog F_value_RightRow #[r0] w (retK K) :=
  calls_FN (args := [r0]) Try.func18 (by kernel_rfl) (by rw [value_RightRow.pt_eq] at h; exact h)
theorem value_RightRow.up {r0 : Value} {w : World} {K : Value → World → Prop} (h : Calls Try.prog F_value_RightRow #[r0] w (retK K)) : upK Try.prog (sCall F_value_RightRow #[r0]) w K :=
  up_call (fn := Try.f18) Try.func18 (by kernel_rfl) (by kernel_rfl) h

/-- errata/aggregate.at -/
def aggregate_at.pt (row0 col1 : Value) (w : World) (K : Value → World → Prop) : Prop :=
  upK Try.prog (sAlloc T_api_Value) w fun t4 w1 =>
  pureK Try.prog (sBin .lss T_int (.tmp 5) (.const (.int .i64 0)) col1 (.int .i64 0)) fun t6 =>
  ifB t6
  (pureK Try.prog (sBuild T_api_Value #[]) fun t13 =>
   upK Try.prog (sStore T_api_Value t4 t13) w1 fun tu w2 =>
   readV Try.prog (do loadVar T_api_Value (← asAddr t4)) w2 fun t4_1 =>
   K t4_1 w2)
  (readK Try.prog (sBlt .len #[T_s_api_Value] T_int #[false] #[row0]) w1 fun t10 =>
   pureK Try.prog (sBin .geq T_int (.tmp 8) (.tmp 10) col1 t10) fun t11 =>
   ifB t11
   (pureK Try.prog (sBuild T_api_Value #[]) fun t13_1 =>
    upK Try.prog (sStore T_api_Value t4 t13_1) w1 fun tu_1 w3 =>
    readV Try.prog (do loadVar T_api_Value (← asAddr t4)) w3 fun t4_2 =>
    K t4_2 w3)
   (pureK Try.prog (sIdxAddr T_s_api_Value row0 col1) fun t16 =>
    readK Try.prog (sLoad T_api_Value t16) w1 fun t17 =>
    upK Try.prog (sStore T_api_Value t4 t17) w1 fun tu_2 w4 =>
    readV Try.prog (do loadVar T_api_Value (← asAddr t4)) w4 fun t4_3 =>
    K t4_3 w4))
theorem aggregate_at.pt_eq : aggregate_at.pt = fun row0 col1 w K => FN Try.prog Try.f19 (bodyOf Try.f19) [] .leaf [row0, col1] w K := by kernel_rfl
theorem aggregate_at.call {row0 col1 : Value} {w : World} {K : Value → World → Prop} (h : aggregate_at.pt row0 col1 w K) : Calls Try.prog F_aggregate_at #[row0, col1] w (retK K) :=
  calls_FN (args := [row0, col1]) Try.func19 (by kernel_rfl) (by rw [aggregate_at.pt_eq] at h; exact h)
theorem aggregate_at.up {row0 col1 : Value} {w : World} {K : Value → World → Prop} (h : Calls Try.prog F_aggregate_at #[row0, col1] w (retK K)) : upK Try.prog (sCall F_aggregate_at #[row0, col1]) w K :=
  up_call (fn := Try.f19) Try.func19 (by kernel_rfl) (by kernel_rfl) h

/-- errata/aggregate.put -/
def aggregate_put.pt (bag0 v1 n2 : Value) (w : World) (K : Value → World → Prop) : Prop :=
  upK Try.prog (sBox T_api_Value v1) w fun v4 w1 =>
  readK Try.prog (sLoad T_api_Value v4) (tick w1) fun t7 =>
  readK Try.prog (sLookup T_map_api_Value_int bag0 t7 false) (tick w1) fun t8 =>
  pureK Try.prog (sBin .add T_int (.tmp 8) (.tmp 9) t8 n2) fun t10 =>
  upK Try.prog (sMapEntry T_map_api_Value_int bag0 t7) (tick w1) fun t11 w2 =>
  Is Try.prog (sLookup T_map_api_Value_int bag0 t7 false) t8 w2 ∧ pureK Try.prog (sExtract t11 1) fun t12 =>
  upK Try.prog (sEntryStore T_map_api_Value_int bag0 t12 t10) w2 fun tu w3 =>
  readK Try.prog (sLoad T_api_Value v4) w3 fun t14 =>
  readK Try.prog (sLookup T_map_api_Value_int bag0 t14 false) w3 fun t15 =>
  pureK Try.prog (sBin .eql T_int (.tmp 15) (.const (.int .i64 0)) t15 (.int .i64 0)) fun t16 =>
  ifB t16
  (readK Try.prog (sLoad T_api_Value v4) w3 fun t18 =>
   upK Try.prog (sBlt .delete #[T_map_api_Value_int, T_api_Value] T_ #[false, false] #[bag0, t18]) w3 fun tu_1 w4 =>
   K (.tuple #[]) w4)
  (K (.tuple #[]) w3)
theorem aggregate_put.pt_eq : aggregate_put.pt = fun bag0 v1 n2 w K => FN Try.prog Try.f20 (bodyOf Try.f20) [] .leaf [bag0, v1, n2] w K := by kernel_rfl
theorem aggregate_put.call {bag0 v1 n2 : Value} {w : World} {K : Value → World → Prop} (h : aggregate_put.pt bag0 v1 n2 w K) : Calls Try.prog F_aggregate_put #[bag0, v1, n2] w (retK K) :=
  calls_FN (args := [bag0, v1, n2]) Try.func20 (by kernel_rfl) (by rw [aggregate_put.pt_eq] at h; exact h)
theorem aggregate_put.up {bag0 v1 n2 : Value} {w : World} {K : Value → World → Prop} (h : Calls Try.prog F_aggregate_put #[bag0, v1, n2] w (retK K)) : upK Try.prog (sCall F_aggregate_put #[bag0, v1, n2]) w K :=
  up_call (fn := Try.f20) Try.func20 (by kernel_rfl) (by kernel_rfl) h

/-- errata/value.Int -/
def value_Int.pt (n0 : Value) (w : World) (K : Value → World → Prop) : Prop :=
  upK Try.prog (sAlloc T_api_Value) w fun t2 w1 =>
  pureK Try.prog (sBuild T_api_Value #[(0, (.int .i64 0)), (1, n0)]) fun t4 =>
  upK Try.prog (sStore T_api_Value t2 t4) w1 fun tu w2 =>
  readV Try.prog (do loadVar T_api_Value (← asAddr t2)) w2 fun t2_1 =>
  K t2_1 w2
theorem value_Int.pt_eq : value_Int.pt = fun n0 w K => FN Try.prog Try.f21 (bodyOf Try.f21) [] .leaf [n0] w K := by kernel_rfl
theorem value_Int.call {n0 : Value} {w : World} {K : Value → World → Prop} (h : value_Int.pt n0 w K) : Calls Try.prog F_value_Int #[n0] w (retK K) :=
  calls_FN (args := [n0]) Try.func21 (by kernel_rfl) (by rw [value_Int.pt_eq] at h; exact h)
theorem value_Int.up {n0 : Value} {w : World} {K : Value → World → Prop} (h : Calls Try.prog F_value_Int #[n0] w (retK K)) : upK Try.prog (sCall F_value_Int #[n0]) w K :=
  up_call (fn := Try.f21) Try.func21 (by kernel_rfl) (by kernel_rfl) h

/-- (*errata/aggregate.Acc).best -/
def aggregate_Acc_best.pt (a0 i1 : Value) (w : World) (K : Value → World → Prop) : Prop :=
  upK Try.prog (sBox T_p_aggregate_Acc a0) w fun a2 w1 =>
  upK Try.prog (sBox T_int i1) w1 fun i3 w2 =>
  upK Try.prog (sAlloc T_api_Value) w2 fun t4 w3 =>
  readK Try.prog (sLoad T_p_aggregate_Acc a2) w3 fun t6 =>
  readK Try.prog (sLoad T_int i3) w3 fun t7 =>
  upK Try.prog (sCall F_aggregate_Acc_sorted #[t6, t7]) w3 fun t8 w4 =>
  pureK Try.prog (sMkFunc (.func F_aggregate_Acc_best_1) #[] #[a2, i3]) fun t9 =>
  upK Try.prog (sCall F_slices_DeleteFunc_s_api_Value_api_Value #[t8, t9]) w4 fun t10 w5 =>
  readK Try.prog (sBlt .len #[T_s_api_Value] T_int #[false] #[t10]) w5 fun t13 =>
  pureK Try.prog (sBin .eql T_int (.tmp 13) (.const (.int .i64 0)) t13 (.int .i64 0)) fun t14 =>
  ifB t14
  (upK Try.prog (sCall F_value_Int #[(.int .i64 0)]) w5 fun t15 w6 =>
   upK Try.prog (sStore T_api_Value t4 t15) w6 fun tu w7 =>
   readV Try.prog (do loadVar T_api_Value (← asAddr t4)) w7 fun t4_1 =>
   K t4_1 w7)
  (readK Try.prog (sLoad T_p_aggregate_Acc a2) (tick w5) fun t17 =>
   pureK Try.prog (sNil t17) fun t18 =>
   pureK Try.prog (sFieldAddr T_aggregate_Acc t18 0) fun t19 =>
   readK Try.prog (sLoad T_s_api_Agg t19) (tick w5) fun t20 =>
   readK Try.prog (sLoad T_int i3) (tick w5) fun t21 =>
   pureK Try.prog (sIdxAddr T_s_api_Agg t20 t21) fun t22 =>
   pureK Try.prog (sFieldAddr T_api_Agg t22 0) fun t23 =>
   readK Try.prog (sLoad T_int t23) (tick w5) fun t24 =>
   pureK Try.prog (sBin .eql T_int (.tmp 24) (.const (.int .i64 2)) t24 (.int .i64 2)) fun t25 =>
   ifB t25
   (pureK Try.prog (sIdxAddr T_s_api_Value t10 (.int .i64 0)) fun t27 =>
    readK Try.prog (sLoad T_api_Value t27) (tick w5) fun t28 =>
    upK Try.prog (sStore T_api_Value t4 t28) (tick w5) fun tu_1 w8 =>
    readV Try.prog (do loadVar T_api_Value (← asAddr t4)) w8 fun t4_2 =>
    K t4_2 w8)
   (readK Try.prog (sBlt .len #[T_s_api_Value] T_int #[false] #[t10]) (tick w5) fun t31 =>
    pureK Try.prog (sBin .sub T_int (.tmp 31) (.const (.int .i64 1)) t31 (.int .i64 1)) fun t32 =>
    pureK Try.prog (sIdxAddr T_s_api_Value t10 t32) fun t33 =>
    readK Try.prog (sLoad T_api_Value t33) (tick w5) fun t34 =>
    upK Try.prog (sStore T_api_Value t4 t34) (tick w5) fun tu_2 w9 =>
    readV Try.prog (do loadVar T_api_Value (← asAddr t4)) w9 fun t4_3 =>
    K t4_3 w9))
theorem aggregate_Acc_best.pt_eq : aggregate_Acc_best.pt = fun a0 i1 w K => FN Try.prog Try.f22 (bodyOf Try.f22) [] .leaf [a0, i1] w K := by kernel_rfl
theorem aggregate_Acc_best.call {a0 i1 : Value} {w : World} {K : Value → World → Prop} (h : aggregate_Acc_best.pt a0 i1 w K) : Calls Try.prog F_aggregate_Acc_best #[a0, i1] w (retK K) :=
  calls_FN (args := [a0, i1]) Try.func22 (by kernel_rfl) (by rw [aggregate_Acc_best.pt_eq] at h; exact h)
theorem aggregate_Acc_best.up {a0 i1 : Value} {w : World} {K : Value → World → Prop} (h : Calls Try.prog F_aggregate_Acc_best #[a0, i1] w (retK K)) : upK Try.prog (sCall F_aggregate_Acc_best #[a0, i1]) w K :=
  up_call (fn := Try.f22) Try.func22 (by kernel_rfl) (by kernel_rfl) h

/-- errata/value.Text -/
def value_Text.pt (s0 : Value) (w : World) (K : Value → World → Prop) : Prop :=
  upK Try.prog (sAlloc T_api_Value) w fun t2 w1 =>
  pureK Try.prog (sBuild T_api_Value #[(0, (.int .i64 1)), (2, s0)]) fun t4 =>
  upK Try.prog (sStore T_api_Value t2 t4) w1 fun tu w2 =>
  readV Try.prog (do loadVar T_api_Value (← asAddr t2)) w2 fun t2_1 =>
  K t2_1 w2
theorem value_Text.pt_eq : value_Text.pt = fun s0 w K => FN Try.prog Try.f23 (bodyOf Try.f23) [] .leaf [s0] w K := by kernel_rfl
theorem value_Text.call {s0 : Value} {w : World} {K : Value → World → Prop} (h : value_Text.pt s0 w K) : Calls Try.prog F_value_Text #[s0] w (retK K) :=
  calls_FN (args := [s0]) Try.func23 (by kernel_rfl) (by rw [value_Text.pt_eq] at h; exact h)
theorem value_Text.up {s0 : Value} {w : World} {K : Value → World → Prop} (h : Calls Try.prog F_value_Text #[s0] w (retK K)) : upK Try.prog (sCall F_value_Text #[s0]) w K :=
  up_call (fn := Try.f23) Try.func23 (by kernel_rfl) (by kernel_rfl) h

/-- errata/value.Bool -/
def value_Bool.pt (b0 : Value) (w : World) (K : Value → World → Prop) : Prop :=
  upK Try.prog (sAlloc T_api_Value) w fun t2 w1 =>
  ifB b0
  (pureK Try.prog (sBuild T_api_Value #[(0, (.int .i64 2)), (1, (.int .i64 1))]) fun t4 =>
   upK Try.prog (sStore T_api_Value t2 t4) w1 fun tu w2 =>
   readV Try.prog (do loadVar T_api_Value (← asAddr t2)) w2 fun t2_1 =>
   K t2_1 w2)
  (pureK Try.prog (sBuild T_api_Value #[(0, (.int .i64 2))]) fun t5 =>
   upK Try.prog (sStore T_api_Value t2 t5) w1 fun tu_1 w3 =>
   readV Try.prog (do loadVar T_api_Value (← asAddr t2)) w3 fun t2_2 =>
   K t2_2 w3)
theorem value_Bool.pt_eq : value_Bool.pt = fun b0 w K => FN Try.prog Try.f24 (bodyOf Try.f24) [] .leaf [b0] w K := by kernel_rfl
theorem value_Bool.call {b0 : Value} {w : World} {K : Value → World → Prop} (h : value_Bool.pt b0 w K) : Calls Try.prog F_value_Bool #[b0] w (retK K) :=
  calls_FN (args := [b0]) Try.func24 (by kernel_rfl) (by rw [value_Bool.pt_eq] at h; exact h)
theorem value_Bool.up {b0 : Value} {w : World} {K : Value → World → Prop} (h : Calls Try.prog F_value_Bool #[b0] w (retK K)) : upK Try.prog (sCall F_value_Bool #[b0]) w K :=
  up_call (fn := Try.f24) Try.func24 (by kernel_rfl) (by kernel_rfl) h

/-- errata/errataref03.CompareRows -/
def errataref03_CompareRows.pt (a0 b1 : Value) (w : World) (K : Value → World → Prop) : Prop :=
  LETJ (X := Unit) (fun jv1 w1 =>
   readK Try.prog (sBlt .len #[T_s_api_Value] T_int #[false] #[a0]) w1 fun t32 =>
   readK Try.prog (sBlt .len #[T_s_api_Value] T_int #[false] #[b1]) w1 fun t34 =>
   pureK Try.prog (sBin .lss T_int (.tmp 32) (.tmp 34) t32 t34) fun t35 =>
   ifB t35
   (K (.int .i64 (-1)) w1)
   (readK Try.prog (sBlt .len #[T_s_api_Value] T_int #[false] #[a0]) w1 fun t37 =>
    readK Try.prog (sBlt .len #[T_s_api_Value] T_int #[false] #[b1]) w1 fun t39 =>
    pureK Try.prog (sBin .gtr T_int (.tmp 37) (.tmp 39) t37 t39) fun t40 =>
    ifB t40
    (K (.int .i64 1) w1)
    (K (.int .i64 0) w1)))
  (fun J1 =>
   LOOP (X := Value × Unit) (fun lv2 w2 next2 =>
    readK Try.prog (sBlt .len #[T_s_api_Value] T_int #[false] #[a0]) w2 fun t9 =>
    pureK Try.prog (sBin .lss T_int (.tmp 7) (.tmp 9) lv2.1 t9) fun t10 =>
    ifB t10
    (readK Try.prog (sBlt .len #[T_s_api_Value] T_int #[false] #[b1]) w2 fun t14 =>
     pureK Try.prog (sBin .lss T_int (.tmp 12) (.tmp 14) lv2.1 t14) fun t15 =>
     ifB t15
     (pureK Try.prog (sIdxAddr T_s_api_Value a0 lv2.1) fun t21 =>
      readK Try.prog (sLoad T_api_Value t21) (tick w2) fun t22 =>
      pureK Try.prog (sIdxAddr T_s_api_Value b1 lv2.1) fun t25 =>
      readK Try.prog (sLoad T_api_Value t25) (tick w2) fun t26 =>
      upK Try.prog (sCall F_errataref03_Compare #[t22, t26]) (tick w2) fun t27 w3 =>
      pureK Try.prog (sBin .neq T_int (.tmp 28) (.const (.int .i64 0)) t27 (.int .i64 0)) fun t29 =>
      ifB t29
      (K t27 w3)
      (pureK Try.prog (sBin .add T_int (.tmp 17) (.const (.int .i64 1)) lv2.1 (.int .i64 1)) fun t18 =>
       next2 (t18, ()) w3))
     (J1 (()) w2))
    (J1 (()) w2))
   ((.int .i64 0), ()) w)
theorem errataref03_CompareRows.pt_eq : errataref03_CompareRows.pt = fun a0 b1 w K => FN Try.prog Try.f25 (bodyOf Try.f25) [4] (.node none .leaf (.node (some []) .leaf .leaf)) [a0, b1] w K := by kernel_rfl
theorem errataref03_CompareRows.call {a0 b1 : Value} {w : World} {K : Value → World → Prop} (h : errataref03_CompareRows.pt a0 b1 w K) : Calls Try.prog F_errataref03_CompareRows #[a0, b1] w (retK K) :=
  calls_FN (args := [a0, b1]) Try.func25 (by kernel_rfl) (by rw [errataref03_CompareRows.pt_eq] at h; exact h)
theorem errataref03_CompareRows.up {a0 b1 : Value} {w : World} {K : Value → World → Prop} (h : Calls Try.prog F_errataref03_CompareRows #[a0, b1] w (retK K)) : upK Try.prog (sCall F_errataref03_CompareRows #[a0, b1]) w K :=
  up_call (fn := Try.f25) Try.func25 (by kernel_rfl) (by kernel_rfl) h

/-- slices.ContainsFunc[[]int,int] -/
def slices_ContainsFunc_s_int_int.pt (s0 f1 : Value) (w : World) (K : Value → World → Prop) : Prop :=
  upK Try.prog (sCall F_slices_IndexFunc_s_int_int #[s0, f1]) w fun t7 w1 =>
  pureK Try.prog (sBin .geq T_int (.tmp 7) (.const (.int .i64 0)) t7 (.int .i64 0)) fun t8 =>
  K t8 w1
theorem slices_ContainsFunc_s_int_int.pt_eq : slices_ContainsFunc_s_int_int.pt = fun s0 f1 w K => FN Try.prog Try.f26 (bodyOf Try.f26) [4] .leaf [s0, f1] w K := by kernel_rfl
theorem slices_ContainsFunc_s_int_int.call {s0 f1 : Value} {w : World} {K : Value → World → Prop} (h : slices_ContainsFunc_s_int_int.pt s0 f1 w K) : Calls Try.prog F_slices_ContainsFunc_s_int_int #[s0, f1] w (retK K) :=
  calls_FN (args := [s0, f1]) Try.func26 (by kernel_rfl) (by rw [slices_ContainsFunc_s_int_int.pt_eq] at h; exact h)
theorem slices_ContainsFunc_s_int_int.up {s0 f1 : Value} {w : World} {K : Value → World → Prop} (h : Calls Try.prog F_slices_ContainsFunc_s_int_int #[s0, f1] w (retK K)) : upK Try.prog (sCall F_slices_ContainsFunc_s_int_int #[s0, f1]) w K :=
  up_call (fn := Try.f26) Try.func26 (by kernel_rfl) (by kernel_rfl) h

/-- (*errata/aggregate.Acc).Empty$1 -/
def aggregate_Acc_Empty_1.pt (n0 : Value) (w : World) (K : Value → World → Prop) : Prop :=
  pureK Try.prog (sBin .neq T_int (.tmp 3) (.const (.int .i64 0)) n0 (.int .i64 0)) fun t4 =>
  K t4 w
theorem aggregate_Acc_Empty_1.pt_eq : aggregate_Acc_Empty_1.pt = fun n0 w K => FN Try.prog Try.f27 (bodyOf Try.f27) [2] .leaf [n0] w K := by kernel_rfl
theorem aggregate_Acc_Empty_1.call {n0 : Value} {w : World} {K : Value → World → Prop} (h : aggregate_Acc_Empty_1.pt n0 w K) : Calls Try.prog F_aggregate_Acc_Empty_1 #[n0] w (retK K) :=
  calls_FN (args := [n0]) Try.func27 (by kernel_rfl) (by rw [aggregate_Acc_Empty_1.pt_eq] at h; exact h)
theorem aggregate_Acc_Empty_1.up {n0 : Value} {w : World} {K : Value → World → Prop} (h : Calls Try.prog F_aggregate_Acc_Empty_1 #[n0] w (retK K)) : upK Try.prog (sCall F_aggregate_Acc_Empty_1 #[n0]) w K :=
  up_call (fn := Try.f27) Try.func27 (by kernel_rfl) (by kernel_rfl) h

/-- errata/value.all -/
def value_all.pt (r0 : Value) (w : World) (K : Value → World → Prop) : Prop :=
  upK Try.prog (sCall F_slices_ContainsFunc_s_api_Value_api_Value #[r0, (.func (.func 35) #[] #[])]) w fun t4 w1 =>
  pureK Try.prog (sUn .not t4) fun t5 =>
  K t5 w1
theorem value_all.pt_eq : value_all.pt = fun r0 w K => FN Try.prog Try.f28 (bodyOf Try.f28) [2] .leaf [r0] w K := by kernel_rfl
theorem value_all.call {r0 : Value} {w : World} {K : Value → World → Prop} (h : value_all.pt r0 w K) : Calls Try.prog F_value_all #[r0] w (retK K) :=
  calls_FN (args := [r0]) Try.func28 (by kernel_rfl) (by rw [value_all.pt_eq] at h; exact h)
theorem value_all.up {r0 : Value} {w : World} {K : Value → World → Prop} (h : Calls Try.prog F_value_all #[r0] w (retK K)) : upK Try.prog (sCall F_value_all #[r0]) w K :=
  up_call (fn := Try.f28) Try.func28 (by kernel_rfl) (by kernel_rfl) h

/-- slices.DeleteFunc[[]errata/api.Value,errata/api.Value] -/
def slices_DeleteFunc_s_api_Value_api_Value.pt (s0 del1 : Value) (w : World) (K : Value → World → Prop) : Prop :=
  upK Try.prog (sCall F_slices_IndexFunc_s_api_Value_api_Value #[s0, del1]) w fun t10 w1 =>
  pureK Try.prog (sBin .eql T_int (.tmp 11) (.const (.int .i64 (-1))) t10 (.int .i64 (-1))) fun t12 =>
  ifB t12
  (K s0 w1)
  (pureK Try.prog (sBin .add T_int (.tmp 14) (.const (.int .i64 1)) t10 (.int .i64 1)) fun t15 =>
   LOOP (X := Value × Value × Unit) (fun lv2 w2 next2 =>
    readK Try.prog (sBlt .len #[T_s_api_Value] T_int #[false] #[s0]) w2 fun t18 =>
    pureK Try.prog (sBin .lss T_int (.tmp 16) (.tmp 18) lv2.2.1 t18) fun t19 =>
    ifB t19
    (LETJ (X := Value × Unit) (fun jv1 w3 =>
      pureK Try.prog (sBin .add T_int (.tmp 20) (.const (.int .i64 1)) lv2.2.1 (.int .i64 1)) fun t21 =>
      next2 (jv1.1, t21, ()) w3)
     (fun J1 =>
      pureK Try.prog (sIdxAddr T_s_api_Value s0 lv2.2.1) fun t24 =>
      readK Try.prog (sLoad T_api_Value t24) w2 fun t25 =>
      upK Try.prog (sAlloc T_api_Value) w2 fun v7 w4 =>
      upK Try.prog (sStore T_api_Value v7 t25) w4 fun tu w5 =>
      readK Try.prog (sLoad T_api_Value v7) w5 fun t27 =>
      upK Try.prog (sCallV del1 #[t27]) w5 fun t28 w6 =>
      pureK Try.prog (sUn .not t28) fun t29 =>
      ifB t29
      (readK Try.prog (sLoad T_api_Value v7) w6 fun t32 =>
       pureK Try.prog (sIdxAddr T_s_api_Value s0 lv2.1) fun t33 =>
       upK Try.prog (sStore T_api_Value t33 t32) w6 fun tu_1 w7 =>
       pureK Try.prog (sBin .add T_int (.tmp 34) (.const (.int .i64 1)) lv2.1 (.int .i64 1)) fun t35 =>
       J1 (t35, ()) w7)
      (J1 (lv2.1, ()) w6)))
    (pureK Try.prog (sSlice T_s_api_Value s0 (some lv2.1) none none) fun t38 =>
     upK Try.prog (sBlt .clear #[T_s_api_Value] T_ #[false] #[t38]) w2 fun tu_2 w8 =>
     pureK Try.prog (sSlice T_s_api_Value s0 none (some lv2.1) none) fun t41 =>
     K t41 w8))
   (t10, t15, ()) w1)
theorem slices_DeleteFunc_s_api_Value_api_Value.pt_eq : slices_DeleteFunc_s_api_Value_api_Value.pt = fun s0 del1 w K => FN Try.prog Try.f29 (bodyOf Try.f29) [4] (.node none .leaf (.node none .leaf (.node none .leaf (.node none (.node none .leaf (.node none (.node none (.node none .leaf (.node (some [5]) .leaf .leaf)) .leaf) .leaf)) .leaf)))) [s0, del1] w K := by kernel_rfl
theorem slices_DeleteFunc_s_api_Value_api_Value.call {s0 del1 : Value} {w : World} {K : Value → World → Prop} (h : slices_DeleteFunc_s_api_Value_api_Value.pt s0 del1 w K) : Calls Try.prog F_slices_DeleteFunc_s_api_Value_api_Value #[s0, del1] w (retK K) :=
  calls_FN (args := [s0, del1]) Try.func29 (by kernel_rfl) (by rw [slices_DeleteFunc_s_api_Value_api_Value.pt_eq] at h; exact h)
theorem slices_DeleteFunc_s_api_Value_api_Value.up {s0 del1 : Value} {w : World} {K : Value → World → Prop} (h : Calls Try.prog F_slices_DeleteFunc_s_api_Value_api_Value #[s0, del1] w (retK K)) : upK Try.prog (sCall F_slices_DeleteFunc_s_api_Value_api_Value #[s0, del1]) w K :=
  up_call (fn := Try.f29) Try.func29 (by kernel_rfl) (by kernel_rfl) h

/-- (*errata/aggregate.Acc).sorted -/
def aggregate_Acc_sorted.pt (a0 i1 : Value) (w : World) (K : Value → World → Prop) : Prop :=
  pureK Try.prog (sNil a0) fun t6 =>
  pureK Try.prog (sFieldAddr T_aggregate_Acc t6 3) fun t7 =>
  readK Try.prog (sLoad T_s_map_api_Value_int t7) w fun t8 =>
  pureK Try.prog (sIdxAddr T_s_map_api_Value_int t8 i1) fun t10 =>
  readK Try.prog (sLoad T_map_api_Value_int t10) w fun t11 =>
  upK Try.prog (sCall F_maps_Keys_map_api_Value_int_api_Value_int #[t11]) w fun t12 w1 =>
  upK Try.prog (sCall F_slices_SortedFunc_api_Value #[t12, (.func (.func 39) #[] #[])]) w1 fun t13 w2 =>
  K t13 w2
theorem aggregate_Acc_sorted.pt_eq : aggregate_Acc_sorted.pt = fun a0 i1 w K => FN Try.prog Try.f30 (bodyOf Try.f30) [4] .leaf [a0, i1] w K := by kernel_rfl
theorem aggregate_Acc_sorted.call {a0 i1 : Value} {w : World} {K : Value → World → Prop} (h : aggregate_Acc_sorted.pt a0 i1 w K) : Calls Try.prog F_aggregate_Acc_sorted #[a0, i1] w (retK K) :=
  calls_FN (args := [a0, i1]) Try.func30 (by kernel_rfl) (by rw [aggregate_Acc_sorted.pt_eq] at h; exact h)
theorem aggregate_Acc_sorted.up {a0 i1 : Value} {w : World} {K : Value → World → Prop} (h : Calls Try.prog F_aggregate_Acc_sorted #[a0, i1] w (retK K)) : upK Try.prog (sCall F_aggregate_Acc_sorted #[a0, i1]) w K :=
  up_call (fn := Try.f30) Try.func30 (by kernel_rfl) (by kernel_rfl) h

/-- (*errata/aggregate.Acc).best$1 -/
def aggregate_Acc_best_1.pt (v0 t1 t2 : Value) (w : World) (K : Value → World → Prop) : Prop :=
  upK Try.prog (sBox T_api_Value v0) w fun v3 w1 =>
  readK Try.prog (sLoad T_p_aggregate_Acc t1) (tick w1) fun t5 =>
  pureK Try.prog (sNil t5) fun t6 =>
  pureK Try.prog (sFieldAddr T_aggregate_Acc t6 3) fun t7 =>
  readK Try.prog (sLoad T_s_map_api_Value_int t7) (tick w1) fun t8 =>
  readK Try.prog (sLoad T_int t2) (tick w1) fun t9 =>
  pureK Try.prog (sIdxAddr T_s_map_api_Value_int t8 t9) fun t10 =>
  readK Try.prog (sLoad T_map_api_Value_int t10) (tick w1) fun t11 =>
  readK Try.prog (sLoad T_api_Value v3) (tick w1) fun t12 =>
  readK Try.prog (sLookup T_map_api_Value_int t11 t12 false) (tick w1) fun t13 =>
  pureK Try.prog (sBin .leq T_int (.tmp 13) (.const (.int .i64 0)) t13 (.int .i64 0)) fun t14 =>
  K t14 (tick w1)
theorem aggregate_Acc_best_1.pt_eq : aggregate_Acc_best_1.pt = fun v0 t1 t2 w K => FN Try.prog Try.f31 (bodyOf Try.f31) [4] .leaf [v0, t1, t2] w K := by kernel_rfl
theorem aggregate_Acc_best_1.call {v0 t1 t2 : Value} {w : World} {K : Value → World → Prop} (h : aggregate_Acc_best_1.pt v0 t1 t2 w K) : Calls Try.prog F_aggregate_Acc_best_1 #[v0, t1, t2] w (retK K) :=
  calls_FN (args := [v0, t1, t2]) Try.func31 (by kernel_rfl) (by rw [aggregate_Acc_best_1.pt_eq] at h; exact h)
theorem aggregate_Acc_best_1.up {v0 t1 t2 : Value} {w : World} {K : Value → World → Prop} (h : Calls Try.prog F_aggregate_Acc_best_1 #[v0, t1, t2] w (retK K)) : upK Try.prog (sCall F_aggregate_Acc_best_1 #[v0, t1, t2]) w K :=
  up_call (fn := Try.f31) Try.func31 (by kernel_rfl) (by kernel_rfl) h

/-- errata/errataref03.Compare -/
def errataref03_Compare.pt (a0 b1 : Value) (w : World) (K : Value → World → Prop) : Prop :=
  upK Try.prog (sBox T_api_Value a0) w fun a2 w1 =>
  upK Try.prog (sBox T_api_Value b1) w1 fun b3 w2 =>
  pureK Try.prog (sFieldAddr T_api_Value a2 0) fun t5 =>
  readK Try.prog (sLoad T_int t5) w2 fun t6 =>
  pureK Try.prog (sFieldAddr T_api_Value b3 0) fun t7 =>
  readK Try.prog (sLoad T_int t7) w2 fun t8 =>
  pureK Try.prog (sBin .lss T_int (.tmp 6) (.tmp 8) t6 t8) fun t9 =>
  ifB t9
  (K (.int .i64 (-1)) w2)
  (pureK Try.prog (sFieldAddr T_api_Value a2 0) fun t10 =>
   readK Try.prog (sLoad T_int t10) w2 fun t11 =>
   pureK Try.prog (sFieldAddr T_api_Value b3 0) fun t12 =>
   readK Try.prog (sLoad T_int t12) w2 fun t13 =>
   pureK Try.prog (sBin .gtr T_int (.tmp 11) (.tmp 13) t11 t13) fun t14 =>
   ifB t14
   (K (.int .i64 1) w2)
   (pureK Try.prog (sFieldAddr T_api_Value a2 1) fun t15 =>
    readK Try.prog (sLoad T_int t15) w2 fun t16 =>
    pureK Try.prog (sFieldAddr T_api_Value b3 1) fun t17 =>
    readK Try.prog (sLoad T_int t17) w2 fun t18 =>
    pureK Try.prog (sBin .lss T_int (.tmp 16) (.tmp 18) t16 t18) fun t19 =>
    ifB t19
    (K (.int .i64 (-1)) w2)
    (pureK Try.prog (sFieldAddr T_api_Value a2 1) fun t20 =>
     readK Try.prog (sLoad T_int t20) w2 fun t21 =>
     pureK Try.prog (sFieldAddr T_api_Value b3 1) fun t22 =>
     readK Try.prog (sLoad T_int t22) w2 fun t23 =>
     pureK Try.prog (sBin .gtr T_int (.tmp 21) (.tmp 23) t21 t23) fun t24 =>
     ifB t24
     (K (.int .i64 1) w2)
     (pureK Try.prog (sFieldAddr T_api_Value a2 2) fun t25 =>
      readK Try.prog (sLoad T_string t25) w2 fun t26 =>
      pureK Try.prog (sFieldAddr T_api_Value b3 2) fun t27 =>
      readK Try.prog (sLoad T_string t27) w2 fun t28 =>
      pureK Try.prog (sBin .lss T_string (.tmp 26) (.tmp 28) t26 t28) fun t29 =>
      ifB t29
      (K (.int .i64 (-1)) w2)
      (pureK Try.prog (sFieldAddr T_api_Value a2 2) fun t30 =>
       readK Try.prog (sLoad T_string t30) w2 fun t31 =>
       pureK Try.prog (sFieldAddr T_api_Value b3 2) fun t32 =>
       readK Try.prog (sLoad T_string t32) w2 fun t33 =>
       pureK Try.prog (sBin .gtr T_string (.tmp 31) (.tmp 33) t31 t33) fun t34 =>
       ifB t34
       (K (.int .i64 1) w2)
       (K (.int .i64 0) w2))))))
theorem errataref03_Compare.pt_eq : errataref03_Compare.pt = fun a0 b1 w K => FN Try.prog Try.f32 (bodyOf Try.f32) [4] .leaf [a0, b1] w K := by kernel_rfl
theorem errataref03_Compare.call {a0 b1 : Value} {w : World} {K : Value → World → Prop} (h : errataref03_Compare.pt a0 b1 w K) : Calls Try.prog F_errataref03_Compare #[a0, b1] w (retK K) :=
  calls_FN (args := [a0, b1]) Try.func32 (by kernel_rfl) (by rw [errataref03_Compare.pt_eq] at h; exact h)
theorem errataref03_Compare.up {a0 b1 : Value} {w : World} {K : Value → World → Prop} (h : Calls Try.prog F_errataref03_Compare #[a0, b1] w (retK K)) : upK Try.prog (sCall F_errataref03_Compare #[a0, b1]) w K :=
  up_call (fn := Try.f32) Try.func32 (by kernel_rfl) (by kernel_rfl) h

/-- slices.IndexFunc[[]int,int] -/
def slices_IndexFunc_s_int_int.pt (s0 f1 : Value) (w : World) (K : Value → World → Prop) : Prop :=
  readK Try.prog (sBlt .len #[T_s_int] T_int #[false] #[s0]) w fun t7 =>
  LOOP (X := Value × Unit) (fun lv1 w1 next1 =>
   pureK Try.prog (sBin .lss T_int (.tmp 8) (.tmp 7) lv1.1 t7) fun t9 =>
   ifB t9
   (pureK Try.prog (sIdxAddr T_s_int s0 lv1.1) fun t14 =>
    readK Try.prog (sLoad T_int t14) w1 fun t15 =>
    upK Try.prog (sCallV f1 #[t15]) w1 fun t16 w2 =>
    ifB t16
    (K lv1.1 w2)
    (pureK Try.prog (sBin .add T_int (.tmp 8) (.const (.int .i64 1)) lv1.1 (.int .i64 1)) fun t18 =>
     next1 (t18, ()) w2))
   (K (.int .i64 (-1)) w1))
  ((.int .i64 0), ()) w
theorem slices_IndexFunc_s_int_int.pt_eq : slices_IndexFunc_s_int_int.pt = fun s0 f1 w K => FN Try.prog Try.f33 (bodyOf Try.f33) [4] .leaf [s0, f1] w K := by kernel_rfl
theorem slices_IndexFunc_s_int_int.call {s0 f1 : Value} {w : World} {K : Value → World → Prop} (h : slices_IndexFunc_s_int_int.pt s0 f1 w K) : Calls Try.prog F_slices_IndexFunc_s_int_int #[s0, f1] w (retK K) :=
  calls_FN (args := [s0, f1]) Try.func33 (by kernel_rfl) (by rw [slices_IndexFunc_s_int_int.pt_eq] at h; exact h)
theorem slices_IndexFunc_s_int_int.up {s0 f1 : Value} {w : World} {K : Value → World → Prop} (h : Calls Try.prog F_slices_IndexFunc_s_int_int #[s0, f1] w (retK K)) : upK Try.prog (sCall F_slices_IndexFunc_s_int_int #[s0, f1]) w K :=
  up_call (fn := Try.f33) Try.func33 (by kernel_rfl) (by kernel_rfl) h

/-- slices.ContainsFunc[[]errata/api.Value,errata/api.Value] -/
def slices_ContainsFunc_s_api_Value_api_Value.pt (s0 f1 : Value) (w : World) (K : Value → World → Prop) : Prop :=
  upK Try.prog (sCall F_slices_IndexFunc_s_api_Value_api_Value #[s0, f1]) w fun t7 w1 =>
  pureK Try.prog (sBin .geq T_int (.tmp 7) (.const (.int .i64 0)) t7 (.int .i64 0)) fun t8 =>
  K t8 w1
theorem slices_ContainsFunc_s_api_Value_api_Value.pt_eq : slices_ContainsFunc_s_api_Value_api_Value.pt = fun s0 f1 w K => FN Try.prog Try.f34 (bodyOf Try.f34) [4] .leaf [s0, f1] w K := by kernel_rfl
theorem slices_ContainsFunc_s_api_Value_api_Value.call {s0 f1 : Value} {w : World} {K : Value → World → Prop} (h : slices_ContainsFunc_s_api_Value_api_Value.pt s0 f1 w K) : Calls Try.prog F_slices_ContainsFunc_s_api_Value_api_Value #[s0, f1] w (retK K) :=
  calls_FN (args := [s0, f1]) Try.func34 (by kernel_rfl) (by rw [slices_ContainsFunc_s_api_Value_api_Value.pt_eq] at h; exact h)
theorem slices_ContainsFunc_s_api_Value_api_Value.up {s0 f1 : Value} {w : World} {K : Value → World → Prop} (h : Calls Try.prog F_slices_ContainsFunc_s_api_Value_api_Value #[s0, f1] w (retK K)) : upK Try.prog (sCall F_slices_ContainsFunc_s_api_Value_api_Value #[s0, f1]) w K :=
  up_call (fn := Try.f34) Try.func34 (by kernel_rfl) (by kernel_rfl) h

/-- errata/value.all$1 -/
def value_all_1.pt (v0 : Value) (w : World) (K : Value → World → Prop) : Prop :=
  upK Try.prog (sBox T_api_Value v0) w fun v1 w1 =>
  readK Try.prog (sLoad T_api_Value v1) w1 fun t3 =>
  upK Try.prog (sCall F_value_Right #[t3]) w1 fun t4 w2 =>
  pureK Try.prog (sUn .not t4) fun t5 =>
  K t5 w2
theorem value_all_1.pt_eq : value_all_1.pt = fun v0 w K => FN Try.prog Try.f35 (bodyOf Try.f35) [2] .leaf [v0] w K := by kernel_rfl
theorem value_all_1.call {v0 : Value} {w : World} {K : Value → World → Prop} (h : value_all_1.pt v0 w K) : Calls Try.prog F_value_all_1 #[v0] w (retK K) :=
  calls_FN (args := [v0]) Try.func35 (by kernel_rfl) (by rw [value_all_1.pt_eq] at h; exact h)
theorem value_all_1.up {v0 : Value} {w : World} {K : Value → World → Prop} (h : Calls Try.prog F_value_all_1 #[v0] w (retK K)) : upK Try.prog (sCall F_value_all_1 #[v0]) w K :=
  up_call (fn := Try.f35) Try.func35 (by kernel_rfl) (by kernel_rfl) h

/-- slices.IndexFunc[[]errata/api.Value,errata/api.Value] -/
def slices_IndexFunc_s_api_Value_api_Value.pt (s0 f1 : Value) (w : World) (K : Value → World → Prop) : Prop :=
  readK Try.prog (sBlt .len #[T_s_api_Value] T_int #[false] #[s0]) w fun t7 =>
  LOOP (X := Value × Unit) (fun lv1 w1 next1 =>
   pureK Try.prog (sBin .lss T_int (.tmp 8) (.tmp 7) lv1.1 t7) fun t9 =>
   ifB t9
   (pureK Try.prog (sIdxAddr T_s_api_Value s0 lv1.1) fun t14 =>
    readK Try.prog (sLoad T_api_Value t14) w1 fun t15 =>
    upK Try.prog (sCallV f1 #[t15]) w1 fun t16 w2 =>
    ifB t16
    (K lv1.1 w2)
    (pureK Try.prog (sBin .add T_int (.tmp 8) (.const (.int .i64 1)) lv1.1 (.int .i64 1)) fun t18 =>
     next1 (t18, ()) w2))
   (K (.int .i64 (-1)) w1))
  ((.int .i64 0), ()) w
theorem slices_IndexFunc_s_api_Value_api_Value.pt_eq : slices_IndexFunc_s_api_Value_api_Value.pt = fun s0 f1 w K => FN Try.prog Try.f36 (bodyOf Try.f36) [4] .leaf [s0, f1] w K := by kernel_rfl
theorem slices_IndexFunc_s_api_Value_api_Value.call {s0 f1 : Value} {w : World} {K : Value → World → Prop} (h : slices_IndexFunc_s_api_Value_api_Value.pt s0 f1 w K) : Calls Try.prog F_slices_IndexFunc_s_api_Value_api_Value #[s0, f1] w (retK K) :=
  calls_FN (args := [s0, f1]) Try.func36 (by kernel_rfl) (by rw [slices_IndexFunc_s_api_Value_api_Value.pt_eq] at h; exact h)
theorem slices_IndexFunc_s_api_Value_api_Value.up {s0 f1 : Value} {w : World} {K : Value → World → Prop} (h : Calls Try.prog F_slices_IndexFunc_s_api_Value_api_Value #[s0, f1] w (retK K)) : upK Try.prog (sCall F_slices_IndexFunc_s_api_Value_api_Value #[s0, f1]) w K :=
  up_call (fn := Try.f36) Try.func36 (by kernel_rfl) (by kernel_rfl) h

/-- slices.SortedFunc[errata/api.Value] -/
def slices_SortedFunc_api_Value.pt (seq0 cmp1 : Value) (w : World) (K : Value → World → Prop) : Prop :=
  upK Try.prog (sCall F_slices_Collect_api_Value #[seq0]) w fun t7 w1 =>
  upK Try.prog (sCall F_slices_SortFunc_s_api_Value_api_Value #[t7, cmp1]) w1 fun t10 w2 =>
  K t7 w2
theorem slices_SortedFunc_api_Value.pt_eq : slices_SortedFunc_api_Value.pt = fun seq0 cmp1 w K => FN Try.prog Try.f37 (bodyOf Try.f37) [4] .leaf [seq0, cmp1] w K := by kernel_rfl
theorem slices_SortedFunc_api_Value.call {seq0 cmp1 : Value} {w : World} {K : Value → World → Prop} (h : slices_SortedFunc_api_Value.pt seq0 cmp1 w K) : Calls Try.prog F_slices_SortedFunc_api_Value #[seq0, cmp1] w (retK K) :=
  calls_FN (args := [seq0, cmp1]) Try.func37 (by kernel_rfl) (by rw [slices_SortedFunc_api_Value.pt_eq] at h; exact h)
theorem slices_SortedFunc_api_Value.up {seq0 cmp1 : Value} {w : World} {K : Value → World → Prop} (h : Calls Try.prog F_slices_SortedFunc_api_Value #[seq0, cmp1] w (retK K)) : upK Try.prog (sCall F_slices_SortedFunc_api_Value #[seq0, cmp1]) w K :=
  up_call (fn := Try.f37) Try.func37 (by kernel_rfl) (by kernel_rfl) h

/-- maps.Keys[map[errata/api.Value]int,errata/api.Value,int] -/
def maps_Keys_map_api_Value_int_api_Value_int.pt (m0 : Value) (w : World) (K : Value → World → Prop) : Prop :=
  upK Try.prog (sBox T_map_api_Value_int m0) w fun m1 w1 =>
  pureK Try.prog (sMkFunc (.func F_maps_Keys_map_api_Value_int_api_Value_int_1) #[] #[m1]) fun t3 =>
  K t3 w1
theorem maps_Keys_map_api_Value_int_api_Value_int.pt_eq : maps_Keys_map_api_Value_int_api_Value_int.pt = fun m0 w K => FN Try.prog Try.f38 (bodyOf Try.f38) [2] .leaf [m0] w K := by kernel_rfl
theorem maps_Keys_map_api_Value_int_api_Value_int.call {m0 : Value} {w : World} {K : Value → World → Prop} (h : maps_Keys_map_api_Value_int_api_Value_int.pt m0 w K) : Calls Try.prog F_maps_Keys_map_api_Value_int_api_Value_int #[m0] w (retK K) :=
  calls_FN (args := [m0]) Try.func38 (by kernel_rfl) (by rw [maps_Keys_map_api_Value_int_api_Value_int.pt_eq] at h; exact h)
theorem maps_Keys_map_api_Value_int_api_Value_int.up {m0 : Value} {w : World} {K : Value → World → Prop} (h : Calls Try.prog F_maps_Keys_map_api_Value_int_api_Value_int #[m0] w (retK K)) : upK Try.prog (sCall F_maps_Keys_map_api_Value_int_api_Value_int #[m0]) w K :=
  up_call (fn := Try.f38) Try.func38 (by kernel_rfl) (by kernel_rfl) h

/-- errata/value.Compare -/
def value_Compare.pt (a0 b1 : Value) (w : World) (K : Value → World → Prop) : Prop :=
  upK Try.prog (sBox T_api_Value a0) w fun a2 w1 =>
  upK Try.prog (sBox T_api_Value b1) w1 fun b3 w2 =>
  pureK Try.prog (sFieldAddr T_api_Value a2 0) fun t5 =>
  readK Try.prog (sLoad T_int t5) (tick w2) fun t6 =>
  pureK Try.prog (sFieldAddr T_api_Value b3 0) fun t7 =>
  readK Try.prog (sLoad T_int t7) (tick w2) fun t8 =>
  pureK Try.prog (sFieldAddr T_api_Value a2 1) fun t10 =>
  readK Try.prog (sLoad T_int t10) (tick w2) fun t11 =>
  pureK Try.prog (sFieldAddr T_api_Value b3 1) fun t12 =>
  readK Try.prog (sLoad T_int t12) (tick w2) fun t13 =>
  pureK Try.prog (sFieldAddr T_api_Value a2 2) fun t15 =>
  readK Try.prog (sLoad T_string t15) (tick w2) fun t16 =>
  pureK Try.prog (sFieldAddr T_api_Value b3 2) fun t17 =>
  readK Try.prog (sLoad T_string t17) (tick w2) fun t18 =>
  upK Try.prog (sCall F_cmp_Compare_int #[t6, t8]) (tick w2) fun t9 w3 =>
  Is Try.prog (sLoad T_string t17) t18 w3 ∧ Is Try.prog (sLoad T_string t15) t16 w3 ∧ Is Try.prog (sLoad T_int t12) t13 w3 ∧ Is Try.prog (sLoad T_int t10) t11 w3 ∧ upK Try.prog (sCall F_cmp_Compare_int #[t11, t13]) w3 fun t14 w4 =>
  Is Try.prog (sLoad T_string t17) t18 w4 ∧ Is Try.prog (sLoad T_string t15) t16 w4 ∧ upK Try.prog (sCall F_strings_Compare #[t16, t18]) w4 fun t19 w5 =>
  upK Try.prog (sBuildSlice T_s_int 3 #[(0, t9), (1, t14), (2, t19)]) w5 fun t20 w6 =>
  upK Try.prog (sCall F_cmp_Or_int #[t20]) w6 fun t21 w7 =>
  K t21 w7
theorem value_Compare.pt_eq : value_Compare.pt = fun a0 b1 w K => FN Try.prog Try.f39 (bodyOf Try.f39) [4] .leaf [a0, b1] w K := by kernel_rfl
theorem value_Compare.call {a0 b1 : Value} {w : World} {K : Value → World → Prop} (h : value_Compare.pt a0 b1 w K) : Calls Try.prog F_value_Compare #[a0, b1] w (retK K) :=
  calls_FN (args := [a0, b1]) Try.func39 (by kernel_rfl) (by rw [value_Compare.pt_eq] at h; exact h)
theorem value_Compare.up {a0 b1 : Value} {w : World} {K : Value → World → Prop} (h : Calls Try.prog F_value_Compare #[a0, b1] w (retK K)) : upK Try.prog (sCall F_value_Compare #[a0, b1]) w K :=
  up_call (fn := Try.f39) Try.func39 (by kernel_rfl) (by kernel_rfl) h

/-- slices.Collect[errata/api.Value] -/
def slices_Collect_api_Value.pt (seq0 : Value) (w : World) (K : Value → World → Prop) : Prop :=
  upK Try.prog (sCall F_slices_AppendSeq_s_api_Value_api_Value #[(.slice none 0 0), seq0]) w fun t4 w1 =>
  K t4 w1
theorem slices_Collect_api_Value.pt_eq : slices_Collect_api_Value.pt = fun seq0 w K => FN Try.prog Try.f40 (bodyOf Try.f40) [2] .leaf [seq0] w K := by kernel_rfl
theorem slices_Collect_api_Value.call {seq0 : Value} {w : World} {K : Value → World → Prop} (h : slices_Collect_api_Value.pt seq0 w K) : Calls Try.prog F_slices_Collect_api_Value #[seq0] w (retK K) :=
  calls_FN (args := [seq0]) Try.func40 (by kernel_rfl) (by rw [slices_Collect_api_Value.pt_eq] at h; exact h)
theorem slices_Collect_api_Value.up {seq0 : Value} {w : World} {K : Value → World → Prop} (h : Calls Try.prog F_slices_Collect_api_Value #[seq0] w (retK K)) : upK Try.prog (sCall F_slices_Collect_api_Value #[seq0]) w K :=
  up_call (fn := Try.f40) Try.func40 (by kernel_rfl) (by kernel_rfl) h

/-- slices.SortFunc[[]errata/api.Value,errata/api.Value] -/
def slices_SortFunc_s_api_Value_api_Value.pt (x0 cmp1 : Value) (w : World) (K : Value → World → Prop) : Prop :=
  readK Try.prog (sBlt .len #[T_s_api_Value] T_int #[false] #[x0]) w fun t6 =>
  upK Try.prog (sConv T_int T_uint t6) w fun t10 w1 =>
  upK Try.prog (sCall F_math_bits_Len #[t10]) w1 fun t11 w2 =>
  upK Try.prog (sCall F_slices_pdqsortCmpFunc_api_Value #[x0, (.int .i64 0), t6, t11, cmp1]) w2 fun t13 w3 =>
  K (.tuple #[]) w3
theorem slices_SortFunc_s_api_Value_api_Value.pt_eq : slices_SortFunc_s_api_Value_api_Value.pt = fun x0 cmp1 w K => FN Try.prog Try.f41 (bodyOf Try.f41) [] .leaf [x0, cmp1] w K := by kernel_rfl
theorem slices_SortFunc_s_api_Value_api_Value.call {x0 cmp1 : Value} {w : World} {K : Value → World → Prop} (h : slices_SortFunc_s_api_Value_api_Value.pt x0 cmp1 w K) : Calls Try.prog F_slices_SortFunc_s_api_Value_api_Value #[x0, cmp1] w (retK K) :=
  calls_FN (args := [x0, cmp1]) Try.func41 (by kernel_rfl) (by rw [slices_SortFunc_s_api_Value_api_Value.pt_eq] at h; exact h)
theorem slices_SortFunc_s_api_Value_api_Value.up {x0 cmp1 : Value} {w : World} {K : Value → World → Prop} (h : Calls Try.prog F_slices_SortFunc_s_api_Value_api_Value #[x0, cmp1] w (retK K)) : upK Try.prog (sCall F_slices_SortFunc_s_api_Value_api_Value #[x0, cmp1]) w K :=
  up_call (fn := Try.f41) Try.func41 (by kernel_rfl) (by kernel_rfl) h

/-- maps.Keys[map[errata/api.Value]int,errata/api.Value,int]$1 -/
def maps_Keys_map_api_Value_int_api_Value_int_1.pt (yield0 t1 : Value) (w : World) (K : Value → World → Prop) : Prop :=
  readK Try.prog (sLoad T_map_api_Value_int t1) w fun t4 =>
  upK Try.prog (sRange T_map_api_Value_int t4) w fun t5 w1 =>
  LOOP (X := Unit) (fun lv2 w2 next2 =>
   upK Try.prog (sNext t5 false T_) w2 fun t6 w3 =>
   pureK Try.prog (sExtract t6 0) fun t7 =>
   ifB t7
   (upK Try.prog (sEntry t5) w3 fun t8 w4 =>
    pureK Try.prog (sExtract t8 0) fun t9 =>
    upK Try.prog (sAlloc T_api_Value) w4 fun k3 w5 =>
    upK Try.prog (sStore T_api_Value k3 t9) w5 fun tu w6 =>
    readK Try.prog (sLoad T_api_Value k3) w6 fun t11 =>
    upK Try.prog (sCallV yield0 #[t11]) w6 fun t12 w7 =>
    pureK Try.prog (sUn .not t12) fun t13 =>
    ifB t13
    (K (.tuple #[]) w7)
    (next2 (()) w7))
   (K (.tuple #[]) w3))
  (()) w1
theorem maps_Keys_map_api_Value_int_api_Value_int_1.pt_eq : maps_Keys_map_api_Value_int_api_Value_int_1.pt = fun yield0 t1 w K => FN Try.prog Try.f42 (bodyOf Try.f42) [] .leaf [yield0, t1] w K := by kernel_rfl
theorem maps_Keys_map_api_Value_int_api_Value_int_1.call {yield0 t1 : Value} {w : World} {K : Value → World → Prop} (h : maps_Keys_map_api_Value_int_api_Value_int_1.pt yield0 t1 w K) : Calls Try.prog F_maps_Keys_map_api_Value_int_api_Value_int_1 #[yield0, t1] w (retK K) :=
  calls_FN (args := [yield0, t1]) Try.func42 (by kernel_rfl) (by rw [maps_Keys_map_api_Value_int_api_Value_int_1.pt_eq] at h; exact h)
theorem maps_Keys_map_api_Value_int_api_Value_int_1.up {yield0 t1 : Value} {w : World} {K : Value → World → Prop} (h : Calls Try.prog F_maps_Keys_map_api_Value_int_api_Value_int_1 #[yield0, t1] w (retK K)) : upK Try.prog (sCall F_maps_Keys_map_api_Value_int_api_Value_int_1 #[yield0, t1]) w K :=
  up_call (fn := Try.f42) Try.func42 (by kernel_rfl) (by kernel_rfl) h

/-- cmp.Or[int] -/
def cmp_Or_int.pt (vals0 : Value) (w : World) (K : Value → World → Prop) : Prop :=
  readK Try.prog (sBlt .len #[T_s_int] T_int #[false] #[vals0]) w fun t7 =>
  LOOP (X := Value × Unit) (fun lv1 w1 next1 =>
   pureK Try.prog (sBin .lss T_int (.tmp 8) (.tmp 7) lv1.1 t7) fun t9 =>
   ifB t9
   (pureK Try.prog (sIdxAddr T_s_int vals0 lv1.1) fun t10 =>
    readK Try.prog (sLoad T_int t10) w1 fun t11 =>
    pureK Try.prog (sBin .neq T_int (.tmp 12) (.tmp 13) t11 (.int .i64 0)) fun t14 =>
    ifB t14
    (K t11 w1)
    (pureK Try.prog (sBin .add T_int (.tmp 8) (.const (.int .i64 1)) lv1.1 (.int .i64 1)) fun t16 =>
     next1 (t16, ()) w1))
   (K (.int .i64 0) w1))
  ((.int .i64 0), ()) w
theorem cmp_Or_int.pt_eq : cmp_Or_int.pt = fun vals0 w K => FN Try.prog Try.f43 (bodyOf Try.f43) [2] .leaf [vals0] w K := by kernel_rfl
theorem cmp_Or_int.call {vals0 : Value} {w : World} {K : Value → World → Prop} (h : cmp_Or_int.pt vals0 w K) : Calls Try.prog F_cmp_Or_int #[vals0] w (retK K) :=
  calls_FN (args := [vals0]) Try.func43 (by kernel_rfl) (by rw [cmp_Or_int.pt_eq] at h; exact h)
theorem cmp_Or_int.up {vals0 : Value} {w : World} {K : Value → World → Prop} (h : Calls Try.prog F_cmp_Or_int #[vals0] w (retK K)) : upK Try.prog (sCall F_cmp_Or_int #[vals0]) w K :=
  up_call (fn := Try.f43) Try.func43 (by kernel_rfl) (by kernel_rfl) h

/-- cmp.Compare[int] -/
def cmp_Compare_int.pt (x0 vy1 : Value) (w : World) (K : Value → World → Prop) : Prop :=
  upK Try.prog (sCall F_cmp_isNaN_int #[x0]) w fun t8 w1 =>
  upK Try.prog (sCall F_cmp_isNaN_int #[vy1]) w1 fun t10 w2 =>
  ifB t8
  (ifB t10
   (K (.int .i64 0) w2)
   (K (.int .i64 (-1)) w2))
  (ifB t10
   (K (.int .i64 1) w2)
   (pureK Try.prog (sBin .lss T_int (.tmp 14) (.tmp 15) x0 vy1) fun t16 =>
    ifB t16
    (K (.int .i64 (-1)) w2)
    (pureK Try.prog (sBin .gtr T_int (.tmp 17) (.tmp 18) x0 vy1) fun t19 =>
     ifB t19
     (K (.int .i64 1) w2)
     (K (.int .i64 0) w2))))
theorem cmp_Compare_int.pt_eq : cmp_Compare_int.pt = fun x0 vy1 w K => FN Try.prog Try.f44 (bodyOf Try.f44) [4] .leaf [x0, vy1] w K := by kernel_rfl
theorem cmp_Compare_int.call {x0 vy1 : Value} {w : World} {K : Value → World → Prop} (h : cmp_Compare_int.pt x0 vy1 w K) : Calls Try.prog F_cmp_Compare_int #[x0, vy1] w (retK K) :=
  calls_FN (args := [x0, vy1]) Try.func44 (by kernel_rfl) (by rw [cmp_Compare_int.pt_eq] at h; exact h)
theorem cmp_Compare_int.up {x0 vy1 : Value} {w : World} {K : Value → World → Prop} (h : Calls Try.prog F_cmp_Compare_int #[x0, vy1] w (retK K)) : upK Try.prog (sCall F_cmp_Compare_int #[x0, vy1]) w K :=
  up_call (fn := Try.f44) Try.func44 (by kernel_rfl) (by kernel_rfl) h

/-- strings.Compare -/
theorem strings_Compare.up {p0 p1 : Value} {w : World} {K : Value → World → Prop} (h : Calls Try.prog F_strings_Compare #[p0, p1] w (retK K)) : upK Try.prog (sCall F_strings_Compare #[p0, p1]) w K :=
  up_call (fn := Try.f45) Try.func45 (by kernel_rfl) (by kernel_rfl) h

/-- slices.pdqsortCmpFunc[errata/api.Value] -/
def slices_pdqsortCmpFunc_api_Value.pt (data0 a1 b2 limit3 cmp4 : Value) (w : World) (K : Value → World → Prop) : Prop :=
  LOOP (X := Value × Value × Value × Value × Value × Unit) (fun lv1 w1 next1 =>
   pureK Try.prog (sBin .sub T_int (.tmp 21) (.tmp 22) lv1.2.2.2.2.1 lv1.2.1) fun t23 =>
   pureK Try.prog (sBin .leq T_int (.tmp 24) (.const (.int .i64 12)) t23 (.int .i64 12)) fun t25 =>
   ifB t25
   (upK Try.prog (sCall F_slices_insertionSortCmpFunc_api_Value #[data0, lv1.2.1, lv1.2.2.2.2.1, cmp4]) w1 fun t30 w2 =>
    K (.tuple #[]) w2)
   (pureK Try.prog (sBin .eql T_int (.tmp 31) (.const (.int .i64 0)) lv1.1 (.int .i64 0)) fun t32 =>
    ifB t32
    (upK Try.prog (sCall F_slices_heapSortCmpFunc_api_Value #[data0, lv1.2.1, lv1.2.2.2.2.1, cmp4]) w1 fun t37 w3 =>
     K (.tuple #[]) w3)
    (LETJ (X := Value × Unit) (fun jv1 w4 =>
      upK Try.prog (sCall F_slices_choosePivotCmpFunc_api_Value #[data0, lv1.2.1, lv1.2.2.2.2.1, cmp4]) w4 fun t52 w5 =>
      pureK Try.prog (sExtract t52 0) fun t53 =>
      pureK Try.prog (sExtract t52 1) fun t54 =>
      LETJ (X := Value × Value × Unit) (fun jv2 w6 =>
       LETJ (X := Unit) (fun jv3 w7 =>
        LETJ (X := Value × Unit) (fun jv4 w8 =>
         upK Try.prog (sCall F_slices_partitionCmpFunc_api_Value #[data0, jv4.1, lv1.2.2.2.2.1, jv2.1, cmp4]) w8 fun t111 w9 =>
         pureK Try.prog (sExtract t111 0) fun t112 =>
         pureK Try.prog (sExtract t111 1) fun t113 =>
         pureK Try.prog (sBin .sub T_int (.tmp 115) (.tmp 116) t112 jv4.1) fun t117 =>
         pureK Try.prog (sBin .sub T_int (.tmp 118) (.tmp 119) lv1.2.2.2.2.1 t112) fun t120 =>
         pureK Try.prog (sBin .quo T_int (.tmp 121) (.const (.int .i64 8)) t23 (.int .i64 8)) fun t122 =>
         pureK Try.prog (sBin .lss T_int (.tmp 123) (.tmp 124) t117 t120) fun t125 =>
         ifB t125
         (pureK Try.prog (sBin .geq T_int (.tmp 126) (.tmp 127) t117 t122) fun t128 =>
          upK Try.prog (sCall F_slices_pdqsortCmpFunc_api_Value #[data0, jv4.1, t112, jv1.1, cmp4]) w9 fun t134 w10 =>
          pureK Try.prog (sBin .add T_int (.tmp 135) (.const (.int .i64 1)) t112 (.int .i64 1)) fun t136 =>
          next1 (jv1.1, t136, t113, t128, lv1.2.2.2.2.1, ()) w10)
         (pureK Try.prog (sBin .geq T_int (.tmp 137) (.tmp 138) t120 t122) fun t139 =>
          pureK Try.prog (sBin .add T_int (.tmp 141) (.const (.int .i64 1)) t112 (.int .i64 1)) fun t142 =>
          upK Try.prog (sCall F_slices_pdqsortCmpFunc_api_Value #[data0, t142, lv1.2.2.2.2.1, jv1.1, cmp4]) w9 fun t146 w11 =>
          next1 (jv1.1, jv4.1, t113, t139, t112, ()) w11))
        (fun J4 =>
         pureK Try.prog (sBin .gtr T_int (.tmp 81) (.const (.int .i64 0)) lv1.2.1 (.int .i64 0)) fun t82 =>
         ifB t82
         (pureK Try.prog (sBin .sub T_int (.tmp 86) (.const (.int .i64 1)) lv1.2.1 (.int .i64 1)) fun t87 =>
          pureK Try.prog (sIdxAddr T_s_api_Value data0 t87) fun t88 =>
          readK Try.prog (sLoad T_api_Value t88) (tick w7) fun t89 =>
          pureK Try.prog (sIdxAddr T_s_api_Value data0 jv2.1) fun t92 =>
          readK Try.prog (sLoad T_api_Value t92) (tick w7) fun t93 =>
          upK Try.prog (sCallV cmp4 #[t89, t93]) (tick w7) fun t94 w12 =>
          pureK Try.prog (sBin .lss T_int (.tmp 94) (.const (.int .i64 0)) t94 (.int .i64 0)) fun t95 =>
          pureK Try.prog (sUn .not t95) fun t96 =>
          ifB t96
          (upK Try.prog (sCall F_slices_partitionEqualCmpFunc_api_Value #[data0, lv1.2.1, lv1.2.2.2.2.1, jv2.1, cmp4]) w12 fun t103 w13 =>
           next1 (jv1.1, t103, lv1.2.2.1, lv1.2.2.2.1, lv1.2.2.2.2.1, ()) w13)
          (J4 (lv1.2.1, ()) w12))
         (J4 (lv1.2.1, ()) (tick w7))))
       (fun J3 =>
        ifB lv1.2.2.2.1
        (ifB lv1.2.2.1
         (pureK Try.prog (sBin .eql T_slices_sortedHint (.tmp 73) (.const (.int .i64 1)) jv2.2.1 (.int .i64 1)) fun t74 =>
          ifB t74
          (upK Try.prog (sCall F_slices_partialInsertionSortCmpFunc_api_Value #[data0, lv1.2.1, lv1.2.2.2.2.1, cmp4]) w6 fun t80 w14 =>
           ifB t80
           (K (.tuple #[]) w14)
           (J3 (()) w14))
          (J3 (()) w6))
         (J3 (()) w6))
        (J3 (()) w6)))
      (fun J2 =>
       pureK Try.prog (sBin .eql T_slices_sortedHint (.tmp 55) (.const (.int .i64 2)) t54 (.int .i64 2)) fun t56 =>
       ifB t56
       (upK Try.prog (sCall F_slices_reverseRangeCmpFunc_api_Value #[data0, lv1.2.1, lv1.2.2.2.2.1, cmp4]) w5 fun t61 w15 =>
        pureK Try.prog (sBin .sub T_int (.tmp 62) (.const (.int .i64 1)) lv1.2.2.2.2.1 (.int .i64 1)) fun t63 =>
        pureK Try.prog (sBin .sub T_int (.tmp 64) (.tmp 65) t53 lv1.2.1) fun t66 =>
        pureK Try.prog (sBin .sub T_int (.tmp 63) (.tmp 66) t63 t66) fun t67 =>
        J2 (t67, (.int .i64 1), ()) w15)
       (J2 (t53, t54, ()) w5)))
     (fun J1 =>
      pureK Try.prog (sUn .not lv1.2.2.2.1) fun t39 =>
      ifB t39
      (upK Try.prog (sCall F_slices_breakPatternsCmpFunc_api_Value #[data0, lv1.2.1, lv1.2.2.2.2.1, cmp4]) w1 fun t44 w16 =>
       pureK Try.prog (sBin .sub T_int (.tmp 45) (.const (.int .i64 1)) lv1.1 (.int .i64 1)) fun t46 =>
       J1 (t46, ()) w16)
      (J1 (lv1.1, ()) w1)))))
  (limit3, a1, (.bool true), (.bool true), b2, ()) w
theorem slices_pdqsortCmpFunc_api_Value.pt_eq : slices_pdqsortCmpFunc_api_Value.pt = fun data0 a1 b2 limit3 cmp4 w K => FN Try.prog Try.f47 (bodyOf Try.f47) [] (.node none .leaf (.node none .leaf (.node none (.node none (.node none (.node none .leaf (.node none .leaf (.node none .leaf (.node (some [3]) .leaf (.node none .leaf (.node (some [13, 14]) .leaf (.node (some []) .leaf (.node (some [1]) .leaf .leaf)))))))) .leaf) .leaf) .leaf))) [data0, a1, b2, limit3, cmp4] w K := by kernel_rfl
theorem slices_pdqsortCmpFunc_api_Value.call {data0 a1 b2 limit3 cmp4 : Value} {w : World} {K : Value → World → Prop} (h : slices_pdqsortCmpFunc_api_Value.pt data0 a1 b2 limit3 cmp4 w K) : Calls Try.prog F_slices_pdqsortCmpFunc_api_Value #[data0, a1, b2, limit3, cmp4] w (retK K) :=
  calls_FN (args := [data0, a1, b2, limit3, cmp4]) Try.func47 (by kernel_rfl) (by rw [slices_pdqsortCmpFunc_api_Value.pt_eq] at h; exact h)
theorem slices_pdqsortCmpFunc_api_Value.up {data0 a1 b2 limit3 cmp4 : Value} {w : World} {K : Value → World → Prop} (h : Calls Try.prog F_slices_pdqsortCmpFunc_api_Value #[data0, a1, b2, limit3, cmp4] w (retK K)) : upK Try.prog (sCall F_slices_pdqsortCmpFunc_api_Value #[data0, a1, b2, limit3, cmp4]) w K :=
  up_call (fn := Try.f47) Try.func47 (by kernel_rfl) (by kernel_rfl) h

/-- math/bits.Len -/
theorem math_bits_Len.up {p0 : Value} {w : World} {K : Value → World → Prop} (h : Calls Try.prog F_math_bits_Len #[p0] w (retK K)) : upK Try.prog (sCall F_math_bits_Len #[p0]) w K :=
  up_call (fn := Try.f48) Try.func48 (by kernel_rfl) (by kernel_rfl) h

/-- cmp.isNaN[int] -/
def cmp_isNaN_int.pt (x0 : Value) (w : World) (K : Value → World → Prop) : Prop :=
  pureK Try.prog (sBin .neq T_int (.tmp 3) (.tmp 4) x0 x0) fun t5 =>
  K t5 w
theorem cmp_isNaN_int.pt_eq : cmp_isNaN_int.pt = fun x0 w K => FN Try.prog Try.f49 (bodyOf Try.f49) [2] .leaf [x0] w K := by kernel_rfl
theorem cmp_isNaN_int.call {x0 : Value} {w : World} {K : Value → World → Prop} (h : cmp_isNaN_int.pt x0 w K) : Calls Try.prog F_cmp_isNaN_int #[x0] w (retK K) :=
  calls_FN (args := [x0]) Try.func49 (by kernel_rfl) (by rw [cmp_isNaN_int.pt_eq] at h; exact h)
theorem cmp_isNaN_int.up {x0 : Value} {w : World} {K : Value → World → Prop} (h : Calls Try.prog F_cmp_isNaN_int #[x0] w (retK K)) : upK Try.prog (sCall F_cmp_isNaN_int #[x0]) w K :=
  up_call (fn := Try.f49) Try.func49 (by kernel_rfl) (by kernel_rfl) h

/-- internal/bytealg.CompareString -/
theorem internal_bytealg_CompareString.up {p0 p1 : Value} {w : World} {K : Value → World → Prop} (h : Calls Try.prog F_internal_bytealg_CompareString #[p0, p1] w (retK K)) : upK Try.prog (sCall F_internal_bytealg_CompareString #[p0, p1]) w K :=
  up_call (fn := Try.f50) Try.func50 (by kernel_rfl) (by kernel_rfl) h

/-- slices.insertionSortCmpFunc[errata/api.Value] -/
def slices_insertionSortCmpFunc_api_Value.pt (data0 a1 b2 cmp3 : Value) (w : World) (K : Value → World → Prop) : Prop :=
  pureK Try.prog (sBin .add T_int (.tmp 10) (.const (.int .i64 1)) a1 (.int .i64 1)) fun t11 =>
  LOOP (X := Value × Unit) (fun lv1 w1 next1 =>
   pureK Try.prog (sBin .lss T_int (.tmp 12) (.tmp 13) lv1.1 b2) fun t14 =>
   ifB t14
   (LETJ (X := Unit) (fun jv1 w2 =>
     pureK Try.prog (sBin .add T_int (.tmp 15) (.const (.int .i64 1)) lv1.1 (.int .i64 1)) fun t16 =>
     next1 (t16, ()) w2)
    (fun J1 =>
     LOOP (X := Value × Unit) (fun lv3 w3 next3 =>
      pureK Try.prog (sBin .gtr T_int (.tmp 18) (.tmp 19) lv3.1 a1) fun t20 =>
      ifB t20
      (pureK Try.prog (sIdxAddr T_s_api_Value data0 lv3.1) fun t25 =>
       readK Try.prog (sLoad T_api_Value t25) (tick w3) fun t26 =>
       pureK Try.prog (sBin .sub T_int (.tmp 28) (.const (.int .i64 1)) lv3.1 (.int .i64 1)) fun t29 =>
       pureK Try.prog (sIdxAddr T_s_api_Value data0 t29) fun t30 =>
       readK Try.prog (sLoad T_api_Value t30) (tick w3) fun t31 =>
       upK Try.prog (sCallV cmp3 #[t26, t31]) (tick w3) fun t32 w4 =>
       pureK Try.prog (sBin .lss T_int (.tmp 32) (.const (.int .i64 0)) t32 (.int .i64 0)) fun t33 =>
       ifB t33
       (pureK Try.prog (sBin .sub T_int (.tmp 40) (.const (.int .i64 1)) lv3.1 (.int .i64 1)) fun t41 =>
        pureK Try.prog (sBin .sub T_int (.tmp 43) (.const (.int .i64 1)) lv3.1 (.int .i64 1)) fun t44 =>
        pureK Try.prog (sIdxAddr T_s_api_Value data0 t44) fun t45 =>
        readK Try.prog (sLoad T_api_Value t45) (tick w4) fun t46 =>
        pureK Try.prog (sIdxAddr T_s_api_Value data0 lv3.1) fun t49 =>
        readK Try.prog (sLoad T_api_Value t49) (tick w4) fun t50 =>
        pureK Try.prog (sIdxAddr T_s_api_Value data0 lv3.1) fun t51 =>
        upK Try.prog (sStore T_api_Value t51 t46) (tick w4) fun tu w5 =>
        pureK Try.prog (sIdxAddr T_s_api_Value data0 t41) fun t52 =>
        upK Try.prog (sStore T_api_Value t52 t50) w5 fun tu_1 w6 =>
        pureK Try.prog (sBin .sub T_int (.tmp 35) (.const (.int .i64 1)) lv3.1 (.int .i64 1)) fun t36 =>
        next3 (t36, ()) w6)
       (J1 (()) w4))
      (J1 (()) (tick w3)))
     (lv1.1, ()) w1))
   (K (.tuple #[]) w1))
  (t11, ()) w
theorem slices_insertionSortCmpFunc_api_Value.pt_eq : slices_insertionSortCmpFunc_api_Value.pt = fun data0 a1 b2 cmp3 w K => FN Try.prog Try.f51 (bodyOf Try.f51) [] (.node none .leaf (.node none (.node none (.node none .leaf (.node (some []) .leaf .leaf)) .leaf) .leaf)) [data0, a1, b2, cmp3] w K := by kernel_rfl
theorem slices_insertionSortCmpFunc_api_Value.call {data0 a1 b2 cmp3 : Value} {w : World} {K : Value → World → Prop} (h : slices_insertionSortCmpFunc_api_Value.pt data0 a1 b2 cmp3 w K) : Calls Try.prog F_slices_insertionSortCmpFunc_api_Value #[data0, a1, b2, cmp3] w (retK K) :=
  calls_FN (args := [data0, a1, b2, cmp3]) Try.func51 (by kernel_rfl) (by rw [slices_insertionSortCmpFunc_api_Value.pt_eq] at h; exact h)
theorem slices_insertionSortCmpFunc_api_Value.up {data0 a1 b2 cmp3 : Value} {w : World} {K : Value → World → Prop} (h : Calls Try.prog F_slices_insertionSortCmpFunc_api_Value #[data0, a1, b2, cmp3] w (retK K)) : upK Try.prog (sCall F_slices_insertionSortCmpFunc_api_Value #[data0, a1, b2, cmp3]) w K :=
  up_call (fn := Try.f51) Try.func51 (by kernel_rfl) (by kernel_rfl) h

/-- slices.heapSortCmpFunc[errata/api.Value] -/
def slices_heapSortCmpFunc_api_Value.pt (data0 a1 b2 cmp3 : Value) (w : World) (K : Value → World → Prop) : Prop :=
  pureK Try.prog (sBin .sub T_int (.tmp 14) (.tmp 15) b2 a1) fun t16 =>
  pureK Try.prog (sBin .sub T_int (.tmp 17) (.const (.int .i64 1)) t16 (.int .i64 1)) fun t18 =>
  pureK Try.prog (sBin .quo T_int (.tmp 18) (.const (.int .i64 2)) t18 (.int .i64 2)) fun t19 =>
  LOOP (X := Value × Unit) (fun lv1 w1 next1 =>
   pureK Try.prog (sBin .geq T_int (.tmp 20) (.const (.int .i64 0)) lv1.1 (.int .i64 0)) fun t21 =>
   ifB t21
   (upK Try.prog (sCall F_slices_siftDownCmpFunc_api_Value #[data0, lv1.1, t16, a1, cmp3]) w1 fun t29 w2 =>
    pureK Try.prog (sBin .sub T_int (.tmp 22) (.const (.int .i64 1)) lv1.1 (.int .i64 1)) fun t23 =>
    next1 (t23, ()) w2)
   (pureK Try.prog (sBin .sub T_int (.tmp 30) (.const (.int .i64 1)) t16 (.int .i64 1)) fun t31 =>
    LOOP (X := Value × Unit) (fun lv3 w3 next3 =>
     pureK Try.prog (sBin .geq T_int (.tmp 32) (.const (.int .i64 0)) lv3.1 (.int .i64 0)) fun t33 =>
     ifB t33
     (pureK Try.prog (sBin .add T_int (.tmp 39) (.tmp 40) a1 lv3.1) fun t41 =>
      pureK Try.prog (sBin .add T_int (.tmp 43) (.tmp 44) a1 lv3.1) fun t45 =>
      pureK Try.prog (sIdxAddr T_s_api_Value data0 t45) fun t46 =>
      readK Try.prog (sLoad T_api_Value t46) (tick w3) fun t47 =>
      pureK Try.prog (sIdxAddr T_s_api_Value data0 a1) fun t50 =>
      readK Try.prog (sLoad T_api_Value t50) (tick w3) fun t51 =>
      pureK Try.prog (sIdxAddr T_s_api_Value data0 a1) fun t52 =>
      upK Try.prog (sStore T_api_Value t52 t47) (tick w3) fun tu w4 =>
      pureK Try.prog (sIdxAddr T_s_api_Value data0 t41) fun t53 =>
      upK Try.prog (sStore T_api_Value t53 t51) w4 fun tu_1 w5 =>
      upK Try.prog (sCall F_slices_siftDownCmpFunc_api_Value #[data0, (.int .i64 0), lv3.1, a1, cmp3]) w5 fun t59 w6 =>
      pureK Try.prog (sBin .sub T_int (.tmp 34) (.const (.int .i64 1)) lv3.1 (.int .i64 1)) fun t35 =>
      next3 (t35, ()) w6)
     (K (.tuple #[]) w3))
    (t31, ()) w1))
  (t19, ()) w
theorem slices_heapSortCmpFunc_api_Value.pt_eq : slices_heapSortCmpFunc_api_Value.pt = fun data0 a1 b2 cmp3 w K => FN Try.prog Try.f52 (bodyOf Try.f52) [] .leaf [data0, a1, b2, cmp3] w K := by kernel_rfl
theorem slices_heapSortCmpFunc_api_Value.call {data0 a1 b2 cmp3 : Value} {w : World} {K : Value → World → Prop} (h : slices_heapSortCmpFunc_api_Value.pt data0 a1 b2 cmp3 w K) : Calls Try.prog F_slices_heapSortCmpFunc_api_Value #[data0, a1, b2, cmp3] w (retK K) :=
  calls_FN (args := [data0, a1, b2, cmp3]) Try.func52 (by kernel_rfl) (by rw [slices_heapSortCmpFunc_api_Value.pt_eq] at h; exact h)
theorem slices_heapSortCmpFunc_api_Value.up {data0 a1 b2 cmp3 : Value} {w : World} {K : Value → World → Prop} (h : Calls Try.prog F_slices_heapSortCmpFunc_api_Value #[data0, a1, b2, cmp3] w (retK K)) : upK Try.prog (sCall F_slices_heapSortCmpFunc_api_Value #[data0, a1, b2, cmp3]) w K :=
  up_call (fn := Try.f52) Try.func52 (by kernel_rfl) (by kernel_rfl) h

/-- slices.breakPatternsCmpFunc[errata/api.Value] -/
def slices_breakPatternsCmpFunc_api_Value.pt (data0 a1 b2 cmp3 : Value) (w : World) (K : Value → World → Prop) : Prop :=
  pureK Try.prog (sBin .sub T_int (.tmp 13) (.tmp 14) b2 a1) fun t15 =>
  pureK Try.prog (sBin .geq T_int (.tmp 16) (.const (.int .i64 8)) t15 (.int .i64 8)) fun t17 =>
  ifB t17
  (upK Try.prog (sConv T_int T_slices_xorshift t15) w fun t19 w1 =>
   upK Try.prog (sAlloc T_slices_xorshift) w1 fun random9 w2 =>
   upK Try.prog (sStore T_slices_xorshift random9 t19) w2 fun tu w3 =>
   upK Try.prog (sCall F_slices_nextPowerOfTwo #[t15]) w3 fun t21 w4 =>
   pureK Try.prog (sBin .quo T_int (.tmp 23) (.const (.int .i64 4)) t15 (.int .i64 4)) fun t24 =>
   pureK Try.prog (sBin .mul T_int (.tmp 24) (.const (.int .i64 2)) t24 (.int .i64 2)) fun t25 =>
   pureK Try.prog (sBin .add T_int (.tmp 22) (.tmp 25) a1 t25) fun t26 =>
   pureK Try.prog (sBin .sub T_int (.tmp 26) (.const (.int .i64 1)) t26 (.int .i64 1)) fun t27 =>
   LOOP (X := Value × Unit) (fun lv5 w5 next5 =>
    pureK Try.prog (sBin .quo T_int (.tmp 30) (.const (.int .i64 4)) t15 (.int .i64 4)) fun t31 =>
    pureK Try.prog (sBin .mul T_int (.tmp 31) (.const (.int .i64 2)) t31 (.int .i64 2)) fun t32 =>
    pureK Try.prog (sBin .add T_int (.tmp 29) (.tmp 32) a1 t32) fun t33 =>
    pureK Try.prog (sBin .add T_int (.tmp 33) (.const (.int .i64 1)) t33 (.int .i64 1)) fun t34 =>
    pureK Try.prog (sBin .leq T_int (.tmp 28) (.tmp 34) lv5.1 t34) fun t35 =>
    ifB t35
    (upK Try.prog (sCall F_slices_xorshift_Next #[random9]) w5 fun t38 w6 =>
     pureK Try.prog (sBin .sub T_uint (.tmp 39) (.const (.int .u64 1)) t21 (.int .u64 1)) fun t40 =>
     pureK Try.prog (sBin .and T_uint (.tmp 38) (.tmp 40) t38 t40) fun t41 =>
     upK Try.prog (sConv T_uint T_int t41) w6 fun t42 w7 =>
     LETJ (X := Value × Unit) (fun jv1 w8 =>
      pureK Try.prog (sBin .add T_int (.tmp 52) (.tmp 53) a1 jv1.1) fun t54 =>
      pureK Try.prog (sBin .add T_int (.tmp 56) (.tmp 57) a1 jv1.1) fun t58 =>
      pureK Try.prog (sIdxAddr T_s_api_Value data0 t58) fun t59 =>
      readK Try.prog (sLoad T_api_Value t59) (tick w8) fun t60 =>
      pureK Try.prog (sIdxAddr T_s_api_Value data0 lv5.1) fun t63 =>
      readK Try.prog (sLoad T_api_Value t63) (tick w8) fun t64 =>
      pureK Try.prog (sIdxAddr T_s_api_Value data0 lv5.1) fun t65 =>
      upK Try.prog (sStore T_api_Value t65 t60) (tick w8) fun tu_1 w9 =>
      pureK Try.prog (sIdxAddr T_s_api_Value data0 t54) fun t66 =>
      upK Try.prog (sStore T_api_Value t66 t64) w9 fun tu_2 w10 =>
      pureK Try.prog (sBin .add T_int (.tmp 36) (.const (.int .i64 1)) lv5.1 (.int .i64 1)) fun t37 =>
      next5 (t37, ()) w10)
     (fun J1 =>
      pureK Try.prog (sBin .geq T_int (.tmp 43) (.tmp 44) t42 t15) fun t45 =>
      ifB t45
      (pureK Try.prog (sBin .sub T_int (.tmp 46) (.tmp 47) t42 t15) fun t48 =>
       J1 (t48, ()) w7)
      (J1 (t42, ()) w7)))
    (K (.tuple #[]) w5))
   (t27, ()) w4)
  (K (.tuple #[]) w)
theorem slices_breakPatternsCmpFunc_api_Value.pt_eq : slices_breakPatternsCmpFunc_api_Value.pt = fun data0 a1 b2 cmp3 w K => FN Try.prog Try.f53 (bodyOf Try.f53) [] (.node none .leaf (.node none .leaf (.node none (.node none .leaf (.node none .leaf (.node none .leaf (.node none (.node none (.node none .leaf (.node none (.node none (.node none .leaf (.node (some [12]) .leaf .leaf)) .leaf) .leaf)) .leaf) .leaf)))) .leaf))) [data0, a1, b2, cmp3] w K := by kernel_rfl
theorem slices_breakPatternsCmpFunc_api_Value.call {data0 a1 b2 cmp3 : Value} {w : World} {K : Value → World → Prop} (h : slices_breakPatternsCmpFunc_api_Value.pt data0 a1 b2 cmp3 w K) : Calls Try.prog F_slices_breakPatternsCmpFunc_api_Value #[data0, a1, b2, cmp3] w (retK K) :=
  calls_FN (args := [data0, a1, b2, cmp3]) Try.func53 (by kernel_rfl) (by rw [slices_breakPatternsCmpFunc_api_Value.pt_eq] at h; exact h)
theorem slices_breakPatternsCmpFunc_api_Value.up {data0 a1 b2 cmp3 : Value} {w : World} {K : Value → World → Prop} (h : Calls Try.prog F_slices_breakPatternsCmpFunc_api_Value #[data0, a1, b2, cmp3] w (retK K)) : upK Try.prog (sCall F_slices_breakPatternsCmpFunc_api_Value #[data0, a1, b2, cmp3]) w K :=
  up_call (fn := Try.f53) Try.func53 (by kernel_rfl) (by kernel_rfl) h

/-- slices.choosePivotCmpFunc[errata/api.Value] -/
def slices_choosePivotCmpFunc_api_Value.pt (data0 a1 b2 cmp3 : Value) (w : World) (K : Value → World → Prop) : Prop :=
  pureK Try.prog (sBin .sub T_int (.tmp 15) (.tmp 16) b2 a1) fun t17 =>
  upK Try.prog (sAlloc T_int) w fun swaps11 w1 =>
  pureK Try.prog (sBin .quo T_int (.tmp 19) (.const (.int .i64 4)) t17 (.int .i64 4)) fun t20 =>
  pureK Try.prog (sBin .mul T_int (.tmp 20) (.const (.int .i64 1)) t20 (.int .i64 1)) fun t21 =>
  pureK Try.prog (sBin .add T_int (.tmp 18) (.tmp 21) a1 t21) fun t22 =>
  pureK Try.prog (sBin .quo T_int (.tmp 24) (.const (.int .i64 4)) t17 (.int .i64 4)) fun t25 =>
  pureK Try.prog (sBin .mul T_int (.tmp 25) (.const (.int .i64 2)) t25 (.int .i64 2)) fun t26 =>
  pureK Try.prog (sBin .add T_int (.tmp 23) (.tmp 26) a1 t26) fun t27 =>
  pureK Try.prog (sBin .quo T_int (.tmp 29) (.const (.int .i64 4)) t17 (.int .i64 4)) fun t30 =>
  pureK Try.prog (sBin .mul T_int (.tmp 30) (.const (.int .i64 3)) t30 (.int .i64 3)) fun t31 =>
  pureK Try.prog (sBin .add T_int (.tmp 28) (.tmp 31) a1 t31) fun t32 =>
  LETJ (X := Value × Unit) (fun jv1 w2 =>
   readK Try.prog (sLoad T_int swaps11) w2 fun t55 =>
   pureK Try.prog (sBin .eql T_int (.tmp 55) (.const (.int .i64 0)) t55 (.int .i64 0)) fun t58 =>
   ifB t58
   (K (.tuple #[jv1.1, (.int .i64 1)]) w2)
   (pureK Try.prog (sBin .eql T_int (.tmp 55) (.const (.int .i64 12)) t55 (.int .i64 12)) fun t61 =>
    ifB t61
    (K (.tuple #[jv1.1, (.int .i64 2)]) w2)
    (K (.tuple #[jv1.1, (.int .i64 0)]) w2)))
  (fun J1 =>
   pureK Try.prog (sBin .geq T_int (.tmp 33) (.const (.int .i64 8)) t17 (.int .i64 8)) fun t34 =>
   ifB t34
   (LETJ (X := Value × Value × Value × Unit) (fun jv2 w3 =>
     upK Try.prog (sCall F_slices_medianCmpFunc_api_Value #[data0, jv2.1, jv2.2.1, jv2.2.2.1, swaps11, cmp3]) w3 fun t54 w4 =>
     J1 (t54, ()) w4)
    (fun J2 =>
     pureK Try.prog (sBin .geq T_int (.tmp 35) (.const (.int .i64 50)) t17 (.int .i64 50)) fun t36 =>
     ifB t36
     (upK Try.prog (sCall F_slices_medianAdjacentCmpFunc_api_Value #[data0, t22, swaps11, cmp3]) w1 fun t40 w5 =>
      upK Try.prog (sCall F_slices_medianAdjacentCmpFunc_api_Value #[data0, t27, swaps11, cmp3]) w5 fun t44 w6 =>
      upK Try.prog (sCall F_slices_medianAdjacentCmpFunc_api_Value #[data0, t32, swaps11, cmp3]) w6 fun t48 w7 =>
      J2 (t40, t44, t48, ()) w7)
     (J2 (t22, t27, t32, ()) w1)))
   (J1 (t27, ()) w1))
theorem slices_choosePivotCmpFunc_api_Value.pt_eq : slices_choosePivotCmpFunc_api_Value.pt = fun data0 a1 b2 cmp3 w K => FN Try.prog Try.f54 (bodyOf Try.f54) [] (.node none .leaf (.node none .leaf (.node none .leaf (.node none .leaf (.node none .leaf (.node none .leaf (.node (some [13]) (.node none .leaf (.node none (.node (some [12, 13, 14]) .leaf .leaf) .leaf)) .leaf))))))) [data0, a1, b2, cmp3] w K := by kernel_rfl
theorem slices_choosePivotCmpFunc_api_Value.call {data0 a1 b2 cmp3 : Value} {w : World} {K : Value → World → Prop} (h : slices_choosePivotCmpFunc_api_Value.pt data0 a1 b2 cmp3 w K) : Calls Try.prog F_slices_choosePivotCmpFunc_api_Value #[data0, a1, b2, cmp3] w (retK K) :=
  calls_FN (args := [data0, a1, b2, cmp3]) Try.func54 (by kernel_rfl) (by rw [slices_choosePivotCmpFunc_api_Value.pt_eq] at h; exact h)
theorem slices_choosePivotCmpFunc_api_Value.up {data0 a1 b2 cmp3 : Value} {w : World} {K : Value → World → Prop} (h : Calls Try.prog F_slices_choosePivotCmpFunc_api_Value #[data0, a1, b2, cmp3] w (retK K)) : upK Try.prog (sCall F_slices_choosePivotCmpFunc_api_Value #[data0, a1, b2, cmp3]) w K :=
  up_call (fn := Try.f54) Try.func54 (by kernel_rfl) (by kernel_rfl) h

/-- slices.reverseRangeCmpFunc[errata/api.Value] -/
def slices_reverseRangeCmpFunc_api_Value.pt (data0 a1 b2 cmp3 : Value) (w : World) (K : Value → World → Prop) : Prop :=
  pureK Try.prog (sBin .sub T_int (.tmp 11) (.const (.int .i64 1)) b2 (.int .i64 1)) fun t12 =>
  LOOP (X := Value × Value × Unit) (fun lv1 w1 next1 =>
   pureK Try.prog (sBin .lss T_int (.tmp 13) (.tmp 14) lv1.1 lv1.2.1) fun t15 =>
   ifB t15
   (pureK Try.prog (sIdxAddr T_s_api_Value data0 lv1.2.1) fun t22 =>
    readK Try.prog (sLoad T_api_Value t22) (tick w1) fun t23 =>
    pureK Try.prog (sIdxAddr T_s_api_Value data0 lv1.1) fun t26 =>
    readK Try.prog (sLoad T_api_Value t26) (tick w1) fun t27 =>
    pureK Try.prog (sIdxAddr T_s_api_Value data0 lv1.1) fun t28 =>
    upK Try.prog (sStore T_api_Value t28 t23) (tick w1) fun tu w2 =>
    pureK Try.prog (sIdxAddr T_s_api_Value data0 lv1.2.1) fun t29 =>
    upK Try.prog (sStore T_api_Value t29 t27) w2 fun tu_1 w3 =>
    pureK Try.prog (sBin .add T_int (.tmp 30) (.const (.int .i64 1)) lv1.1 (.int .i64 1)) fun t31 =>
    pureK Try.prog (sBin .sub T_int (.tmp 32) (.const (.int .i64 1)) lv1.2.1 (.int .i64 1)) fun t33 =>
    next1 (t31, t33, ()) w3)
   (K (.tuple #[]) w1))
  (a1, t12, ()) w
theorem slices_reverseRangeCmpFunc_api_Value.pt_eq : slices_reverseRangeCmpFunc_api_Value.pt = fun data0 a1 b2 cmp3 w K => FN Try.prog Try.f55 (bodyOf Try.f55) [] .leaf [data0, a1, b2, cmp3] w K := by kernel_rfl
theorem slices_reverseRangeCmpFunc_api_Value.call {data0 a1 b2 cmp3 : Value} {w : World} {K : Value → World → Prop} (h : slices_reverseRangeCmpFunc_api_Value.pt data0 a1 b2 cmp3 w K) : Calls Try.prog F_slices_reverseRangeCmpFunc_api_Value #[data0, a1, b2, cmp3] w (retK K) :=
  calls_FN (args := [data0, a1, b2, cmp3]) Try.func55 (by kernel_rfl) (by rw [slices_reverseRangeCmpFunc_api_Value.pt_eq] at h; exact h)
theorem slices_reverseRangeCmpFunc_api_Value.up {data0 a1 b2 cmp3 : Value} {w : World} {K : Value → World → Prop} (h : Calls Try.prog F_slices_reverseRangeCmpFunc_api_Value #[data0, a1, b2, cmp3] w (retK K)) : upK Try.prog (sCall F_slices_reverseRangeCmpFunc_api_Value #[data0, a1, b2, cmp3]) w K :=
  up_call (fn := Try.f55) Try.func55 (by kernel_rfl) (by kernel_rfl) h

end Go.Proofs.Ytoebncgnjbblgaa
