/-
  The reckoned conditions of the functions that this seat's statements reach, printed by program, each held against the translation by the kernel. No condition.
-/
import Derived.Test.YtoebncgnjbblgaaDoorNames
namespace Go.Proofs.YtoebncgnjbblgaaDoor
set_option linter.unusedVariables false
set_option maxRecDepth 100000

/-- errata/erratalaw30.AggregateSums -/
def erratalaw30_AggregateSums.pt (aggs0 l1 : Value) (w : World) (K : Value → World → Prop) : Prop :=
  upK Tryd.prog (sCall F_erratalaw30_small #[]) w fun t13 w1 =>
  upK Tryd.prog (sCall F_erratalaw30_right #[aggs0]) w1 fun t15 w2 =>
  pureK Tryd.prog (sUn .not t15) fun t16 =>
  ifB t16
  (K t13 w2)
  (upK Tryd.prog (sCall F_erratalaw30_few #[l1]) w2 fun t19 w3 =>
   pureK Tryd.prog (sUn .not t19) fun t20 =>
   ifB t20
   (K t13 w3)
   (upK Tryd.prog (sCall F_aggregate_New #[aggs0]) w3 fun t24 w4 =>
    upK Tryd.prog (sCall F_aggregate_New #[aggs0]) w4 fun t26 w5 =>
    pureK Tryd.prog (sBin .eql T_p_aggregate_Acc (.tmp 27) (.const (.pointer none)) t24 (.pointer none)) fun t28 =>
    ifB t28
    (K (.bool false) w5)
    (pureK Tryd.prog (sBin .eql T_p_aggregate_Acc (.tmp 30) (.const (.pointer none)) t26 (.pointer none)) fun t31 =>
     ifB t31
     (K (.bool false) w5)
     (LOOP (X := Value × Unit) (fun lv6 w6 next6 =>
       readK Tryd.prog (sBlt .len #[T_s_erratalaw30_Change] T_int #[false] #[l1]) w6 fun t35 =>
       pureK Tryd.prog (sBin .lss T_int (.tmp 33) (.tmp 35) lv6.1 t35) fun t36 =>
       ifB t36
       (LETJ (X := Unit) (fun jv1 w7 =>
         pureK Tryd.prog (sBin .add T_int (.tmp 37) (.const (.int .i64 1)) lv6.1 (.int .i64 1)) fun t38 =>
         next6 (t38, ()) w7)
        (fun J1 =>
         pureK Tryd.prog (sIdxAddr T_s_erratalaw30_Change l1 lv6.1) fun t42 =>
         pureK Tryd.prog (sFieldAddr T_erratalaw30_Change t42 0) fun t43 =>
         readK Tryd.prog (sLoad T_s_api_Value t43) (tick w6) fun t44 =>
         pureK Tryd.prog (sIdxAddr T_s_erratalaw30_Change l1 lv6.1) fun t47 =>
         pureK Tryd.prog (sFieldAddr T_erratalaw30_Change t47 1) fun t48 =>
         readK Tryd.prog (sLoad T_int t48) (tick w6) fun t49 =>
         upK Tryd.prog (sCall F_aggregate_Acc_Add #[t24, t44, t49]) (tick w6) fun t50 w8 =>
         upK Tryd.prog (sCall F_aggregate_Acc_Result #[t24]) w8 fun t52 w9 =>
         readK Tryd.prog (sBlt .len #[T_s_api_Value] T_int #[false] #[t52]) w9 fun t54 =>
         readK Tryd.prog (sBlt .len #[T_s_api_Agg] T_int #[false] #[aggs0]) w9 fun t56 =>
         pureK Tryd.prog (sBin .neq T_int (.tmp 54) (.tmp 56) t54 t56) fun t57 =>
         ifB t57
         (K (.bool false) w9)
         (LOOP (X := Value × Unit) (fun lv10 w10 next10 =>
           readK Tryd.prog (sBlt .len #[T_s_api_Agg] T_int #[false] #[aggs0]) w10 fun t60 =>
           pureK Tryd.prog (sBin .lss T_int (.tmp 58) (.tmp 60) lv10.1 t60) fun t61 =>
           ifB t61
           (pureK Tryd.prog (sIdxAddr T_s_api_Value t52 lv10.1) fun t66 =>
            readK Tryd.prog (sLoad T_api_Value t66) (tick w10) fun t67 =>
            pureK Tryd.prog (sBin .add T_int (.tmp 69) (.const (.int .i64 1)) lv6.1 (.int .i64 1)) fun t70 =>
            pureK Tryd.prog (sSlice T_s_erratalaw30_Change l1 none (some t70) none) fun t71 =>
            pureK Tryd.prog (sIdxAddr T_s_api_Agg aggs0 lv10.1) fun t74 =>
            readK Tryd.prog (sLoad T_api_Agg t74) (tick w10) fun t75 =>
            upK Tryd.prog (sCall F_erratalaw30_wanted #[t71, t75]) (tick w10) fun t76 w11 =>
            Is Tryd.prog (sLoad T_api_Value t66) t67 w11 ∧ upK Tryd.prog (sCall F_errataref03_Compare #[t67, t76]) w11 fun t77 w12 =>
            pureK Tryd.prog (sBin .neq T_int (.tmp 77) (.const (.int .i64 0)) t77 (.int .i64 0)) fun t78 =>
            ifB t78
            (K (.bool false) w12)
            (pureK Tryd.prog (sBin .add T_int (.tmp 62) (.const (.int .i64 1)) lv10.1 (.int .i64 1)) fun t63 =>
             next10 (t63, ()) w12))
           (J1 (()) w10))
          ((.int .i64 0), ()) w9)))
       (readK Tryd.prog (sBlt .len #[T_s_erratalaw30_Change] T_int #[false] #[l1]) w6 fun t80 =>
        pureK Tryd.prog (sBin .sub T_int (.tmp 80) (.const (.int .i64 1)) t80 (.int .i64 1)) fun t81 =>
        LOOP (X := Value × Unit) (fun lv13 w13 next13 =>
         pureK Tryd.prog (sBin .geq T_int (.tmp 82) (.const (.int .i64 0)) lv13.1 (.int .i64 0)) fun t83 =>
         ifB t83
         (LETJ (X := Unit) (fun jv2 w14 =>
           pureK Tryd.prog (sBin .sub T_int (.tmp 84) (.const (.int .i64 1)) lv13.1 (.int .i64 1)) fun t85 =>
           next13 (t85, ()) w14)
          (fun J2 =>
           upK Tryd.prog (sCall F_erratalaw30_first #[l1, lv13.1]) w13 fun t88 w15 =>
           ifB t88
           (pureK Tryd.prog (sIdxAddr T_s_erratalaw30_Change l1 lv13.1) fun t92 =>
            pureK Tryd.prog (sFieldAddr T_erratalaw30_Change t92 0) fun t93 =>
            readK Tryd.prog (sLoad T_s_api_Value t93) (tick w15) fun t94 =>
            pureK Tryd.prog (sIdxAddr T_s_erratalaw30_Change l1 lv13.1) fun t98 =>
            pureK Tryd.prog (sFieldAddr T_erratalaw30_Change t98 0) fun t99 =>
            readK Tryd.prog (sLoad T_s_api_Value t99) (tick w15) fun t100 =>
            upK Tryd.prog (sCall F_erratalaw30_net #[l1, t100]) (tick w15) fun t101 w16 =>
            Is Tryd.prog (sLoad T_s_api_Value t93) t94 w16 ∧ upK Tryd.prog (sCall F_aggregate_Acc_Add #[t26, t94, t101]) w16 fun t102 w17 =>
            J2 (()) w17)
           (J2 (()) w15)))
         (upK Tryd.prog (sCall F_aggregate_Acc_Bytes #[t24]) w13 fun t104 w18 =>
          upK Tryd.prog (sCall F_aggregate_Acc_Bytes #[t26]) w18 fun t106 w19 =>
          pureK Tryd.prog (sBin .neq T_string (.tmp 104) (.tmp 106) t104 t106) fun t107 =>
          ifB t107
          (K (.bool false) w19)
          (upK Tryd.prog (sCall F_aggregate_Acc_Result #[t24]) w19 fun t110 w20 =>
           upK Tryd.prog (sCall F_aggregate_Acc_Result #[t26]) w20 fun t112 w21 =>
           upK Tryd.prog (sCall F_errataref03_Same #[t110, t112]) w21 fun t113 w22 =>
           pureK Tryd.prog (sUn .not t113) fun t114 =>
           ifB t114
           (K (.bool false) w22)
           (LOOP (X := Value × Unit) (fun lv23 w23 next23 =>
             readK Tryd.prog (sBlt .len #[T_s_erratalaw30_Change] T_int #[false] #[l1]) w23 fun t118 =>
             pureK Tryd.prog (sBin .lss T_int (.tmp 116) (.tmp 118) lv23.1 t118) fun t119 =>
             ifB t119
             (pureK Tryd.prog (sIdxAddr T_s_erratalaw30_Change l1 lv23.1) fun t125 =>
              pureK Tryd.prog (sFieldAddr T_erratalaw30_Change t125 0) fun t126 =>
              readK Tryd.prog (sLoad T_s_api_Value t126) (tick w23) fun t127 =>
              pureK Tryd.prog (sIdxAddr T_s_erratalaw30_Change l1 lv23.1) fun t130 =>
              pureK Tryd.prog (sFieldAddr T_erratalaw30_Change t130 1) fun t131 =>
              readK Tryd.prog (sLoad T_int t131) (tick w23) fun t132 =>
              pureK Tryd.prog (sUn .neg t132) fun t133 =>
              upK Tryd.prog (sCall F_aggregate_Acc_Add #[t24, t127, t133]) (tick w23) fun t134 w24 =>
              pureK Tryd.prog (sBin .add T_int (.tmp 120) (.const (.int .i64 1)) lv23.1 (.int .i64 1)) fun t121 =>
              next23 (t121, ()) w24)
             (ifB t13
              (upK Tryd.prog (sCall F_aggregate_Acc_Empty #[t24]) w23 fun t138 w25 =>
               ifB t138
               (upK Tryd.prog (sCall F_aggregate_Acc_Count #[t24]) w25 fun t142 w26 =>
                pureK Tryd.prog (sBin .eql T_int (.tmp 142) (.const (.int .i64 0)) t142 (.int .i64 0)) fun t143 =>
                ifB t143
                (upK Tryd.prog (sCall F_aggregate_Acc_Rows #[t24]) w26 fun t147 w27 =>
                 pureK Tryd.prog (sBin .eql T_int (.tmp 147) (.const (.int .i64 0)) t147 (.int .i64 0)) fun t148 =>
                 K t148 w27)
                (K (.bool false) w26))
               (K (.bool false) w25))
              (K (.bool false) w23)))
            ((.int .i64 0), ()) w22))))
        (t81, ()) w6))
      ((.int .i64 0), ()) w5))))
theorem erratalaw30_AggregateSums.pt_eq : erratalaw30_AggregateSums.pt = fun aggs0 l1 w K => FN Tryd.prog Tryd.f3 (bodyOf Tryd.f3) [4] (.node none .leaf (.node none .leaf (.node none .leaf (.node none .leaf (.node none .leaf (.node none .leaf (.node none (.node none .leaf (.node none (.node none (.node none .leaf (.node (some []) .leaf .leaf)) .leaf) .leaf)) (.node none (.node none .leaf (.node none (.node none (.node none .leaf (.node (some []) .leaf .leaf)) .leaf) .leaf)) .leaf)))))))) [aggs0, l1] w K := by kernel_rfl
theorem erratalaw30_AggregateSums.call {aggs0 l1 : Value} {w : World} {K : Value → World → Prop} (h : erratalaw30_AggregateSums.pt aggs0 l1 w K) : Calls Tryd.prog F_erratalaw30_AggregateSums #[aggs0, l1] w (retK K) :=
  calls_FN (args := [aggs0, l1]) Tryd.func3 (by kernel_rfl) (by rw [erratalaw30_AggregateSums.pt_eq] at h; exact h)
theorem erratalaw30_AggregateSums.up {aggs0 l1 : Value} {w : World} {K : Value → World → Prop} (h : Calls Tryd.prog F_erratalaw30_AggregateSums #[aggs0, l1] w (retK K)) : upK Tryd.prog (sCall F_erratalaw30_AggregateSums #[aggs0, l1]) w K :=
  up_call (fn := Tryd.f3) Tryd.func3 (by kernel_rfl) (by kernel_rfl) h

/-- errata/erratalaw30.AggregateJoins -/
def erratalaw30_AggregateJoins.pt (aggs0 l1 deal2 : Value) (w : World) (K : Value → World → Prop) : Prop :=
  upK Tryd.prog (sCall F_erratalaw30_small #[]) w fun t16 w1 =>
  upK Tryd.prog (sCall F_erratalaw30_right #[aggs0]) w1 fun t18 w2 =>
  pureK Tryd.prog (sUn .not t18) fun t19 =>
  ifB t19
  (K t16 w2)
  (upK Tryd.prog (sCall F_erratalaw30_few #[l1]) w2 fun t22 w3 =>
   pureK Tryd.prog (sUn .not t22) fun t23 =>
   ifB t23
   (K t16 w3)
   (upK Tryd.prog (sCall F_aggregate_New #[aggs0]) w3 fun t27 w4 =>
    upK Tryd.prog (sCall F_aggregate_New #[aggs0]) w4 fun t29 w5 =>
    upK Tryd.prog (sCall F_aggregate_New #[aggs0]) w5 fun t31 w6 =>
    pureK Tryd.prog (sBuild T_api_Agg #[(0, (.int .i64 0))]) fun t32 =>
    upK Tryd.prog (sBuildSlice T_s_api_Agg 1 #[(0, t32)]) w6 fun t33 w7 =>
    upK Tryd.prog (sBlt .append #[T_s_api_Agg, T_s_api_Agg] T_s_api_Agg #[false, false] #[t33, aggs0]) w7 fun t35 w8 =>
    upK Tryd.prog (sCall F_aggregate_New #[t35]) w8 fun t36 w9 =>
    pureK Tryd.prog (sBin .eql T_p_aggregate_Acc (.tmp 37) (.const (.pointer none)) t27 (.pointer none)) fun t38 =>
    ifB t38
    (K (.bool false) w9)
    (pureK Tryd.prog (sBin .eql T_p_aggregate_Acc (.tmp 40) (.const (.pointer none)) t29 (.pointer none)) fun t41 =>
     ifB t41
     (K (.bool false) w9)
     (pureK Tryd.prog (sBin .eql T_p_aggregate_Acc (.tmp 44) (.const (.pointer none)) t31 (.pointer none)) fun t45 =>
      ifB t45
      (K (.bool false) w9)
      (pureK Tryd.prog (sBin .eql T_p_aggregate_Acc (.tmp 48) (.const (.pointer none)) t36 (.pointer none)) fun t49 =>
       ifB t49
       (K (.bool false) w9)
       (LOOP (X := Value × Unit) (fun lv10 w10 next10 =>
         readK Tryd.prog (sBlt .len #[T_s_erratalaw30_Change] T_int #[false] #[l1]) w10 fun t53 =>
         pureK Tryd.prog (sBin .lss T_int (.tmp 51) (.tmp 53) lv10.1 t53) fun t54 =>
         ifB t54
         (LETJ (X := Value × Unit) (fun jv1 w11 =>
           LETJ (X := Unit) (fun jv2 w12 =>
            pureK Tryd.prog (sIdxAddr T_s_erratalaw30_Change l1 lv10.1) fun t93 =>
            pureK Tryd.prog (sFieldAddr T_erratalaw30_Change t93 0) fun t94 =>
            readK Tryd.prog (sLoad T_s_api_Value t94) (tick w12) fun t95 =>
            pureK Tryd.prog (sIdxAddr T_s_erratalaw30_Change l1 lv10.1) fun t98 =>
            pureK Tryd.prog (sFieldAddr T_erratalaw30_Change t98 1) fun t99 =>
            readK Tryd.prog (sLoad T_int t99) (tick w12) fun t100 =>
            upK Tryd.prog (sCall F_aggregate_Acc_Add #[t31, t95, t100]) (tick w12) fun t101 w13 =>
            pureK Tryd.prog (sBin .add T_int (.tmp 55) (.const (.int .i64 1)) lv10.1 (.int .i64 1)) fun t56 =>
            next10 (t56, ()) w13)
           (fun J2 =>
            ifB jv1.1
            (pureK Tryd.prog (sIdxAddr T_s_erratalaw30_Change l1 lv10.1) fun t69 =>
             pureK Tryd.prog (sFieldAddr T_erratalaw30_Change t69 0) fun t70 =>
             readK Tryd.prog (sLoad T_s_api_Value t70) (tick w11) fun t71 =>
             pureK Tryd.prog (sIdxAddr T_s_erratalaw30_Change l1 lv10.1) fun t74 =>
             pureK Tryd.prog (sFieldAddr T_erratalaw30_Change t74 1) fun t75 =>
             readK Tryd.prog (sLoad T_int t75) (tick w11) fun t76 =>
             upK Tryd.prog (sCall F_aggregate_Acc_Add #[t27, t71, t76]) (tick w11) fun t77 w14 =>
             J2 (()) w14)
            (pureK Tryd.prog (sIdxAddr T_s_erratalaw30_Change l1 lv10.1) fun t81 =>
             pureK Tryd.prog (sFieldAddr T_erratalaw30_Change t81 0) fun t82 =>
             readK Tryd.prog (sLoad T_s_api_Value t82) (tick w11) fun t83 =>
             pureK Tryd.prog (sIdxAddr T_s_erratalaw30_Change l1 lv10.1) fun t86 =>
             pureK Tryd.prog (sFieldAddr T_erratalaw30_Change t86 1) fun t87 =>
             readK Tryd.prog (sLoad T_int t87) (tick w11) fun t88 =>
             upK Tryd.prog (sCall F_aggregate_Acc_Add #[t29, t83, t88]) (tick w11) fun t89 w15 =>
             J2 (()) w15)))
          (fun J1 =>
           readK Tryd.prog (sBlt .len #[T_s_bool] T_int #[false] #[deal2]) w10 fun t59 =>
           pureK Tryd.prog (sBin .lss T_int (.tmp 57) (.tmp 59) lv10.1 t59) fun t60 =>
           ifB t60
           (pureK Tryd.prog (sIdxAddr T_s_bool deal2 lv10.1) fun t63 =>
            readK Tryd.prog (sLoad T_bool t63) w10 fun t64 =>
            J1 (t64, ()) w10)
           (J1 ((.bool false), ()) w10)))
         (upK Tryd.prog (sCall F_aggregate_Acc_Bytes #[t29]) w10 fun t103 w16 =>
          upK Tryd.prog (sCall F_aggregate_Acc_Bytes #[t27]) w16 fun t105 w17 =>
          upK Tryd.prog (sCall F_aggregate_Acc_Merge #[t27, t36]) w17 fun t108 w18 =>
          pureK Tryd.prog (sBin .neq T_api_Errno (.tmp 108) (.const (.int .i64 1)) t108 (.int .i64 1)) fun t109 =>
          ifB t109
          (K (.bool false) w18)
          (upK Tryd.prog (sCall F_aggregate_Acc_Bytes #[t27]) w18 fun t112 w19 =>
           pureK Tryd.prog (sBin .neq T_string (.tmp 112) (.tmp 113) t112 t105) fun t114 =>
           ifB t114
           (K (.bool false) w19)
           (ifB t16
            (upK Tryd.prog (sCall F_aggregate_Acc_Merge #[t27, t29]) w19 fun t120 w20 =>
             pureK Tryd.prog (sBin .eql T_api_Errno (.tmp 120) (.const (.int .i64 0)) t120 (.int .i64 0)) fun t121 =>
             ifB t121
             (upK Tryd.prog (sCall F_aggregate_Acc_Bytes #[t27]) w20 fun t125 w21 =>
              upK Tryd.prog (sCall F_aggregate_Acc_Bytes #[t31]) w21 fun t127 w22 =>
              pureK Tryd.prog (sBin .eql T_string (.tmp 125) (.tmp 127) t125 t127) fun t128 =>
              ifB t128
              (upK Tryd.prog (sCall F_aggregate_Acc_Bytes #[t29]) w22 fun t132 w23 =>
               pureK Tryd.prog (sBin .eql T_string (.tmp 132) (.tmp 133) t132 t103) fun t134 =>
               K t134 w23)
              (K (.bool false) w22))
             (K (.bool false) w20))
            (K (.bool false) w19)))))
        ((.int .i64 0), ()) w9))))))
theorem erratalaw30_AggregateJoins.pt_eq : erratalaw30_AggregateJoins.pt = fun aggs0 l1 deal2 w K => FN Tryd.prog Tryd.f4 (bodyOf Tryd.f4) [6] (.node none .leaf (.node none .leaf (.node none .leaf (.node none .leaf (.node none .leaf (.node none .leaf (.node none .leaf (.node none .leaf (.node none (.node none .leaf (.node none (.node none (.node none .leaf (.node none (.node none (.node none .leaf (.node (some [13]) .leaf (.node (some []) .leaf .leaf))) .leaf) .leaf)) .leaf) .leaf)) .leaf))))))))) [aggs0, l1, deal2] w K := by kernel_rfl
theorem erratalaw30_AggregateJoins.call {aggs0 l1 deal2 : Value} {w : World} {K : Value → World → Prop} (h : erratalaw30_AggregateJoins.pt aggs0 l1 deal2 w K) : Calls Tryd.prog F_erratalaw30_AggregateJoins #[aggs0, l1, deal2] w (retK K) :=
  calls_FN (args := [aggs0, l1, deal2]) Tryd.func4 (by kernel_rfl) (by rw [erratalaw30_AggregateJoins.pt_eq] at h; exact h)
theorem erratalaw30_AggregateJoins.up {aggs0 l1 deal2 : Value} {w : World} {K : Value → World → Prop} (h : Calls Tryd.prog F_erratalaw30_AggregateJoins #[aggs0, l1, deal2] w (retK K)) : upK Tryd.prog (sCall F_erratalaw30_AggregateJoins #[aggs0, l1, deal2]) w K :=
  up_call (fn := Tryd.f4) Tryd.func4 (by kernel_rfl) (by kernel_rfl) h

/-- errata/erratalaw30.small -/
def erratalaw30_small.pt (w : World) (K : Value → World → Prop) : Prop :=
  pureK Tryd.prog (sBuild T_api_Agg #[(0, (.int .i64 0))]) fun t4 =>
  pureK Tryd.prog (sBuild T_api_Agg #[(0, (.int .i64 1))]) fun t5 =>
  pureK Tryd.prog (sBuild T_api_Agg #[(0, (.int .i64 3))]) fun t6 =>
  upK Tryd.prog (sBuildSlice T_s_api_Agg 3 #[(0, t4), (1, t5), (2, t6)]) w fun t7 w1 =>
  upK Tryd.prog (sCall F_aggregate_New #[t7]) w1 fun t8 w2 =>
  pureK Tryd.prog (sBin .eql T_p_aggregate_Acc (.tmp 9) (.const (.pointer none)) t8 (.pointer none)) fun t10 =>
  ifB t10
  (K (.bool false) w2)
  (pureK Tryd.prog (sBuild T_api_Value #[(1, (.int .i64 5))]) fun t12 =>
   upK Tryd.prog (sBuildSlice T_s_api_Value 1 #[(0, t12)]) w2 fun t13 w3 =>
   upK Tryd.prog (sCall F_aggregate_Acc_Add #[t8, t13, (.int .i64 2)]) w3 fun t14 w4 =>
   pureK Tryd.prog (sBuild T_api_Value #[(1, (.int .i64 9))]) fun t16 =>
   upK Tryd.prog (sBuildSlice T_s_api_Value 1 #[(0, t16)]) w4 fun t17 w5 =>
   upK Tryd.prog (sCall F_aggregate_Acc_Add #[t8, t17, (.int .i64 1)]) w5 fun t18 w6 =>
   upK Tryd.prog (sCall F_aggregate_Acc_Result #[t8]) w6 fun t20 w7 =>
   pureK Tryd.prog (sBuild T_api_Value #[(1, (.int .i64 3))]) fun t21 =>
   pureK Tryd.prog (sBuild T_api_Value #[(1, (.int .i64 19))]) fun t22 =>
   pureK Tryd.prog (sBuild T_api_Value #[(1, (.int .i64 9))]) fun t23 =>
   upK Tryd.prog (sBuildSlice T_s_api_Value 3 #[(0, t21), (1, t22), (2, t23)]) w7 fun t24 w8 =>
   upK Tryd.prog (sCall F_errataref03_Same #[t20, t24]) w8 fun t25 w9 =>
   pureK Tryd.prog (sBuild T_api_Value #[(1, (.int .i64 9))]) fun t27 =>
   upK Tryd.prog (sBuildSlice T_s_api_Value 1 #[(0, t27)]) w9 fun t28 w10 =>
   upK Tryd.prog (sCall F_aggregate_Acc_Add #[t8, t28, (.int .i64 (-1))]) w10 fun t29 w11 =>
   upK Tryd.prog (sCall F_aggregate_Acc_Result #[t8]) w11 fun t31 w12 =>
   pureK Tryd.prog (sBuild T_api_Value #[(1, (.int .i64 2))]) fun t32 =>
   pureK Tryd.prog (sBuild T_api_Value #[(1, (.int .i64 10))]) fun t33 =>
   pureK Tryd.prog (sBuild T_api_Value #[(1, (.int .i64 5))]) fun t34 =>
   upK Tryd.prog (sBuildSlice T_s_api_Value 3 #[(0, t32), (1, t33), (2, t34)]) w12 fun t35 w13 =>
   upK Tryd.prog (sCall F_errataref03_Same #[t31, t35]) w13 fun t36 w14 =>
   ifB t36
   (upK Tryd.prog (sCall F_aggregate_Acc_Rows #[t8]) w14 fun t39 w15 =>
    pureK Tryd.prog (sBin .eql T_int (.tmp 39) (.const (.int .i64 1)) t39 (.int .i64 1)) fun t40 =>
    ifB t40
    (upK Tryd.prog (sCall F_aggregate_Acc_Empty #[t8]) w15 fun t44 w16 =>
     pureK Tryd.prog (sUn .not t44) fun t45 =>
     pureK Tryd.prog (sBuild T_api_Value #[(1, (.int .i64 5))]) fun t48 =>
     upK Tryd.prog (sBuildSlice T_s_api_Value 1 #[(0, t48)]) w16 fun t49 w17 =>
     upK Tryd.prog (sCall F_aggregate_Acc_Add #[t8, t49, (.int .i64 (-2))]) w17 fun t50 w18 =>
     ifB t25
     (ifB t45
      (upK Tryd.prog (sCall F_aggregate_Acc_Result #[t8]) w18 fun t57 w19 =>
       pureK Tryd.prog (sBuild T_api_Value #[]) fun t58 =>
       pureK Tryd.prog (sBuild T_api_Value #[]) fun t59 =>
       pureK Tryd.prog (sBuild T_api_Value #[]) fun t60 =>
       upK Tryd.prog (sBuildSlice T_s_api_Value 3 #[(0, t58), (1, t59), (2, t60)]) w19 fun t61 w20 =>
       upK Tryd.prog (sCall F_errataref03_Same #[t57, t61]) w20 fun t62 w21 =>
       ifB t62
       (upK Tryd.prog (sCall F_aggregate_Acc_Empty #[t8]) w21 fun t66 w22 =>
        K t66 w22)
       (K (.bool false) w21))
      (K (.bool false) w18))
     (K (.bool false) w18))
    (pureK Tryd.prog (sBuild T_api_Value #[(1, (.int .i64 5))]) fun t48_1 =>
     upK Tryd.prog (sBuildSlice T_s_api_Value 1 #[(0, t48_1)]) w15 fun t49_1 w23 =>
     upK Tryd.prog (sCall F_aggregate_Acc_Add #[t8, t49_1, (.int .i64 (-2))]) w23 fun t50_1 w24 =>
     ifB t25
     (K (.bool false) w24)
     (K (.bool false) w24)))
   (pureK Tryd.prog (sBuild T_api_Value #[(1, (.int .i64 5))]) fun t48_2 =>
    upK Tryd.prog (sBuildSlice T_s_api_Value 1 #[(0, t48_2)]) w14 fun t49_2 w25 =>
    upK Tryd.prog (sCall F_aggregate_Acc_Add #[t8, t49_2, (.int .i64 (-2))]) w25 fun t50_2 w26 =>
    ifB t25
    (K (.bool false) w26)
    (K (.bool false) w26)))
theorem erratalaw30_small.pt_eq : erratalaw30_small.pt = fun  w K => FN Tryd.prog Tryd.f5 (bodyOf Tryd.f5) [0] .leaf [] w K := by kernel_rfl
theorem erratalaw30_small.call {w : World} {K : Value → World → Prop} (h : erratalaw30_small.pt  w K) : Calls Tryd.prog F_erratalaw30_small #[] w (retK K) :=
  calls_FN (args := []) Tryd.func5 (by kernel_rfl) (by rw [erratalaw30_small.pt_eq] at h; exact h)
theorem erratalaw30_small.up {w : World} {K : Value → World → Prop} (h : Calls Tryd.prog F_erratalaw30_small #[] w (retK K)) : upK Tryd.prog (sCall F_erratalaw30_small #[]) w K :=
  up_call (fn := Tryd.f5) Tryd.func5 (by kernel_rfl) (by kernel_rfl) h

/-- errata/erratalaw30.right -/
def erratalaw30_right.pt (aggs0 : Value) (w : World) (K : Value → World → Prop) : Prop :=
  LOOP (X := Value × Unit) (fun lv1 w1 next1 =>
   readK Tryd.prog (sBlt .len #[T_s_api_Agg] T_int #[false] #[aggs0]) w1 fun t6 =>
   pureK Tryd.prog (sBin .lss T_int (.tmp 4) (.tmp 6) lv1.1 t6) fun t7 =>
   ifB t7
   (pureK Tryd.prog (sIdxAddr T_s_api_Agg aggs0 lv1.1) fun t12 =>
    pureK Tryd.prog (sFieldAddr T_api_Agg t12 0) fun t13 =>
    readK Tryd.prog (sLoad T_int t13) w1 fun t14 =>
    pureK Tryd.prog (sBin .lss T_int (.tmp 14) (.const (.int .i64 0)) t14 (.int .i64 0)) fun t15 =>
    ifB t15
    (K (.bool false) w1)
    (pureK Tryd.prog (sIdxAddr T_s_api_Agg aggs0 lv1.1) fun t19 =>
     pureK Tryd.prog (sFieldAddr T_api_Agg t19 0) fun t20 =>
     readK Tryd.prog (sLoad T_int t20) w1 fun t21 =>
     pureK Tryd.prog (sBin .geq T_int (.tmp 21) (.const (.int .i64 4)) t21 (.int .i64 4)) fun t22 =>
     ifB t22
     (K (.bool false) w1)
     (pureK Tryd.prog (sIdxAddr T_s_api_Agg aggs0 lv1.1) fun t27 =>
      pureK Tryd.prog (sFieldAddr T_api_Agg t27 1) fun t28 =>
      readK Tryd.prog (sLoad T_int t28) w1 fun t29 =>
      pureK Tryd.prog (sBin .lss T_int (.tmp 29) (.const (.int .i64 0)) t29 (.int .i64 0)) fun t30 =>
      ifB t30
      (K (.bool false) w1)
      (pureK Tryd.prog (sBin .add T_int (.tmp 8) (.const (.int .i64 1)) lv1.1 (.int .i64 1)) fun t9 =>
       next1 (t9, ()) w1))))
   (readK Tryd.prog (sBlt .len #[T_s_api_Agg] T_int #[false] #[aggs0]) w1 fun t33 =>
    pureK Tryd.prog (sBin .leq T_int (.tmp 33) (.const (.int .i64 8)) t33 (.int .i64 8)) fun t34 =>
    K t34 w1))
  ((.int .i64 0), ()) w
theorem erratalaw30_right.pt_eq : erratalaw30_right.pt = fun aggs0 w K => FN Tryd.prog Tryd.f6 (bodyOf Tryd.f6) [2] .leaf [aggs0] w K := by kernel_rfl
theorem erratalaw30_right.call {aggs0 : Value} {w : World} {K : Value → World → Prop} (h : erratalaw30_right.pt aggs0 w K) : Calls Tryd.prog F_erratalaw30_right #[aggs0] w (retK K) :=
  calls_FN (args := [aggs0]) Tryd.func6 (by kernel_rfl) (by rw [erratalaw30_right.pt_eq] at h; exact h)
theorem erratalaw30_right.up {aggs0 : Value} {w : World} {K : Value → World → Prop} (h : Calls Tryd.prog F_erratalaw30_right #[aggs0] w (retK K)) : upK Tryd.prog (sCall F_erratalaw30_right #[aggs0]) w K :=
  up_call (fn := Tryd.f6) Tryd.func6 (by kernel_rfl) (by kernel_rfl) h

/-- errata/erratalaw30.few -/
def erratalaw30_few.pt (l0 : Value) (w : World) (K : Value → World → Prop) : Prop :=
  LOOP (X := Value × Unit) (fun lv1 w1 next1 =>
   readK Tryd.prog (sBlt .len #[T_s_erratalaw30_Change] T_int #[false] #[l0]) w1 fun t6 =>
   pureK Tryd.prog (sBin .lss T_int (.tmp 4) (.tmp 6) lv1.1 t6) fun t7 =>
   ifB t7
   (pureK Tryd.prog (sIdxAddr T_s_erratalaw30_Change l0 lv1.1) fun t12 =>
    pureK Tryd.prog (sFieldAddr T_erratalaw30_Change t12 0) fun t13 =>
    readK Tryd.prog (sLoad T_s_api_Value t13) w1 fun t14 =>
    readK Tryd.prog (sBlt .len #[T_s_api_Value] T_int #[false] #[t14]) w1 fun t15 =>
    pureK Tryd.prog (sBin .gtr T_int (.tmp 15) (.const (.int .i64 5)) t15 (.int .i64 5)) fun t16 =>
    ifB t16
    (K (.bool false) w1)
    (pureK Tryd.prog (sIdxAddr T_s_erratalaw30_Change l0 lv1.1) fun t20 =>
     pureK Tryd.prog (sFieldAddr T_erratalaw30_Change t20 0) fun t21 =>
     readK Tryd.prog (sLoad T_s_api_Value t21) w1 fun t22 =>
     upK Tryd.prog (sCall F_errataref03_All #[t22]) w1 fun t23 w2 =>
     pureK Tryd.prog (sUn .not t23) fun t24 =>
     ifB t24
     (K (.bool false) w2)
     (pureK Tryd.prog (sBin .add T_int (.tmp 8) (.const (.int .i64 1)) lv1.1 (.int .i64 1)) fun t9 =>
      next1 (t9, ()) w2)))
   (readK Tryd.prog (sBlt .len #[T_s_erratalaw30_Change] T_int #[false] #[l0]) w1 fun t27 =>
    pureK Tryd.prog (sBin .leq T_int (.tmp 27) (.const (.int .i64 40)) t27 (.int .i64 40)) fun t28 =>
    K t28 w1))
  ((.int .i64 0), ()) w
theorem erratalaw30_few.pt_eq : erratalaw30_few.pt = fun l0 w K => FN Tryd.prog Tryd.f7 (bodyOf Tryd.f7) [2] .leaf [l0] w K := by kernel_rfl
theorem erratalaw30_few.call {l0 : Value} {w : World} {K : Value → World → Prop} (h : erratalaw30_few.pt l0 w K) : Calls Tryd.prog F_erratalaw30_few #[l0] w (retK K) :=
  calls_FN (args := [l0]) Tryd.func7 (by kernel_rfl) (by rw [erratalaw30_few.pt_eq] at h; exact h)
theorem erratalaw30_few.up {l0 : Value} {w : World} {K : Value → World → Prop} (h : Calls Tryd.prog F_erratalaw30_few #[l0] w (retK K)) : upK Tryd.prog (sCall F_erratalaw30_few #[l0]) w K :=
  up_call (fn := Tryd.f7) Tryd.func7 (by kernel_rfl) (by kernel_rfl) h

/-- errata/aggregate.New -/
def aggregate_New.pt (aggs0 : Value) (w : World) (K : Value → World → Prop) : Prop :=
  LETJ (X := Value × Unit) (fun jv1 w1 =>
   readK Tryd.prog (sBlt .len #[T_s_api_Agg] T_int #[false] #[aggs0]) w1 fun t17 =>
   LOOP (X := Value × Unit) (fun lv2 w2 next2 =>
    pureK Tryd.prog (sBin .lss T_int (.tmp 18) (.tmp 17) lv2.1 t17) fun t19 =>
    ifB t19
    (LETJ (X := Unit) (fun jv2 w3 =>
      pureK Tryd.prog (sBin .add T_int (.tmp 18) (.const (.int .i64 1)) lv2.1 (.int .i64 1)) fun t32 =>
      next2 (t32, ()) w3)
     (fun J2 =>
      pureK Tryd.prog (sIdxAddr T_s_api_Agg aggs0 lv2.1) fun t21 =>
      readK Tryd.prog (sLoad T_api_Agg t21) w2 fun t22 =>
      upK Tryd.prog (sAlloc T_api_Agg) w2 fun g5 w4 =>
      upK Tryd.prog (sStore T_api_Agg g5 t22) w4 fun tu w5 =>
      readK Tryd.prog (sLoad T_api_Agg g5) w5 fun t23 =>
      upK Tryd.prog (sCall F_aggregate_ordered #[t23]) w5 fun t24 w6 =>
      ifB t24
      (pureK Tryd.prog (sNil jv1.1) fun t26 =>
       pureK Tryd.prog (sFieldAddr T_aggregate_Acc t26 3) fun t27 =>
       readK Tryd.prog (sLoad T_s_map_api_Value_int t27) w6 fun t28 =>
       upK Tryd.prog (sMkMap T_map_api_Value_int none) w6 fun t30 w7 =>
       pureK Tryd.prog (sIdxAddr T_s_map_api_Value_int t28 lv2.1) fun t31 =>
       upK Tryd.prog (sStore T_map_api_Value_int t31 t30) w7 fun tu_1 w8 =>
       J2 (()) w8)
      (J2 (()) w6)))
    (K jv1.1 w2))
   ((.int .i64 0), ()) w1)
  (fun J1 =>
   readK Tryd.prog (sBlt .len #[T_s_api_Agg] T_int #[false] #[aggs0]) (tick w) fun t9 =>
   readK Tryd.prog (sBlt .len #[T_s_api_Agg] T_int #[false] #[aggs0]) (tick w) fun t12 =>
   ((upK Tryd.prog (sCall F_slices_Clone_s_api_Agg_api_Agg #[aggs0]) (tick w) fun t7 w9 =>
     Is Tryd.prog (sBlt .len #[T_s_api_Agg] T_int #[false] #[aggs0]) t12 w9 ∧ Is Tryd.prog (sBlt .len #[T_s_api_Agg] T_int #[false] #[aggs0]) t9 w9 ∧ ((upK Tryd.prog (sMkSlice T_s_int t9 t9) w9 fun t10 w10 =>
       Is Tryd.prog (sBlt .len #[T_s_api_Agg] T_int #[false] #[aggs0]) t12 w10 ∧ upK Tryd.prog (sMkSlice T_s_map_api_Value_int t12 t12) w10 fun t13 w11 =>
       Is Tryd.prog (sBlt .len #[T_s_api_Agg] T_int #[false] #[aggs0]) t9 w11 ∧ pureK Tryd.prog (sBuild T_aggregate_Acc #[(0, t7), (2, t10), (3, t13)]) fun t14 =>
       upK Tryd.prog (sBox T_aggregate_Acc t14) w11 fun t15 w12 =>
       J1 (t15, ()) w12)
      ∧ (upK Tryd.prog (sMkSlice T_s_map_api_Value_int t12 t12) w9 fun t13_1 w13 =>
       Is Tryd.prog (sBlt .len #[T_s_api_Agg] T_int #[false] #[aggs0]) t9 w13 ∧ upK Tryd.prog (sMkSlice T_s_int t9 t9) w13 fun t10_1 w14 =>
       Is Tryd.prog (sBlt .len #[T_s_api_Agg] T_int #[false] #[aggs0]) t12 w14 ∧ pureK Tryd.prog (sBuild T_aggregate_Acc #[(0, t7), (2, t10_1), (3, t13_1)]) fun t14_1 =>
       upK Tryd.prog (sBox T_aggregate_Acc t14_1) w14 fun t15_1 w15 =>
       J1 (t15_1, ()) w15)))
    ∧ ((upK Tryd.prog (sMkSlice T_s_int t9 t9) (tick w) fun t10_2 w16 =>
      Is Tryd.prog (sBlt .len #[T_s_api_Agg] T_int #[false] #[aggs0]) t12 w16 ∧ ((upK Tryd.prog (sCall F_slices_Clone_s_api_Agg_api_Agg #[aggs0]) w16 fun t7_1 w17 =>
        Is Tryd.prog (sBlt .len #[T_s_api_Agg] T_int #[false] #[aggs0]) t12 w17 ∧ Is Tryd.prog (sBlt .len #[T_s_api_Agg] T_int #[false] #[aggs0]) t9 w17 ∧ upK Tryd.prog (sMkSlice T_s_map_api_Value_int t12 t12) w17 fun t13_2 w18 =>
        Is Tryd.prog (sBlt .len #[T_s_api_Agg] T_int #[false] #[aggs0]) t9 w18 ∧ pureK Tryd.prog (sBuild T_aggregate_Acc #[(0, t7_1), (2, t10_2), (3, t13_2)]) fun t14_2 =>
        upK Tryd.prog (sBox T_aggregate_Acc t14_2) w18 fun t15_2 w19 =>
        J1 (t15_2, ()) w19)
       ∧ (upK Tryd.prog (sMkSlice T_s_map_api_Value_int t12 t12) w16 fun t13_3 w20 =>
        Is Tryd.prog (sBlt .len #[T_s_api_Agg] T_int #[false] #[aggs0]) t9 w20 ∧ upK Tryd.prog (sCall F_slices_Clone_s_api_Agg_api_Agg #[aggs0]) w20 fun t7_2 w21 =>
        Is Tryd.prog (sBlt .len #[T_s_api_Agg] T_int #[false] #[aggs0]) t12 w21 ∧ Is Tryd.prog (sBlt .len #[T_s_api_Agg] T_int #[false] #[aggs0]) t9 w21 ∧ pureK Tryd.prog (sBuild T_aggregate_Acc #[(0, t7_2), (2, t10_2), (3, t13_3)]) fun t14_3 =>
        upK Tryd.prog (sBox T_aggregate_Acc t14_3) w21 fun t15_3 w22 =>
        J1 (t15_3, ()) w22)))
     ∧ (upK Tryd.prog (sMkSlice T_s_map_api_Value_int t12 t12) (tick w) fun t13_4 w23 =>
      Is Tryd.prog (sBlt .len #[T_s_api_Agg] T_int #[false] #[aggs0]) t9 w23 ∧ ((upK Tryd.prog (sCall F_slices_Clone_s_api_Agg_api_Agg #[aggs0]) w23 fun t7_3 w24 =>
        Is Tryd.prog (sBlt .len #[T_s_api_Agg] T_int #[false] #[aggs0]) t12 w24 ∧ Is Tryd.prog (sBlt .len #[T_s_api_Agg] T_int #[false] #[aggs0]) t9 w24 ∧ upK Tryd.prog (sMkSlice T_s_int t9 t9) w24 fun t10_3 w25 =>
        Is Tryd.prog (sBlt .len #[T_s_api_Agg] T_int #[false] #[aggs0]) t12 w25 ∧ pureK Tryd.prog (sBuild T_aggregate_Acc #[(0, t7_3), (2, t10_3), (3, t13_4)]) fun t14_4 =>
        upK Tryd.prog (sBox T_aggregate_Acc t14_4) w25 fun t15_4 w26 =>
        J1 (t15_4, ()) w26)
       ∧ (upK Tryd.prog (sMkSlice T_s_int t9 t9) w23 fun t10_4 w27 =>
        Is Tryd.prog (sBlt .len #[T_s_api_Agg] T_int #[false] #[aggs0]) t12 w27 ∧ upK Tryd.prog (sCall F_slices_Clone_s_api_Agg_api_Agg #[aggs0]) w27 fun t7_4 w28 =>
        Is Tryd.prog (sBlt .len #[T_s_api_Agg] T_int #[false] #[aggs0]) t12 w28 ∧ Is Tryd.prog (sBlt .len #[T_s_api_Agg] T_int #[false] #[aggs0]) t9 w28 ∧ pureK Tryd.prog (sBuild T_aggregate_Acc #[(0, t7_4), (2, t10_4), (3, t13_4)]) fun t14_5 =>
        upK Tryd.prog (sBox T_aggregate_Acc t14_5) w28 fun t15_5 w29 =>
        J1 (t15_5, ()) w29))))))
theorem aggregate_New.pt_eq : aggregate_New.pt = fun aggs0 w K => FN Tryd.prog Tryd.f8 (bodyOf Tryd.f8) [2] (.node none .leaf (.node (some [3]) .leaf (.node none (.node none .leaf (.node none (.node none (.node none .leaf (.node none .leaf (.node (some []) .leaf .leaf))) .leaf) .leaf)) .leaf))) [aggs0] w K := by kernel_rfl
theorem aggregate_New.call {aggs0 : Value} {w : World} {K : Value → World → Prop} (h : aggregate_New.pt aggs0 w K) : Calls Tryd.prog F_aggregate_New #[aggs0] w (retK K) :=
  calls_FN (args := [aggs0]) Tryd.func8 (by kernel_rfl) (by rw [aggregate_New.pt_eq] at h; exact h)
theorem aggregate_New.up {aggs0 : Value} {w : World} {K : Value → World → Prop} (h : Calls Tryd.prog F_aggregate_New #[aggs0] w (retK K)) : upK Tryd.prog (sCall F_aggregate_New #[aggs0]) w K :=
  up_call (fn := Tryd.f8) Tryd.func8 (by kernel_rfl) (by kernel_rfl) h

/-- (*errata/aggregate.Acc).Add -/
def aggregate_Acc_Add.pt (a0 row1 n2 : Value) (w : World) (K : Value → World → Prop) : Prop :=
  pureK Tryd.prog (sNil a0) fun t10 =>
  pureK Tryd.prog (sFieldAddr T_aggregate_Acc t10 1) fun t11 =>
  readK Tryd.prog (sLoad T_int t11) w fun t12 =>
  pureK Tryd.prog (sBin .add T_int (.tmp 12) (.tmp 13) t12 n2) fun t14 =>
  pureK Tryd.prog (sNil a0) fun t15 =>
  pureK Tryd.prog (sFieldAddr T_aggregate_Acc t15 1) fun t16 =>
  upK Tryd.prog (sStore T_int t16 t14) w fun tu w1 =>
  pureK Tryd.prog (sNil a0) fun t18 =>
  pureK Tryd.prog (sFieldAddr T_aggregate_Acc t18 0) fun t19 =>
  readK Tryd.prog (sLoad T_s_api_Agg t19) w1 fun t20 =>
  readK Tryd.prog (sBlt .len #[T_s_api_Agg] T_int #[false] #[t20]) w1 fun t21 =>
  LOOP (X := Value × Unit) (fun lv2 w2 next2 =>
   pureK Tryd.prog (sBin .lss T_int (.tmp 22) (.tmp 21) lv2.1 t21) fun t23 =>
   ifB t23
   (LETJ (X := Unit) (fun jv1 w3 =>
     pureK Tryd.prog (sBin .add T_int (.tmp 22) (.const (.int .i64 1)) lv2.1 (.int .i64 1)) fun t61 =>
     next2 (t61, ()) w3)
    (fun J1 =>
     pureK Tryd.prog (sIdxAddr T_s_api_Agg t20 lv2.1) fun t25 =>
     readK Tryd.prog (sLoad T_api_Agg t25) w2 fun t26 =>
     upK Tryd.prog (sAlloc T_api_Agg) w2 fun g7 w4 =>
     upK Tryd.prog (sStore T_api_Agg g7 t26) w4 fun tu_1 w5 =>
     pureK Tryd.prog (sFieldAddr T_api_Agg g7 1) fun t28 =>
     readK Tryd.prog (sLoad T_int t28) w5 fun t29 =>
     upK Tryd.prog (sCall F_aggregate_at #[row1, t29]) w5 fun t30 w6 =>
     upK Tryd.prog (sAlloc T_api_Value) w6 fun v8 w7 =>
     upK Tryd.prog (sStore T_api_Value v8 t30) w7 fun tu_2 w8 =>
     pureK Tryd.prog (sFieldAddr T_api_Agg g7 0) fun t32 =>
     readK Tryd.prog (sLoad T_int t32) w8 fun t33 =>
     pureK Tryd.prog (sBin .eql T_int (.tmp 33) (.const (.int .i64 1)) t33 (.int .i64 1)) fun t34 =>
     ifB t34
     (pureK Tryd.prog (sNil a0) fun t36 =>
      pureK Tryd.prog (sFieldAddr T_aggregate_Acc t36 2) fun t37 =>
      readK Tryd.prog (sLoad T_s_int t37) (tick w8) fun t38 =>
      pureK Tryd.prog (sIdxAddr T_s_int t38 lv2.1) fun t40 =>
      readK Tryd.prog (sLoad T_int t40) (tick w8) fun t41 =>
      pureK Tryd.prog (sFieldAddr T_api_Value v8 1) fun t43 =>
      readK Tryd.prog (sLoad T_int t43) (tick w8) fun t44 =>
      pureK Tryd.prog (sBin .mul T_int (.tmp 42) (.tmp 44) n2 t44) fun t45 =>
      pureK Tryd.prog (sBin .add T_int (.tmp 41) (.tmp 45) t41 t45) fun t46 =>
      pureK Tryd.prog (sIdxAddr T_s_int t38 lv2.1) fun t47 =>
      upK Tryd.prog (sStore T_int t47 t46) (tick w8) fun tu_3 w9 =>
      J1 (()) w9)
     (readK Tryd.prog (sLoad T_api_Agg g7) w8 fun t49 =>
      upK Tryd.prog (sCall F_aggregate_ordered #[t49]) w8 fun t50 w10 =>
      ifB t50
      (pureK Tryd.prog (sNil a0) fun t52 =>
       pureK Tryd.prog (sFieldAddr T_aggregate_Acc t52 3) fun t53 =>
       readK Tryd.prog (sLoad T_s_map_api_Value_int t53) (tick w10) fun t54 =>
       pureK Tryd.prog (sIdxAddr T_s_map_api_Value_int t54 lv2.1) fun t56 =>
       readK Tryd.prog (sLoad T_map_api_Value_int t56) (tick w10) fun t57 =>
       readK Tryd.prog (sLoad T_api_Value v8) (tick w10) fun t58 =>
       upK Tryd.prog (sCall F_aggregate_put #[t57, t58, n2]) (tick w10) fun t60 w11 =>
       J1 (()) w11)
      (J1 (()) w10))))
   (K (.tuple #[]) w2))
  ((.int .i64 0), ()) w1
theorem aggregate_Acc_Add.pt_eq : aggregate_Acc_Add.pt = fun a0 row1 n2 w K => FN Tryd.prog Tryd.f9 (bodyOf Tryd.f9) [] (.node none .leaf (.node none .leaf (.node none (.node none (.node none .leaf (.node none .leaf (.node (some []) .leaf .leaf))) .leaf) .leaf))) [a0, row1, n2] w K := by kernel_rfl
theorem aggregate_Acc_Add.call {a0 row1 n2 : Value} {w : World} {K : Value → World → Prop} (h : aggregate_Acc_Add.pt a0 row1 n2 w K) : Calls Tryd.prog F_aggregate_Acc_Add #[a0, row1, n2] w (retK K) :=
  calls_FN (args := [a0, row1, n2]) Tryd.func9 (by kernel_rfl) (by rw [aggregate_Acc_Add.pt_eq] at h; exact h)
theorem aggregate_Acc_Add.up {a0 row1 n2 : Value} {w : World} {K : Value → World → Prop} (h : Calls Tryd.prog F_aggregate_Acc_Add #[a0, row1, n2] w (retK K)) : upK Tryd.prog (sCall F_aggregate_Acc_Add #[a0, row1, n2]) w K :=
  up_call (fn := Tryd.f9) Tryd.func9 (by kernel_rfl) (by kernel_rfl) h

/-- (*errata/aggregate.Acc).Result -/
def aggregate_Acc_Result.pt (a0 : Value) (w : World) (K : Value → World → Prop) : Prop :=
  pureK Tryd.prog (sNil a0) fun t7 =>
  pureK Tryd.prog (sFieldAddr T_aggregate_Acc t7 0) fun t8 =>
  readK Tryd.prog (sLoad T_s_api_Agg t8) w fun t9 =>
  readK Tryd.prog (sBlt .len #[T_s_api_Agg] T_int #[false] #[t9]) w fun t10 =>
  LOOP (X := Value × Value × Unit) (fun lv1 w1 next1 =>
   pureK Tryd.prog (sBin .lss T_int (.tmp 11) (.tmp 10) lv1.2.1 t10) fun t12 =>
   ifB t12
   (LETJ (X := Value × Unit) (fun jv1 w2 =>
     pureK Tryd.prog (sBin .add T_int (.tmp 11) (.const (.int .i64 1)) lv1.2.1 (.int .i64 1)) fun t47 =>
     next1 (jv1.1, t47, ()) w2)
    (fun J1 =>
     pureK Tryd.prog (sIdxAddr T_s_api_Agg t9 lv1.2.1) fun t14 =>
     readK Tryd.prog (sLoad T_api_Agg t14) w1 fun t15 =>
     upK Tryd.prog (sAlloc T_api_Agg) w1 fun g5 w3 =>
     upK Tryd.prog (sStore T_api_Agg g5 t15) w3 fun tu w4 =>
     pureK Tryd.prog (sFieldAddr T_api_Agg g5 0) fun t16 =>
     readK Tryd.prog (sLoad T_int t16) w4 fun t17 =>
     pureK Tryd.prog (sBin .eql T_int (.tmp 17) (.const (.int .i64 0)) t17 (.int .i64 0)) fun t25 =>
     ifB t25
     (pureK Tryd.prog (sNil a0) fun t28 =>
      pureK Tryd.prog (sFieldAddr T_aggregate_Acc t28 1) fun t29 =>
      readK Tryd.prog (sLoad T_int t29) w4 fun t30 =>
      upK Tryd.prog (sCall F_value_Int #[t30]) w4 fun t31 w5 =>
      upK Tryd.prog (sBuildSlice T_s_api_Value 1 #[(0, t31)]) w5 fun t32 w6 =>
      upK Tryd.prog (sBlt .append #[T_s_api_Value, T_s_api_Value] T_s_api_Value #[false, false] #[lv1.1, t32]) w6 fun t33 w7 =>
      J1 (t33, ()) w7)
     (pureK Tryd.prog (sBin .eql T_int (.tmp 17) (.const (.int .i64 1)) t17 (.int .i64 1)) fun t35 =>
      ifB t35
      (pureK Tryd.prog (sNil a0) fun t38 =>
       pureK Tryd.prog (sFieldAddr T_aggregate_Acc t38 2) fun t39 =>
       readK Tryd.prog (sLoad T_s_int t39) w4 fun t40 =>
       pureK Tryd.prog (sIdxAddr T_s_int t40 lv1.2.1) fun t42 =>
       readK Tryd.prog (sLoad T_int t42) w4 fun t43 =>
       upK Tryd.prog (sCall F_value_Int #[t43]) w4 fun t44 w8 =>
       upK Tryd.prog (sBuildSlice T_s_api_Value 1 #[(0, t44)]) w8 fun t45 w9 =>
       upK Tryd.prog (sBlt .append #[T_s_api_Value, T_s_api_Value] T_s_api_Value #[false, false] #[lv1.1, t45]) w9 fun t46 w10 =>
       J1 (t46, ()) w10)
      (upK Tryd.prog (sCall F_aggregate_Acc_best #[a0, lv1.2.1]) w4 fun t21 w11 =>
       upK Tryd.prog (sBuildSlice T_s_api_Value 1 #[(0, t21)]) w11 fun t22 w12 =>
       upK Tryd.prog (sBlt .append #[T_s_api_Value, T_s_api_Value] T_s_api_Value #[false, false] #[lv1.1, t22]) w12 fun t23 w13 =>
       J1 (t23, ()) w13))))
   (K lv1.1 w1))
  ((.slice none 0 0), (.int .i64 0), ()) w
theorem aggregate_Acc_Result.pt_eq : aggregate_Acc_Result.pt = fun a0 w K => FN Tryd.prog Tryd.f10 (bodyOf Tryd.f10) [2] (.node none .leaf (.node none .leaf (.node none (.node none .leaf (.node none (.node none (.node none .leaf (.node none .leaf (.node (some [3]) .leaf .leaf))) .leaf) .leaf)) .leaf))) [a0] w K := by kernel_rfl
theorem aggregate_Acc_Result.call {a0 : Value} {w : World} {K : Value → World → Prop} (h : aggregate_Acc_Result.pt a0 w K) : Calls Tryd.prog F_aggregate_Acc_Result #[a0] w (retK K) :=
  calls_FN (args := [a0]) Tryd.func10 (by kernel_rfl) (by rw [aggregate_Acc_Result.pt_eq] at h; exact h)
theorem aggregate_Acc_Result.up {a0 : Value} {w : World} {K : Value → World → Prop} (h : Calls Tryd.prog F_aggregate_Acc_Result #[a0] w (retK K)) : upK Tryd.prog (sCall F_aggregate_Acc_Result #[a0]) w K :=
  up_call (fn := Tryd.f10) Tryd.func10 (by kernel_rfl) (by kernel_rfl) h

/-- errata/errataref03.Compare -/
def errataref03_Compare.pt (a0 b1 : Value) (w : World) (K : Value → World → Prop) : Prop :=
  upK Tryd.prog (sBox T_api_Value a0) w fun a2 w1 =>
  upK Tryd.prog (sBox T_api_Value b1) w1 fun b3 w2 =>
  pureK Tryd.prog (sFieldAddr T_api_Value a2 0) fun t5 =>
  readK Tryd.prog (sLoad T_int t5) w2 fun t6 =>
  pureK Tryd.prog (sFieldAddr T_api_Value b3 0) fun t7 =>
  readK Tryd.prog (sLoad T_int t7) w2 fun t8 =>
  pureK Tryd.prog (sBin .lss T_int (.tmp 6) (.tmp 8) t6 t8) fun t9 =>
  ifB t9
  (K (.int .i64 (-1)) w2)
  (pureK Tryd.prog (sFieldAddr T_api_Value a2 0) fun t10 =>
   readK Tryd.prog (sLoad T_int t10) w2 fun t11 =>
   pureK Tryd.prog (sFieldAddr T_api_Value b3 0) fun t12 =>
   readK Tryd.prog (sLoad T_int t12) w2 fun t13 =>
   pureK Tryd.prog (sBin .gtr T_int (.tmp 11) (.tmp 13) t11 t13) fun t14 =>
   ifB t14
   (K (.int .i64 1) w2)
   (pureK Tryd.prog (sFieldAddr T_api_Value a2 1) fun t15 =>
    readK Tryd.prog (sLoad T_int t15) w2 fun t16 =>
    pureK Tryd.prog (sFieldAddr T_api_Value b3 1) fun t17 =>
    readK Tryd.prog (sLoad T_int t17) w2 fun t18 =>
    pureK Tryd.prog (sBin .lss T_int (.tmp 16) (.tmp 18) t16 t18) fun t19 =>
    ifB t19
    (K (.int .i64 (-1)) w2)
    (pureK Tryd.prog (sFieldAddr T_api_Value a2 1) fun t20 =>
     readK Tryd.prog (sLoad T_int t20) w2 fun t21 =>
     pureK Tryd.prog (sFieldAddr T_api_Value b3 1) fun t22 =>
     readK Tryd.prog (sLoad T_int t22) w2 fun t23 =>
     pureK Tryd.prog (sBin .gtr T_int (.tmp 21) (.tmp 23) t21 t23) fun t24 =>
     ifB t24
     (K (.int .i64 1) w2)
     (pureK Tryd.prog (sFieldAddr T_api_Value a2 2) fun t25 =>
      readK Tryd.prog (sLoad T_string t25) w2 fun t26 =>
      pureK Tryd.prog (sFieldAddr T_api_Value b3 2) fun t27 =>
      readK Tryd.prog (sLoad T_string t27) w2 fun t28 =>
      pureK Tryd.prog (sBin .lss T_string (.tmp 26) (.tmp 28) t26 t28) fun t29 =>
      ifB t29
      (K (.int .i64 (-1)) w2)
      (pureK Tryd.prog (sFieldAddr T_api_Value a2 2) fun t30 =>
       readK Tryd.prog (sLoad T_string t30) w2 fun t31 =>
       pureK Tryd.prog (sFieldAddr T_api_Value b3 2) fun t32 =>
       readK Tryd.prog (sLoad T_string t32) w2 fun t33 =>
       pureK Tryd.prog (sBin .gtr T_string (.tmp 31) (.tmp 33) t31 t33) fun t34 =>
       ifB t34
       (K (.int .i64 1) w2)
       (K (.int .i64 0) w2))))))
theorem errataref03_Compare.pt_eq : errataref03_Compare.pt = fun a0 b1 w K => FN Tryd.prog Tryd.f11 (bodyOf Tryd.f11) [4] .leaf [a0, b1] w K := by kernel_rfl
theorem errataref03_Compare.call {a0 b1 : Value} {w : World} {K : Value → World → Prop} (h : errataref03_Compare.pt a0 b1 w K) : Calls Tryd.prog F_errataref03_Compare #[a0, b1] w (retK K) :=
  calls_FN (args := [a0, b1]) Tryd.func11 (by kernel_rfl) (by rw [errataref03_Compare.pt_eq] at h; exact h)
theorem errataref03_Compare.up {a0 b1 : Value} {w : World} {K : Value → World → Prop} (h : Calls Tryd.prog F_errataref03_Compare #[a0, b1] w (retK K)) : upK Tryd.prog (sCall F_errataref03_Compare #[a0, b1]) w K :=
  up_call (fn := Tryd.f11) Tryd.func11 (by kernel_rfl) (by kernel_rfl) h

/-- errata/erratalaw30.wanted -/
def erratalaw30_wanted.pt (l0 g1 : Value) (w : World) (K : Value → World → Prop) : Prop :=
  upK Tryd.prog (sBox T_api_Agg g1) w fun g3 w1 =>
  upK Tryd.prog (sAlloc T_api_Value) w1 fun t4 w2 =>
  pureK Tryd.prog (sBuild T_api_Value #[]) fun t10 =>
  upK Tryd.prog (sAlloc T_api_Value) w2 fun out5 w3 =>
  upK Tryd.prog (sStore T_api_Value out5 t10) w3 fun tu w4 =>
  LOOP (X := Value × Value × Unit) (fun lv5 w5 next5 =>
   readK Tryd.prog (sBlt .len #[T_s_erratalaw30_Change] T_int #[false] #[l0]) w5 fun t13 =>
   pureK Tryd.prog (sBin .lss T_int (.tmp 11) (.tmp 13) lv5.2.1 t13) fun t14 =>
   ifB t14
   (LETJ (X := Value × Unit) (fun jv1 w6 =>
     pureK Tryd.prog (sBin .add T_int (.tmp 15) (.const (.int .i64 1)) lv5.2.1 (.int .i64 1)) fun t16 =>
     next5 (jv1.1, t16, ()) w6)
    (fun J1 =>
     LETJ (X := Value × Unit) (fun jv2 w7 =>
      pureK Tryd.prog (sFieldAddr T_api_Agg g3 0) fun t25 =>
      readK Tryd.prog (sLoad T_int t25) w7 fun t26 =>
      pureK Tryd.prog (sBin .eql T_int (.tmp 26) (.const (.int .i64 0)) t26 (.int .i64 0)) fun t27 =>
      ifB t27
      (pureK Tryd.prog (sFieldAddr T_api_Value out5 1) fun t28 =>
       readK Tryd.prog (sLoad T_int t28) (tick w7) fun t29 =>
       pureK Tryd.prog (sIdxAddr T_s_erratalaw30_Change l0 lv5.2.1) fun t32 =>
       pureK Tryd.prog (sFieldAddr T_erratalaw30_Change t32 1) fun t33 =>
       readK Tryd.prog (sLoad T_int t33) (tick w7) fun t34 =>
       pureK Tryd.prog (sBin .add T_int (.tmp 29) (.tmp 34) t29 t34) fun t35 =>
       pureK Tryd.prog (sFieldAddr T_api_Value out5 1) fun t36 =>
       upK Tryd.prog (sStore T_int t36 t35) (tick w7) fun tu_1 w8 =>
       J1 (lv5.1, ()) w8)
      (pureK Tryd.prog (sFieldAddr T_api_Agg g3 0) fun t37 =>
       readK Tryd.prog (sLoad T_int t37) w7 fun t38 =>
       pureK Tryd.prog (sBin .eql T_int (.tmp 38) (.const (.int .i64 1)) t38 (.int .i64 1)) fun t39 =>
       ifB t39
       (pureK Tryd.prog (sFieldAddr T_api_Value out5 1) fun t40 =>
        readK Tryd.prog (sLoad T_int t40) (tick w7) fun t41 =>
        pureK Tryd.prog (sIdxAddr T_s_erratalaw30_Change l0 lv5.2.1) fun t44 =>
        pureK Tryd.prog (sFieldAddr T_erratalaw30_Change t44 1) fun t45 =>
        readK Tryd.prog (sLoad T_int t45) (tick w7) fun t46 =>
        pureK Tryd.prog (sFieldAddr T_api_Value jv2.1 1) fun t47 =>
        readK Tryd.prog (sLoad T_int t47) (tick w7) fun t48 =>
        pureK Tryd.prog (sBin .mul T_int (.tmp 46) (.tmp 48) t46 t48) fun t49 =>
        pureK Tryd.prog (sBin .add T_int (.tmp 41) (.tmp 49) t41 t49) fun t50 =>
        pureK Tryd.prog (sFieldAddr T_api_Value out5 1) fun t51 =>
        upK Tryd.prog (sStore T_int t51 t50) (tick w7) fun tu_2 w9 =>
        J1 (lv5.1, ()) w9)
       (pureK Tryd.prog (sFieldAddr T_api_Agg g3 1) fun t54 =>
        readK Tryd.prog (sLoad T_int t54) w7 fun t55 =>
        upK Tryd.prog (sCall F_erratalaw30_often #[l0, lv5.2.1, t55]) w7 fun t56 w10 =>
        pureK Tryd.prog (sBin .gtr T_int (.tmp 56) (.const (.int .i64 0)) t56 (.int .i64 0)) fun t57 =>
        ifB t57
        (readK Tryd.prog (sLoad T_api_Value jv2.1) w10 fun t58 =>
         readK Tryd.prog (sLoad T_api_Value out5) w10 fun t59 =>
         upK Tryd.prog (sCall F_errataref03_Compare #[t58, t59]) w10 fun t60 w11 =>
         LETJ (X := Unit) (fun jv3 w12 =>
          J1 ((.bool true), ()) w12)
         (fun J3 =>
          pureK Tryd.prog (sUn .not lv5.1) fun t62 =>
          ifB t62
          (readK Tryd.prog (sLoad T_api_Value jv2.1) w11 fun t81 =>
           upK Tryd.prog (sStore T_api_Value out5 t81) w11 fun tu_3 w13 =>
           J3 (()) w13)
          (pureK Tryd.prog (sFieldAddr T_api_Agg g3 0) fun t64 =>
           readK Tryd.prog (sLoad T_int t64) w11 fun t65 =>
           pureK Tryd.prog (sBin .eql T_int (.tmp 65) (.const (.int .i64 2)) t65 (.int .i64 2)) fun t66 =>
           ifB t66
           (pureK Tryd.prog (sBin .lss T_int (.tmp 68) (.const (.int .i64 0)) t60 (.int .i64 0)) fun t69 =>
            ifB t69
            (readK Tryd.prog (sLoad T_api_Value jv2.1) w11 fun t81_1 =>
             upK Tryd.prog (sStore T_api_Value out5 t81_1) w11 fun tu_4 w14 =>
             J3 (()) w14)
            (pureK Tryd.prog (sFieldAddr T_api_Agg g3 0) fun t73 =>
             readK Tryd.prog (sLoad T_int t73) w11 fun t74 =>
             pureK Tryd.prog (sBin .eql T_int (.tmp 74) (.const (.int .i64 3)) t74 (.int .i64 3)) fun t75 =>
             ifB t75
             (pureK Tryd.prog (sBin .gtr T_int (.tmp 77) (.const (.int .i64 0)) t60 (.int .i64 0)) fun t78 =>
              ifB t78
              (readK Tryd.prog (sLoad T_api_Value jv2.1) w11 fun t81_2 =>
               upK Tryd.prog (sStore T_api_Value out5 t81_2) w11 fun tu_5 w15 =>
               J3 (()) w15)
              (J3 (()) w11))
             (J3 (()) w11)))
           (pureK Tryd.prog (sFieldAddr T_api_Agg g3 0) fun t73_1 =>
            readK Tryd.prog (sLoad T_int t73_1) w11 fun t74_1 =>
            pureK Tryd.prog (sBin .eql T_int (.tmp 74) (.const (.int .i64 3)) t74_1 (.int .i64 3)) fun t75_1 =>
            ifB t75_1
            (pureK Tryd.prog (sBin .gtr T_int (.tmp 77) (.const (.int .i64 0)) t60 (.int .i64 0)) fun t78_1 =>
             ifB t78_1
             (readK Tryd.prog (sLoad T_api_Value jv2.1) w11 fun t81_3 =>
              upK Tryd.prog (sStore T_api_Value out5 t81_3) w11 fun tu_6 w16 =>
              J3 (()) w16)
             (J3 (()) w11))
            (J3 (()) w11)))))
        (J1 (lv5.1, ()) w10))))
     (fun J2 =>
      pureK Tryd.prog (sIdxAddr T_s_erratalaw30_Change l0 lv5.2.1) fun t19 =>
      pureK Tryd.prog (sFieldAddr T_erratalaw30_Change t19 0) fun t20 =>
      readK Tryd.prog (sLoad T_s_api_Value t20) (tick w5) fun t21 =>
      pureK Tryd.prog (sFieldAddr T_api_Agg g3 1) fun t22 =>
      readK Tryd.prog (sLoad T_int t22) (tick w5) fun t23 =>
      ((upK Tryd.prog (sCall F_errataref30_At #[t21, t23]) (tick w5) fun t24 w17 =>
        upK Tryd.prog (sAlloc T_api_Value) w17 fun v8 w18 =>
        Is Tryd.prog (sLoad T_int t22) t23 w18 ∧ Is Tryd.prog (sLoad T_s_api_Value t20) t21 w18 ∧ upK Tryd.prog (sStore T_api_Value v8 t24) w18 fun tu_7 w19 =>
        J2 (v8, ()) w19)
       ∧ (upK Tryd.prog (sAlloc T_api_Value) (tick w5) fun v8_1 w20 =>
        Is Tryd.prog (sLoad T_int t22) t23 w20 ∧ Is Tryd.prog (sLoad T_s_api_Value t20) t21 w20 ∧ upK Tryd.prog (sCall F_errataref30_At #[t21, t23]) w20 fun t24_1 w21 =>
        upK Tryd.prog (sStore T_api_Value v8_1 t24_1) w21 fun tu_8 w22 =>
        J2 (v8_1, ()) w22)))))
   (readK Tryd.prog (sLoad T_api_Value out5) w5 fun t82 =>
    upK Tryd.prog (sStore T_api_Value t4 t82) w5 fun tu_9 w23 =>
    readV Tryd.prog (do loadVar T_api_Value (← asAddr t4)) w23 fun t4_1 =>
    K t4_1 w23))
  ((.bool false), (.int .i64 0), ()) w4
theorem erratalaw30_wanted.pt_eq : erratalaw30_wanted.pt = fun l0 g1 w K => FN Tryd.prog Tryd.f12 (bodyOf Tryd.f12) [] (.node none .leaf (.node none .leaf (.node none .leaf (.node none (.node none .leaf (.node none (.node none (.node none .leaf (.node (some [6]) (.node none (.node (some [8]) .leaf (.node none .leaf (.node none .leaf (.node none .leaf (.node none .leaf (.node none .leaf (.node none (.node none .leaf (.node (some []) .leaf .leaf)) .leaf))))))) .leaf) .leaf)) .leaf) .leaf)) .leaf)))) [l0, g1] w K := by kernel_rfl
theorem erratalaw30_wanted.call {l0 g1 : Value} {w : World} {K : Value → World → Prop} (h : erratalaw30_wanted.pt l0 g1 w K) : Calls Tryd.prog F_erratalaw30_wanted #[l0, g1] w (retK K) :=
  calls_FN (args := [l0, g1]) Tryd.func12 (by kernel_rfl) (by rw [erratalaw30_wanted.pt_eq] at h; exact h)
theorem erratalaw30_wanted.up {l0 g1 : Value} {w : World} {K : Value → World → Prop} (h : Calls Tryd.prog F_erratalaw30_wanted #[l0, g1] w (retK K)) : upK Tryd.prog (sCall F_erratalaw30_wanted #[l0, g1]) w K :=
  up_call (fn := Tryd.f12) Tryd.func12 (by kernel_rfl) (by kernel_rfl) h

/-- errata/erratalaw30.first -/
def erratalaw30_first.pt (l0 k1 : Value) (w : World) (K : Value → World → Prop) : Prop :=
  LOOP (X := Value × Unit) (fun lv1 w1 next1 =>
   pureK Tryd.prog (sBin .lss T_int (.tmp 6) (.tmp 7) lv1.1 k1) fun t8 =>
   ifB t8
   (pureK Tryd.prog (sIdxAddr T_s_erratalaw30_Change l0 lv1.1) fun t13 =>
    pureK Tryd.prog (sFieldAddr T_erratalaw30_Change t13 0) fun t14 =>
    readK Tryd.prog (sLoad T_s_api_Value t14) (tick w1) fun t15 =>
    pureK Tryd.prog (sIdxAddr T_s_erratalaw30_Change l0 k1) fun t18 =>
    pureK Tryd.prog (sFieldAddr T_erratalaw30_Change t18 0) fun t19 =>
    readK Tryd.prog (sLoad T_s_api_Value t19) (tick w1) fun t20 =>
    upK Tryd.prog (sCall F_errataref03_Same #[t15, t20]) (tick w1) fun t21 w2 =>
    ifB t21
    (K (.bool false) w2)
    (pureK Tryd.prog (sBin .add T_int (.tmp 9) (.const (.int .i64 1)) lv1.1 (.int .i64 1)) fun t10 =>
     next1 (t10, ()) w2))
   (K (.bool true) w1))
  ((.int .i64 0), ()) w
theorem erratalaw30_first.pt_eq : erratalaw30_first.pt = fun l0 k1 w K => FN Tryd.prog Tryd.f13 (bodyOf Tryd.f13) [4] .leaf [l0, k1] w K := by kernel_rfl
theorem erratalaw30_first.call {l0 k1 : Value} {w : World} {K : Value → World → Prop} (h : erratalaw30_first.pt l0 k1 w K) : Calls Tryd.prog F_erratalaw30_first #[l0, k1] w (retK K) :=
  calls_FN (args := [l0, k1]) Tryd.func13 (by kernel_rfl) (by rw [erratalaw30_first.pt_eq] at h; exact h)
theorem erratalaw30_first.up {l0 k1 : Value} {w : World} {K : Value → World → Prop} (h : Calls Tryd.prog F_erratalaw30_first #[l0, k1] w (retK K)) : upK Tryd.prog (sCall F_erratalaw30_first #[l0, k1]) w K :=
  up_call (fn := Tryd.f13) Tryd.func13 (by kernel_rfl) (by kernel_rfl) h

/-- errata/erratalaw30.net -/
def erratalaw30_net.pt (l0 row1 : Value) (w : World) (K : Value → World → Prop) : Prop :=
  LOOP (X := Value × Value × Unit) (fun lv1 w1 next1 =>
   readK Tryd.prog (sBlt .len #[T_s_erratalaw30_Change] T_int #[false] #[l0]) w1 fun t9 =>
   pureK Tryd.prog (sBin .lss T_int (.tmp 7) (.tmp 9) lv1.2.1 t9) fun t10 =>
   ifB t10
   (LETJ (X := Value × Unit) (fun jv1 w2 =>
     pureK Tryd.prog (sBin .add T_int (.tmp 11) (.const (.int .i64 1)) lv1.2.1 (.int .i64 1)) fun t12 =>
     next1 (jv1.1, t12, ()) w2)
    (fun J1 =>
     pureK Tryd.prog (sIdxAddr T_s_erratalaw30_Change l0 lv1.2.1) fun t15 =>
     pureK Tryd.prog (sFieldAddr T_erratalaw30_Change t15 0) fun t16 =>
     readK Tryd.prog (sLoad T_s_api_Value t16) w1 fun t17 =>
     upK Tryd.prog (sCall F_errataref03_Same #[t17, row1]) w1 fun t19 w3 =>
     ifB t19
     (pureK Tryd.prog (sIdxAddr T_s_erratalaw30_Change l0 lv1.2.1) fun t23 =>
      pureK Tryd.prog (sFieldAddr T_erratalaw30_Change t23 1) fun t24 =>
      readK Tryd.prog (sLoad T_int t24) w3 fun t25 =>
      pureK Tryd.prog (sBin .add T_int (.tmp 20) (.tmp 25) lv1.1 t25) fun t26 =>
      J1 (t26, ()) w3)
     (J1 (lv1.1, ()) w3)))
   (K lv1.1 w1))
  ((.int .i64 0), (.int .i64 0), ()) w
theorem erratalaw30_net.pt_eq : erratalaw30_net.pt = fun l0 row1 w K => FN Tryd.prog Tryd.f14 (bodyOf Tryd.f14) [4] (.node none .leaf (.node none .leaf (.node none (.node none .leaf (.node none (.node none (.node none .leaf (.node (some [5]) .leaf .leaf)) .leaf) .leaf)) .leaf))) [l0, row1] w K := by kernel_rfl
theorem erratalaw30_net.call {l0 row1 : Value} {w : World} {K : Value → World → Prop} (h : erratalaw30_net.pt l0 row1 w K) : Calls Tryd.prog F_erratalaw30_net #[l0, row1] w (retK K) :=
  calls_FN (args := [l0, row1]) Tryd.func14 (by kernel_rfl) (by rw [erratalaw30_net.pt_eq] at h; exact h)
theorem erratalaw30_net.up {l0 row1 : Value} {w : World} {K : Value → World → Prop} (h : Calls Tryd.prog F_erratalaw30_net #[l0, row1] w (retK K)) : upK Tryd.prog (sCall F_erratalaw30_net #[l0, row1]) w K :=
  up_call (fn := Tryd.f14) Tryd.func14 (by kernel_rfl) (by kernel_rfl) h

/-- (*errata/aggregate.Acc).Bytes -/
def aggregate_Acc_Bytes.pt (a0 : Value) (w : World) (K : Value → World → Prop) : Prop :=
  upK Tryd.prog (sAlloc T_strings_Builder) w fun b3 w1 =>
  pureK Tryd.prog (sNil a0) fun t9 =>
  pureK Tryd.prog (sFieldAddr T_aggregate_Acc t9 1) fun t10 =>
  readK Tryd.prog (sLoad T_int t10) w1 fun t11 =>
  upK Tryd.prog (sCall F_wire_Int #[t11]) w1 fun t12 w2 =>
  upK Tryd.prog (sCall F_strings_Builder_WriteString #[b3, t12]) w2 fun t13 w3 =>
  pureK Tryd.prog (sNil a0) fun t15 =>
  pureK Tryd.prog (sFieldAddr T_aggregate_Acc t15 0) fun t16 =>
  readK Tryd.prog (sLoad T_s_api_Agg t16) w3 fun t17 =>
  readK Tryd.prog (sBlt .len #[T_s_api_Agg] T_int #[false] #[t17]) w3 fun t18 =>
  LOOP (X := Value × Unit) (fun lv4 w4 next4 =>
   pureK Tryd.prog (sBin .lss T_int (.tmp 19) (.tmp 18) lv4.1 t18) fun t20 =>
   ifB t20
   (LETJ (X := Unit) (fun jv1 w5 =>
     pureK Tryd.prog (sBin .add T_int (.tmp 19) (.const (.int .i64 1)) lv4.1 (.int .i64 1)) fun t73 =>
     next4 (t73, ()) w5)
    (fun J1 =>
     pureK Tryd.prog (sIdxAddr T_s_api_Agg t17 lv4.1) fun t22 =>
     readK Tryd.prog (sLoad T_api_Agg t22) w4 fun t23 =>
     upK Tryd.prog (sAlloc T_api_Agg) w4 fun g5 w6 =>
     upK Tryd.prog (sStore T_api_Agg g5 t23) w6 fun tu w7 =>
     LETJ (X := Unit) (fun jv2 w8 =>
      readK Tryd.prog (sLoad T_api_Agg g5) w8 fun t36 =>
      upK Tryd.prog (sCall F_aggregate_ordered #[t36]) w8 fun t37 w9 =>
      pureK Tryd.prog (sUn .not t37) fun t38 =>
      ifB t38
      (J1 (()) w9)
      (pureK Tryd.prog (sNil a0) fun t40 =>
       pureK Tryd.prog (sFieldAddr T_aggregate_Acc t40 3) fun t41 =>
       readK Tryd.prog (sLoad T_s_map_api_Value_int t41) w9 fun t42 =>
       pureK Tryd.prog (sIdxAddr T_s_map_api_Value_int t42 lv4.1) fun t44 =>
       readK Tryd.prog (sLoad T_map_api_Value_int t44) w9 fun t45 =>
       readK Tryd.prog (sBlt .len #[T_map_api_Value_int] T_int #[false] #[t45]) w9 fun t46 =>
       upK Tryd.prog (sCall F_wire_Num #[t46]) w9 fun t47 w10 =>
       upK Tryd.prog (sCall F_strings_Builder_WriteString #[b3, t47]) w10 fun t48 w11 =>
       upK Tryd.prog (sCall F_aggregate_Acc_sorted #[a0, lv4.1]) w11 fun t51 w12 =>
       readK Tryd.prog (sBlt .len #[T_s_api_Value] T_int #[false] #[t51]) w12 fun t52 =>
       LOOP (X := Value × Unit) (fun lv13 w13 next13 =>
        pureK Tryd.prog (sBin .lss T_int (.tmp 53) (.tmp 52) lv13.1 t52) fun t54 =>
        ifB t54
        (pureK Tryd.prog (sIdxAddr T_s_api_Value t51 lv13.1) fun t55 =>
         readK Tryd.prog (sLoad T_api_Value t55) w13 fun t56 =>
         upK Tryd.prog (sAlloc T_api_Value) w13 fun v7 w14 =>
         upK Tryd.prog (sStore T_api_Value v7 t56) w14 fun tu_1 w15 =>
         readK Tryd.prog (sLoad T_api_Value v7) (tick w15) fun t57 =>
         pureK Tryd.prog (sNil a0) fun t61 =>
         pureK Tryd.prog (sFieldAddr T_aggregate_Acc t61 3) fun t62 =>
         readK Tryd.prog (sLoad T_s_map_api_Value_int t62) (tick w15) fun t63 =>
         pureK Tryd.prog (sIdxAddr T_s_map_api_Value_int t63 lv4.1) fun t65 =>
         readK Tryd.prog (sLoad T_map_api_Value_int t65) (tick w15) fun t66 =>
         readK Tryd.prog (sLoad T_api_Value v7) (tick w15) fun t67 =>
         readK Tryd.prog (sLookup T_map_api_Value_int t66 t67 false) (tick w15) fun t68 =>
         upK Tryd.prog (sCall F_value_Bytes #[t57]) (tick w15) fun t58 w16 =>
         Is Tryd.prog (sLookup T_map_api_Value_int t66 t67 false) t68 w16 ∧ Is Tryd.prog (sLoad T_api_Value v7) t67 w16 ∧ Is Tryd.prog (sLoad T_map_api_Value_int t65) t66 w16 ∧ Is Tryd.prog (sLoad T_s_map_api_Value_int t62) t63 w16 ∧ upK Tryd.prog (sCall F_wire_Text #[t58]) w16 fun t59 w17 =>
         Is Tryd.prog (sLookup T_map_api_Value_int t66 t67 false) t68 w17 ∧ Is Tryd.prog (sLoad T_api_Value v7) t67 w17 ∧ Is Tryd.prog (sLoad T_map_api_Value_int t65) t66 w17 ∧ Is Tryd.prog (sLoad T_s_map_api_Value_int t62) t63 w17 ∧ upK Tryd.prog (sCall F_wire_Int #[t68]) w17 fun t69 w18 =>
         pureK Tryd.prog (sBin .add T_string (.tmp 59) (.tmp 69) t59 t69) fun t70 =>
         upK Tryd.prog (sCall F_strings_Builder_WriteString #[b3, t70]) w18 fun t71 w19 =>
         pureK Tryd.prog (sBin .add T_int (.tmp 53) (.const (.int .i64 1)) lv13.1 (.int .i64 1)) fun t72 =>
         next13 (t72, ()) w19)
        (J1 (()) w13))
       ((.int .i64 0), ()) w12))
     (fun J2 =>
      pureK Tryd.prog (sFieldAddr T_api_Agg g5 0) fun t24 =>
      readK Tryd.prog (sLoad T_int t24) w7 fun t25 =>
      pureK Tryd.prog (sBin .eql T_int (.tmp 25) (.const (.int .i64 1)) t25 (.int .i64 1)) fun t26 =>
      ifB t26
      (pureK Tryd.prog (sNil a0) fun t28 =>
       pureK Tryd.prog (sFieldAddr T_aggregate_Acc t28 2) fun t29 =>
       readK Tryd.prog (sLoad T_s_int t29) w7 fun t30 =>
       pureK Tryd.prog (sIdxAddr T_s_int t30 lv4.1) fun t32 =>
       readK Tryd.prog (sLoad T_int t32) w7 fun t33 =>
       upK Tryd.prog (sCall F_wire_Int #[t33]) w7 fun t34 w20 =>
       upK Tryd.prog (sCall F_strings_Builder_WriteString #[b3, t34]) w20 fun t35 w21 =>
       J2 (()) w21)
      (J2 (()) w7))))
   (upK Tryd.prog (sCall F_strings_Builder_String #[b3]) w4 fun t74 w22 =>
    K t74 w22))
  ((.int .i64 0), ()) w3
theorem aggregate_Acc_Bytes.pt_eq : aggregate_Acc_Bytes.pt = fun a0 w K => FN Tryd.prog Tryd.f15 (bodyOf Tryd.f15) [2] (.node none .leaf (.node none .leaf (.node none .leaf (.node none (.node none .leaf (.node none (.node none (.node none .leaf (.node none .leaf (.node (some []) (.node none (.node none .leaf (.node (some []) .leaf .leaf)) .leaf) .leaf))) .leaf) .leaf)) .leaf)))) [a0] w K := by kernel_rfl
theorem aggregate_Acc_Bytes.call {a0 : Value} {w : World} {K : Value → World → Prop} (h : aggregate_Acc_Bytes.pt a0 w K) : Calls Tryd.prog F_aggregate_Acc_Bytes #[a0] w (retK K) :=
  calls_FN (args := [a0]) Tryd.func15 (by kernel_rfl) (by rw [aggregate_Acc_Bytes.pt_eq] at h; exact h)
theorem aggregate_Acc_Bytes.up {a0 : Value} {w : World} {K : Value → World → Prop} (h : Calls Tryd.prog F_aggregate_Acc_Bytes #[a0] w (retK K)) : upK Tryd.prog (sCall F_aggregate_Acc_Bytes #[a0]) w K :=
  up_call (fn := Tryd.f15) Tryd.func15 (by kernel_rfl) (by kernel_rfl) h

/-- errata/errataref03.Same -/
def errataref03_Same.pt (a0 b1 : Value) (w : World) (K : Value → World → Prop) : Prop :=
  upK Tryd.prog (sCall F_errataref03_CompareRows #[a0, b1]) w fun t7 w1 =>
  pureK Tryd.prog (sBin .eql T_int (.tmp 7) (.const (.int .i64 0)) t7 (.int .i64 0)) fun t8 =>
  K t8 w1
theorem errataref03_Same.pt_eq : errataref03_Same.pt = fun a0 b1 w K => FN Tryd.prog Tryd.f16 (bodyOf Tryd.f16) [4] .leaf [a0, b1] w K := by kernel_rfl
theorem errataref03_Same.call {a0 b1 : Value} {w : World} {K : Value → World → Prop} (h : errataref03_Same.pt a0 b1 w K) : Calls Tryd.prog F_errataref03_Same #[a0, b1] w (retK K) :=
  calls_FN (args := [a0, b1]) Tryd.func16 (by kernel_rfl) (by rw [errataref03_Same.pt_eq] at h; exact h)
theorem errataref03_Same.up {a0 b1 : Value} {w : World} {K : Value → World → Prop} (h : Calls Tryd.prog F_errataref03_Same #[a0, b1] w (retK K)) : upK Tryd.prog (sCall F_errataref03_Same #[a0, b1]) w K :=
  up_call (fn := Tryd.f16) Tryd.func16 (by kernel_rfl) (by kernel_rfl) h

/-- (*errata/aggregate.Acc).Empty -/
def aggregate_Acc_Empty.pt (a0 : Value) (w : World) (K : Value → World → Prop) : Prop :=
  pureK Tryd.prog (sNil a0) fun t4 =>
  pureK Tryd.prog (sFieldAddr T_aggregate_Acc t4 1) fun t5 =>
  readK Tryd.prog (sLoad T_int t5) w fun t6 =>
  pureK Tryd.prog (sBin .eql T_int (.tmp 6) (.const (.int .i64 0)) t6 (.int .i64 0)) fun t7 =>
  ifB t7
  (upK Tryd.prog (sCall F_aggregate_Acc_Rows #[a0]) w fun t10 w1 =>
   pureK Tryd.prog (sBin .eql T_int (.tmp 10) (.const (.int .i64 0)) t10 (.int .i64 0)) fun t11 =>
   ifB t11
   (pureK Tryd.prog (sNil a0) fun t15 =>
    pureK Tryd.prog (sFieldAddr T_aggregate_Acc t15 2) fun t16 =>
    readK Tryd.prog (sLoad T_s_int t16) w1 fun t17 =>
    upK Tryd.prog (sCall F_slices_ContainsFunc_s_int_int #[t17, (.func (.func 39) #[] #[])]) w1 fun t18 w2 =>
    pureK Tryd.prog (sUn .not t18) fun t19 =>
    K t19 w2)
   (K (.bool false) w1))
  (K (.bool false) w)
theorem aggregate_Acc_Empty.pt_eq : aggregate_Acc_Empty.pt = fun a0 w K => FN Tryd.prog Tryd.f17 (bodyOf Tryd.f17) [2] .leaf [a0] w K := by kernel_rfl
theorem aggregate_Acc_Empty.call {a0 : Value} {w : World} {K : Value → World → Prop} (h : aggregate_Acc_Empty.pt a0 w K) : Calls Tryd.prog F_aggregate_Acc_Empty #[a0] w (retK K) :=
  calls_FN (args := [a0]) Tryd.func17 (by kernel_rfl) (by rw [aggregate_Acc_Empty.pt_eq] at h; exact h)
theorem aggregate_Acc_Empty.up {a0 : Value} {w : World} {K : Value → World → Prop} (h : Calls Tryd.prog F_aggregate_Acc_Empty #[a0] w (retK K)) : upK Tryd.prog (sCall F_aggregate_Acc_Empty #[a0]) w K :=
  up_call (fn := Tryd.f17) Tryd.func17 (by kernel_rfl) (by kernel_rfl) h

/-- (*errata/aggregate.Acc).Count -/
def aggregate_Acc_Count.pt (a0 : Value) (w : World) (K : Value → World → Prop) : Prop :=
  pureK Tryd.prog (sNil a0) fun t4 =>
  pureK Tryd.prog (sFieldAddr T_aggregate_Acc t4 1) fun t5 =>
  readK Tryd.prog (sLoad T_int t5) w fun t6 =>
  K t6 w
theorem aggregate_Acc_Count.pt_eq : aggregate_Acc_Count.pt = fun a0 w K => FN Tryd.prog Tryd.f18 (bodyOf Tryd.f18) [2] .leaf [a0] w K := by kernel_rfl
theorem aggregate_Acc_Count.call {a0 : Value} {w : World} {K : Value → World → Prop} (h : aggregate_Acc_Count.pt a0 w K) : Calls Tryd.prog F_aggregate_Acc_Count #[a0] w (retK K) :=
  calls_FN (args := [a0]) Tryd.func18 (by kernel_rfl) (by rw [aggregate_Acc_Count.pt_eq] at h; exact h)
theorem aggregate_Acc_Count.up {a0 : Value} {w : World} {K : Value → World → Prop} (h : Calls Tryd.prog F_aggregate_Acc_Count #[a0] w (retK K)) : upK Tryd.prog (sCall F_aggregate_Acc_Count #[a0]) w K :=
  up_call (fn := Tryd.f18) Tryd.func18 (by kernel_rfl) (by kernel_rfl) h

/-- (*errata/aggregate.Acc).Rows -/
def aggregate_Acc_Rows.pt (a0 : Value) (w : World) (K : Value → World → Prop) : Prop :=
  pureK Tryd.prog (sNil a0) fun t7 =>
  pureK Tryd.prog (sFieldAddr T_aggregate_Acc t7 3) fun t8 =>
  readK Tryd.prog (sLoad T_s_map_api_Value_int t8) w fun t9 =>
  readK Tryd.prog (sBlt .len #[T_s_map_api_Value_int] T_int #[false] #[t9]) w fun t10 =>
  LOOP (X := Value × Value × Unit) (fun lv1 w1 next1 =>
   pureK Tryd.prog (sBin .lss T_int (.tmp 11) (.tmp 10) lv1.2.1 t10) fun t12 =>
   ifB t12
   (pureK Tryd.prog (sIdxAddr T_s_map_api_Value_int t9 lv1.2.1) fun t13 =>
    readK Tryd.prog (sLoad T_map_api_Value_int t13) w1 fun t14 =>
    readK Tryd.prog (sBlt .len #[T_map_api_Value_int] T_int #[false] #[t14]) w1 fun t17 =>
    pureK Tryd.prog (sBin .add T_int (.tmp 15) (.tmp 17) lv1.1 t17) fun t18 =>
    pureK Tryd.prog (sBin .add T_int (.tmp 11) (.const (.int .i64 1)) lv1.2.1 (.int .i64 1)) fun t19 =>
    next1 (t18, t19, ()) w1)
   (K lv1.1 w1))
  ((.int .i64 0), (.int .i64 0), ()) w
theorem aggregate_Acc_Rows.pt_eq : aggregate_Acc_Rows.pt = fun a0 w K => FN Tryd.prog Tryd.f19 (bodyOf Tryd.f19) [2] .leaf [a0] w K := by kernel_rfl
theorem aggregate_Acc_Rows.call {a0 : Value} {w : World} {K : Value → World → Prop} (h : aggregate_Acc_Rows.pt a0 w K) : Calls Tryd.prog F_aggregate_Acc_Rows #[a0] w (retK K) :=
  calls_FN (args := [a0]) Tryd.func19 (by kernel_rfl) (by rw [aggregate_Acc_Rows.pt_eq] at h; exact h)
theorem aggregate_Acc_Rows.up {a0 : Value} {w : World} {K : Value → World → Prop} (h : Calls Tryd.prog F_aggregate_Acc_Rows #[a0] w (retK K)) : upK Tryd.prog (sCall F_aggregate_Acc_Rows #[a0]) w K :=
  up_call (fn := Tryd.f19) Tryd.func19 (by kernel_rfl) (by kernel_rfl) h

/-- (*errata/aggregate.Acc).Merge -/
def aggregate_Acc_Merge.pt (a0 b1 : Value) (w : World) (K : Value → World → Prop) : Prop :=
  pureK Tryd.prog (sNil a0) fun t9 =>
  pureK Tryd.prog (sFieldAddr T_aggregate_Acc t9 0) fun t10 =>
  readK Tryd.prog (sLoad T_s_api_Agg t10) (tick w) fun t11 =>
  pureK Tryd.prog (sNil b1) fun t13 =>
  pureK Tryd.prog (sFieldAddr T_aggregate_Acc t13 0) fun t14 =>
  readK Tryd.prog (sLoad T_s_api_Agg t14) (tick w) fun t15 =>
  upK Tryd.prog (sCall F_slices_EqualFunc_s_api_Agg_s_api_Agg_api_Agg_api_Agg #[t11, t15, (.func (.func 41) #[] #[])]) (tick w) fun t16 w1 =>
  pureK Tryd.prog (sUn .not t16) fun t17 =>
  ifB t17
  (K (.int .i64 1) w1)
  (pureK Tryd.prog (sNil a0) fun t19 =>
   pureK Tryd.prog (sFieldAddr T_aggregate_Acc t19 1) fun t20 =>
   readK Tryd.prog (sLoad T_int t20) (tick w1) fun t21 =>
   pureK Tryd.prog (sNil b1) fun t23 =>
   pureK Tryd.prog (sFieldAddr T_aggregate_Acc t23 1) fun t24 =>
   readK Tryd.prog (sLoad T_int t24) (tick w1) fun t25 =>
   pureK Tryd.prog (sBin .add T_int (.tmp 21) (.tmp 25) t21 t25) fun t26 =>
   pureK Tryd.prog (sNil a0) fun t27 =>
   pureK Tryd.prog (sFieldAddr T_aggregate_Acc t27 1) fun t28 =>
   upK Tryd.prog (sStore T_int t28 t26) (tick w1) fun tu w2 =>
   pureK Tryd.prog (sNil a0) fun t30 =>
   pureK Tryd.prog (sFieldAddr T_aggregate_Acc t30 0) fun t31 =>
   readK Tryd.prog (sLoad T_s_api_Agg t31) w2 fun t32 =>
   readK Tryd.prog (sBlt .len #[T_s_api_Agg] T_int #[false] #[t32]) w2 fun t33 =>
   LOOP (X := Value × Unit) (fun lv3 w3 next3 =>
    pureK Tryd.prog (sBin .lss T_int (.tmp 34) (.tmp 33) lv3.1 t33) fun t35 =>
    ifB t35
    (LETJ (X := Unit) (fun jv1 w4 =>
      pureK Tryd.prog (sBin .add T_int (.tmp 34) (.const (.int .i64 1)) lv3.1 (.int .i64 1)) fun t77 =>
      next3 (t77, ()) w4)
     (fun J1 =>
      pureK Tryd.prog (sNil a0) fun t38 =>
      pureK Tryd.prog (sFieldAddr T_aggregate_Acc t38 2) fun t39 =>
      readK Tryd.prog (sLoad T_s_int t39) (tick w3) fun t40 =>
      pureK Tryd.prog (sIdxAddr T_s_int t40 lv3.1) fun t42 =>
      readK Tryd.prog (sLoad T_int t42) (tick w3) fun t43 =>
      pureK Tryd.prog (sNil b1) fun t45 =>
      pureK Tryd.prog (sFieldAddr T_aggregate_Acc t45 2) fun t46 =>
      readK Tryd.prog (sLoad T_s_int t46) (tick w3) fun t47 =>
      pureK Tryd.prog (sIdxAddr T_s_int t47 lv3.1) fun t49 =>
      readK Tryd.prog (sLoad T_int t49) (tick w3) fun t50 =>
      pureK Tryd.prog (sBin .add T_int (.tmp 43) (.tmp 50) t43 t50) fun t51 =>
      pureK Tryd.prog (sIdxAddr T_s_int t40 lv3.1) fun t52 =>
      upK Tryd.prog (sStore T_int t52 t51) (tick w3) fun tu_1 w5 =>
      pureK Tryd.prog (sNil b1) fun t54 =>
      pureK Tryd.prog (sFieldAddr T_aggregate_Acc t54 3) fun t55 =>
      readK Tryd.prog (sLoad T_s_map_api_Value_int t55) w5 fun t56 =>
      pureK Tryd.prog (sIdxAddr T_s_map_api_Value_int t56 lv3.1) fun t58 =>
      readK Tryd.prog (sLoad T_map_api_Value_int t58) w5 fun t59 =>
      upK Tryd.prog (sCall F_maps_Clone_map_api_Value_int_api_Value_int #[t59]) w5 fun t60 w6 =>
      upK Tryd.prog (sRange T_map_api_Value_int t60) w6 fun t61 w7 =>
      LOOP (X := Unit) (fun lv8 w8 next8 =>
       upK Tryd.prog (sNext t61 false T_) w8 fun t62 w9 =>
       pureK Tryd.prog (sExtract t62 0) fun t63 =>
       ifB t63
       (upK Tryd.prog (sEntry t61) w9 fun t64 w10 =>
        pureK Tryd.prog (sExtract t64 0) fun t65 =>
        pureK Tryd.prog (sExtract t64 1) fun t66 =>
        upK Tryd.prog (sAlloc T_api_Value) w10 fun v6 w11 =>
        upK Tryd.prog (sStore T_api_Value v6 t65) w11 fun tu_2 w12 =>
        pureK Tryd.prog (sNil a0) fun t68 =>
        pureK Tryd.prog (sFieldAddr T_aggregate_Acc t68 3) fun t69 =>
        readK Tryd.prog (sLoad T_s_map_api_Value_int t69) (tick w12) fun t70 =>
        pureK Tryd.prog (sIdxAddr T_s_map_api_Value_int t70 lv3.1) fun t72 =>
        readK Tryd.prog (sLoad T_map_api_Value_int t72) (tick w12) fun t73 =>
        readK Tryd.prog (sLoad T_api_Value v6) (tick w12) fun t74 =>
        upK Tryd.prog (sCall F_aggregate_put #[t73, t74, t66]) (tick w12) fun t76 w13 =>
        next8 (()) w13)
       (J1 (()) w9))
      (()) w7))
    (K (.int .i64 0) w3))
   ((.int .i64 0), ()) w2)
theorem aggregate_Acc_Merge.pt_eq : aggregate_Acc_Merge.pt = fun a0 b1 w K => FN Tryd.prog Tryd.f20 (bodyOf Tryd.f20) [4] (.node none .leaf (.node none .leaf (.node none .leaf (.node none (.node none .leaf (.node none (.node none (.node none .leaf (.node none .leaf (.node (some []) .leaf .leaf))) .leaf) .leaf)) .leaf)))) [a0, b1] w K := by kernel_rfl
theorem aggregate_Acc_Merge.call {a0 b1 : Value} {w : World} {K : Value → World → Prop} (h : aggregate_Acc_Merge.pt a0 b1 w K) : Calls Tryd.prog F_aggregate_Acc_Merge #[a0, b1] w (retK K) :=
  calls_FN (args := [a0, b1]) Tryd.func20 (by kernel_rfl) (by rw [aggregate_Acc_Merge.pt_eq] at h; exact h)
theorem aggregate_Acc_Merge.up {a0 b1 : Value} {w : World} {K : Value → World → Prop} (h : Calls Tryd.prog F_aggregate_Acc_Merge #[a0, b1] w (retK K)) : upK Tryd.prog (sCall F_aggregate_Acc_Merge #[a0, b1]) w K :=
  up_call (fn := Tryd.f20) Tryd.func20 (by kernel_rfl) (by kernel_rfl) h

/-- errata/errataref03.All -/
def errataref03_All.pt (r0 : Value) (w : World) (K : Value → World → Prop) : Prop :=
  LOOP (X := Value × Unit) (fun lv1 w1 next1 =>
   readK Tryd.prog (sBlt .len #[T_s_api_Value] T_int #[false] #[r0]) w1 fun t6 =>
   pureK Tryd.prog (sBin .lss T_int (.tmp 4) (.tmp 6) lv1.1 t6) fun t7 =>
   ifB t7
   (pureK Tryd.prog (sIdxAddr T_s_api_Value r0 lv1.1) fun t12 =>
    readK Tryd.prog (sLoad T_api_Value t12) w1 fun t13 =>
    upK Tryd.prog (sCall F_errataref03_Right #[t13]) w1 fun t14 w2 =>
    pureK Tryd.prog (sUn .not t14) fun t15 =>
    ifB t15
    (K (.bool false) w2)
    (pureK Tryd.prog (sBin .add T_int (.tmp 8) (.const (.int .i64 1)) lv1.1 (.int .i64 1)) fun t9 =>
     next1 (t9, ()) w2))
   (K (.bool true) w1))
  ((.int .i64 0), ()) w
theorem errataref03_All.pt_eq : errataref03_All.pt = fun r0 w K => FN Tryd.prog Tryd.f21 (bodyOf Tryd.f21) [2] .leaf [r0] w K := by kernel_rfl
theorem errataref03_All.call {r0 : Value} {w : World} {K : Value → World → Prop} (h : errataref03_All.pt r0 w K) : Calls Tryd.prog F_errataref03_All #[r0] w (retK K) :=
  calls_FN (args := [r0]) Tryd.func21 (by kernel_rfl) (by rw [errataref03_All.pt_eq] at h; exact h)
theorem errataref03_All.up {r0 : Value} {w : World} {K : Value → World → Prop} (h : Calls Tryd.prog F_errataref03_All #[r0] w (retK K)) : upK Tryd.prog (sCall F_errataref03_All #[r0]) w K :=
  up_call (fn := Tryd.f21) Tryd.func21 (by kernel_rfl) (by kernel_rfl) h

/-- slices.Clone[[]errata/api.Agg,errata/api.Agg] -/
def slices_Clone_s_api_Agg_api_Agg.pt (s0 : Value) (w : World) (K : Value → World → Prop) : Prop :=
  pureK Tryd.prog (sBin .eql T_s_api_Agg (.tmp 3) (.const (.slice none 0 0)) s0 (.slice none 0 0)) fun t4 =>
  ifB t4
  (K (.slice none 0 0) w)
  (upK Tryd.prog (sBuildSlice T_s_api_Agg 0 #[]) w fun t5 w1 =>
   upK Tryd.prog (sBlt .append #[T_s_api_Agg, T_s_api_Agg] T_s_api_Agg #[false, false] #[t5, s0]) w1 fun t7 w2 =>
   K t7 w2)
theorem slices_Clone_s_api_Agg_api_Agg.pt_eq : slices_Clone_s_api_Agg_api_Agg.pt = fun s0 w K => FN Tryd.prog Tryd.f22 (bodyOf Tryd.f22) [2] .leaf [s0] w K := by kernel_rfl
theorem slices_Clone_s_api_Agg_api_Agg.call {s0 : Value} {w : World} {K : Value → World → Prop} (h : slices_Clone_s_api_Agg_api_Agg.pt s0 w K) : Calls Tryd.prog F_slices_Clone_s_api_Agg_api_Agg #[s0] w (retK K) :=
  calls_FN (args := [s0]) Tryd.func22 (by kernel_rfl) (by rw [slices_Clone_s_api_Agg_api_Agg.pt_eq] at h; exact h)
theorem slices_Clone_s_api_Agg_api_Agg.up {s0 : Value} {w : World} {K : Value → World → Prop} (h : Calls Tryd.prog F_slices_Clone_s_api_Agg_api_Agg #[s0] w (retK K)) : upK Tryd.prog (sCall F_slices_Clone_s_api_Agg_api_Agg #[s0]) w K :=
  up_call (fn := Tryd.f22) Tryd.func22 (by kernel_rfl) (by kernel_rfl) h

/-- errata/aggregate.ordered -/
def aggregate_ordered.pt (g0 : Value) (w : World) (K : Value → World → Prop) : Prop :=
  upK Tryd.prog (sBox T_api_Agg g0) w fun g1 w1 =>
  pureK Tryd.prog (sFieldAddr T_api_Agg g1 0) fun t3 =>
  readK Tryd.prog (sLoad T_int t3) w1 fun t4 =>
  pureK Tryd.prog (sBin .eql T_int (.tmp 4) (.const (.int .i64 2)) t4 (.int .i64 2)) fun t5 =>
  ifB t5
  (K (.bool true) w1)
  (pureK Tryd.prog (sFieldAddr T_api_Agg g1 0) fun t7 =>
   readK Tryd.prog (sLoad T_int t7) w1 fun t8 =>
   pureK Tryd.prog (sBin .eql T_int (.tmp 8) (.const (.int .i64 3)) t8 (.int .i64 3)) fun t9 =>
   K t9 w1)
theorem aggregate_ordered.pt_eq : aggregate_ordered.pt = fun g0 w K => FN Tryd.prog Tryd.f23 (bodyOf Tryd.f23) [2] .leaf [g0] w K := by kernel_rfl
theorem aggregate_ordered.call {g0 : Value} {w : World} {K : Value → World → Prop} (h : aggregate_ordered.pt g0 w K) : Calls Tryd.prog F_aggregate_ordered #[g0] w (retK K) :=
  calls_FN (args := [g0]) Tryd.func23 (by kernel_rfl) (by rw [aggregate_ordered.pt_eq] at h; exact h)
theorem aggregate_ordered.up {g0 : Value} {w : World} {K : Value → World → Prop} (h : Calls Tryd.prog F_aggregate_ordered #[g0] w (retK K)) : upK Tryd.prog (sCall F_aggregate_ordered #[g0]) w K :=
  up_call (fn := Tryd.f23) Tryd.func23 (by kernel_rfl) (by kernel_rfl) h

/-- errata/aggregate.at -/
def aggregate_at.pt (row0 col1 : Value) (w : World) (K : Value → World → Prop) : Prop :=
  upK Tryd.prog (sAlloc T_api_Value) w fun t4 w1 =>
  pureK Tryd.prog (sBin .lss T_int (.tmp 5) (.const (.int .i64 0)) col1 (.int .i64 0)) fun t6 =>
  ifB t6
  (pureK Tryd.prog (sBuild T_api_Value #[]) fun t13 =>
   upK Tryd.prog (sStore T_api_Value t4 t13) w1 fun tu w2 =>
   readV Tryd.prog (do loadVar T_api_Value (← asAddr t4)) w2 fun t4_1 =>
   K t4_1 w2)
  (readK Tryd.prog (sBlt .len #[T_s_api_Value] T_int #[false] #[row0]) w1 fun t10 =>
   pureK Tryd.prog (sBin .geq T_int (.tmp 8) (.tmp 10) col1 t10) fun t11 =>
   ifB t11
   (pureK Tryd.prog (sBuild T_api_Value #[]) fun t13_1 =>
    upK Tryd.prog (sStore T_api_Value t4 t13_1) w1 fun tu_1 w3 =>
    readV Tryd.prog (do loadVar T_api_Value (← asAddr t4)) w3 fun t4_2 =>
    K t4_2 w3)
   (pureK Tryd.prog (sIdxAddr T_s_api_Value row0 col1) fun t16 =>
    readK Tryd.prog (sLoad T_api_Value t16) w1 fun t17 =>
    upK Tryd.prog (sStore T_api_Value t4 t17) w1 fun tu_2 w4 =>
    readV Tryd.prog (do loadVar T_api_Value (← asAddr t4)) w4 fun t4_3 =>
    K t4_3 w4))
theorem aggregate_at.pt_eq : aggregate_at.pt = fun row0 col1 w K => FN Tryd.prog Tryd.f24 (bodyOf Tryd.f24) [] .leaf [row0, col1] w K := by kernel_rfl
theorem aggregate_at.call {row0 col1 : Value} {w : World} {K : Value → World → Prop} (h : aggregate_at.pt row0 col1 w K) : Calls Tryd.prog F_aggregate_at #[row0, col1] w (retK K) :=
  calls_FN (args := [row0, col1]) Tryd.func24 (by kernel_rfl) (by rw [aggregate_at.pt_eq] at h; exact h)
theorem aggregate_at.up {row0 col1 : Value} {w : World} {K : Value → World → Prop} (h : Calls Tryd.prog F_aggregate_at #[row0, col1] w (retK K)) : upK Tryd.prog (sCall F_aggregate_at #[row0, col1]) w K :=
  up_call (fn := Tryd.f24) Tryd.func24 (by kernel_rfl) (by kernel_rfl) h

/-- errata/aggregate.put -/
def aggregate_put.pt (bag0 v1 n2 : Value) (w : World) (K : Value → World → Prop) : Prop :=
  upK Tryd.prog (sBox T_api_Value v1) w fun v4 w1 =>
  readK Tryd.prog (sLoad T_api_Value v4) (tick w1) fun t7 =>
  readK Tryd.prog (sLookup T_map_api_Value_int bag0 t7 false) (tick w1) fun t8 =>
  pureK Tryd.prog (sBin .add T_int (.tmp 8) (.tmp 9) t8 n2) fun t10 =>
  upK Tryd.prog (sMapEntry T_map_api_Value_int bag0 t7) (tick w1) fun t11 w2 =>
  Is Tryd.prog (sLookup T_map_api_Value_int bag0 t7 false) t8 w2 ∧ pureK Tryd.prog (sExtract t11 1) fun t12 =>
  upK Tryd.prog (sEntryStore T_map_api_Value_int bag0 t12 t10) w2 fun tu w3 =>
  readK Tryd.prog (sLoad T_api_Value v4) w3 fun t14 =>
  readK Tryd.prog (sLookup T_map_api_Value_int bag0 t14 false) w3 fun t15 =>
  pureK Tryd.prog (sBin .eql T_int (.tmp 15) (.const (.int .i64 0)) t15 (.int .i64 0)) fun t16 =>
  ifB t16
  (readK Tryd.prog (sLoad T_api_Value v4) w3 fun t18 =>
   upK Tryd.prog (sBlt .delete #[T_map_api_Value_int, T_api_Value] T_ #[false, false] #[bag0, t18]) w3 fun tu_1 w4 =>
   K (.tuple #[]) w4)
  (K (.tuple #[]) w3)
theorem aggregate_put.pt_eq : aggregate_put.pt = fun bag0 v1 n2 w K => FN Tryd.prog Tryd.f25 (bodyOf Tryd.f25) [] .leaf [bag0, v1, n2] w K := by kernel_rfl
theorem aggregate_put.call {bag0 v1 n2 : Value} {w : World} {K : Value → World → Prop} (h : aggregate_put.pt bag0 v1 n2 w K) : Calls Tryd.prog F_aggregate_put #[bag0, v1, n2] w (retK K) :=
  calls_FN (args := [bag0, v1, n2]) Tryd.func25 (by kernel_rfl) (by rw [aggregate_put.pt_eq] at h; exact h)
theorem aggregate_put.up {bag0 v1 n2 : Value} {w : World} {K : Value → World → Prop} (h : Calls Tryd.prog F_aggregate_put #[bag0, v1, n2] w (retK K)) : upK Tryd.prog (sCall F_aggregate_put #[bag0, v1, n2]) w K :=
  up_call (fn := Tryd.f25) Tryd.func25 (by kernel_rfl) (by kernel_rfl) h

/-- errata/value.Int -/
def value_Int.pt (n0 : Value) (w : World) (K : Value → World → Prop) : Prop :=
  upK Tryd.prog (sAlloc T_api_Value) w fun t2 w1 =>
  pureK Tryd.prog (sBuild T_api_Value #[(0, (.int .i64 0)), (1, n0)]) fun t4 =>
  upK Tryd.prog (sStore T_api_Value t2 t4) w1 fun tu w2 =>
  readV Tryd.prog (do loadVar T_api_Value (← asAddr t2)) w2 fun t2_1 =>
  K t2_1 w2
theorem value_Int.pt_eq : value_Int.pt = fun n0 w K => FN Tryd.prog Tryd.f26 (bodyOf Tryd.f26) [] .leaf [n0] w K := by kernel_rfl
theorem value_Int.call {n0 : Value} {w : World} {K : Value → World → Prop} (h : value_Int.pt n0 w K) : Calls Tryd.prog F_value_Int #[n0] w (retK K) :=
  calls_FN (args := [n0]) Tryd.func26 (by kernel_rfl) (by rw [value_Int.pt_eq] at h; exact h)
theorem value_Int.up {n0 : Value} {w : World} {K : Value → World → Prop} (h : Calls Tryd.prog F_value_Int #[n0] w (retK K)) : upK Tryd.prog (sCall F_value_Int #[n0]) w K :=
  up_call (fn := Tryd.f26) Tryd.func26 (by kernel_rfl) (by kernel_rfl) h

/-- (*errata/aggregate.Acc).best -/
def aggregate_Acc_best.pt (a0 i1 : Value) (w : World) (K : Value → World → Prop) : Prop :=
  upK Tryd.prog (sBox T_p_aggregate_Acc a0) w fun a2 w1 =>
  upK Tryd.prog (sBox T_int i1) w1 fun i3 w2 =>
  upK Tryd.prog (sAlloc T_api_Value) w2 fun t4 w3 =>
  readK Tryd.prog (sLoad T_p_aggregate_Acc a2) w3 fun t6 =>
  readK Tryd.prog (sLoad T_int i3) w3 fun t7 =>
  upK Tryd.prog (sCall F_aggregate_Acc_sorted #[t6, t7]) w3 fun t8 w4 =>
  pureK Tryd.prog (sMkFunc (.func F_aggregate_Acc_best_1) #[] #[a2, i3]) fun t9 =>
  upK Tryd.prog (sCall F_slices_DeleteFunc_s_api_Value_api_Value #[t8, t9]) w4 fun t10 w5 =>
  readK Tryd.prog (sBlt .len #[T_s_api_Value] T_int #[false] #[t10]) w5 fun t13 =>
  pureK Tryd.prog (sBin .eql T_int (.tmp 13) (.const (.int .i64 0)) t13 (.int .i64 0)) fun t14 =>
  ifB t14
  (upK Tryd.prog (sCall F_value_Int #[(.int .i64 0)]) w5 fun t15 w6 =>
   upK Tryd.prog (sStore T_api_Value t4 t15) w6 fun tu w7 =>
   readV Tryd.prog (do loadVar T_api_Value (← asAddr t4)) w7 fun t4_1 =>
   K t4_1 w7)
  (readK Tryd.prog (sLoad T_p_aggregate_Acc a2) (tick w5) fun t17 =>
   pureK Tryd.prog (sNil t17) fun t18 =>
   pureK Tryd.prog (sFieldAddr T_aggregate_Acc t18 0) fun t19 =>
   readK Tryd.prog (sLoad T_s_api_Agg t19) (tick w5) fun t20 =>
   readK Tryd.prog (sLoad T_int i3) (tick w5) fun t21 =>
   pureK Tryd.prog (sIdxAddr T_s_api_Agg t20 t21) fun t22 =>
   pureK Tryd.prog (sFieldAddr T_api_Agg t22 0) fun t23 =>
   readK Tryd.prog (sLoad T_int t23) (tick w5) fun t24 =>
   pureK Tryd.prog (sBin .eql T_int (.tmp 24) (.const (.int .i64 2)) t24 (.int .i64 2)) fun t25 =>
   ifB t25
   (pureK Tryd.prog (sIdxAddr T_s_api_Value t10 (.int .i64 0)) fun t27 =>
    readK Tryd.prog (sLoad T_api_Value t27) (tick w5) fun t28 =>
    upK Tryd.prog (sStore T_api_Value t4 t28) (tick w5) fun tu_1 w8 =>
    readV Tryd.prog (do loadVar T_api_Value (← asAddr t4)) w8 fun t4_2 =>
    K t4_2 w8)
   (readK Tryd.prog (sBlt .len #[T_s_api_Value] T_int #[false] #[t10]) (tick w5) fun t31 =>
    pureK Tryd.prog (sBin .sub T_int (.tmp 31) (.const (.int .i64 1)) t31 (.int .i64 1)) fun t32 =>
    pureK Tryd.prog (sIdxAddr T_s_api_Value t10 t32) fun t33 =>
    readK Tryd.prog (sLoad T_api_Value t33) (tick w5) fun t34 =>
    upK Tryd.prog (sStore T_api_Value t4 t34) (tick w5) fun tu_2 w9 =>
    readV Tryd.prog (do loadVar T_api_Value (← asAddr t4)) w9 fun t4_3 =>
    K t4_3 w9))
theorem aggregate_Acc_best.pt_eq : aggregate_Acc_best.pt = fun a0 i1 w K => FN Tryd.prog Tryd.f27 (bodyOf Tryd.f27) [] .leaf [a0, i1] w K := by kernel_rfl
theorem aggregate_Acc_best.call {a0 i1 : Value} {w : World} {K : Value → World → Prop} (h : aggregate_Acc_best.pt a0 i1 w K) : Calls Tryd.prog F_aggregate_Acc_best #[a0, i1] w (retK K) :=
  calls_FN (args := [a0, i1]) Tryd.func27 (by kernel_rfl) (by rw [aggregate_Acc_best.pt_eq] at h; exact h)
theorem aggregate_Acc_best.up {a0 i1 : Value} {w : World} {K : Value → World → Prop} (h : Calls Tryd.prog F_aggregate_Acc_best #[a0, i1] w (retK K)) : upK Tryd.prog (sCall F_aggregate_Acc_best #[a0, i1]) w K :=
  up_call (fn := Tryd.f27) Tryd.func27 (by kernel_rfl) (by kernel_rfl) h

/-- errata/errataref30.At -/
def errataref30_At.pt (row0 col1 : Value) (w : World) (K : Value → World → Prop) : Prop :=
  upK Tryd.prog (sAlloc T_api_Value) w fun t4 w1 =>
  pureK Tryd.prog (sBin .lss T_int (.tmp 5) (.const (.int .i64 0)) col1 (.int .i64 0)) fun t6 =>
  ifB t6
  (pureK Tryd.prog (sBuild T_api_Value #[]) fun t13 =>
   upK Tryd.prog (sStore T_api_Value t4 t13) w1 fun tu w2 =>
   readV Tryd.prog (do loadVar T_api_Value (← asAddr t4)) w2 fun t4_1 =>
   K t4_1 w2)
  (readK Tryd.prog (sBlt .len #[T_s_api_Value] T_int #[false] #[row0]) w1 fun t10 =>
   pureK Tryd.prog (sBin .geq T_int (.tmp 8) (.tmp 10) col1 t10) fun t11 =>
   ifB t11
   (pureK Tryd.prog (sBuild T_api_Value #[]) fun t13_1 =>
    upK Tryd.prog (sStore T_api_Value t4 t13_1) w1 fun tu_1 w3 =>
    readV Tryd.prog (do loadVar T_api_Value (← asAddr t4)) w3 fun t4_2 =>
    K t4_2 w3)
   (pureK Tryd.prog (sIdxAddr T_s_api_Value row0 col1) fun t16 =>
    readK Tryd.prog (sLoad T_api_Value t16) w1 fun t17 =>
    upK Tryd.prog (sStore T_api_Value t4 t17) w1 fun tu_2 w4 =>
    readV Tryd.prog (do loadVar T_api_Value (← asAddr t4)) w4 fun t4_3 =>
    K t4_3 w4))
theorem errataref30_At.pt_eq : errataref30_At.pt = fun row0 col1 w K => FN Tryd.prog Tryd.f28 (bodyOf Tryd.f28) [] .leaf [row0, col1] w K := by kernel_rfl
theorem errataref30_At.call {row0 col1 : Value} {w : World} {K : Value → World → Prop} (h : errataref30_At.pt row0 col1 w K) : Calls Tryd.prog F_errataref30_At #[row0, col1] w (retK K) :=
  calls_FN (args := [row0, col1]) Tryd.func28 (by kernel_rfl) (by rw [errataref30_At.pt_eq] at h; exact h)
theorem errataref30_At.up {row0 col1 : Value} {w : World} {K : Value → World → Prop} (h : Calls Tryd.prog F_errataref30_At #[row0, col1] w (retK K)) : upK Tryd.prog (sCall F_errataref30_At #[row0, col1]) w K :=
  up_call (fn := Tryd.f28) Tryd.func28 (by kernel_rfl) (by kernel_rfl) h

/-- errata/erratalaw30.often -/
def erratalaw30_often.pt (l0 k1 col2 : Value) (w : World) (K : Value → World → Prop) : Prop :=
  LOOP (X := Value × Value × Unit) (fun lv1 w1 next1 =>
   readK Tryd.prog (sBlt .len #[T_s_erratalaw30_Change] T_int #[false] #[l0]) w1 fun t11 =>
   pureK Tryd.prog (sBin .lss T_int (.tmp 9) (.tmp 11) lv1.2.1 t11) fun t12 =>
   ifB t12
   (LETJ (X := Value × Unit) (fun jv1 w2 =>
     pureK Tryd.prog (sBin .add T_int (.tmp 13) (.const (.int .i64 1)) lv1.2.1 (.int .i64 1)) fun t14 =>
     next1 (jv1.1, t14, ()) w2)
    (fun J1 =>
     pureK Tryd.prog (sIdxAddr T_s_erratalaw30_Change l0 lv1.2.1) fun t17 =>
     pureK Tryd.prog (sFieldAddr T_erratalaw30_Change t17 0) fun t18 =>
     readK Tryd.prog (sLoad T_s_api_Value t18) (tick w1) fun t19 =>
     pureK Tryd.prog (sIdxAddr T_s_erratalaw30_Change l0 k1) fun t24 =>
     pureK Tryd.prog (sFieldAddr T_erratalaw30_Change t24 0) fun t25 =>
     readK Tryd.prog (sLoad T_s_api_Value t25) (tick w1) fun t26 =>
     upK Tryd.prog (sCall F_errataref30_At #[t19, col2]) (tick w1) fun t21 w3 =>
     Is Tryd.prog (sLoad T_s_api_Value t25) t26 w3 ∧ upK Tryd.prog (sCall F_errataref30_At #[t26, col2]) w3 fun t28 w4 =>
     upK Tryd.prog (sCall F_errataref03_Compare #[t21, t28]) w4 fun t29 w5 =>
     pureK Tryd.prog (sBin .eql T_int (.tmp 29) (.const (.int .i64 0)) t29 (.int .i64 0)) fun t30 =>
     ifB t30
     (pureK Tryd.prog (sIdxAddr T_s_erratalaw30_Change l0 lv1.2.1) fun t34 =>
      pureK Tryd.prog (sFieldAddr T_erratalaw30_Change t34 1) fun t35 =>
      readK Tryd.prog (sLoad T_int t35) w5 fun t36 =>
      pureK Tryd.prog (sBin .add T_int (.tmp 31) (.tmp 36) lv1.1 t36) fun t37 =>
      J1 (t37, ()) w5)
     (J1 (lv1.1, ()) w5)))
   (K lv1.1 w1))
  ((.int .i64 0), (.int .i64 0), ()) w
theorem erratalaw30_often.pt_eq : erratalaw30_often.pt = fun l0 k1 col2 w K => FN Tryd.prog Tryd.f29 (bodyOf Tryd.f29) [6] (.node none .leaf (.node none .leaf (.node none (.node none .leaf (.node none (.node none (.node none .leaf (.node (some [7]) .leaf .leaf)) .leaf) .leaf)) .leaf))) [l0, k1, col2] w K := by kernel_rfl
theorem erratalaw30_often.call {l0 k1 col2 : Value} {w : World} {K : Value → World → Prop} (h : erratalaw30_often.pt l0 k1 col2 w K) : Calls Tryd.prog F_erratalaw30_often #[l0, k1, col2] w (retK K) :=
  calls_FN (args := [l0, k1, col2]) Tryd.func29 (by kernel_rfl) (by rw [erratalaw30_often.pt_eq] at h; exact h)
theorem erratalaw30_often.up {l0 k1 col2 : Value} {w : World} {K : Value → World → Prop} (h : Calls Tryd.prog F_erratalaw30_often #[l0, k1, col2] w (retK K)) : upK Tryd.prog (sCall F_erratalaw30_often #[l0, k1, col2]) w K :=
  up_call (fn := Tryd.f29) Tryd.func29 (by kernel_rfl) (by kernel_rfl) h

/-- (*strings.Builder).WriteString -/
def strings_Builder_WriteString.pt (b0 s1 : Value) (w : World) (K : Value → World → Prop) : Prop :=
  upK Tryd.prog (sCall F_strings_Builder_copyCheck #[b0]) w fun t7 w1 =>
  pureK Tryd.prog (sNil b0) fun t10 =>
  pureK Tryd.prog (sFieldAddr T_strings_Builder t10 1) fun t11 =>
  readK Tryd.prog (sLoad T_s_uint8 t11) w1 fun t12 =>
  upK Tryd.prog (sBlt .append #[T_s_uint8, T_string] T_s_uint8 #[false, false] #[t12, s1]) w1 fun t14 w2 =>
  pureK Tryd.prog (sNil b0) fun t15 =>
  pureK Tryd.prog (sFieldAddr T_strings_Builder t15 1) fun t16 =>
  upK Tryd.prog (sStore T_s_uint8 t16 t14) w2 fun tu w3 =>
  readK Tryd.prog (sBlt .len #[T_string] T_int #[false] #[s1]) w3 fun t18 =>
  K (.tuple #[t18, .nilIface]) w3
theorem strings_Builder_WriteString.pt_eq : strings_Builder_WriteString.pt = fun b0 s1 w K => FN Tryd.prog Tryd.f30 (bodyOf Tryd.f30) [4, 5] .leaf [b0, s1] w K := by kernel_rfl
theorem strings_Builder_WriteString.call {b0 s1 : Value} {w : World} {K : Value → World → Prop} (h : strings_Builder_WriteString.pt b0 s1 w K) : Calls Tryd.prog F_strings_Builder_WriteString #[b0, s1] w (retK K) :=
  calls_FN (args := [b0, s1]) Tryd.func30 (by kernel_rfl) (by rw [strings_Builder_WriteString.pt_eq] at h; exact h)
theorem strings_Builder_WriteString.up {b0 s1 : Value} {w : World} {K : Value → World → Prop} (h : Calls Tryd.prog F_strings_Builder_WriteString #[b0, s1] w (retK K)) : upK Tryd.prog (sCall F_strings_Builder_WriteString #[b0, s1]) w K :=
  up_call (fn := Tryd.f30) Tryd.func30 (by kernel_rfl) (by kernel_rfl) h

/-- errata/wire.Int -/
def wire_Int.pt (n0 : Value) (w : World) (K : Value → World → Prop) : Prop :=
  upK Tryd.prog (sCall F_strconv_Itoa #[n0]) w fun t4 w1 =>
  pureK Tryd.prog (sBin .add T_string (.tmp 4) (.const (.string ⟨#[59]⟩)) t4 (.string ⟨#[59]⟩)) fun t5 =>
  K t5 w1
theorem wire_Int.pt_eq : wire_Int.pt = fun n0 w K => FN Tryd.prog Tryd.f31 (bodyOf Tryd.f31) [2] .leaf [n0] w K := by kernel_rfl
theorem wire_Int.call {n0 : Value} {w : World} {K : Value → World → Prop} (h : wire_Int.pt n0 w K) : Calls Tryd.prog F_wire_Int #[n0] w (retK K) :=
  calls_FN (args := [n0]) Tryd.func31 (by kernel_rfl) (by rw [wire_Int.pt_eq] at h; exact h)
theorem wire_Int.up {n0 : Value} {w : World} {K : Value → World → Prop} (h : Calls Tryd.prog F_wire_Int #[n0] w (retK K)) : upK Tryd.prog (sCall F_wire_Int #[n0]) w K :=
  up_call (fn := Tryd.f31) Tryd.func31 (by kernel_rfl) (by kernel_rfl) h

/-- errata/wire.Num -/
def wire_Num.pt (n0 : Value) (w : World) (K : Value → World → Prop) : Prop :=
  pureK Tryd.prog (sBin .lss T_int (.tmp 3) (.const (.int .i64 0)) n0 (.int .i64 0)) fun t4 =>
  ifB t4
  (K (.string ⟨#[]⟩) w)
  (upK Tryd.prog (sCall F_wire_Int #[n0]) w fun t6 w1 =>
   K t6 w1)
theorem wire_Num.pt_eq : wire_Num.pt = fun n0 w K => FN Tryd.prog Tryd.f32 (bodyOf Tryd.f32) [2] .leaf [n0] w K := by kernel_rfl
theorem wire_Num.call {n0 : Value} {w : World} {K : Value → World → Prop} (h : wire_Num.pt n0 w K) : Calls Tryd.prog F_wire_Num #[n0] w (retK K) :=
  calls_FN (args := [n0]) Tryd.func32 (by kernel_rfl) (by rw [wire_Num.pt_eq] at h; exact h)
theorem wire_Num.up {n0 : Value} {w : World} {K : Value → World → Prop} (h : Calls Tryd.prog F_wire_Num #[n0] w (retK K)) : upK Tryd.prog (sCall F_wire_Num #[n0]) w K :=
  up_call (fn := Tryd.f32) Tryd.func32 (by kernel_rfl) (by kernel_rfl) h

/-- (*errata/aggregate.Acc).sorted -/
def aggregate_Acc_sorted.pt (a0 i1 : Value) (w : World) (K : Value → World → Prop) : Prop :=
  pureK Tryd.prog (sNil a0) fun t6 =>
  pureK Tryd.prog (sFieldAddr T_aggregate_Acc t6 3) fun t7 =>
  readK Tryd.prog (sLoad T_s_map_api_Value_int t7) w fun t8 =>
  pureK Tryd.prog (sIdxAddr T_s_map_api_Value_int t8 i1) fun t10 =>
  readK Tryd.prog (sLoad T_map_api_Value_int t10) w fun t11 =>
  upK Tryd.prog (sCall F_maps_Keys_map_api_Value_int_api_Value_int #[t11]) w fun t12 w1 =>
  upK Tryd.prog (sCall F_slices_SortedFunc_api_Value #[t12, (.func (.func 50) #[] #[])]) w1 fun t13 w2 =>
  K t13 w2
theorem aggregate_Acc_sorted.pt_eq : aggregate_Acc_sorted.pt = fun a0 i1 w K => FN Tryd.prog Tryd.f33 (bodyOf Tryd.f33) [4] .leaf [a0, i1] w K := by kernel_rfl
theorem aggregate_Acc_sorted.call {a0 i1 : Value} {w : World} {K : Value → World → Prop} (h : aggregate_Acc_sorted.pt a0 i1 w K) : Calls Tryd.prog F_aggregate_Acc_sorted #[a0, i1] w (retK K) :=
  calls_FN (args := [a0, i1]) Tryd.func33 (by kernel_rfl) (by rw [aggregate_Acc_sorted.pt_eq] at h; exact h)
theorem aggregate_Acc_sorted.up {a0 i1 : Value} {w : World} {K : Value → World → Prop} (h : Calls Tryd.prog F_aggregate_Acc_sorted #[a0, i1] w (retK K)) : upK Tryd.prog (sCall F_aggregate_Acc_sorted #[a0, i1]) w K :=
  up_call (fn := Tryd.f33) Tryd.func33 (by kernel_rfl) (by kernel_rfl) h

/-- errata/wire.Text -/
def wire_Text.pt (s0 : Value) (w : World) (K : Value → World → Prop) : Prop :=
  readK Tryd.prog (sBlt .len #[T_string] T_int #[false] #[s0]) w fun t4 =>
  upK Tryd.prog (sCall F_strconv_Itoa #[t4]) w fun t5 w1 =>
  pureK Tryd.prog (sBin .add T_string (.tmp 5) (.const (.string ⟨#[58]⟩)) t5 (.string ⟨#[58]⟩)) fun t6 =>
  pureK Tryd.prog (sBin .add T_string (.tmp 6) (.tmp 7) t6 s0) fun t8 =>
  pureK Tryd.prog (sBin .add T_string (.tmp 8) (.const (.string ⟨#[44]⟩)) t8 (.string ⟨#[44]⟩)) fun t9 =>
  K t9 w1
theorem wire_Text.pt_eq : wire_Text.pt = fun s0 w K => FN Tryd.prog Tryd.f34 (bodyOf Tryd.f34) [2] .leaf [s0] w K := by kernel_rfl
theorem wire_Text.call {s0 : Value} {w : World} {K : Value → World → Prop} (h : wire_Text.pt s0 w K) : Calls Tryd.prog F_wire_Text #[s0] w (retK K) :=
  calls_FN (args := [s0]) Tryd.func34 (by kernel_rfl) (by rw [wire_Text.pt_eq] at h; exact h)
theorem wire_Text.up {s0 : Value} {w : World} {K : Value → World → Prop} (h : Calls Tryd.prog F_wire_Text #[s0] w (retK K)) : upK Tryd.prog (sCall F_wire_Text #[s0]) w K :=
  up_call (fn := Tryd.f34) Tryd.func34 (by kernel_rfl) (by kernel_rfl) h

/-- errata/value.Bytes -/
def value_Bytes.pt (v0 : Value) (w : World) (K : Value → World → Prop) : Prop :=
  upK Tryd.prog (sBox T_api_Value v0) w fun v1 w1 =>
  pureK Tryd.prog (sFieldAddr T_api_Value v1 0) fun t3 =>
  readK Tryd.prog (sLoad T_int t3) (tick w1) fun t4 =>
  pureK Tryd.prog (sFieldAddr T_api_Value v1 1) fun t6 =>
  readK Tryd.prog (sLoad T_int t6) (tick w1) fun t7 =>
  pureK Tryd.prog (sFieldAddr T_api_Value v1 2) fun t10 =>
  readK Tryd.prog (sLoad T_string t10) (tick w1) fun t11 =>
  upK Tryd.prog (sCall F_wire_Int #[t4]) (tick w1) fun t5 w2 =>
  Is Tryd.prog (sLoad T_string t10) t11 w2 ∧ Is Tryd.prog (sLoad T_int t6) t7 w2 ∧ upK Tryd.prog (sCall F_wire_Int #[t7]) w2 fun t8 w3 =>
  Is Tryd.prog (sLoad T_string t10) t11 w3 ∧ pureK Tryd.prog (sBin .add T_string (.tmp 5) (.tmp 8) t5 t8) fun t9 =>
  upK Tryd.prog (sCall F_wire_Text #[t11]) w3 fun t12 w4 =>
  pureK Tryd.prog (sBin .add T_string (.tmp 9) (.tmp 12) t9 t12) fun t13 =>
  K t13 w4
theorem value_Bytes.pt_eq : value_Bytes.pt = fun v0 w K => FN Tryd.prog Tryd.f35 (bodyOf Tryd.f35) [2] .leaf [v0] w K := by kernel_rfl
theorem value_Bytes.call {v0 : Value} {w : World} {K : Value → World → Prop} (h : value_Bytes.pt v0 w K) : Calls Tryd.prog F_value_Bytes #[v0] w (retK K) :=
  calls_FN (args := [v0]) Tryd.func35 (by kernel_rfl) (by rw [value_Bytes.pt_eq] at h; exact h)
theorem value_Bytes.up {v0 : Value} {w : World} {K : Value → World → Prop} (h : Calls Tryd.prog F_value_Bytes #[v0] w (retK K)) : upK Tryd.prog (sCall F_value_Bytes #[v0]) w K :=
  up_call (fn := Tryd.f35) Tryd.func35 (by kernel_rfl) (by kernel_rfl) h

/-- (*strings.Builder).String -/
theorem strings_Builder_String.up {p0 : Value} {w : World} {K : Value → World → Prop} (h : Calls Tryd.prog F_strings_Builder_String #[p0] w (retK K)) : upK Tryd.prog (sCall F_strings_Builder_String #[p0]) w K :=
  up_call (fn := Tryd.f36) Tryd.func36 (by kernel_rfl) (by kernel_rfl) h

/-- errata/errataref03.CompareRows -/
def errataref03_CompareRows.pt (a0 b1 : Value) (w : World) (K : Value → World → Prop) : Prop :=
  LETJ (X := Unit) (fun jv1 w1 =>
   readK Tryd.prog (sBlt .len #[T_s_api_Value] T_int #[false] #[a0]) w1 fun t32 =>
   readK Tryd.prog (sBlt .len #[T_s_api_Value] T_int #[false] #[b1]) w1 fun t34 =>
   pureK Tryd.prog (sBin .lss T_int (.tmp 32) (.tmp 34) t32 t34) fun t35 =>
   ifB t35
   (K (.int .i64 (-1)) w1)
   (readK Tryd.prog (sBlt .len #[T_s_api_Value] T_int #[false] #[a0]) w1 fun t37 =>
    readK Tryd.prog (sBlt .len #[T_s_api_Value] T_int #[false] #[b1]) w1 fun t39 =>
    pureK Tryd.prog (sBin .gtr T_int (.tmp 37) (.tmp 39) t37 t39) fun t40 =>
    ifB t40
    (K (.int .i64 1) w1)
    (K (.int .i64 0) w1)))
  (fun J1 =>
   LOOP (X := Value × Unit) (fun lv2 w2 next2 =>
    readK Tryd.prog (sBlt .len #[T_s_api_Value] T_int #[false] #[a0]) w2 fun t9 =>
    pureK Tryd.prog (sBin .lss T_int (.tmp 7) (.tmp 9) lv2.1 t9) fun t10 =>
    ifB t10
    (readK Tryd.prog (sBlt .len #[T_s_api_Value] T_int #[false] #[b1]) w2 fun t14 =>
     pureK Tryd.prog (sBin .lss T_int (.tmp 12) (.tmp 14) lv2.1 t14) fun t15 =>
     ifB t15
     (pureK Tryd.prog (sIdxAddr T_s_api_Value a0 lv2.1) fun t21 =>
      readK Tryd.prog (sLoad T_api_Value t21) (tick w2) fun t22 =>
      pureK Tryd.prog (sIdxAddr T_s_api_Value b1 lv2.1) fun t25 =>
      readK Tryd.prog (sLoad T_api_Value t25) (tick w2) fun t26 =>
      upK Tryd.prog (sCall F_errataref03_Compare #[t22, t26]) (tick w2) fun t27 w3 =>
      pureK Tryd.prog (sBin .neq T_int (.tmp 28) (.const (.int .i64 0)) t27 (.int .i64 0)) fun t29 =>
      ifB t29
      (K t27 w3)
      (pureK Tryd.prog (sBin .add T_int (.tmp 17) (.const (.int .i64 1)) lv2.1 (.int .i64 1)) fun t18 =>
       next2 (t18, ()) w3))
     (J1 (()) w2))
    (J1 (()) w2))
   ((.int .i64 0), ()) w)
theorem errataref03_CompareRows.pt_eq : errataref03_CompareRows.pt = fun a0 b1 w K => FN Tryd.prog Tryd.f37 (bodyOf Tryd.f37) [4] (.node none .leaf (.node (some []) .leaf .leaf)) [a0, b1] w K := by kernel_rfl
theorem errataref03_CompareRows.call {a0 b1 : Value} {w : World} {K : Value → World → Prop} (h : errataref03_CompareRows.pt a0 b1 w K) : Calls Tryd.prog F_errataref03_CompareRows #[a0, b1] w (retK K) :=
  calls_FN (args := [a0, b1]) Tryd.func37 (by kernel_rfl) (by rw [errataref03_CompareRows.pt_eq] at h; exact h)
theorem errataref03_CompareRows.up {a0 b1 : Value} {w : World} {K : Value → World → Prop} (h : Calls Tryd.prog F_errataref03_CompareRows #[a0, b1] w (retK K)) : upK Tryd.prog (sCall F_errataref03_CompareRows #[a0, b1]) w K :=
  up_call (fn := Tryd.f37) Tryd.func37 (by kernel_rfl) (by kernel_rfl) h

/-- slices.ContainsFunc[[]int,int] -/
def slices_ContainsFunc_s_int_int.pt (s0 f1 : Value) (w : World) (K : Value → World → Prop) : Prop :=
  upK Tryd.prog (sCall F_slices_IndexFunc_s_int_int #[s0, f1]) w fun t7 w1 =>
  pureK Tryd.prog (sBin .geq T_int (.tmp 7) (.const (.int .i64 0)) t7 (.int .i64 0)) fun t8 =>
  K t8 w1
theorem slices_ContainsFunc_s_int_int.pt_eq : slices_ContainsFunc_s_int_int.pt = fun s0 f1 w K => FN Tryd.prog Tryd.f38 (bodyOf Tryd.f38) [4] .leaf [s0, f1] w K := by kernel_rfl
theorem slices_ContainsFunc_s_int_int.call {s0 f1 : Value} {w : World} {K : Value → World → Prop} (h : slices_ContainsFunc_s_int_int.pt s0 f1 w K) : Calls Tryd.prog F_slices_ContainsFunc_s_int_int #[s0, f1] w (retK K) :=
  calls_FN (args := [s0, f1]) Tryd.func38 (by kernel_rfl) (by rw [slices_ContainsFunc_s_int_int.pt_eq] at h; exact h)
theorem slices_ContainsFunc_s_int_int.up {s0 f1 : Value} {w : World} {K : Value → World → Prop} (h : Calls Tryd.prog F_slices_ContainsFunc_s_int_int #[s0, f1] w (retK K)) : upK Tryd.prog (sCall F_slices_ContainsFunc_s_int_int #[s0, f1]) w K :=
  up_call (fn := Tryd.f38) Tryd.func38 (by kernel_rfl) (by kernel_rfl) h

/-- (*errata/aggregate.Acc).Empty$1 -/
def aggregate_Acc_Empty_1.pt (n0 : Value) (w : World) (K : Value → World → Prop) : Prop :=
  pureK Tryd.prog (sBin .neq T_int (.tmp 3) (.const (.int .i64 0)) n0 (.int .i64 0)) fun t4 =>
  K t4 w
theorem aggregate_Acc_Empty_1.pt_eq : aggregate_Acc_Empty_1.pt = fun n0 w K => FN Tryd.prog Tryd.f39 (bodyOf Tryd.f39) [2] .leaf [n0] w K := by kernel_rfl
theorem aggregate_Acc_Empty_1.call {n0 : Value} {w : World} {K : Value → World → Prop} (h : aggregate_Acc_Empty_1.pt n0 w K) : Calls Tryd.prog F_aggregate_Acc_Empty_1 #[n0] w (retK K) :=
  calls_FN (args := [n0]) Tryd.func39 (by kernel_rfl) (by rw [aggregate_Acc_Empty_1.pt_eq] at h; exact h)
theorem aggregate_Acc_Empty_1.up {n0 : Value} {w : World} {K : Value → World → Prop} (h : Calls Tryd.prog F_aggregate_Acc_Empty_1 #[n0] w (retK K)) : upK Tryd.prog (sCall F_aggregate_Acc_Empty_1 #[n0]) w K :=
  up_call (fn := Tryd.f39) Tryd.func39 (by kernel_rfl) (by kernel_rfl) h

/-- slices.EqualFunc[[]errata/api.Agg,[]errata/api.Agg,errata/api.Agg,errata/api.Agg] -/
def slices_EqualFunc_s_api_Agg_s_api_Agg_api_Agg_api_Agg.pt (s10 s21 eq2 : Value) (w : World) (K : Value → World → Prop) : Prop :=
  readK Tryd.prog (sBlt .len #[T_s_api_Agg] T_int #[false] #[s10]) w fun t11 =>
  readK Tryd.prog (sBlt .len #[T_s_api_Agg] T_int #[false] #[s21]) w fun t13 =>
  pureK Tryd.prog (sBin .neq T_int (.tmp 11) (.tmp 13) t11 t13) fun t14 =>
  ifB t14
  (K (.bool false) w)
  (readK Tryd.prog (sBlt .len #[T_s_api_Agg] T_int #[false] #[s10]) w fun t16 =>
   LOOP (X := Value × Unit) (fun lv1 w1 next1 =>
    pureK Tryd.prog (sBin .lss T_int (.tmp 17) (.tmp 16) lv1.1 t16) fun t18 =>
    ifB t18
    (pureK Tryd.prog (sIdxAddr T_s_api_Agg s10 lv1.1) fun t20 =>
     readK Tryd.prog (sLoad T_api_Agg t20) w1 fun t21 =>
     upK Tryd.prog (sAlloc T_api_Agg) w1 fun v18 w2 =>
     upK Tryd.prog (sStore T_api_Agg v18 t21) w2 fun tu w3 =>
     pureK Tryd.prog (sIdxAddr T_s_api_Agg s21 lv1.1) fun t24 =>
     readK Tryd.prog (sLoad T_api_Agg t24) w3 fun t25 =>
     upK Tryd.prog (sAlloc T_api_Agg) w3 fun v29 w4 =>
     upK Tryd.prog (sStore T_api_Agg v29 t25) w4 fun tu_1 w5 =>
     readK Tryd.prog (sLoad T_api_Agg v18) w5 fun t27 =>
     readK Tryd.prog (sLoad T_api_Agg v29) w5 fun t28 =>
     upK Tryd.prog (sCallV eq2 #[t27, t28]) w5 fun t29 w6 =>
     pureK Tryd.prog (sUn .not t29) fun t30 =>
     ifB t30
     (K (.bool false) w6)
     (pureK Tryd.prog (sBin .add T_int (.tmp 17) (.const (.int .i64 1)) lv1.1 (.int .i64 1)) fun t31 =>
      next1 (t31, ()) w6))
    (K (.bool true) w1))
   ((.int .i64 0), ()) w)
theorem slices_EqualFunc_s_api_Agg_s_api_Agg_api_Agg_api_Agg.pt_eq : slices_EqualFunc_s_api_Agg_s_api_Agg_api_Agg_api_Agg.pt = fun s10 s21 eq2 w K => FN Tryd.prog Tryd.f40 (bodyOf Tryd.f40) [6] .leaf [s10, s21, eq2] w K := by kernel_rfl
theorem slices_EqualFunc_s_api_Agg_s_api_Agg_api_Agg_api_Agg.call {s10 s21 eq2 : Value} {w : World} {K : Value → World → Prop} (h : slices_EqualFunc_s_api_Agg_s_api_Agg_api_Agg_api_Agg.pt s10 s21 eq2 w K) : Calls Tryd.prog F_slices_EqualFunc_s_api_Agg_s_api_Agg_api_Agg_api_Agg #[s10, s21, eq2] w (retK K) :=
  calls_FN (args := [s10, s21, eq2]) Tryd.func40 (by kernel_rfl) (by rw [slices_EqualFunc_s_api_Agg_s_api_Agg_api_Agg_api_Agg.pt_eq] at h; exact h)
theorem slices_EqualFunc_s_api_Agg_s_api_Agg_api_Agg_api_Agg.up {s10 s21 eq2 : Value} {w : World} {K : Value → World → Prop} (h : Calls Tryd.prog F_slices_EqualFunc_s_api_Agg_s_api_Agg_api_Agg_api_Agg #[s10, s21, eq2] w (retK K)) : upK Tryd.prog (sCall F_slices_EqualFunc_s_api_Agg_s_api_Agg_api_Agg_api_Agg #[s10, s21, eq2]) w K :=
  up_call (fn := Tryd.f40) Tryd.func40 (by kernel_rfl) (by kernel_rfl) h

/-- errata/aggregate.alike -/
def aggregate_alike.pt (g0 h1 : Value) (w : World) (K : Value → World → Prop) : Prop :=
  upK Tryd.prog (sBox T_api_Agg g0) w fun g2 w1 =>
  upK Tryd.prog (sBox T_api_Agg h1) w1 fun h3 w2 =>
  pureK Tryd.prog (sFieldAddr T_api_Agg g2 0) fun t5 =>
  readK Tryd.prog (sLoad T_int t5) w2 fun t6 =>
  pureK Tryd.prog (sFieldAddr T_api_Agg h3 0) fun t7 =>
  readK Tryd.prog (sLoad T_int t7) w2 fun t8 =>
  pureK Tryd.prog (sBin .eql T_int (.tmp 6) (.tmp 8) t6 t8) fun t9 =>
  ifB t9
  (pureK Tryd.prog (sFieldAddr T_api_Agg g2 1) fun t11 =>
   readK Tryd.prog (sLoad T_int t11) w2 fun t12 =>
   pureK Tryd.prog (sFieldAddr T_api_Agg h3 1) fun t13 =>
   readK Tryd.prog (sLoad T_int t13) w2 fun t14 =>
   pureK Tryd.prog (sBin .eql T_int (.tmp 12) (.tmp 14) t12 t14) fun t15 =>
   ifB t15
   (K (.bool true) w2)
   (pureK Tryd.prog (sFieldAddr T_api_Agg g2 0) fun t17 =>
    readK Tryd.prog (sLoad T_int t17) w2 fun t18 =>
    pureK Tryd.prog (sBin .eql T_int (.tmp 18) (.const (.int .i64 0)) t18 (.int .i64 0)) fun t19 =>
    K t19 w2))
  (K (.bool false) w2)
theorem aggregate_alike.pt_eq : aggregate_alike.pt = fun g0 h1 w K => FN Tryd.prog Tryd.f41 (bodyOf Tryd.f41) [4] .leaf [g0, h1] w K := by kernel_rfl
theorem aggregate_alike.call {g0 h1 : Value} {w : World} {K : Value → World → Prop} (h : aggregate_alike.pt g0 h1 w K) : Calls Tryd.prog F_aggregate_alike #[g0, h1] w (retK K) :=
  calls_FN (args := [g0, h1]) Tryd.func41 (by kernel_rfl) (by rw [aggregate_alike.pt_eq] at h; exact h)
theorem aggregate_alike.up {g0 h1 : Value} {w : World} {K : Value → World → Prop} (h : Calls Tryd.prog F_aggregate_alike #[g0, h1] w (retK K)) : upK Tryd.prog (sCall F_aggregate_alike #[g0, h1]) w K :=
  up_call (fn := Tryd.f41) Tryd.func41 (by kernel_rfl) (by kernel_rfl) h

/-- maps.Clone[map[errata/api.Value]int,errata/api.Value,int] -/
def maps_Clone_map_api_Value_int_api_Value_int.pt (m0 : Value) (w : World) (K : Value → World → Prop) : Prop :=
  pureK Tryd.prog (sBin .eql T_map_api_Value_int (.tmp 3) (.const (.map none)) m0 (.map none)) fun t4 =>
  ifB t4
  (K (.map none) w)
  (pureK Tryd.prog (sMkIface T_map_api_Value_int m0) fun t6 =>
   upK Tryd.prog (sCall F_maps_clone #[t6]) w fun t7 w1 =>
   upK Tryd.prog (sTypeAssert t7 T_interface T_map_api_Value_int false) w1 fun t8 w2 =>
   K t8 w2)
theorem maps_Clone_map_api_Value_int_api_Value_int.pt_eq : maps_Clone_map_api_Value_int_api_Value_int.pt = fun m0 w K => FN Tryd.prog Tryd.f42 (bodyOf Tryd.f42) [2] .leaf [m0] w K := by kernel_rfl
theorem maps_Clone_map_api_Value_int_api_Value_int.call {m0 : Value} {w : World} {K : Value → World → Prop} (h : maps_Clone_map_api_Value_int_api_Value_int.pt m0 w K) : Calls Tryd.prog F_maps_Clone_map_api_Value_int_api_Value_int #[m0] w (retK K) :=
  calls_FN (args := [m0]) Tryd.func42 (by kernel_rfl) (by rw [maps_Clone_map_api_Value_int_api_Value_int.pt_eq] at h; exact h)
theorem maps_Clone_map_api_Value_int_api_Value_int.up {m0 : Value} {w : World} {K : Value → World → Prop} (h : Calls Tryd.prog F_maps_Clone_map_api_Value_int_api_Value_int #[m0] w (retK K)) : upK Tryd.prog (sCall F_maps_Clone_map_api_Value_int_api_Value_int #[m0]) w K :=
  up_call (fn := Tryd.f42) Tryd.func42 (by kernel_rfl) (by kernel_rfl) h

/-- errata/errataref03.Right -/
def errataref03_Right.pt (v0 : Value) (w : World) (K : Value → World → Prop) : Prop :=
  upK Tryd.prog (sBox T_api_Value v0) w fun v1 w1 =>
  pureK Tryd.prog (sFieldAddr T_api_Value v1 0) fun t3 =>
  readK Tryd.prog (sLoad T_int t3) w1 fun t4 =>
  pureK Tryd.prog (sBin .eql T_int (.tmp 4) (.const (.int .i64 0)) t4 (.int .i64 0)) fun t5 =>
  ifB t5
  (pureK Tryd.prog (sFieldAddr T_api_Value v1 2) fun t6 =>
   readK Tryd.prog (sLoad T_string t6) w1 fun t7 =>
   pureK Tryd.prog (sBin .eql T_string (.tmp 7) (.const (.string ⟨#[]⟩)) t7 (.string ⟨#[]⟩)) fun t8 =>
   K t8 w1)
  (pureK Tryd.prog (sFieldAddr T_api_Value v1 0) fun t9 =>
   readK Tryd.prog (sLoad T_int t9) w1 fun t10 =>
   pureK Tryd.prog (sBin .eql T_int (.tmp 10) (.const (.int .i64 1)) t10 (.int .i64 1)) fun t11 =>
   ifB t11
   (pureK Tryd.prog (sFieldAddr T_api_Value v1 1) fun t12 =>
    readK Tryd.prog (sLoad T_int t12) w1 fun t13 =>
    pureK Tryd.prog (sBin .eql T_int (.tmp 13) (.const (.int .i64 0)) t13 (.int .i64 0)) fun t14 =>
    ifB t14
    (pureK Tryd.prog (sFieldAddr T_api_Value v1 2) fun t16 =>
     readK Tryd.prog (sLoad T_string t16) w1 fun t17 =>
     readK Tryd.prog (sBlt .len #[T_string] T_int #[false] #[t17]) w1 fun t18 =>
     pureK Tryd.prog (sBin .leq T_int (.tmp 18) (.const (.int .i64 200)) t18 (.int .i64 200)) fun t19 =>
     K t19 w1)
    (K (.bool false) w1))
   (pureK Tryd.prog (sFieldAddr T_api_Value v1 0) fun t21 =>
    readK Tryd.prog (sLoad T_int t21) w1 fun t22 =>
    pureK Tryd.prog (sBin .eql T_int (.tmp 22) (.const (.int .i64 2)) t22 (.int .i64 2)) fun t23 =>
    ifB t23
    (pureK Tryd.prog (sFieldAddr T_api_Value v1 1) fun t25 =>
     readK Tryd.prog (sLoad T_int t25) w1 fun t26 =>
     pureK Tryd.prog (sBin .eql T_int (.tmp 26) (.const (.int .i64 0)) t26 (.int .i64 0)) fun t27 =>
     ifB t27
     (pureK Tryd.prog (sFieldAddr T_api_Value v1 2) fun t35 =>
      readK Tryd.prog (sLoad T_string t35) w1 fun t36 =>
      pureK Tryd.prog (sBin .eql T_string (.tmp 36) (.const (.string ⟨#[]⟩)) t36 (.string ⟨#[]⟩)) fun t37 =>
      K t37 w1)
     (pureK Tryd.prog (sFieldAddr T_api_Value v1 1) fun t29 =>
      readK Tryd.prog (sLoad T_int t29) w1 fun t30 =>
      pureK Tryd.prog (sBin .eql T_int (.tmp 30) (.const (.int .i64 1)) t30 (.int .i64 1)) fun t31 =>
      ifB t31
      (pureK Tryd.prog (sFieldAddr T_api_Value v1 2) fun t35_1 =>
       readK Tryd.prog (sLoad T_string t35_1) w1 fun t36_1 =>
       pureK Tryd.prog (sBin .eql T_string (.tmp 36) (.const (.string ⟨#[]⟩)) t36_1 (.string ⟨#[]⟩)) fun t37_1 =>
       K t37_1 w1)
      (K (.bool false) w1)))
    (K (.bool false) w1)))
theorem errataref03_Right.pt_eq : errataref03_Right.pt = fun v0 w K => FN Tryd.prog Tryd.f43 (bodyOf Tryd.f43) [2] .leaf [v0] w K := by kernel_rfl
theorem errataref03_Right.call {v0 : Value} {w : World} {K : Value → World → Prop} (h : errataref03_Right.pt v0 w K) : Calls Tryd.prog F_errataref03_Right #[v0] w (retK K) :=
  calls_FN (args := [v0]) Tryd.func43 (by kernel_rfl) (by rw [errataref03_Right.pt_eq] at h; exact h)
theorem errataref03_Right.up {v0 : Value} {w : World} {K : Value → World → Prop} (h : Calls Tryd.prog F_errataref03_Right #[v0] w (retK K)) : upK Tryd.prog (sCall F_errataref03_Right #[v0]) w K :=
  up_call (fn := Tryd.f43) Tryd.func43 (by kernel_rfl) (by kernel_rfl) h

/-- slices.DeleteFunc[[]errata/api.Value,errata/api.Value] -/
def slices_DeleteFunc_s_api_Value_api_Value.pt (s0 del1 : Value) (w : World) (K : Value → World → Prop) : Prop :=
  upK Tryd.prog (sCall F_slices_IndexFunc_s_api_Value_api_Value #[s0, del1]) w fun t10 w1 =>
  pureK Tryd.prog (sBin .eql T_int (.tmp 11) (.const (.int .i64 (-1))) t10 (.int .i64 (-1))) fun t12 =>
  ifB t12
  (K s0 w1)
  (pureK Tryd.prog (sBin .add T_int (.tmp 14) (.const (.int .i64 1)) t10 (.int .i64 1)) fun t15 =>
   LOOP (X := Value × Value × Unit) (fun lv2 w2 next2 =>
    readK Tryd.prog (sBlt .len #[T_s_api_Value] T_int #[false] #[s0]) w2 fun t18 =>
    pureK Tryd.prog (sBin .lss T_int (.tmp 16) (.tmp 18) lv2.2.1 t18) fun t19 =>
    ifB t19
    (LETJ (X := Value × Unit) (fun jv1 w3 =>
      pureK Tryd.prog (sBin .add T_int (.tmp 20) (.const (.int .i64 1)) lv2.2.1 (.int .i64 1)) fun t21 =>
      next2 (jv1.1, t21, ()) w3)
     (fun J1 =>
      pureK Tryd.prog (sIdxAddr T_s_api_Value s0 lv2.2.1) fun t24 =>
      readK Tryd.prog (sLoad T_api_Value t24) w2 fun t25 =>
      upK Tryd.prog (sAlloc T_api_Value) w2 fun v7 w4 =>
      upK Tryd.prog (sStore T_api_Value v7 t25) w4 fun tu w5 =>
      readK Tryd.prog (sLoad T_api_Value v7) w5 fun t27 =>
      upK Tryd.prog (sCallV del1 #[t27]) w5 fun t28 w6 =>
      pureK Tryd.prog (sUn .not t28) fun t29 =>
      ifB t29
      (readK Tryd.prog (sLoad T_api_Value v7) w6 fun t32 =>
       pureK Tryd.prog (sIdxAddr T_s_api_Value s0 lv2.1) fun t33 =>
       upK Tryd.prog (sStore T_api_Value t33 t32) w6 fun tu_1 w7 =>
       pureK Tryd.prog (sBin .add T_int (.tmp 34) (.const (.int .i64 1)) lv2.1 (.int .i64 1)) fun t35 =>
       J1 (t35, ()) w7)
      (J1 (lv2.1, ()) w6)))
    (pureK Tryd.prog (sSlice T_s_api_Value s0 (some lv2.1) none none) fun t38 =>
     upK Tryd.prog (sBlt .clear #[T_s_api_Value] T_ #[false] #[t38]) w2 fun tu_2 w8 =>
     pureK Tryd.prog (sSlice T_s_api_Value s0 none (some lv2.1) none) fun t41 =>
     K t41 w8))
   (t10, t15, ()) w1)
theorem slices_DeleteFunc_s_api_Value_api_Value.pt_eq : slices_DeleteFunc_s_api_Value_api_Value.pt = fun s0 del1 w K => FN Tryd.prog Tryd.f44 (bodyOf Tryd.f44) [4] (.node none .leaf (.node none .leaf (.node none .leaf (.node none (.node none .leaf (.node none (.node none (.node none .leaf (.node (some [5]) .leaf .leaf)) .leaf) .leaf)) .leaf)))) [s0, del1] w K := by kernel_rfl
theorem slices_DeleteFunc_s_api_Value_api_Value.call {s0 del1 : Value} {w : World} {K : Value → World → Prop} (h : slices_DeleteFunc_s_api_Value_api_Value.pt s0 del1 w K) : Calls Tryd.prog F_slices_DeleteFunc_s_api_Value_api_Value #[s0, del1] w (retK K) :=
  calls_FN (args := [s0, del1]) Tryd.func44 (by kernel_rfl) (by rw [slices_DeleteFunc_s_api_Value_api_Value.pt_eq] at h; exact h)
theorem slices_DeleteFunc_s_api_Value_api_Value.up {s0 del1 : Value} {w : World} {K : Value → World → Prop} (h : Calls Tryd.prog F_slices_DeleteFunc_s_api_Value_api_Value #[s0, del1] w (retK K)) : upK Tryd.prog (sCall F_slices_DeleteFunc_s_api_Value_api_Value #[s0, del1]) w K :=
  up_call (fn := Tryd.f44) Tryd.func44 (by kernel_rfl) (by kernel_rfl) h

/-- (*errata/aggregate.Acc).best$1 -/
def aggregate_Acc_best_1.pt (v0 t1 t2 : Value) (w : World) (K : Value → World → Prop) : Prop :=
  upK Tryd.prog (sBox T_api_Value v0) w fun v3 w1 =>
  readK Tryd.prog (sLoad T_p_aggregate_Acc t1) (tick w1) fun t5 =>
  pureK Tryd.prog (sNil t5) fun t6 =>
  pureK Tryd.prog (sFieldAddr T_aggregate_Acc t6 3) fun t7 =>
  readK Tryd.prog (sLoad T_s_map_api_Value_int t7) (tick w1) fun t8 =>
  readK Tryd.prog (sLoad T_int t2) (tick w1) fun t9 =>
  pureK Tryd.prog (sIdxAddr T_s_map_api_Value_int t8 t9) fun t10 =>
  readK Tryd.prog (sLoad T_map_api_Value_int t10) (tick w1) fun t11 =>
  readK Tryd.prog (sLoad T_api_Value v3) (tick w1) fun t12 =>
  readK Tryd.prog (sLookup T_map_api_Value_int t11 t12 false) (tick w1) fun t13 =>
  pureK Tryd.prog (sBin .leq T_int (.tmp 13) (.const (.int .i64 0)) t13 (.int .i64 0)) fun t14 =>
  K t14 (tick w1)
theorem aggregate_Acc_best_1.pt_eq : aggregate_Acc_best_1.pt = fun v0 t1 t2 w K => FN Tryd.prog Tryd.f45 (bodyOf Tryd.f45) [4] .leaf [v0, t1, t2] w K := by kernel_rfl
theorem aggregate_Acc_best_1.call {v0 t1 t2 : Value} {w : World} {K : Value → World → Prop} (h : aggregate_Acc_best_1.pt v0 t1 t2 w K) : Calls Tryd.prog F_aggregate_Acc_best_1 #[v0, t1, t2] w (retK K) :=
  calls_FN (args := [v0, t1, t2]) Tryd.func45 (by kernel_rfl) (by rw [aggregate_Acc_best_1.pt_eq] at h; exact h)
theorem aggregate_Acc_best_1.up {v0 t1 t2 : Value} {w : World} {K : Value → World → Prop} (h : Calls Tryd.prog F_aggregate_Acc_best_1 #[v0, t1, t2] w (retK K)) : upK Tryd.prog (sCall F_aggregate_Acc_best_1 #[v0, t1, t2]) w K :=
  up_call (fn := Tryd.f45) Tryd.func45 (by kernel_rfl) (by kernel_rfl) h

/-- (*strings.Builder).copyCheck -/
def strings_Builder_copyCheck.pt (b0 : Value) (w : World) (K : Value → World → Prop) : Prop :=
  pureK Tryd.prog (sNil b0) fun t3 =>
  pureK Tryd.prog (sFieldAddr T_strings_Builder t3 0) fun t4 =>
  readK Tryd.prog (sLoad T_p_strings_Builder t4) w fun t5 =>
  pureK Tryd.prog (sBin .eql T_p_strings_Builder (.tmp 5) (.const (.pointer none)) t5 (.pointer none)) fun t6 =>
  ifB t6
  (upK Tryd.prog (sConv T_p_strings_Builder T_unsafe_Pointer b0) w fun t9 w1 =>
   upK Tryd.prog (sCall F_internal_abi_NoEscape #[t9]) w1 fun t10 w2 =>
   upK Tryd.prog (sConv T_unsafe_Pointer T_p_strings_Builder t10) w2 fun t11 w3 =>
   pureK Tryd.prog (sNil b0) fun t12 =>
   pureK Tryd.prog (sFieldAddr T_strings_Builder t12 0) fun t13 =>
   upK Tryd.prog (sStore T_p_strings_Builder t13 t11) w3 fun tu w4 =>
   K (.tuple #[]) w4)
  (pureK Tryd.prog (sNil b0) fun t15 =>
   pureK Tryd.prog (sFieldAddr T_strings_Builder t15 0) fun t16 =>
   readK Tryd.prog (sLoad T_p_strings_Builder t16) w fun t17 =>
   pureK Tryd.prog (sBin .neq T_p_strings_Builder (.tmp 17) (.tmp 18) t17 b0) fun t19 =>
   ifB t19
   (False)
   (K (.tuple #[]) w))
theorem strings_Builder_copyCheck.pt_eq : strings_Builder_copyCheck.pt = fun b0 w K => FN Tryd.prog Tryd.f46 (bodyOf Tryd.f46) [] .leaf [b0] w K := by kernel_rfl
theorem strings_Builder_copyCheck.call {b0 : Value} {w : World} {K : Value → World → Prop} (h : strings_Builder_copyCheck.pt b0 w K) : Calls Tryd.prog F_strings_Builder_copyCheck #[b0] w (retK K) :=
  calls_FN (args := [b0]) Tryd.func46 (by kernel_rfl) (by rw [strings_Builder_copyCheck.pt_eq] at h; exact h)
theorem strings_Builder_copyCheck.up {b0 : Value} {w : World} {K : Value → World → Prop} (h : Calls Tryd.prog F_strings_Builder_copyCheck #[b0] w (retK K)) : upK Tryd.prog (sCall F_strings_Builder_copyCheck #[b0]) w K :=
  up_call (fn := Tryd.f46) Tryd.func46 (by kernel_rfl) (by kernel_rfl) h

/-- strconv.Itoa -/
theorem strconv_Itoa.up {p0 : Value} {w : World} {K : Value → World → Prop} (h : Calls Tryd.prog F_strconv_Itoa #[p0] w (retK K)) : upK Tryd.prog (sCall F_strconv_Itoa #[p0]) w K :=
  up_call (fn := Tryd.f47) Tryd.func47 (by kernel_rfl) (by kernel_rfl) h

/-- slices.SortedFunc[errata/api.Value] -/
def slices_SortedFunc_api_Value.pt (seq0 cmp1 : Value) (w : World) (K : Value → World → Prop) : Prop :=
  upK Tryd.prog (sCall F_slices_Collect_api_Value #[seq0]) w fun t7 w1 =>
  upK Tryd.prog (sCall F_slices_SortFunc_s_api_Value_api_Value #[t7, cmp1]) w1 fun t10 w2 =>
  K t7 w2
theorem slices_SortedFunc_api_Value.pt_eq : slices_SortedFunc_api_Value.pt = fun seq0 cmp1 w K => FN Tryd.prog Tryd.f48 (bodyOf Tryd.f48) [4] .leaf [seq0, cmp1] w K := by kernel_rfl
theorem slices_SortedFunc_api_Value.call {seq0 cmp1 : Value} {w : World} {K : Value → World → Prop} (h : slices_SortedFunc_api_Value.pt seq0 cmp1 w K) : Calls Tryd.prog F_slices_SortedFunc_api_Value #[seq0, cmp1] w (retK K) :=
  calls_FN (args := [seq0, cmp1]) Tryd.func48 (by kernel_rfl) (by rw [slices_SortedFunc_api_Value.pt_eq] at h; exact h)
theorem slices_SortedFunc_api_Value.up {seq0 cmp1 : Value} {w : World} {K : Value → World → Prop} (h : Calls Tryd.prog F_slices_SortedFunc_api_Value #[seq0, cmp1] w (retK K)) : upK Tryd.prog (sCall F_slices_SortedFunc_api_Value #[seq0, cmp1]) w K :=
  up_call (fn := Tryd.f48) Tryd.func48 (by kernel_rfl) (by kernel_rfl) h

/-- maps.Keys[map[errata/api.Value]int,errata/api.Value,int] -/
def maps_Keys_map_api_Value_int_api_Value_int.pt (m0 : Value) (w : World) (K : Value → World → Prop) : Prop :=
  upK Tryd.prog (sBox T_map_api_Value_int m0) w fun m1 w1 =>
  pureK Tryd.prog (sMkFunc (.func F_maps_Keys_map_api_Value_int_api_Value_int_1) #[] #[m1]) fun t3 =>
  K t3 w1
theorem maps_Keys_map_api_Value_int_api_Value_int.pt_eq : maps_Keys_map_api_Value_int_api_Value_int.pt = fun m0 w K => FN Tryd.prog Tryd.f49 (bodyOf Tryd.f49) [2] .leaf [m0] w K := by kernel_rfl
theorem maps_Keys_map_api_Value_int_api_Value_int.call {m0 : Value} {w : World} {K : Value → World → Prop} (h : maps_Keys_map_api_Value_int_api_Value_int.pt m0 w K) : Calls Tryd.prog F_maps_Keys_map_api_Value_int_api_Value_int #[m0] w (retK K) :=
  calls_FN (args := [m0]) Tryd.func49 (by kernel_rfl) (by rw [maps_Keys_map_api_Value_int_api_Value_int.pt_eq] at h; exact h)
theorem maps_Keys_map_api_Value_int_api_Value_int.up {m0 : Value} {w : World} {K : Value → World → Prop} (h : Calls Tryd.prog F_maps_Keys_map_api_Value_int_api_Value_int #[m0] w (retK K)) : upK Tryd.prog (sCall F_maps_Keys_map_api_Value_int_api_Value_int #[m0]) w K :=
  up_call (fn := Tryd.f49) Tryd.func49 (by kernel_rfl) (by kernel_rfl) h

end Go.Proofs.YtoebncgnjbblgaaDoor
