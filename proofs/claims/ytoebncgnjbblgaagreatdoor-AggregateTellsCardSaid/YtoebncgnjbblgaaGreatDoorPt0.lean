/-
  The reckoned conditions of the functions that this seat's statements reach, printed by program, each held against the translation by the kernel. No condition.
-/
import Derived.Test.YtoebncgnjbblgaaGreatDoorNames
namespace Go.Proofs.YtoebncgnjbblgaaGreatDoor
set_option linter.unusedVariables false
set_option maxRecDepth 100000

/-- errata/erratalaw30.AggregateBack -/
def erratalaw30_AggregateBack.pt (aggs0 l1 m2 s3 : Value) (w : World) (K : Value → World → Prop) : Prop :=
  upK Tryz.prog (sCall F_erratalaw30_small #[]) w fun t19 w1 =>
  upK Tryz.prog (sCall F_erratalaw30_right #[aggs0]) w1 fun t21 w2 =>
  pureK Tryz.prog (sUn .not t21) fun t22 =>
  ifB t22
  (K t19 w2)
  (upK Tryz.prog (sCall F_erratalaw30_few #[l1]) w2 fun t25 w3 =>
   pureK Tryz.prog (sUn .not t25) fun t26 =>
   ifB t26
   (K t19 w3)
   (upK Tryz.prog (sCall F_erratalaw30_few #[m2]) w3 fun t30 w4 =>
    pureK Tryz.prog (sUn .not t30) fun t31 =>
    ifB t31
    (K t19 w4)
    (readK Tryz.prog (sBlt .len #[T_string] T_int #[false] #[s3]) w4 fun t35 =>
     pureK Tryz.prog (sBin .gtr T_int (.tmp 35) (.const (.int .i64 600)) t35 (.int .i64 600)) fun t36 =>
     ifB t36
     (K t19 w4)
     (upK Tryz.prog (sCall F_aggregate_New #[aggs0]) w4 fun t40 w5 =>
      pureK Tryz.prog (sBin .eql T_p_aggregate_Acc (.tmp 41) (.const (.pointer none)) t40 (.pointer none)) fun t42 =>
      ifB t42
      (K (.bool false) w5)
      (LOOP (X := Value × Unit) (fun lv6 w6 next6 =>
        readK Tryz.prog (sBlt .len #[T_s_erratalaw30_Change] T_int #[false] #[l1]) w6 fun t45 =>
        pureK Tryz.prog (sBin .lss T_int (.tmp 43) (.tmp 45) lv6.1 t45) fun t46 =>
        ifB t46
        (pureK Tryz.prog (sIdxAddr T_s_erratalaw30_Change l1 lv6.1) fun t52 =>
         pureK Tryz.prog (sFieldAddr T_erratalaw30_Change t52 0) fun t53 =>
         readK Tryz.prog (sLoad T_s_api_Value t53) (tick w6) fun t54 =>
         pureK Tryz.prog (sIdxAddr T_s_erratalaw30_Change l1 lv6.1) fun t57 =>
         pureK Tryz.prog (sFieldAddr T_erratalaw30_Change t57 1) fun t58 =>
         readK Tryz.prog (sLoad T_int t58) (tick w6) fun t59 =>
         upK Tryz.prog (sCall F_aggregate_Acc_Add #[t40, t54, t59]) (tick w6) fun t60 w7 =>
         pureK Tryz.prog (sBin .add T_int (.tmp 47) (.const (.int .i64 1)) lv6.1 (.int .i64 1)) fun t48 =>
         next6 (t48, ()) w7)
        (upK Tryz.prog (sCall F_aggregate_Acc_Bytes #[t40]) w6 fun t64 w8 =>
         upK Tryz.prog (sCall F_aggregate_Read #[aggs0, t64]) w8 fun t65 w9 =>
         pureK Tryz.prog (sExtract t65 0) fun t66 =>
         pureK Tryz.prog (sExtract t65 1) fun t67 =>
         pureK Tryz.prog (sBin .eql T_p_aggregate_Acc (.tmp 68) (.const (.pointer none)) t66 (.pointer none)) fun t69 =>
         ifB t69
         (K (.bool false) w9)
         (pureK Tryz.prog (sUn .not t67) fun t72 =>
          ifB t72
          (K (.bool false) w9)
          (upK Tryz.prog (sCall F_aggregate_Acc_Copy #[t40]) w9 fun t75 w10 =>
           pureK Tryz.prog (sBin .eql T_p_aggregate_Acc (.tmp 76) (.const (.pointer none)) t75 (.pointer none)) fun t77 =>
           ifB t77
           (K (.bool false) w10)
           (upK Tryz.prog (sCall F_aggregate_Acc_Bytes #[t40]) w10 fun t79 w11 =>
            LOOP (X := Value × Unit) (fun lv12 w12 next12 =>
             readK Tryz.prog (sBlt .len #[T_s_erratalaw30_Change] T_int #[false] #[m2]) w12 fun t82 =>
             pureK Tryz.prog (sBin .lss T_int (.tmp 80) (.tmp 82) lv12.1 t82) fun t83 =>
             ifB t83
             (pureK Tryz.prog (sIdxAddr T_s_erratalaw30_Change m2 lv12.1) fun t89 =>
              pureK Tryz.prog (sFieldAddr T_erratalaw30_Change t89 0) fun t90 =>
              readK Tryz.prog (sLoad T_s_api_Value t90) (tick w12) fun t91 =>
              pureK Tryz.prog (sIdxAddr T_s_erratalaw30_Change m2 lv12.1) fun t94 =>
              pureK Tryz.prog (sFieldAddr T_erratalaw30_Change t94 1) fun t95 =>
              readK Tryz.prog (sLoad T_int t95) (tick w12) fun t96 =>
              upK Tryz.prog (sCall F_aggregate_Acc_Add #[t66, t91, t96]) (tick w12) fun t97 w13 =>
              pureK Tryz.prog (sIdxAddr T_s_erratalaw30_Change m2 lv12.1) fun t101 =>
              pureK Tryz.prog (sFieldAddr T_erratalaw30_Change t101 0) fun t102 =>
              readK Tryz.prog (sLoad T_s_api_Value t102) (tick w13) fun t103 =>
              pureK Tryz.prog (sIdxAddr T_s_erratalaw30_Change m2 lv12.1) fun t106 =>
              pureK Tryz.prog (sFieldAddr T_erratalaw30_Change t106 1) fun t107 =>
              readK Tryz.prog (sLoad T_int t107) (tick w13) fun t108 =>
              upK Tryz.prog (sCall F_aggregate_Acc_Add #[t75, t103, t108]) (tick w13) fun t109 w14 =>
              upK Tryz.prog (sCall F_aggregate_Acc_Bytes #[t66]) w14 fun t111 w15 =>
              upK Tryz.prog (sCall F_aggregate_Acc_Bytes #[t75]) w15 fun t113 w16 =>
              pureK Tryz.prog (sBin .neq T_string (.tmp 111) (.tmp 113) t111 t113) fun t114 =>
              ifB t114
              (K (.bool false) w16)
              (upK Tryz.prog (sCall F_aggregate_Acc_Result #[t66]) w16 fun t117 w17 =>
               upK Tryz.prog (sCall F_aggregate_Acc_Result #[t75]) w17 fun t119 w18 =>
               upK Tryz.prog (sCall F_errataref03_Same #[t117, t119]) w18 fun t120 w19 =>
               pureK Tryz.prog (sUn .not t120) fun t121 =>
               ifB t121
               (K (.bool false) w19)
               (pureK Tryz.prog (sBin .add T_int (.tmp 84) (.const (.int .i64 1)) lv12.1 (.int .i64 1)) fun t85 =>
                next12 (t85, ()) w19)))
             (upK Tryz.prog (sCall F_aggregate_Read #[aggs0, s3]) w12 fun t126 w20 =>
              pureK Tryz.prog (sExtract t126 0) fun t127 =>
              pureK Tryz.prog (sExtract t126 1) fun t128 =>
              pureK Tryz.prog (sBin .neq T_p_aggregate_Acc (.tmp 130) (.const (.pointer none)) t127 (.pointer none)) fun t131 =>
              pureK Tryz.prog (sBin .neq T_bool (.tmp 129) (.tmp 131) t128 t131) fun t132 =>
              ifB t132
              (K (.bool false) w20)
              (LETJ (X := Unit) (fun jv1 w21 =>
                ifB t19
                (upK Tryz.prog (sCall F_aggregate_Acc_Bytes #[t40]) w21 fun t144 w22 =>
                 pureK Tryz.prog (sBin .eql T_string (.tmp 144) (.tmp 145) t144 t79) fun t146 =>
                 K t146 w22)
                (K (.bool false) w21))
               (fun J1 =>
                pureK Tryz.prog (sBin .neq T_p_aggregate_Acc (.tmp 133) (.const (.pointer none)) t127 (.pointer none)) fun t134 =>
                ifB t134
                (upK Tryz.prog (sCall F_aggregate_Acc_Bytes #[t127]) w20 fun t137 w23 =>
                 pureK Tryz.prog (sBin .neq T_string (.tmp 137) (.tmp 138) t137 s3) fun t139 =>
                 ifB t139
                 (K (.bool false) w23)
                 (J1 (()) w23))
                (J1 (()) w20)))))
            ((.int .i64 0), ()) w11)))))
       ((.int .i64 0), ()) w5)))))
theorem erratalaw30_AggregateBack.pt_eq : erratalaw30_AggregateBack.pt = fun aggs0 l1 m2 s3 w K => FN Tryz.prog Tryz.f3 (bodyOf Tryz.f3) [8] (.node none .leaf (.node none .leaf (.node none .leaf (.node none .leaf (.node none .leaf (.node none .leaf (.node none .leaf (.node none .leaf (.node none .leaf (.node none .leaf (.node none .leaf (.node none .leaf (.node none .leaf (.node none .leaf (.node (some []) .leaf .leaf))))))))))))))) [aggs0, l1, m2, s3] w K := by kernel_rfl
theorem erratalaw30_AggregateBack.call {aggs0 l1 m2 s3 : Value} {w : World} {K : Value → World → Prop} (h : erratalaw30_AggregateBack.pt aggs0 l1 m2 s3 w K) : Calls Tryz.prog F_erratalaw30_AggregateBack #[aggs0, l1, m2, s3] w (retK K) :=
  calls_FN (args := [aggs0, l1, m2, s3]) Tryz.func3 (by kernel_rfl) (by rw [erratalaw30_AggregateBack.pt_eq] at h; exact h)
theorem erratalaw30_AggregateBack.up {aggs0 l1 m2 s3 : Value} {w : World} {K : Value → World → Prop} (h : Calls Tryz.prog F_erratalaw30_AggregateBack #[aggs0, l1, m2, s3] w (retK K)) : upK Tryz.prog (sCall F_erratalaw30_AggregateBack #[aggs0, l1, m2, s3]) w K :=
  up_call (fn := Tryz.f3) Tryz.func3 (by kernel_rfl) (by kernel_rfl) h

/-- errata/erratalaw30.AggregateTells -/
def erratalaw30_AggregateTells.pt (aggs0 l1 m2 s3 cols4 : Value) (w : World) (K : Value → World → Prop) : Prop :=
  upK Tryz.prog (sCall F_erratalaw30_small #[]) w fun t26 w1 =>
  upK Tryz.prog (sCall F_erratalaw30_right #[aggs0]) w1 fun t28 w2 =>
  pureK Tryz.prog (sUn .not t28) fun t29 =>
  ifB t29
  (K t26 w2)
  (upK Tryz.prog (sCall F_erratalaw30_few #[l1]) w2 fun t32 w3 =>
   pureK Tryz.prog (sUn .not t32) fun t33 =>
   ifB t33
   (K t26 w3)
   (upK Tryz.prog (sCall F_erratalaw30_few #[m2]) w3 fun t37 w4 =>
    pureK Tryz.prog (sUn .not t37) fun t38 =>
    ifB t38
    (K t26 w4)
    (readK Tryz.prog (sBlt .len #[T_string] T_int #[false] #[s3]) w4 fun t42 =>
     pureK Tryz.prog (sBin .gtr T_int (.tmp 42) (.const (.int .i64 600)) t42 (.int .i64 600)) fun t43 =>
     ifB t43
     (K t26 w4)
     (readK Tryz.prog (sBlt .len #[T_s_api_Col] T_int #[false] #[cols4]) w4 fun t47 =>
      pureK Tryz.prog (sBin .gtr T_int (.tmp 47) (.const (.int .i64 20)) t47 (.int .i64 20)) fun t48 =>
      ifB t48
      (K t26 w4)
      (upK Tryz.prog (sCall F_aggregate_New #[aggs0]) w4 fun t52 w5 =>
       upK Tryz.prog (sCall F_aggregate_New #[aggs0]) w5 fun t54 w6 =>
       upK Tryz.prog (sCall F_errataref30_New #[aggs0]) w6 fun t56 w7 =>
       upK Tryz.prog (sCall F_errataref30_New #[aggs0]) w7 fun t58 w8 =>
       pureK Tryz.prog (sBin .eql T_p_aggregate_Acc (.tmp 59) (.const (.pointer none)) t52 (.pointer none)) fun t60 =>
       ifB t60
       (K (.bool false) w8)
       (pureK Tryz.prog (sBin .eql T_p_aggregate_Acc (.tmp 62) (.const (.pointer none)) t54 (.pointer none)) fun t63 =>
        ifB t63
        (K (.bool false) w8)
        (LOOP (X := Value × Unit) (fun lv9 w9 next9 =>
          readK Tryz.prog (sBlt .len #[T_s_erratalaw30_Change] T_int #[false] #[l1]) w9 fun t67 =>
          pureK Tryz.prog (sBin .lss T_int (.tmp 65) (.tmp 67) lv9.1 t67) fun t68 =>
          ifB t68
          (pureK Tryz.prog (sIdxAddr T_s_erratalaw30_Change l1 lv9.1) fun t74 =>
           pureK Tryz.prog (sFieldAddr T_erratalaw30_Change t74 0) fun t75 =>
           readK Tryz.prog (sLoad T_s_api_Value t75) (tick w9) fun t76 =>
           pureK Tryz.prog (sIdxAddr T_s_erratalaw30_Change l1 lv9.1) fun t79 =>
           pureK Tryz.prog (sFieldAddr T_erratalaw30_Change t79 1) fun t80 =>
           readK Tryz.prog (sLoad T_int t80) (tick w9) fun t81 =>
           upK Tryz.prog (sCall F_aggregate_Acc_Add #[t52, t76, t81]) (tick w9) fun t82 w10 =>
           pureK Tryz.prog (sIdxAddr T_s_erratalaw30_Change l1 lv9.1) fun t86 =>
           pureK Tryz.prog (sFieldAddr T_erratalaw30_Change t86 0) fun t87 =>
           readK Tryz.prog (sLoad T_s_api_Value t87) (tick w10) fun t88 =>
           pureK Tryz.prog (sIdxAddr T_s_erratalaw30_Change l1 lv9.1) fun t91 =>
           pureK Tryz.prog (sFieldAddr T_erratalaw30_Change t91 1) fun t92 =>
           readK Tryz.prog (sLoad T_int t92) (tick w10) fun t93 =>
           upK Tryz.prog (sCall F_errataref30_Acc_Add #[t56, t88, t93]) (tick w10) fun t94 w11 =>
           upK Tryz.prog (sCall F_aggregate_Acc_Result #[t52]) (tick w11) fun t96 w12 =>
           upK Tryz.prog (sCall F_errataref30_Acc_Result #[t56]) w12 fun t98 w13 =>
           upK Tryz.prog (sCall F_errataref03_Same #[t96, t98]) w13 fun t99 w14 =>
           pureK Tryz.prog (sUn .not t99) fun t100 =>
           ifB t100
           (K (.bool false) w14)
           (pureK Tryz.prog (sNil t56) fun t105 =>
            pureK Tryz.prog (sFieldAddr T_errataref30_Acc t105 1) fun t106 =>
            readK Tryz.prog (sLoad T_int t106) w14 fun t107 =>
            upK Tryz.prog (sCall F_aggregate_Acc_Count #[t52]) w14 fun t103 w15 =>
            Is Tryz.prog (sLoad T_int t106) t107 w15 ∧ pureK Tryz.prog (sBin .neq T_int (.tmp 103) (.tmp 107) t103 t107) fun t108 =>
            ifB t108
            (K (.bool false) w15)
            (upK Tryz.prog (sCall F_aggregate_Acc_Rows #[t52]) w15 fun t112 w16 =>
             upK Tryz.prog (sCall F_errataref30_Acc_Rows #[t56]) w16 fun t114 w17 =>
             pureK Tryz.prog (sBin .neq T_int (.tmp 112) (.tmp 114) t112 t114) fun t115 =>
             ifB t115
             (K (.bool false) w17)
             (upK Tryz.prog (sCall F_aggregate_Acc_Empty #[t52]) w17 fun t119 w18 =>
              upK Tryz.prog (sCall F_errataref30_Acc_Empty #[t56]) w18 fun t121 w19 =>
              pureK Tryz.prog (sBin .neq T_bool (.tmp 119) (.tmp 121) t119 t121) fun t122 =>
              ifB t122
              (K (.bool false) w19)
              (upK Tryz.prog (sCall F_aggregate_Acc_Bytes #[t52]) w19 fun t126 w20 =>
               Is Tryz.prog (sLoad T_int t106) t107 w20 ∧ upK Tryz.prog (sCall F_errataref30_Acc_Bytes #[t56]) w20 fun t128 w21 =>
               Is Tryz.prog (sLoad T_int t106) t107 w21 ∧ pureK Tryz.prog (sBin .neq T_string (.tmp 126) (.tmp 128) t126 t128) fun t129 =>
               ifB t129
               (K (.bool false) w21)
               (pureK Tryz.prog (sBin .add T_int (.tmp 69) (.const (.int .i64 1)) lv9.1 (.int .i64 1)) fun t70 =>
                next9 (t70, ()) w21))))))
          (LOOP (X := Value × Unit) (fun lv22 w22 next22 =>
            readK Tryz.prog (sBlt .len #[T_s_erratalaw30_Change] T_int #[false] #[m2]) w22 fun t133 =>
            pureK Tryz.prog (sBin .lss T_int (.tmp 131) (.tmp 133) lv22.1 t133) fun t134 =>
            ifB t134
            (pureK Tryz.prog (sIdxAddr T_s_erratalaw30_Change m2 lv22.1) fun t140 =>
             pureK Tryz.prog (sFieldAddr T_erratalaw30_Change t140 0) fun t141 =>
             readK Tryz.prog (sLoad T_s_api_Value t141) (tick w22) fun t142 =>
             pureK Tryz.prog (sIdxAddr T_s_erratalaw30_Change m2 lv22.1) fun t145 =>
             pureK Tryz.prog (sFieldAddr T_erratalaw30_Change t145 1) fun t146 =>
             readK Tryz.prog (sLoad T_int t146) (tick w22) fun t147 =>
             upK Tryz.prog (sCall F_aggregate_Acc_Add #[t54, t142, t147]) (tick w22) fun t148 w23 =>
             pureK Tryz.prog (sIdxAddr T_s_erratalaw30_Change m2 lv22.1) fun t152 =>
             pureK Tryz.prog (sFieldAddr T_erratalaw30_Change t152 0) fun t153 =>
             readK Tryz.prog (sLoad T_s_api_Value t153) (tick w23) fun t154 =>
             pureK Tryz.prog (sIdxAddr T_s_erratalaw30_Change m2 lv22.1) fun t157 =>
             pureK Tryz.prog (sFieldAddr T_erratalaw30_Change t157 1) fun t158 =>
             readK Tryz.prog (sLoad T_int t158) (tick w23) fun t159 =>
             upK Tryz.prog (sCall F_errataref30_Acc_Add #[t58, t154, t159]) (tick w23) fun t160 w24 =>
             pureK Tryz.prog (sBin .add T_int (.tmp 135) (.const (.int .i64 1)) lv22.1 (.int .i64 1)) fun t136 =>
             next22 (t136, ()) w24)
            (upK Tryz.prog (sCall F_aggregate_Acc_Merge #[t52, t54]) w22 fun t163 w25 =>
             upK Tryz.prog (sCall F_errataref30_Acc_Merge #[t56, t58]) w25 fun t166 w26 =>
             pureK Tryz.prog (sBin .neq T_api_Errno (.tmp 163) (.tmp 166) t163 t166) fun t167 =>
             ifB t167
             (K (.bool false) w26)
             (upK Tryz.prog (sCall F_aggregate_Acc_Bytes #[t52]) w26 fun t170 w27 =>
              upK Tryz.prog (sCall F_errataref30_Acc_Bytes #[t56]) w27 fun t172 w28 =>
              pureK Tryz.prog (sBin .neq T_string (.tmp 170) (.tmp 172) t170 t172) fun t173 =>
              ifB t173
              (K (.bool false) w28)
              (upK Tryz.prog (sCall F_aggregate_Acc_Bytes #[t54]) w28 fun t177 w29 =>
               upK Tryz.prog (sCall F_errataref30_Acc_Bytes #[t58]) w29 fun t179 w30 =>
               pureK Tryz.prog (sBin .neq T_string (.tmp 177) (.tmp 179) t177 t179) fun t180 =>
               ifB t180
               (K (.bool false) w30)
               (upK Tryz.prog (sCall F_aggregate_Read #[aggs0, s3]) w30 fun t185 w31 =>
                pureK Tryz.prog (sExtract t185 0) fun t186 =>
                pureK Tryz.prog (sExtract t185 1) fun t187 =>
                upK Tryz.prog (sCall F_errataref30_Read #[aggs0, s3]) w31 fun t191 w32 =>
                pureK Tryz.prog (sExtract t191 0) fun t192 =>
                pureK Tryz.prog (sExtract t191 1) fun t193 =>
                pureK Tryz.prog (sBin .neq T_bool (.tmp 194) (.tmp 195) t187 t193) fun t196 =>
                ifB t196
                (K (.bool false) w32)
                (pureK Tryz.prog (sBin .neq T_p_aggregate_Acc (.tmp 199) (.const (.pointer none)) t186 (.pointer none)) fun t200 =>
                 pureK Tryz.prog (sBin .neq T_bool (.tmp 198) (.tmp 200) t187 t200) fun t201 =>
                 ifB t201
                 (K (.bool false) w32)
                 (LETJ (X := Unit) (fun jv1 w33 =>
                   upK Tryz.prog (sCall F_aggregate_Cols #[aggs0, cols4]) w33 fun t227 w34 =>
                   pureK Tryz.prog (sExtract t227 0) fun t228 =>
                   pureK Tryz.prog (sExtract t227 1) fun t229 =>
                   upK Tryz.prog (sCall F_errataref30_Cols #[aggs0, cols4]) w34 fun t233 w35 =>
                   pureK Tryz.prog (sExtract t233 0) fun t234 =>
                   pureK Tryz.prog (sExtract t233 1) fun t235 =>
                   ifB t26
                   (pureK Tryz.prog (sBin .eql T_api_Errno (.tmp 238) (.tmp 239) t229 t235) fun t240 =>
                    ifB t240
                    (upK Tryz.prog (sCall F_errataref13_Same #[t228, t234]) w35 fun t245 w36 =>
                     K t245 w36)
                    (K (.bool false) w35))
                   (K (.bool false) w35))
                  (fun J1 =>
                   pureK Tryz.prog (sBin .neq T_p_aggregate_Acc (.tmp 203) (.const (.pointer none)) t186 (.pointer none)) fun t204 =>
                   ifB t204
                   (pureK Tryz.prog (sBin .neq T_p_errataref30_Acc (.tmp 206) (.const (.pointer none)) t192 (.pointer none)) fun t207 =>
                    ifB t207
                    (upK Tryz.prog (sCall F_aggregate_Acc_Bytes #[t186]) w32 fun t211 w37 =>
                     upK Tryz.prog (sCall F_errataref30_Acc_Bytes #[t192]) w37 fun t213 w38 =>
                     pureK Tryz.prog (sBin .neq T_string (.tmp 211) (.tmp 213) t211 t213) fun t214 =>
                     ifB t214
                     (K (.bool false) w38)
                     (upK Tryz.prog (sCall F_aggregate_Acc_Result #[t186]) w38 fun t217 w39 =>
                      upK Tryz.prog (sCall F_errataref30_Acc_Result #[t192]) w39 fun t219 w40 =>
                      upK Tryz.prog (sCall F_errataref03_Same #[t217, t219]) w40 fun t220 w41 =>
                      pureK Tryz.prog (sUn .not t220) fun t221 =>
                      ifB t221
                      (K (.bool false) w41)
                      (J1 (()) w41)))
                    (J1 (()) w32))
                   (J1 (()) w32)))))))))
           ((.int .i64 0), ()) w9))
         ((.int .i64 0), ()) w8)))))))
theorem erratalaw30_AggregateTells.pt_eq : erratalaw30_AggregateTells.pt = fun aggs0 l1 m2 s3 cols4 w K => FN Tryz.prog Tryz.f4 (bodyOf Tryz.f4) [10] (.node none .leaf (.node none .leaf (.node none .leaf (.node none .leaf (.node none .leaf (.node none .leaf (.node none .leaf (.node none .leaf (.node none .leaf (.node none .leaf (.node none .leaf (.node none .leaf (.node none .leaf (.node none .leaf (.node (some []) .leaf .leaf))))))))))))))) [aggs0, l1, m2, s3, cols4] w K := by kernel_rfl
theorem erratalaw30_AggregateTells.call {aggs0 l1 m2 s3 cols4 : Value} {w : World} {K : Value → World → Prop} (h : erratalaw30_AggregateTells.pt aggs0 l1 m2 s3 cols4 w K) : Calls Tryz.prog F_erratalaw30_AggregateTells #[aggs0, l1, m2, s3, cols4] w (retK K) :=
  calls_FN (args := [aggs0, l1, m2, s3, cols4]) Tryz.func4 (by kernel_rfl) (by rw [erratalaw30_AggregateTells.pt_eq] at h; exact h)
theorem erratalaw30_AggregateTells.up {aggs0 l1 m2 s3 cols4 : Value} {w : World} {K : Value → World → Prop} (h : Calls Tryz.prog F_erratalaw30_AggregateTells #[aggs0, l1, m2, s3, cols4] w (retK K)) : upK Tryz.prog (sCall F_erratalaw30_AggregateTells #[aggs0, l1, m2, s3, cols4]) w K :=
  up_call (fn := Tryz.f4) Tryz.func4 (by kernel_rfl) (by kernel_rfl) h

/-- errata/erratalaw30.small -/
def erratalaw30_small.pt (w : World) (K : Value → World → Prop) : Prop :=
  pureK Tryz.prog (sBuild T_api_Agg #[(0, (.int .i64 0))]) fun t4 =>
  pureK Tryz.prog (sBuild T_api_Agg #[(0, (.int .i64 1))]) fun t5 =>
  pureK Tryz.prog (sBuild T_api_Agg #[(0, (.int .i64 3))]) fun t6 =>
  upK Tryz.prog (sBuildSlice T_s_api_Agg 3 #[(0, t4), (1, t5), (2, t6)]) w fun t7 w1 =>
  upK Tryz.prog (sCall F_aggregate_New #[t7]) w1 fun t8 w2 =>
  pureK Tryz.prog (sBin .eql T_p_aggregate_Acc (.tmp 9) (.const (.pointer none)) t8 (.pointer none)) fun t10 =>
  ifB t10
  (K (.bool false) w2)
  (pureK Tryz.prog (sBuild T_api_Value #[(1, (.int .i64 5))]) fun t12 =>
   upK Tryz.prog (sBuildSlice T_s_api_Value 1 #[(0, t12)]) w2 fun t13 w3 =>
   upK Tryz.prog (sCall F_aggregate_Acc_Add #[t8, t13, (.int .i64 2)]) w3 fun t14 w4 =>
   pureK Tryz.prog (sBuild T_api_Value #[(1, (.int .i64 9))]) fun t16 =>
   upK Tryz.prog (sBuildSlice T_s_api_Value 1 #[(0, t16)]) w4 fun t17 w5 =>
   upK Tryz.prog (sCall F_aggregate_Acc_Add #[t8, t17, (.int .i64 1)]) w5 fun t18 w6 =>
   upK Tryz.prog (sCall F_aggregate_Acc_Result #[t8]) w6 fun t20 w7 =>
   pureK Tryz.prog (sBuild T_api_Value #[(1, (.int .i64 3))]) fun t21 =>
   pureK Tryz.prog (sBuild T_api_Value #[(1, (.int .i64 19))]) fun t22 =>
   pureK Tryz.prog (sBuild T_api_Value #[(1, (.int .i64 9))]) fun t23 =>
   upK Tryz.prog (sBuildSlice T_s_api_Value 3 #[(0, t21), (1, t22), (2, t23)]) w7 fun t24 w8 =>
   upK Tryz.prog (sCall F_errataref03_Same #[t20, t24]) w8 fun t25 w9 =>
   pureK Tryz.prog (sBuild T_api_Value #[(1, (.int .i64 9))]) fun t27 =>
   upK Tryz.prog (sBuildSlice T_s_api_Value 1 #[(0, t27)]) w9 fun t28 w10 =>
   upK Tryz.prog (sCall F_aggregate_Acc_Add #[t8, t28, (.int .i64 (-1))]) w10 fun t29 w11 =>
   upK Tryz.prog (sCall F_aggregate_Acc_Result #[t8]) w11 fun t31 w12 =>
   pureK Tryz.prog (sBuild T_api_Value #[(1, (.int .i64 2))]) fun t32 =>
   pureK Tryz.prog (sBuild T_api_Value #[(1, (.int .i64 10))]) fun t33 =>
   pureK Tryz.prog (sBuild T_api_Value #[(1, (.int .i64 5))]) fun t34 =>
   upK Tryz.prog (sBuildSlice T_s_api_Value 3 #[(0, t32), (1, t33), (2, t34)]) w12 fun t35 w13 =>
   upK Tryz.prog (sCall F_errataref03_Same #[t31, t35]) w13 fun t36 w14 =>
   ifB t36
   (upK Tryz.prog (sCall F_aggregate_Acc_Rows #[t8]) w14 fun t39 w15 =>
    pureK Tryz.prog (sBin .eql T_int (.tmp 39) (.const (.int .i64 1)) t39 (.int .i64 1)) fun t40 =>
    ifB t40
    (upK Tryz.prog (sCall F_aggregate_Acc_Empty #[t8]) w15 fun t44 w16 =>
     pureK Tryz.prog (sUn .not t44) fun t45 =>
     pureK Tryz.prog (sBuild T_api_Value #[(1, (.int .i64 5))]) fun t48 =>
     upK Tryz.prog (sBuildSlice T_s_api_Value 1 #[(0, t48)]) w16 fun t49 w17 =>
     upK Tryz.prog (sCall F_aggregate_Acc_Add #[t8, t49, (.int .i64 (-2))]) w17 fun t50 w18 =>
     ifB t25
     (ifB t45
      (upK Tryz.prog (sCall F_aggregate_Acc_Result #[t8]) w18 fun t57 w19 =>
       pureK Tryz.prog (sBuild T_api_Value #[]) fun t58 =>
       pureK Tryz.prog (sBuild T_api_Value #[]) fun t59 =>
       pureK Tryz.prog (sBuild T_api_Value #[]) fun t60 =>
       upK Tryz.prog (sBuildSlice T_s_api_Value 3 #[(0, t58), (1, t59), (2, t60)]) w19 fun t61 w20 =>
       upK Tryz.prog (sCall F_errataref03_Same #[t57, t61]) w20 fun t62 w21 =>
       ifB t62
       (upK Tryz.prog (sCall F_aggregate_Acc_Empty #[t8]) w21 fun t66 w22 =>
        K t66 w22)
       (K (.bool false) w21))
      (K (.bool false) w18))
     (K (.bool false) w18))
    (pureK Tryz.prog (sBuild T_api_Value #[(1, (.int .i64 5))]) fun t48_1 =>
     upK Tryz.prog (sBuildSlice T_s_api_Value 1 #[(0, t48_1)]) w15 fun t49_1 w23 =>
     upK Tryz.prog (sCall F_aggregate_Acc_Add #[t8, t49_1, (.int .i64 (-2))]) w23 fun t50_1 w24 =>
     ifB t25
     (K (.bool false) w24)
     (K (.bool false) w24)))
   (pureK Tryz.prog (sBuild T_api_Value #[(1, (.int .i64 5))]) fun t48_2 =>
    upK Tryz.prog (sBuildSlice T_s_api_Value 1 #[(0, t48_2)]) w14 fun t49_2 w25 =>
    upK Tryz.prog (sCall F_aggregate_Acc_Add #[t8, t49_2, (.int .i64 (-2))]) w25 fun t50_2 w26 =>
    ifB t25
    (K (.bool false) w26)
    (K (.bool false) w26)))
theorem erratalaw30_small.pt_eq : erratalaw30_small.pt = fun  w K => FN Tryz.prog Tryz.f5 (bodyOf Tryz.f5) [0] .leaf [] w K := by kernel_rfl
theorem erratalaw30_small.call {w : World} {K : Value → World → Prop} (h : erratalaw30_small.pt  w K) : Calls Tryz.prog F_erratalaw30_small #[] w (retK K) :=
  calls_FN (args := []) Tryz.func5 (by kernel_rfl) (by rw [erratalaw30_small.pt_eq] at h; exact h)
theorem erratalaw30_small.up {w : World} {K : Value → World → Prop} (h : Calls Tryz.prog F_erratalaw30_small #[] w (retK K)) : upK Tryz.prog (sCall F_erratalaw30_small #[]) w K :=
  up_call (fn := Tryz.f5) Tryz.func5 (by kernel_rfl) (by kernel_rfl) h

/-- errata/erratalaw30.right -/
def erratalaw30_right.pt (aggs0 : Value) (w : World) (K : Value → World → Prop) : Prop :=
  LOOP (X := Value × Unit) (fun lv1 w1 next1 =>
   readK Tryz.prog (sBlt .len #[T_s_api_Agg] T_int #[false] #[aggs0]) w1 fun t6 =>
   pureK Tryz.prog (sBin .lss T_int (.tmp 4) (.tmp 6) lv1.1 t6) fun t7 =>
   ifB t7
   (pureK Tryz.prog (sIdxAddr T_s_api_Agg aggs0 lv1.1) fun t12 =>
    pureK Tryz.prog (sFieldAddr T_api_Agg t12 0) fun t13 =>
    readK Tryz.prog (sLoad T_int t13) w1 fun t14 =>
    pureK Tryz.prog (sBin .lss T_int (.tmp 14) (.const (.int .i64 0)) t14 (.int .i64 0)) fun t15 =>
    ifB t15
    (K (.bool false) w1)
    (pureK Tryz.prog (sIdxAddr T_s_api_Agg aggs0 lv1.1) fun t19 =>
     pureK Tryz.prog (sFieldAddr T_api_Agg t19 0) fun t20 =>
     readK Tryz.prog (sLoad T_int t20) w1 fun t21 =>
     pureK Tryz.prog (sBin .geq T_int (.tmp 21) (.const (.int .i64 4)) t21 (.int .i64 4)) fun t22 =>
     ifB t22
     (K (.bool false) w1)
     (pureK Tryz.prog (sIdxAddr T_s_api_Agg aggs0 lv1.1) fun t27 =>
      pureK Tryz.prog (sFieldAddr T_api_Agg t27 1) fun t28 =>
      readK Tryz.prog (sLoad T_int t28) w1 fun t29 =>
      pureK Tryz.prog (sBin .lss T_int (.tmp 29) (.const (.int .i64 0)) t29 (.int .i64 0)) fun t30 =>
      ifB t30
      (K (.bool false) w1)
      (pureK Tryz.prog (sBin .add T_int (.tmp 8) (.const (.int .i64 1)) lv1.1 (.int .i64 1)) fun t9 =>
       next1 (t9, ()) w1))))
   (readK Tryz.prog (sBlt .len #[T_s_api_Agg] T_int #[false] #[aggs0]) w1 fun t33 =>
    pureK Tryz.prog (sBin .leq T_int (.tmp 33) (.const (.int .i64 8)) t33 (.int .i64 8)) fun t34 =>
    K t34 w1))
  ((.int .i64 0), ()) w
theorem erratalaw30_right.pt_eq : erratalaw30_right.pt = fun aggs0 w K => FN Tryz.prog Tryz.f6 (bodyOf Tryz.f6) [2] .leaf [aggs0] w K := by kernel_rfl
theorem erratalaw30_right.call {aggs0 : Value} {w : World} {K : Value → World → Prop} (h : erratalaw30_right.pt aggs0 w K) : Calls Tryz.prog F_erratalaw30_right #[aggs0] w (retK K) :=
  calls_FN (args := [aggs0]) Tryz.func6 (by kernel_rfl) (by rw [erratalaw30_right.pt_eq] at h; exact h)
theorem erratalaw30_right.up {aggs0 : Value} {w : World} {K : Value → World → Prop} (h : Calls Tryz.prog F_erratalaw30_right #[aggs0] w (retK K)) : upK Tryz.prog (sCall F_erratalaw30_right #[aggs0]) w K :=
  up_call (fn := Tryz.f6) Tryz.func6 (by kernel_rfl) (by kernel_rfl) h

/-- errata/erratalaw30.few -/
def erratalaw30_few.pt (l0 : Value) (w : World) (K : Value → World → Prop) : Prop :=
  LOOP (X := Value × Unit) (fun lv1 w1 next1 =>
   readK Tryz.prog (sBlt .len #[T_s_erratalaw30_Change] T_int #[false] #[l0]) w1 fun t6 =>
   pureK Tryz.prog (sBin .lss T_int (.tmp 4) (.tmp 6) lv1.1 t6) fun t7 =>
   ifB t7
   (pureK Tryz.prog (sIdxAddr T_s_erratalaw30_Change l0 lv1.1) fun t12 =>
    pureK Tryz.prog (sFieldAddr T_erratalaw30_Change t12 0) fun t13 =>
    readK Tryz.prog (sLoad T_s_api_Value t13) w1 fun t14 =>
    readK Tryz.prog (sBlt .len #[T_s_api_Value] T_int #[false] #[t14]) w1 fun t15 =>
    pureK Tryz.prog (sBin .gtr T_int (.tmp 15) (.const (.int .i64 5)) t15 (.int .i64 5)) fun t16 =>
    ifB t16
    (K (.bool false) w1)
    (pureK Tryz.prog (sIdxAddr T_s_erratalaw30_Change l0 lv1.1) fun t20 =>
     pureK Tryz.prog (sFieldAddr T_erratalaw30_Change t20 0) fun t21 =>
     readK Tryz.prog (sLoad T_s_api_Value t21) w1 fun t22 =>
     upK Tryz.prog (sCall F_errataref03_All #[t22]) w1 fun t23 w2 =>
     pureK Tryz.prog (sUn .not t23) fun t24 =>
     ifB t24
     (K (.bool false) w2)
     (pureK Tryz.prog (sBin .add T_int (.tmp 8) (.const (.int .i64 1)) lv1.1 (.int .i64 1)) fun t9 =>
      next1 (t9, ()) w2)))
   (readK Tryz.prog (sBlt .len #[T_s_erratalaw30_Change] T_int #[false] #[l0]) w1 fun t27 =>
    pureK Tryz.prog (sBin .leq T_int (.tmp 27) (.const (.int .i64 40)) t27 (.int .i64 40)) fun t28 =>
    K t28 w1))
  ((.int .i64 0), ()) w
theorem erratalaw30_few.pt_eq : erratalaw30_few.pt = fun l0 w K => FN Tryz.prog Tryz.f7 (bodyOf Tryz.f7) [2] .leaf [l0] w K := by kernel_rfl
theorem erratalaw30_few.call {l0 : Value} {w : World} {K : Value → World → Prop} (h : erratalaw30_few.pt l0 w K) : Calls Tryz.prog F_erratalaw30_few #[l0] w (retK K) :=
  calls_FN (args := [l0]) Tryz.func7 (by kernel_rfl) (by rw [erratalaw30_few.pt_eq] at h; exact h)
theorem erratalaw30_few.up {l0 : Value} {w : World} {K : Value → World → Prop} (h : Calls Tryz.prog F_erratalaw30_few #[l0] w (retK K)) : upK Tryz.prog (sCall F_erratalaw30_few #[l0]) w K :=
  up_call (fn := Tryz.f7) Tryz.func7 (by kernel_rfl) (by kernel_rfl) h

/-- errata/aggregate.New -/
def aggregate_New.pt (aggs0 : Value) (w : World) (K : Value → World → Prop) : Prop :=
  LETJ (X := Value × Unit) (fun jv1 w1 =>
   readK Tryz.prog (sBlt .len #[T_s_api_Agg] T_int #[false] #[aggs0]) w1 fun t17 =>
   LOOP (X := Value × Unit) (fun lv2 w2 next2 =>
    pureK Tryz.prog (sBin .lss T_int (.tmp 18) (.tmp 17) lv2.1 t17) fun t19 =>
    ifB t19
    (LETJ (X := Unit) (fun jv2 w3 =>
      pureK Tryz.prog (sBin .add T_int (.tmp 18) (.const (.int .i64 1)) lv2.1 (.int .i64 1)) fun t32 =>
      next2 (t32, ()) w3)
     (fun J2 =>
      pureK Tryz.prog (sIdxAddr T_s_api_Agg aggs0 lv2.1) fun t21 =>
      readK Tryz.prog (sLoad T_api_Agg t21) w2 fun t22 =>
      upK Tryz.prog (sAlloc T_api_Agg) w2 fun g5 w4 =>
      upK Tryz.prog (sStore T_api_Agg g5 t22) w4 fun tu w5 =>
      readK Tryz.prog (sLoad T_api_Agg g5) w5 fun t23 =>
      upK Tryz.prog (sCall F_aggregate_ordered #[t23]) w5 fun t24 w6 =>
      ifB t24
      (pureK Tryz.prog (sNil jv1.1) fun t26 =>
       pureK Tryz.prog (sFieldAddr T_aggregate_Acc t26 3) fun t27 =>
       readK Tryz.prog (sLoad T_s_map_api_Value_int t27) w6 fun t28 =>
       upK Tryz.prog (sMkMap T_map_api_Value_int none) w6 fun t30 w7 =>
       pureK Tryz.prog (sIdxAddr T_s_map_api_Value_int t28 lv2.1) fun t31 =>
       upK Tryz.prog (sStore T_map_api_Value_int t31 t30) w7 fun tu_1 w8 =>
       J2 (()) w8)
      (J2 (()) w6)))
    (K jv1.1 w2))
   ((.int .i64 0), ()) w1)
  (fun J1 =>
   readK Tryz.prog (sBlt .len #[T_s_api_Agg] T_int #[false] #[aggs0]) (tick w) fun t9 =>
   readK Tryz.prog (sBlt .len #[T_s_api_Agg] T_int #[false] #[aggs0]) (tick w) fun t12 =>
   ((upK Tryz.prog (sCall F_slices_Clone_s_api_Agg_api_Agg #[aggs0]) (tick w) fun t7 w9 =>
     Is Tryz.prog (sBlt .len #[T_s_api_Agg] T_int #[false] #[aggs0]) t12 w9 ∧ Is Tryz.prog (sBlt .len #[T_s_api_Agg] T_int #[false] #[aggs0]) t9 w9 ∧ ((upK Tryz.prog (sMkSlice T_s_int t9 t9) w9 fun t10 w10 =>
       Is Tryz.prog (sBlt .len #[T_s_api_Agg] T_int #[false] #[aggs0]) t12 w10 ∧ upK Tryz.prog (sMkSlice T_s_map_api_Value_int t12 t12) w10 fun t13 w11 =>
       Is Tryz.prog (sBlt .len #[T_s_api_Agg] T_int #[false] #[aggs0]) t9 w11 ∧ pureK Tryz.prog (sBuild T_aggregate_Acc #[(0, t7), (2, t10), (3, t13)]) fun t14 =>
       upK Tryz.prog (sBox T_aggregate_Acc t14) w11 fun t15 w12 =>
       J1 (t15, ()) w12)
      ∧ (upK Tryz.prog (sMkSlice T_s_map_api_Value_int t12 t12) w9 fun t13_1 w13 =>
       Is Tryz.prog (sBlt .len #[T_s_api_Agg] T_int #[false] #[aggs0]) t9 w13 ∧ upK Tryz.prog (sMkSlice T_s_int t9 t9) w13 fun t10_1 w14 =>
       Is Tryz.prog (sBlt .len #[T_s_api_Agg] T_int #[false] #[aggs0]) t12 w14 ∧ pureK Tryz.prog (sBuild T_aggregate_Acc #[(0, t7), (2, t10_1), (3, t13_1)]) fun t14_1 =>
       upK Tryz.prog (sBox T_aggregate_Acc t14_1) w14 fun t15_1 w15 =>
       J1 (t15_1, ()) w15)))
    ∧ ((upK Tryz.prog (sMkSlice T_s_int t9 t9) (tick w) fun t10_2 w16 =>
      Is Tryz.prog (sBlt .len #[T_s_api_Agg] T_int #[false] #[aggs0]) t12 w16 ∧ ((upK Tryz.prog (sCall F_slices_Clone_s_api_Agg_api_Agg #[aggs0]) w16 fun t7_1 w17 =>
        Is Tryz.prog (sBlt .len #[T_s_api_Agg] T_int #[false] #[aggs0]) t12 w17 ∧ Is Tryz.prog (sBlt .len #[T_s_api_Agg] T_int #[false] #[aggs0]) t9 w17 ∧ upK Tryz.prog (sMkSlice T_s_map_api_Value_int t12 t12) w17 fun t13_2 w18 =>
        Is Tryz.prog (sBlt .len #[T_s_api_Agg] T_int #[false] #[aggs0]) t9 w18 ∧ pureK Tryz.prog (sBuild T_aggregate_Acc #[(0, t7_1), (2, t10_2), (3, t13_2)]) fun t14_2 =>
        upK Tryz.prog (sBox T_aggregate_Acc t14_2) w18 fun t15_2 w19 =>
        J1 (t15_2, ()) w19)
       ∧ (upK Tryz.prog (sMkSlice T_s_map_api_Value_int t12 t12) w16 fun t13_3 w20 =>
        Is Tryz.prog (sBlt .len #[T_s_api_Agg] T_int #[false] #[aggs0]) t9 w20 ∧ upK Tryz.prog (sCall F_slices_Clone_s_api_Agg_api_Agg #[aggs0]) w20 fun t7_2 w21 =>
        Is Tryz.prog (sBlt .len #[T_s_api_Agg] T_int #[false] #[aggs0]) t12 w21 ∧ Is Tryz.prog (sBlt .len #[T_s_api_Agg] T_int #[false] #[aggs0]) t9 w21 ∧ pureK Tryz.prog (sBuild T_aggregate_Acc #[(0, t7_2), (2, t10_2), (3, t13_3)]) fun t14_3 =>
        upK Tryz.prog (sBox T_aggregate_Acc t14_3) w21 fun t15_3 w22 =>
        J1 (t15_3, ()) w22)))
     ∧ (upK Tryz.prog (sMkSlice T_s_map_api_Value_int t12 t12) (tick w) fun t13_4 w23 =>
      Is Tryz.prog (sBlt .len #[T_s_api_Agg] T_int #[false] #[aggs0]) t9 w23 ∧ ((upK Tryz.prog (sCall F_slices_Clone_s_api_Agg_api_Agg #[aggs0]) w23 fun t7_3 w24 =>
        Is Tryz.prog (sBlt .len #[T_s_api_Agg] T_int #[false] #[aggs0]) t12 w24 ∧ Is Tryz.prog (sBlt .len #[T_s_api_Agg] T_int #[false] #[aggs0]) t9 w24 ∧ upK Tryz.prog (sMkSlice T_s_int t9 t9) w24 fun t10_3 w25 =>
        Is Tryz.prog (sBlt .len #[T_s_api_Agg] T_int #[false] #[aggs0]) t12 w25 ∧ pureK Tryz.prog (sBuild T_aggregate_Acc #[(0, t7_3), (2, t10_3), (3, t13_4)]) fun t14_4 =>
        upK Tryz.prog (sBox T_aggregate_Acc t14_4) w25 fun t15_4 w26 =>
        J1 (t15_4, ()) w26)
       ∧ (upK Tryz.prog (sMkSlice T_s_int t9 t9) w23 fun t10_4 w27 =>
        Is Tryz.prog (sBlt .len #[T_s_api_Agg] T_int #[false] #[aggs0]) t12 w27 ∧ upK Tryz.prog (sCall F_slices_Clone_s_api_Agg_api_Agg #[aggs0]) w27 fun t7_4 w28 =>
        Is Tryz.prog (sBlt .len #[T_s_api_Agg] T_int #[false] #[aggs0]) t12 w28 ∧ Is Tryz.prog (sBlt .len #[T_s_api_Agg] T_int #[false] #[aggs0]) t9 w28 ∧ pureK Tryz.prog (sBuild T_aggregate_Acc #[(0, t7_4), (2, t10_4), (3, t13_4)]) fun t14_5 =>
        upK Tryz.prog (sBox T_aggregate_Acc t14_5) w28 fun t15_5 w29 =>
        J1 (t15_5, ()) w29))))))
theorem aggregate_New.pt_eq : aggregate_New.pt = fun aggs0 w K => FN Tryz.prog Tryz.f8 (bodyOf Tryz.f8) [2] (.node none .leaf (.node (some [3]) .leaf (.node none (.node none .leaf (.node none (.node none (.node none .leaf (.node none .leaf (.node (some []) .leaf .leaf))) .leaf) .leaf)) .leaf))) [aggs0] w K := by kernel_rfl
theorem aggregate_New.call {aggs0 : Value} {w : World} {K : Value → World → Prop} (h : aggregate_New.pt aggs0 w K) : Calls Tryz.prog F_aggregate_New #[aggs0] w (retK K) :=
  calls_FN (args := [aggs0]) Tryz.func8 (by kernel_rfl) (by rw [aggregate_New.pt_eq] at h; exact h)
theorem aggregate_New.up {aggs0 : Value} {w : World} {K : Value → World → Prop} (h : Calls Tryz.prog F_aggregate_New #[aggs0] w (retK K)) : upK Tryz.prog (sCall F_aggregate_New #[aggs0]) w K :=
  up_call (fn := Tryz.f8) Tryz.func8 (by kernel_rfl) (by kernel_rfl) h

/-- (*errata/aggregate.Acc).Add -/
def aggregate_Acc_Add.pt (a0 row1 n2 : Value) (w : World) (K : Value → World → Prop) : Prop :=
  pureK Tryz.prog (sNil a0) fun t10 =>
  pureK Tryz.prog (sFieldAddr T_aggregate_Acc t10 1) fun t11 =>
  readK Tryz.prog (sLoad T_int t11) w fun t12 =>
  pureK Tryz.prog (sBin .add T_int (.tmp 12) (.tmp 13) t12 n2) fun t14 =>
  pureK Tryz.prog (sNil a0) fun t15 =>
  pureK Tryz.prog (sFieldAddr T_aggregate_Acc t15 1) fun t16 =>
  upK Tryz.prog (sStore T_int t16 t14) w fun tu w1 =>
  pureK Tryz.prog (sNil a0) fun t18 =>
  pureK Tryz.prog (sFieldAddr T_aggregate_Acc t18 0) fun t19 =>
  readK Tryz.prog (sLoad T_s_api_Agg t19) w1 fun t20 =>
  readK Tryz.prog (sBlt .len #[T_s_api_Agg] T_int #[false] #[t20]) w1 fun t21 =>
  LOOP (X := Value × Unit) (fun lv2 w2 next2 =>
   pureK Tryz.prog (sBin .lss T_int (.tmp 22) (.tmp 21) lv2.1 t21) fun t23 =>
   ifB t23
   (LETJ (X := Unit) (fun jv1 w3 =>
     pureK Tryz.prog (sBin .add T_int (.tmp 22) (.const (.int .i64 1)) lv2.1 (.int .i64 1)) fun t61 =>
     next2 (t61, ()) w3)
    (fun J1 =>
     pureK Tryz.prog (sIdxAddr T_s_api_Agg t20 lv2.1) fun t25 =>
     readK Tryz.prog (sLoad T_api_Agg t25) w2 fun t26 =>
     upK Tryz.prog (sAlloc T_api_Agg) w2 fun g7 w4 =>
     upK Tryz.prog (sStore T_api_Agg g7 t26) w4 fun tu_1 w5 =>
     pureK Tryz.prog (sFieldAddr T_api_Agg g7 1) fun t28 =>
     readK Tryz.prog (sLoad T_int t28) w5 fun t29 =>
     upK Tryz.prog (sCall F_aggregate_at #[row1, t29]) w5 fun t30 w6 =>
     upK Tryz.prog (sAlloc T_api_Value) w6 fun v8 w7 =>
     upK Tryz.prog (sStore T_api_Value v8 t30) w7 fun tu_2 w8 =>
     pureK Tryz.prog (sFieldAddr T_api_Agg g7 0) fun t32 =>
     readK Tryz.prog (sLoad T_int t32) w8 fun t33 =>
     pureK Tryz.prog (sBin .eql T_int (.tmp 33) (.const (.int .i64 1)) t33 (.int .i64 1)) fun t34 =>
     ifB t34
     (pureK Tryz.prog (sNil a0) fun t36 =>
      pureK Tryz.prog (sFieldAddr T_aggregate_Acc t36 2) fun t37 =>
      readK Tryz.prog (sLoad T_s_int t37) (tick w8) fun t38 =>
      pureK Tryz.prog (sIdxAddr T_s_int t38 lv2.1) fun t40 =>
      readK Tryz.prog (sLoad T_int t40) (tick w8) fun t41 =>
      pureK Tryz.prog (sFieldAddr T_api_Value v8 1) fun t43 =>
      readK Tryz.prog (sLoad T_int t43) (tick w8) fun t44 =>
      pureK Tryz.prog (sBin .mul T_int (.tmp 42) (.tmp 44) n2 t44) fun t45 =>
      pureK Tryz.prog (sBin .add T_int (.tmp 41) (.tmp 45) t41 t45) fun t46 =>
      pureK Tryz.prog (sIdxAddr T_s_int t38 lv2.1) fun t47 =>
      upK Tryz.prog (sStore T_int t47 t46) (tick w8) fun tu_3 w9 =>
      J1 (()) w9)
     (readK Tryz.prog (sLoad T_api_Agg g7) w8 fun t49 =>
      upK Tryz.prog (sCall F_aggregate_ordered #[t49]) w8 fun t50 w10 =>
      ifB t50
      (pureK Tryz.prog (sNil a0) fun t52 =>
       pureK Tryz.prog (sFieldAddr T_aggregate_Acc t52 3) fun t53 =>
       readK Tryz.prog (sLoad T_s_map_api_Value_int t53) (tick w10) fun t54 =>
       pureK Tryz.prog (sIdxAddr T_s_map_api_Value_int t54 lv2.1) fun t56 =>
       readK Tryz.prog (sLoad T_map_api_Value_int t56) (tick w10) fun t57 =>
       readK Tryz.prog (sLoad T_api_Value v8) (tick w10) fun t58 =>
       upK Tryz.prog (sCall F_aggregate_put #[t57, t58, n2]) (tick w10) fun t60 w11 =>
       J1 (()) w11)
      (J1 (()) w10))))
   (K (.tuple #[]) w2))
  ((.int .i64 0), ()) w1
theorem aggregate_Acc_Add.pt_eq : aggregate_Acc_Add.pt = fun a0 row1 n2 w K => FN Tryz.prog Tryz.f9 (bodyOf Tryz.f9) [] (.node none .leaf (.node none .leaf (.node none (.node none (.node none .leaf (.node none .leaf (.node (some []) .leaf .leaf))) .leaf) .leaf))) [a0, row1, n2] w K := by kernel_rfl
theorem aggregate_Acc_Add.call {a0 row1 n2 : Value} {w : World} {K : Value → World → Prop} (h : aggregate_Acc_Add.pt a0 row1 n2 w K) : Calls Tryz.prog F_aggregate_Acc_Add #[a0, row1, n2] w (retK K) :=
  calls_FN (args := [a0, row1, n2]) Tryz.func9 (by kernel_rfl) (by rw [aggregate_Acc_Add.pt_eq] at h; exact h)
theorem aggregate_Acc_Add.up {a0 row1 n2 : Value} {w : World} {K : Value → World → Prop} (h : Calls Tryz.prog F_aggregate_Acc_Add #[a0, row1, n2] w (retK K)) : upK Tryz.prog (sCall F_aggregate_Acc_Add #[a0, row1, n2]) w K :=
  up_call (fn := Tryz.f9) Tryz.func9 (by kernel_rfl) (by kernel_rfl) h

/-- errata/aggregate.Read -/
def aggregate_Read.pt (aggs0 s1 : Value) (w : World) (K : Value → World → Prop) : Prop :=
  upK Tryz.prog (sCall F_aggregate_New #[aggs0]) w fun t14 w1 =>
  upK Tryz.prog (sCall F_wire_Open #[s1]) w1 fun t16 w2 =>
  upK Tryz.prog (sCall F_wire_Reader_Int #[t16]) w2 fun t19 w3 =>
  pureK Tryz.prog (sNil t14) fun t20 =>
  pureK Tryz.prog (sFieldAddr T_aggregate_Acc t20 1) fun t21 =>
  upK Tryz.prog (sStore T_int t21 t19) w3 fun tu w4 =>
  readK Tryz.prog (sBlt .len #[T_s_api_Agg] T_int #[false] #[aggs0]) w4 fun t23 =>
  LOOP (X := Value × Unit) (fun lv5 w5 next5 =>
   pureK Tryz.prog (sBin .lss T_int (.tmp 24) (.tmp 23) lv5.1 t23) fun t25 =>
   ifB t25
   (LETJ (X := Unit) (fun jv1 w6 =>
     pureK Tryz.prog (sBin .add T_int (.tmp 24) (.const (.int .i64 1)) lv5.1 (.int .i64 1)) fun t91 =>
     next5 (t91, ()) w6)
    (fun J1 =>
     pureK Tryz.prog (sIdxAddr T_s_api_Agg aggs0 lv5.1) fun t27 =>
     readK Tryz.prog (sLoad T_api_Agg t27) w5 fun t28 =>
     upK Tryz.prog (sAlloc T_api_Agg) w5 fun g9 w7 =>
     upK Tryz.prog (sStore T_api_Agg g9 t28) w7 fun tu_1 w8 =>
     LETJ (X := Unit) (fun jv2 w9 =>
      readK Tryz.prog (sLoad T_api_Agg g9) w9 fun t40 =>
      upK Tryz.prog (sCall F_aggregate_ordered #[t40]) w9 fun t41 w10 =>
      pureK Tryz.prog (sUn .not t41) fun t42 =>
      ifB t42
      (J1 (()) w10)
      (upK Tryz.prog (sCall F_wire_Reader_Num #[t16]) w10 fun t44 w11 =>
       readK Tryz.prog (sBlt .len #[T_string] T_int #[false] #[s1]) w11 fun t46 =>
       pureK Tryz.prog (sBlt .min #[T_int, T_int] T_int #[false, false] #[t44, t46]) fun t47 =>
       LOOP (X := Value × Value × Unit) (fun lv12 w12 next12 =>
        pureK Tryz.prog (sBin .lss T_int (.tmp 48) (.tmp 47) lv12.2.1 t47) fun t49 =>
        ifB t49
        (upK Tryz.prog (sCall F_wire_Reader_Text #[t16]) w12 fun t52 w13 =>
         upK Tryz.prog (sCall F_value_Read #[t52]) w13 fun t53 w14 =>
         pureK Tryz.prog (sExtract t53 0) fun t54 =>
         pureK Tryz.prog (sExtract t53 1) fun t55 =>
         upK Tryz.prog (sAlloc T_api_Value) w14 fun v11 w15 =>
         upK Tryz.prog (sStore T_api_Value v11 t54) w15 fun tu_2 w16 =>
         pureK Tryz.prog (sUn .not t55) fun t57 =>
         ifB t57
         (K (.tuple #[(.pointer none), (.bool false)]) w16)
         (readK Tryz.prog (sLoad T_api_Value v11) w16 fun t59 =>
          upK Tryz.prog (sCall F_value_Right #[t59]) w16 fun t60 w17 =>
          pureK Tryz.prog (sUn .not t60) fun t61 =>
          ifB t61
          (K (.tuple #[(.pointer none), (.bool false)]) w17)
          (pureK Tryz.prog (sNil t14) fun t64 =>
           pureK Tryz.prog (sFieldAddr T_aggregate_Acc t64 3) fun t65 =>
           readK Tryz.prog (sLoad T_s_map_api_Value_int t65) (tick w17) fun t66 =>
           pureK Tryz.prog (sIdxAddr T_s_map_api_Value_int t66 lv5.1) fun t68 =>
           readK Tryz.prog (sLoad T_map_api_Value_int t68) (tick w17) fun t69 =>
           readK Tryz.prog (sLoad T_api_Value v11) (tick w17) fun t70 =>
           upK Tryz.prog (sCall F_wire_Reader_Int #[t16]) (tick w17) fun t72 w18 =>
           Is Tryz.prog (sLoad T_api_Value v11) t70 w18 ∧ Is Tryz.prog (sLoad T_map_api_Value_int t68) t69 w18 ∧ Is Tryz.prog (sLoad T_s_map_api_Value_int t65) t66 w18 ∧ upK Tryz.prog (sMapUpd T_map_api_Value_int t69 t70 t72) w18 fun tu_3 w19 =>
           pureK Tryz.prog (sNil t14) fun t75 =>
           pureK Tryz.prog (sFieldAddr T_aggregate_Acc t75 3) fun t76 =>
           readK Tryz.prog (sLoad T_s_map_api_Value_int t76) (tick w19) fun t77 =>
           pureK Tryz.prog (sIdxAddr T_s_map_api_Value_int t77 lv5.1) fun t79 =>
           readK Tryz.prog (sLoad T_map_api_Value_int t79) (tick w19) fun t80 =>
           readK Tryz.prog (sLoad T_api_Value v11) (tick w19) fun t81 =>
           readK Tryz.prog (sLookup T_map_api_Value_int t80 t81 false) (tick w19) fun t82 =>
           pureK Tryz.prog (sBin .add T_int (.tmp 73) (.tmp 82) lv12.1 t82) fun t83 =>
           pureK Tryz.prog (sBin .add T_int (.tmp 48) (.const (.int .i64 1)) lv12.2.1 (.int .i64 1)) fun t84 =>
           next12 (t83, t84, ()) (tick w19))))
        (pureK Tryz.prog (sNil t14) fun t87 =>
         pureK Tryz.prog (sFieldAddr T_aggregate_Acc t87 1) fun t88 =>
         readK Tryz.prog (sLoad T_int t88) w12 fun t89 =>
         pureK Tryz.prog (sBin .neq T_int (.tmp 85) (.tmp 89) lv12.1 t89) fun t90 =>
         ifB t90
         (K (.tuple #[(.pointer none), (.bool false)]) w12)
         (J1 (()) w12)))
       ((.int .i64 0), (.int .i64 0), ()) w11))
     (fun J2 =>
      pureK Tryz.prog (sFieldAddr T_api_Agg g9 0) fun t29 =>
      readK Tryz.prog (sLoad T_int t29) w8 fun t30 =>
      pureK Tryz.prog (sBin .eql T_int (.tmp 30) (.const (.int .i64 1)) t30 (.int .i64 1)) fun t31 =>
      ifB t31
      (pureK Tryz.prog (sNil t14) fun t33 =>
       pureK Tryz.prog (sFieldAddr T_aggregate_Acc t33 2) fun t34 =>
       readK Tryz.prog (sLoad T_s_int t34) (tick w8) fun t35 =>
       upK Tryz.prog (sCall F_wire_Reader_Int #[t16]) (tick w8) fun t38 w20 =>
       Is Tryz.prog (sLoad T_s_int t34) t35 w20 ∧ pureK Tryz.prog (sIdxAddr T_s_int t35 lv5.1) fun t39 =>
       upK Tryz.prog (sStore T_int t39 t38) w20 fun tu_4 w21 =>
       J2 (()) w21)
      (J2 (()) w8))))
   (upK Tryz.prog (sCall F_wire_Reader_Done #[t16]) w5 fun t93 w22 =>
    pureK Tryz.prog (sUn .not t93) fun t94 =>
    ifB t94
    (K (.tuple #[(.pointer none), (.bool false)]) w22)
    (upK Tryz.prog (sCall F_aggregate_Acc_Bytes #[t14]) w22 fun t97 w23 =>
     pureK Tryz.prog (sBin .neq T_string (.tmp 97) (.tmp 98) t97 s1) fun t99 =>
     ifB t99
     (K (.tuple #[(.pointer none), (.bool false)]) w23)
     (pureK Tryz.prog (sNil t14) fun t103 =>
      pureK Tryz.prog (sFieldAddr T_aggregate_Acc t103 3) fun t104 =>
      readK Tryz.prog (sLoad T_s_map_api_Value_int t104) w23 fun t105 =>
      upK Tryz.prog (sCall F_slices_ContainsFunc_s_map_api_Value_int_map_api_Value_int #[t105, (.func (.func 43) #[] #[])]) w23 fun t106 w24 =>
      ifB t106
      (K (.tuple #[(.pointer none), (.bool false)]) w24)
      (K (.tuple #[t14, (.bool true)]) w24)))))
  ((.int .i64 0), ()) w4
theorem aggregate_Read.pt_eq : aggregate_Read.pt = fun aggs0 s1 w K => FN Tryz.prog Tryz.f10 (bodyOf Tryz.f10) [4, 5] (.node none .leaf (.node none .leaf (.node none .leaf (.node none .leaf (.node none (.node none .leaf (.node none (.node none (.node none .leaf (.node none .leaf (.node (some []) (.node none (.node none .leaf (.node (some []) .leaf .leaf)) .leaf) .leaf))) .leaf) .leaf)) .leaf))))) [aggs0, s1] w K := by kernel_rfl
theorem aggregate_Read.call {aggs0 s1 : Value} {w : World} {K : Value → World → Prop} (h : aggregate_Read.pt aggs0 s1 w K) : Calls Tryz.prog F_aggregate_Read #[aggs0, s1] w (retK K) :=
  calls_FN (args := [aggs0, s1]) Tryz.func10 (by kernel_rfl) (by rw [aggregate_Read.pt_eq] at h; exact h)
theorem aggregate_Read.up {aggs0 s1 : Value} {w : World} {K : Value → World → Prop} (h : Calls Tryz.prog F_aggregate_Read #[aggs0, s1] w (retK K)) : upK Tryz.prog (sCall F_aggregate_Read #[aggs0, s1]) w K :=
  up_call (fn := Tryz.f10) Tryz.func10 (by kernel_rfl) (by kernel_rfl) h

/-- (*errata/aggregate.Acc).Bytes -/
def aggregate_Acc_Bytes.pt (a0 : Value) (w : World) (K : Value → World → Prop) : Prop :=
  upK Tryz.prog (sAlloc T_strings_Builder) w fun b3 w1 =>
  pureK Tryz.prog (sNil a0) fun t9 =>
  pureK Tryz.prog (sFieldAddr T_aggregate_Acc t9 1) fun t10 =>
  readK Tryz.prog (sLoad T_int t10) w1 fun t11 =>
  upK Tryz.prog (sCall F_wire_Int #[t11]) w1 fun t12 w2 =>
  upK Tryz.prog (sCall F_strings_Builder_WriteString #[b3, t12]) w2 fun t13 w3 =>
  pureK Tryz.prog (sNil a0) fun t15 =>
  pureK Tryz.prog (sFieldAddr T_aggregate_Acc t15 0) fun t16 =>
  readK Tryz.prog (sLoad T_s_api_Agg t16) w3 fun t17 =>
  readK Tryz.prog (sBlt .len #[T_s_api_Agg] T_int #[false] #[t17]) w3 fun t18 =>
  LOOP (X := Value × Unit) (fun lv4 w4 next4 =>
   pureK Tryz.prog (sBin .lss T_int (.tmp 19) (.tmp 18) lv4.1 t18) fun t20 =>
   ifB t20
   (LETJ (X := Unit) (fun jv1 w5 =>
     pureK Tryz.prog (sBin .add T_int (.tmp 19) (.const (.int .i64 1)) lv4.1 (.int .i64 1)) fun t73 =>
     next4 (t73, ()) w5)
    (fun J1 =>
     pureK Tryz.prog (sIdxAddr T_s_api_Agg t17 lv4.1) fun t22 =>
     readK Tryz.prog (sLoad T_api_Agg t22) w4 fun t23 =>
     upK Tryz.prog (sAlloc T_api_Agg) w4 fun g5 w6 =>
     upK Tryz.prog (sStore T_api_Agg g5 t23) w6 fun tu w7 =>
     LETJ (X := Unit) (fun jv2 w8 =>
      readK Tryz.prog (sLoad T_api_Agg g5) w8 fun t36 =>
      upK Tryz.prog (sCall F_aggregate_ordered #[t36]) w8 fun t37 w9 =>
      pureK Tryz.prog (sUn .not t37) fun t38 =>
      ifB t38
      (J1 (()) w9)
      (pureK Tryz.prog (sNil a0) fun t40 =>
       pureK Tryz.prog (sFieldAddr T_aggregate_Acc t40 3) fun t41 =>
       readK Tryz.prog (sLoad T_s_map_api_Value_int t41) w9 fun t42 =>
       pureK Tryz.prog (sIdxAddr T_s_map_api_Value_int t42 lv4.1) fun t44 =>
       readK Tryz.prog (sLoad T_map_api_Value_int t44) w9 fun t45 =>
       readK Tryz.prog (sBlt .len #[T_map_api_Value_int] T_int #[false] #[t45]) w9 fun t46 =>
       upK Tryz.prog (sCall F_wire_Num #[t46]) w9 fun t47 w10 =>
       upK Tryz.prog (sCall F_strings_Builder_WriteString #[b3, t47]) w10 fun t48 w11 =>
       upK Tryz.prog (sCall F_aggregate_Acc_sorted #[a0, lv4.1]) w11 fun t51 w12 =>
       readK Tryz.prog (sBlt .len #[T_s_api_Value] T_int #[false] #[t51]) w12 fun t52 =>
       LOOP (X := Value × Unit) (fun lv13 w13 next13 =>
        pureK Tryz.prog (sBin .lss T_int (.tmp 53) (.tmp 52) lv13.1 t52) fun t54 =>
        ifB t54
        (pureK Tryz.prog (sIdxAddr T_s_api_Value t51 lv13.1) fun t55 =>
         readK Tryz.prog (sLoad T_api_Value t55) w13 fun t56 =>
         upK Tryz.prog (sAlloc T_api_Value) w13 fun v7 w14 =>
         upK Tryz.prog (sStore T_api_Value v7 t56) w14 fun tu_1 w15 =>
         readK Tryz.prog (sLoad T_api_Value v7) (tick w15) fun t57 =>
         pureK Tryz.prog (sNil a0) fun t61 =>
         pureK Tryz.prog (sFieldAddr T_aggregate_Acc t61 3) fun t62 =>
         readK Tryz.prog (sLoad T_s_map_api_Value_int t62) (tick w15) fun t63 =>
         pureK Tryz.prog (sIdxAddr T_s_map_api_Value_int t63 lv4.1) fun t65 =>
         readK Tryz.prog (sLoad T_map_api_Value_int t65) (tick w15) fun t66 =>
         readK Tryz.prog (sLoad T_api_Value v7) (tick w15) fun t67 =>
         readK Tryz.prog (sLookup T_map_api_Value_int t66 t67 false) (tick w15) fun t68 =>
         upK Tryz.prog (sCall F_value_Bytes #[t57]) (tick w15) fun t58 w16 =>
         Is Tryz.prog (sLookup T_map_api_Value_int t66 t67 false) t68 w16 ∧ Is Tryz.prog (sLoad T_api_Value v7) t67 w16 ∧ Is Tryz.prog (sLoad T_map_api_Value_int t65) t66 w16 ∧ Is Tryz.prog (sLoad T_s_map_api_Value_int t62) t63 w16 ∧ upK Tryz.prog (sCall F_wire_Text #[t58]) w16 fun t59 w17 =>
         Is Tryz.prog (sLookup T_map_api_Value_int t66 t67 false) t68 w17 ∧ Is Tryz.prog (sLoad T_api_Value v7) t67 w17 ∧ Is Tryz.prog (sLoad T_map_api_Value_int t65) t66 w17 ∧ Is Tryz.prog (sLoad T_s_map_api_Value_int t62) t63 w17 ∧ upK Tryz.prog (sCall F_wire_Int #[t68]) w17 fun t69 w18 =>
         pureK Tryz.prog (sBin .add T_string (.tmp 59) (.tmp 69) t59 t69) fun t70 =>
         upK Tryz.prog (sCall F_strings_Builder_WriteString #[b3, t70]) w18 fun t71 w19 =>
         pureK Tryz.prog (sBin .add T_int (.tmp 53) (.const (.int .i64 1)) lv13.1 (.int .i64 1)) fun t72 =>
         next13 (t72, ()) w19)
        (J1 (()) w13))
       ((.int .i64 0), ()) w12))
     (fun J2 =>
      pureK Tryz.prog (sFieldAddr T_api_Agg g5 0) fun t24 =>
      readK Tryz.prog (sLoad T_int t24) w7 fun t25 =>
      pureK Tryz.prog (sBin .eql T_int (.tmp 25) (.const (.int .i64 1)) t25 (.int .i64 1)) fun t26 =>
      ifB t26
      (pureK Tryz.prog (sNil a0) fun t28 =>
       pureK Tryz.prog (sFieldAddr T_aggregate_Acc t28 2) fun t29 =>
       readK Tryz.prog (sLoad T_s_int t29) w7 fun t30 =>
       pureK Tryz.prog (sIdxAddr T_s_int t30 lv4.1) fun t32 =>
       readK Tryz.prog (sLoad T_int t32) w7 fun t33 =>
       upK Tryz.prog (sCall F_wire_Int #[t33]) w7 fun t34 w20 =>
       upK Tryz.prog (sCall F_strings_Builder_WriteString #[b3, t34]) w20 fun t35 w21 =>
       J2 (()) w21)
      (J2 (()) w7))))
   (upK Tryz.prog (sCall F_strings_Builder_String #[b3]) w4 fun t74 w22 =>
    K t74 w22))
  ((.int .i64 0), ()) w3
theorem aggregate_Acc_Bytes.pt_eq : aggregate_Acc_Bytes.pt = fun a0 w K => FN Tryz.prog Tryz.f11 (bodyOf Tryz.f11) [2] (.node none .leaf (.node none .leaf (.node none .leaf (.node none (.node none .leaf (.node none (.node none (.node none .leaf (.node none .leaf (.node (some []) (.node none (.node none .leaf (.node (some []) .leaf .leaf)) .leaf) .leaf))) .leaf) .leaf)) .leaf)))) [a0] w K := by kernel_rfl
theorem aggregate_Acc_Bytes.call {a0 : Value} {w : World} {K : Value → World → Prop} (h : aggregate_Acc_Bytes.pt a0 w K) : Calls Tryz.prog F_aggregate_Acc_Bytes #[a0] w (retK K) :=
  calls_FN (args := [a0]) Tryz.func11 (by kernel_rfl) (by rw [aggregate_Acc_Bytes.pt_eq] at h; exact h)
theorem aggregate_Acc_Bytes.up {a0 : Value} {w : World} {K : Value → World → Prop} (h : Calls Tryz.prog F_aggregate_Acc_Bytes #[a0] w (retK K)) : upK Tryz.prog (sCall F_aggregate_Acc_Bytes #[a0]) w K :=
  up_call (fn := Tryz.f11) Tryz.func11 (by kernel_rfl) (by kernel_rfl) h

/-- (*errata/aggregate.Acc).Copy -/
def aggregate_Acc_Copy.pt (a0 : Value) (w : World) (K : Value → World → Prop) : Prop :=
  pureK Tryz.prog (sNil a0) fun t7 =>
  pureK Tryz.prog (sFieldAddr T_aggregate_Acc t7 0) fun t8 =>
  readK Tryz.prog (sLoad T_s_api_Agg t8) (tick w) fun t9 =>
  pureK Tryz.prog (sNil a0) fun t12 =>
  pureK Tryz.prog (sFieldAddr T_aggregate_Acc t12 1) fun t13 =>
  readK Tryz.prog (sLoad T_int t13) (tick w) fun t14 =>
  pureK Tryz.prog (sNil a0) fun t16 =>
  pureK Tryz.prog (sFieldAddr T_aggregate_Acc t16 2) fun t17 =>
  readK Tryz.prog (sLoad T_s_int t17) (tick w) fun t18 =>
  upK Tryz.prog (sCall F_slices_Clone_s_api_Agg_api_Agg #[t9]) (tick w) fun t10 w1 =>
  Is Tryz.prog (sLoad T_s_int t17) t18 w1 ∧ Is Tryz.prog (sLoad T_int t13) t14 w1 ∧ upK Tryz.prog (sCall F_slices_Clone_s_int_int #[t18]) w1 fun t19 w2 =>
  Is Tryz.prog (sLoad T_int t13) t14 w2 ∧ pureK Tryz.prog (sBuild T_aggregate_Acc #[(0, t10), (1, t14), (2, t19)]) fun t20 =>
  upK Tryz.prog (sBox T_aggregate_Acc t20) w2 fun t21 w3 =>
  pureK Tryz.prog (sNil a0) fun t23 =>
  pureK Tryz.prog (sFieldAddr T_aggregate_Acc t23 3) fun t24 =>
  readK Tryz.prog (sLoad T_s_map_api_Value_int t24) w3 fun t25 =>
  readK Tryz.prog (sBlt .len #[T_s_map_api_Value_int] T_int #[false] #[t25]) w3 fun t26 =>
  LOOP (X := Value × Unit) (fun lv4 w4 next4 =>
   pureK Tryz.prog (sBin .lss T_int (.tmp 27) (.tmp 26) lv4.1 t26) fun t28 =>
   ifB t28
   (pureK Tryz.prog (sIdxAddr T_s_map_api_Value_int t25 lv4.1) fun t29 =>
    readK Tryz.prog (sLoad T_map_api_Value_int t29) w4 fun t30 =>
    pureK Tryz.prog (sNil t21) fun t33 =>
    pureK Tryz.prog (sFieldAddr T_aggregate_Acc t33 3) fun t34 =>
    readK Tryz.prog (sLoad T_s_map_api_Value_int t34) (tick w4) fun t35 =>
    upK Tryz.prog (sCall F_maps_Clone_map_api_Value_int_api_Value_int #[t30]) (tick w4) fun t37 w5 =>
    Is Tryz.prog (sLoad T_s_map_api_Value_int t34) t35 w5 ∧ upK Tryz.prog (sBuildSlice T_s_map_api_Value_int 1 #[(0, t37)]) w5 fun t38 w6 =>
    Is Tryz.prog (sLoad T_s_map_api_Value_int t34) t35 w6 ∧ upK Tryz.prog (sBlt .append #[T_s_map_api_Value_int, T_s_map_api_Value_int] T_s_map_api_Value_int #[false, false] #[t35, t38]) w6 fun t39 w7 =>
    pureK Tryz.prog (sNil t21) fun t40 =>
    pureK Tryz.prog (sFieldAddr T_aggregate_Acc t40 3) fun t41 =>
    upK Tryz.prog (sStore T_s_map_api_Value_int t41 t39) w7 fun tu w8 =>
    pureK Tryz.prog (sBin .add T_int (.tmp 27) (.const (.int .i64 1)) lv4.1 (.int .i64 1)) fun t42 =>
    next4 (t42, ()) w8)
   (K t21 w4))
  ((.int .i64 0), ()) w3
theorem aggregate_Acc_Copy.pt_eq : aggregate_Acc_Copy.pt = fun a0 w K => FN Tryz.prog Tryz.f12 (bodyOf Tryz.f12) [2] .leaf [a0] w K := by kernel_rfl
theorem aggregate_Acc_Copy.call {a0 : Value} {w : World} {K : Value → World → Prop} (h : aggregate_Acc_Copy.pt a0 w K) : Calls Tryz.prog F_aggregate_Acc_Copy #[a0] w (retK K) :=
  calls_FN (args := [a0]) Tryz.func12 (by kernel_rfl) (by rw [aggregate_Acc_Copy.pt_eq] at h; exact h)
theorem aggregate_Acc_Copy.up {a0 : Value} {w : World} {K : Value → World → Prop} (h : Calls Tryz.prog F_aggregate_Acc_Copy #[a0] w (retK K)) : upK Tryz.prog (sCall F_aggregate_Acc_Copy #[a0]) w K :=
  up_call (fn := Tryz.f12) Tryz.func12 (by kernel_rfl) (by kernel_rfl) h

/-- errata/errataref03.Same -/
def errataref03_Same.pt (a0 b1 : Value) (w : World) (K : Value → World → Prop) : Prop :=
  upK Tryz.prog (sCall F_errataref03_CompareRows #[a0, b1]) w fun t7 w1 =>
  pureK Tryz.prog (sBin .eql T_int (.tmp 7) (.const (.int .i64 0)) t7 (.int .i64 0)) fun t8 =>
  K t8 w1
theorem errataref03_Same.pt_eq : errataref03_Same.pt = fun a0 b1 w K => FN Tryz.prog Tryz.f13 (bodyOf Tryz.f13) [4] .leaf [a0, b1] w K := by kernel_rfl
theorem errataref03_Same.call {a0 b1 : Value} {w : World} {K : Value → World → Prop} (h : errataref03_Same.pt a0 b1 w K) : Calls Tryz.prog F_errataref03_Same #[a0, b1] w (retK K) :=
  calls_FN (args := [a0, b1]) Tryz.func13 (by kernel_rfl) (by rw [errataref03_Same.pt_eq] at h; exact h)
theorem errataref03_Same.up {a0 b1 : Value} {w : World} {K : Value → World → Prop} (h : Calls Tryz.prog F_errataref03_Same #[a0, b1] w (retK K)) : upK Tryz.prog (sCall F_errataref03_Same #[a0, b1]) w K :=
  up_call (fn := Tryz.f13) Tryz.func13 (by kernel_rfl) (by kernel_rfl) h

/-- (*errata/aggregate.Acc).Result -/
def aggregate_Acc_Result.pt (a0 : Value) (w : World) (K : Value → World → Prop) : Prop :=
  pureK Tryz.prog (sNil a0) fun t7 =>
  pureK Tryz.prog (sFieldAddr T_aggregate_Acc t7 0) fun t8 =>
  readK Tryz.prog (sLoad T_s_api_Agg t8) w fun t9 =>
  readK Tryz.prog (sBlt .len #[T_s_api_Agg] T_int #[false] #[t9]) w fun t10 =>
  LOOP (X := Value × Value × Unit) (fun lv1 w1 next1 =>
   pureK Tryz.prog (sBin .lss T_int (.tmp 11) (.tmp 10) lv1.2.1 t10) fun t12 =>
   ifB t12
   (LETJ (X := Value × Unit) (fun jv1 w2 =>
     pureK Tryz.prog (sBin .add T_int (.tmp 11) (.const (.int .i64 1)) lv1.2.1 (.int .i64 1)) fun t47 =>
     next1 (jv1.1, t47, ()) w2)
    (fun J1 =>
     pureK Tryz.prog (sIdxAddr T_s_api_Agg t9 lv1.2.1) fun t14 =>
     readK Tryz.prog (sLoad T_api_Agg t14) w1 fun t15 =>
     upK Tryz.prog (sAlloc T_api_Agg) w1 fun g5 w3 =>
     upK Tryz.prog (sStore T_api_Agg g5 t15) w3 fun tu w4 =>
     pureK Tryz.prog (sFieldAddr T_api_Agg g5 0) fun t16 =>
     readK Tryz.prog (sLoad T_int t16) w4 fun t17 =>
     pureK Tryz.prog (sBin .eql T_int (.tmp 17) (.const (.int .i64 0)) t17 (.int .i64 0)) fun t25 =>
     ifB t25
     (pureK Tryz.prog (sNil a0) fun t28 =>
      pureK Tryz.prog (sFieldAddr T_aggregate_Acc t28 1) fun t29 =>
      readK Tryz.prog (sLoad T_int t29) w4 fun t30 =>
      upK Tryz.prog (sCall F_value_Int #[t30]) w4 fun t31 w5 =>
      upK Tryz.prog (sBuildSlice T_s_api_Value 1 #[(0, t31)]) w5 fun t32 w6 =>
      upK Tryz.prog (sBlt .append #[T_s_api_Value, T_s_api_Value] T_s_api_Value #[false, false] #[lv1.1, t32]) w6 fun t33 w7 =>
      J1 (t33, ()) w7)
     (pureK Tryz.prog (sBin .eql T_int (.tmp 17) (.const (.int .i64 1)) t17 (.int .i64 1)) fun t35 =>
      ifB t35
      (pureK Tryz.prog (sNil a0) fun t38 =>
       pureK Tryz.prog (sFieldAddr T_aggregate_Acc t38 2) fun t39 =>
       readK Tryz.prog (sLoad T_s_int t39) w4 fun t40 =>
       pureK Tryz.prog (sIdxAddr T_s_int t40 lv1.2.1) fun t42 =>
       readK Tryz.prog (sLoad T_int t42) w4 fun t43 =>
       upK Tryz.prog (sCall F_value_Int #[t43]) w4 fun t44 w8 =>
       upK Tryz.prog (sBuildSlice T_s_api_Value 1 #[(0, t44)]) w8 fun t45 w9 =>
       upK Tryz.prog (sBlt .append #[T_s_api_Value, T_s_api_Value] T_s_api_Value #[false, false] #[lv1.1, t45]) w9 fun t46 w10 =>
       J1 (t46, ()) w10)
      (upK Tryz.prog (sCall F_aggregate_Acc_best #[a0, lv1.2.1]) w4 fun t21 w11 =>
       upK Tryz.prog (sBuildSlice T_s_api_Value 1 #[(0, t21)]) w11 fun t22 w12 =>
       upK Tryz.prog (sBlt .append #[T_s_api_Value, T_s_api_Value] T_s_api_Value #[false, false] #[lv1.1, t22]) w12 fun t23 w13 =>
       J1 (t23, ()) w13))))
   (K lv1.1 w1))
  ((.slice none 0 0), (.int .i64 0), ()) w
theorem aggregate_Acc_Result.pt_eq : aggregate_Acc_Result.pt = fun a0 w K => FN Tryz.prog Tryz.f14 (bodyOf Tryz.f14) [2] (.node none .leaf (.node none .leaf (.node none (.node none .leaf (.node none (.node none (.node none .leaf (.node none .leaf (.node (some [3]) .leaf .leaf))) .leaf) .leaf)) .leaf))) [a0] w K := by kernel_rfl
theorem aggregate_Acc_Result.call {a0 : Value} {w : World} {K : Value → World → Prop} (h : aggregate_Acc_Result.pt a0 w K) : Calls Tryz.prog F_aggregate_Acc_Result #[a0] w (retK K) :=
  calls_FN (args := [a0]) Tryz.func14 (by kernel_rfl) (by rw [aggregate_Acc_Result.pt_eq] at h; exact h)
theorem aggregate_Acc_Result.up {a0 : Value} {w : World} {K : Value → World → Prop} (h : Calls Tryz.prog F_aggregate_Acc_Result #[a0] w (retK K)) : upK Tryz.prog (sCall F_aggregate_Acc_Result #[a0]) w K :=
  up_call (fn := Tryz.f14) Tryz.func14 (by kernel_rfl) (by kernel_rfl) h

/-- errata/errataref30.New -/
def errataref30_New.pt (aggs0 : Value) (w : World) (K : Value → World → Prop) : Prop :=
  readK Tryz.prog (sBlt .len #[T_s_api_Agg] T_int #[false] #[aggs0]) (tick w) fun t7 =>
  readK Tryz.prog (sBlt .len #[T_s_api_Agg] T_int #[false] #[aggs0]) (tick w) fun t10 =>
  ((upK Tryz.prog (sBuildSlice T_s_api_Agg 0 #[]) (tick w) fun t3 w1 =>
    Is Tryz.prog (sBlt .len #[T_s_api_Agg] T_int #[false] #[aggs0]) t10 w1 ∧ Is Tryz.prog (sBlt .len #[T_s_api_Agg] T_int #[false] #[aggs0]) t7 w1 ∧ ((upK Tryz.prog (sBlt .append #[T_s_api_Agg, T_s_api_Agg] T_s_api_Agg #[false, false] #[t3, aggs0]) w1 fun t5 w2 =>
      Is Tryz.prog (sBlt .len #[T_s_api_Agg] T_int #[false] #[aggs0]) t10 w2 ∧ Is Tryz.prog (sBlt .len #[T_s_api_Agg] T_int #[false] #[aggs0]) t7 w2 ∧ ((upK Tryz.prog (sMkSlice T_s_int t7 t7) w2 fun t8 w3 =>
        Is Tryz.prog (sBlt .len #[T_s_api_Agg] T_int #[false] #[aggs0]) t10 w3 ∧ upK Tryz.prog (sMkSlice T_s_s_errataref30_Counted t10 t10) w3 fun t11 w4 =>
        Is Tryz.prog (sBlt .len #[T_s_api_Agg] T_int #[false] #[aggs0]) t7 w4 ∧ pureK Tryz.prog (sBuild T_errataref30_Acc #[(0, t5), (2, t8), (3, t11)]) fun t12 =>
        upK Tryz.prog (sBox T_errataref30_Acc t12) w4 fun t13 w5 =>
        K t13 w5)
       ∧ (upK Tryz.prog (sMkSlice T_s_s_errataref30_Counted t10 t10) w2 fun t11_1 w6 =>
        Is Tryz.prog (sBlt .len #[T_s_api_Agg] T_int #[false] #[aggs0]) t7 w6 ∧ upK Tryz.prog (sMkSlice T_s_int t7 t7) w6 fun t8_1 w7 =>
        Is Tryz.prog (sBlt .len #[T_s_api_Agg] T_int #[false] #[aggs0]) t10 w7 ∧ pureK Tryz.prog (sBuild T_errataref30_Acc #[(0, t5), (2, t8_1), (3, t11_1)]) fun t12_1 =>
        upK Tryz.prog (sBox T_errataref30_Acc t12_1) w7 fun t13_1 w8 =>
        K t13_1 w8)))
     ∧ ((upK Tryz.prog (sMkSlice T_s_int t7 t7) w1 fun t8_2 w9 =>
       Is Tryz.prog (sBlt .len #[T_s_api_Agg] T_int #[false] #[aggs0]) t10 w9 ∧ ((upK Tryz.prog (sBlt .append #[T_s_api_Agg, T_s_api_Agg] T_s_api_Agg #[false, false] #[t3, aggs0]) w9 fun t5_1 w10 =>
         Is Tryz.prog (sBlt .len #[T_s_api_Agg] T_int #[false] #[aggs0]) t10 w10 ∧ Is Tryz.prog (sBlt .len #[T_s_api_Agg] T_int #[false] #[aggs0]) t7 w10 ∧ upK Tryz.prog (sMkSlice T_s_s_errataref30_Counted t10 t10) w10 fun t11_2 w11 =>
         Is Tryz.prog (sBlt .len #[T_s_api_Agg] T_int #[false] #[aggs0]) t7 w11 ∧ pureK Tryz.prog (sBuild T_errataref30_Acc #[(0, t5_1), (2, t8_2), (3, t11_2)]) fun t12_2 =>
         upK Tryz.prog (sBox T_errataref30_Acc t12_2) w11 fun t13_2 w12 =>
         K t13_2 w12)
        ∧ (upK Tryz.prog (sMkSlice T_s_s_errataref30_Counted t10 t10) w9 fun t11_3 w13 =>
         Is Tryz.prog (sBlt .len #[T_s_api_Agg] T_int #[false] #[aggs0]) t7 w13 ∧ upK Tryz.prog (sBlt .append #[T_s_api_Agg, T_s_api_Agg] T_s_api_Agg #[false, false] #[t3, aggs0]) w13 fun t5_2 w14 =>
         Is Tryz.prog (sBlt .len #[T_s_api_Agg] T_int #[false] #[aggs0]) t10 w14 ∧ Is Tryz.prog (sBlt .len #[T_s_api_Agg] T_int #[false] #[aggs0]) t7 w14 ∧ pureK Tryz.prog (sBuild T_errataref30_Acc #[(0, t5_2), (2, t8_2), (3, t11_3)]) fun t12_3 =>
         upK Tryz.prog (sBox T_errataref30_Acc t12_3) w14 fun t13_3 w15 =>
         K t13_3 w15)))
      ∧ (upK Tryz.prog (sMkSlice T_s_s_errataref30_Counted t10 t10) w1 fun t11_4 w16 =>
       Is Tryz.prog (sBlt .len #[T_s_api_Agg] T_int #[false] #[aggs0]) t7 w16 ∧ ((upK Tryz.prog (sBlt .append #[T_s_api_Agg, T_s_api_Agg] T_s_api_Agg #[false, false] #[t3, aggs0]) w16 fun t5_3 w17 =>
         Is Tryz.prog (sBlt .len #[T_s_api_Agg] T_int #[false] #[aggs0]) t10 w17 ∧ Is Tryz.prog (sBlt .len #[T_s_api_Agg] T_int #[false] #[aggs0]) t7 w17 ∧ upK Tryz.prog (sMkSlice T_s_int t7 t7) w17 fun t8_3 w18 =>
         Is Tryz.prog (sBlt .len #[T_s_api_Agg] T_int #[false] #[aggs0]) t10 w18 ∧ pureK Tryz.prog (sBuild T_errataref30_Acc #[(0, t5_3), (2, t8_3), (3, t11_4)]) fun t12_4 =>
         upK Tryz.prog (sBox T_errataref30_Acc t12_4) w18 fun t13_4 w19 =>
         K t13_4 w19)
        ∧ (upK Tryz.prog (sMkSlice T_s_int t7 t7) w16 fun t8_4 w20 =>
         Is Tryz.prog (sBlt .len #[T_s_api_Agg] T_int #[false] #[aggs0]) t10 w20 ∧ upK Tryz.prog (sBlt .append #[T_s_api_Agg, T_s_api_Agg] T_s_api_Agg #[false, false] #[t3, aggs0]) w20 fun t5_4 w21 =>
         Is Tryz.prog (sBlt .len #[T_s_api_Agg] T_int #[false] #[aggs0]) t10 w21 ∧ Is Tryz.prog (sBlt .len #[T_s_api_Agg] T_int #[false] #[aggs0]) t7 w21 ∧ pureK Tryz.prog (sBuild T_errataref30_Acc #[(0, t5_4), (2, t8_4), (3, t11_4)]) fun t12_5 =>
         upK Tryz.prog (sBox T_errataref30_Acc t12_5) w21 fun t13_5 w22 =>
         K t13_5 w22))))))
   ∧ ((upK Tryz.prog (sMkSlice T_s_int t7 t7) (tick w) fun t8_5 w23 =>
     Is Tryz.prog (sBlt .len #[T_s_api_Agg] T_int #[false] #[aggs0]) t10 w23 ∧ ((upK Tryz.prog (sBuildSlice T_s_api_Agg 0 #[]) w23 fun t3_1 w24 =>
       Is Tryz.prog (sBlt .len #[T_s_api_Agg] T_int #[false] #[aggs0]) t10 w24 ∧ Is Tryz.prog (sBlt .len #[T_s_api_Agg] T_int #[false] #[aggs0]) t7 w24 ∧ ((upK Tryz.prog (sBlt .append #[T_s_api_Agg, T_s_api_Agg] T_s_api_Agg #[false, false] #[t3_1, aggs0]) w24 fun t5_5 w25 =>
         Is Tryz.prog (sBlt .len #[T_s_api_Agg] T_int #[false] #[aggs0]) t10 w25 ∧ Is Tryz.prog (sBlt .len #[T_s_api_Agg] T_int #[false] #[aggs0]) t7 w25 ∧ upK Tryz.prog (sMkSlice T_s_s_errataref30_Counted t10 t10) w25 fun t11_5 w26 =>
         Is Tryz.prog (sBlt .len #[T_s_api_Agg] T_int #[false] #[aggs0]) t7 w26 ∧ pureK Tryz.prog (sBuild T_errataref30_Acc #[(0, t5_5), (2, t8_5), (3, t11_5)]) fun t12_6 =>
         upK Tryz.prog (sBox T_errataref30_Acc t12_6) w26 fun t13_6 w27 =>
         K t13_6 w27)
        ∧ (upK Tryz.prog (sMkSlice T_s_s_errataref30_Counted t10 t10) w24 fun t11_6 w28 =>
         Is Tryz.prog (sBlt .len #[T_s_api_Agg] T_int #[false] #[aggs0]) t7 w28 ∧ upK Tryz.prog (sBlt .append #[T_s_api_Agg, T_s_api_Agg] T_s_api_Agg #[false, false] #[t3_1, aggs0]) w28 fun t5_6 w29 =>
         Is Tryz.prog (sBlt .len #[T_s_api_Agg] T_int #[false] #[aggs0]) t10 w29 ∧ Is Tryz.prog (sBlt .len #[T_s_api_Agg] T_int #[false] #[aggs0]) t7 w29 ∧ pureK Tryz.prog (sBuild T_errataref30_Acc #[(0, t5_6), (2, t8_5), (3, t11_6)]) fun t12_7 =>
         upK Tryz.prog (sBox T_errataref30_Acc t12_7) w29 fun t13_7 w30 =>
         K t13_7 w30)))
      ∧ (upK Tryz.prog (sMkSlice T_s_s_errataref30_Counted t10 t10) w23 fun t11_7 w31 =>
       Is Tryz.prog (sBlt .len #[T_s_api_Agg] T_int #[false] #[aggs0]) t7 w31 ∧ upK Tryz.prog (sBuildSlice T_s_api_Agg 0 #[]) w31 fun t3_2 w32 =>
       Is Tryz.prog (sBlt .len #[T_s_api_Agg] T_int #[false] #[aggs0]) t10 w32 ∧ Is Tryz.prog (sBlt .len #[T_s_api_Agg] T_int #[false] #[aggs0]) t7 w32 ∧ upK Tryz.prog (sBlt .append #[T_s_api_Agg, T_s_api_Agg] T_s_api_Agg #[false, false] #[t3_2, aggs0]) w32 fun t5_7 w33 =>
       Is Tryz.prog (sBlt .len #[T_s_api_Agg] T_int #[false] #[aggs0]) t10 w33 ∧ Is Tryz.prog (sBlt .len #[T_s_api_Agg] T_int #[false] #[aggs0]) t7 w33 ∧ pureK Tryz.prog (sBuild T_errataref30_Acc #[(0, t5_7), (2, t8_5), (3, t11_7)]) fun t12_8 =>
       upK Tryz.prog (sBox T_errataref30_Acc t12_8) w33 fun t13_8 w34 =>
       K t13_8 w34)))
    ∧ (upK Tryz.prog (sMkSlice T_s_s_errataref30_Counted t10 t10) (tick w) fun t11_8 w35 =>
     Is Tryz.prog (sBlt .len #[T_s_api_Agg] T_int #[false] #[aggs0]) t7 w35 ∧ ((upK Tryz.prog (sBuildSlice T_s_api_Agg 0 #[]) w35 fun t3_3 w36 =>
       Is Tryz.prog (sBlt .len #[T_s_api_Agg] T_int #[false] #[aggs0]) t10 w36 ∧ Is Tryz.prog (sBlt .len #[T_s_api_Agg] T_int #[false] #[aggs0]) t7 w36 ∧ ((upK Tryz.prog (sBlt .append #[T_s_api_Agg, T_s_api_Agg] T_s_api_Agg #[false, false] #[t3_3, aggs0]) w36 fun t5_8 w37 =>
         Is Tryz.prog (sBlt .len #[T_s_api_Agg] T_int #[false] #[aggs0]) t10 w37 ∧ Is Tryz.prog (sBlt .len #[T_s_api_Agg] T_int #[false] #[aggs0]) t7 w37 ∧ upK Tryz.prog (sMkSlice T_s_int t7 t7) w37 fun t8_6 w38 =>
         Is Tryz.prog (sBlt .len #[T_s_api_Agg] T_int #[false] #[aggs0]) t10 w38 ∧ pureK Tryz.prog (sBuild T_errataref30_Acc #[(0, t5_8), (2, t8_6), (3, t11_8)]) fun t12_9 =>
         upK Tryz.prog (sBox T_errataref30_Acc t12_9) w38 fun t13_9 w39 =>
         K t13_9 w39)
        ∧ (upK Tryz.prog (sMkSlice T_s_int t7 t7) w36 fun t8_7 w40 =>
         Is Tryz.prog (sBlt .len #[T_s_api_Agg] T_int #[false] #[aggs0]) t10 w40 ∧ upK Tryz.prog (sBlt .append #[T_s_api_Agg, T_s_api_Agg] T_s_api_Agg #[false, false] #[t3_3, aggs0]) w40 fun t5_9 w41 =>
         Is Tryz.prog (sBlt .len #[T_s_api_Agg] T_int #[false] #[aggs0]) t10 w41 ∧ Is Tryz.prog (sBlt .len #[T_s_api_Agg] T_int #[false] #[aggs0]) t7 w41 ∧ pureK Tryz.prog (sBuild T_errataref30_Acc #[(0, t5_9), (2, t8_7), (3, t11_8)]) fun t12_10 =>
         upK Tryz.prog (sBox T_errataref30_Acc t12_10) w41 fun t13_10 w42 =>
         K t13_10 w42)))
      ∧ (upK Tryz.prog (sMkSlice T_s_int t7 t7) w35 fun t8_8 w43 =>
       Is Tryz.prog (sBlt .len #[T_s_api_Agg] T_int #[false] #[aggs0]) t10 w43 ∧ upK Tryz.prog (sBuildSlice T_s_api_Agg 0 #[]) w43 fun t3_4 w44 =>
       Is Tryz.prog (sBlt .len #[T_s_api_Agg] T_int #[false] #[aggs0]) t10 w44 ∧ Is Tryz.prog (sBlt .len #[T_s_api_Agg] T_int #[false] #[aggs0]) t7 w44 ∧ upK Tryz.prog (sBlt .append #[T_s_api_Agg, T_s_api_Agg] T_s_api_Agg #[false, false] #[t3_4, aggs0]) w44 fun t5_10 w45 =>
       Is Tryz.prog (sBlt .len #[T_s_api_Agg] T_int #[false] #[aggs0]) t10 w45 ∧ Is Tryz.prog (sBlt .len #[T_s_api_Agg] T_int #[false] #[aggs0]) t7 w45 ∧ pureK Tryz.prog (sBuild T_errataref30_Acc #[(0, t5_10), (2, t8_8), (3, t11_8)]) fun t12_11 =>
       upK Tryz.prog (sBox T_errataref30_Acc t12_11) w45 fun t13_11 w46 =>
       K t13_11 w46)))))
theorem errataref30_New.pt_eq : errataref30_New.pt = fun aggs0 w K => FN Tryz.prog Tryz.f15 (bodyOf Tryz.f15) [2] .leaf [aggs0] w K := by kernel_rfl
theorem errataref30_New.call {aggs0 : Value} {w : World} {K : Value → World → Prop} (h : errataref30_New.pt aggs0 w K) : Calls Tryz.prog F_errataref30_New #[aggs0] w (retK K) :=
  calls_FN (args := [aggs0]) Tryz.func15 (by kernel_rfl) (by rw [errataref30_New.pt_eq] at h; exact h)
theorem errataref30_New.up {aggs0 : Value} {w : World} {K : Value → World → Prop} (h : Calls Tryz.prog F_errataref30_New #[aggs0] w (retK K)) : upK Tryz.prog (sCall F_errataref30_New #[aggs0]) w K :=
  up_call (fn := Tryz.f15) Tryz.func15 (by kernel_rfl) (by kernel_rfl) h

/-- (*errata/errataref30.Acc).Add -/
def errataref30_Acc_Add.pt (a0 row1 n2 : Value) (w : World) (K : Value → World → Prop) : Prop :=
  pureK Tryz.prog (sBin .eql T_int (.tmp 8) (.const (.int .i64 0)) n2 (.int .i64 0)) fun t9 =>
  ifB t9
  (K (.tuple #[]) w)
  (pureK Tryz.prog (sNil a0) fun t12 =>
   pureK Tryz.prog (sFieldAddr T_errataref30_Acc t12 1) fun t13 =>
   readK Tryz.prog (sLoad T_int t13) w fun t14 =>
   pureK Tryz.prog (sBin .add T_int (.tmp 14) (.tmp 15) t14 n2) fun t16 =>
   pureK Tryz.prog (sNil a0) fun t17 =>
   pureK Tryz.prog (sFieldAddr T_errataref30_Acc t17 1) fun t18 =>
   upK Tryz.prog (sStore T_int t18 t16) w fun tu w1 =>
   LOOP (X := Value × Unit) (fun lv2 w2 next2 =>
    pureK Tryz.prog (sNil a0) fun t21 =>
    pureK Tryz.prog (sFieldAddr T_errataref30_Acc t21 0) fun t22 =>
    readK Tryz.prog (sLoad T_s_api_Agg t22) w2 fun t23 =>
    readK Tryz.prog (sBlt .len #[T_s_api_Agg] T_int #[false] #[t23]) w2 fun t24 =>
    pureK Tryz.prog (sBin .lss T_int (.tmp 19) (.tmp 24) lv2.1 t24) fun t25 =>
    ifB t25
    (LETJ (X := Unit) (fun jv1 w3 =>
      pureK Tryz.prog (sBin .add T_int (.tmp 26) (.const (.int .i64 1)) lv2.1 (.int .i64 1)) fun t27 =>
      next2 (t27, ()) w3)
     (fun J1 =>
      pureK Tryz.prog (sNil a0) fun t30 =>
      pureK Tryz.prog (sFieldAddr T_errataref30_Acc t30 0) fun t31 =>
      readK Tryz.prog (sLoad T_s_api_Agg t31) w2 fun t32 =>
      pureK Tryz.prog (sIdxAddr T_s_api_Agg t32 lv2.1) fun t34 =>
      pureK Tryz.prog (sFieldAddr T_api_Agg t34 1) fun t35 =>
      readK Tryz.prog (sLoad T_int t35) w2 fun t36 =>
      upK Tryz.prog (sCall F_errataref30_At #[row1, t36]) w2 fun t37 w4 =>
      upK Tryz.prog (sAlloc T_api_Value) w4 fun v7 w5 =>
      upK Tryz.prog (sStore T_api_Value v7 t37) w5 fun tu_1 w6 =>
      LETJ (X := Unit) (fun jv2 w7 =>
       pureK Tryz.prog (sNil a0) fun t66 =>
       pureK Tryz.prog (sFieldAddr T_errataref30_Acc t66 0) fun t67 =>
       readK Tryz.prog (sLoad T_s_api_Agg t67) w7 fun t68 =>
       pureK Tryz.prog (sIdxAddr T_s_api_Agg t68 lv2.1) fun t70 =>
       readK Tryz.prog (sLoad T_api_Agg t70) w7 fun t71 =>
       upK Tryz.prog (sCall F_errataref30_Ordered #[t71]) w7 fun t72 w8 =>
       ifB t72
       (pureK Tryz.prog (sNil a0) fun t74 =>
        pureK Tryz.prog (sFieldAddr T_errataref30_Acc t74 3) fun t75 =>
        readK Tryz.prog (sLoad T_s_s_errataref30_Counted t75) (tick w8) fun t76 =>
        pureK Tryz.prog (sNil a0) fun t79 =>
        pureK Tryz.prog (sFieldAddr T_errataref30_Acc t79 3) fun t80 =>
        readK Tryz.prog (sLoad T_s_s_errataref30_Counted t80) (tick w8) fun t81 =>
        pureK Tryz.prog (sIdxAddr T_s_s_errataref30_Counted t81 lv2.1) fun t83 =>
        readK Tryz.prog (sLoad T_s_errataref30_Counted t83) (tick w8) fun t84 =>
        readK Tryz.prog (sLoad T_api_Value v7) (tick w8) fun t85 =>
        upK Tryz.prog (sCall F_errataref30_With #[t84, t85, n2]) (tick w8) fun t87 w9 =>
        Is Tryz.prog (sLoad T_s_s_errataref30_Counted t75) t76 w9 ∧ pureK Tryz.prog (sIdxAddr T_s_s_errataref30_Counted t76 lv2.1) fun t88 =>
        upK Tryz.prog (sStore T_s_errataref30_Counted t88 t87) w9 fun tu_2 w10 =>
        J1 (()) w10)
       (J1 (()) w8))
      (fun J2 =>
       pureK Tryz.prog (sNil a0) fun t39 =>
       pureK Tryz.prog (sFieldAddr T_errataref30_Acc t39 0) fun t40 =>
       readK Tryz.prog (sLoad T_s_api_Agg t40) w6 fun t41 =>
       pureK Tryz.prog (sIdxAddr T_s_api_Agg t41 lv2.1) fun t43 =>
       pureK Tryz.prog (sFieldAddr T_api_Agg t43 0) fun t44 =>
       readK Tryz.prog (sLoad T_int t44) w6 fun t45 =>
       pureK Tryz.prog (sBin .eql T_int (.tmp 45) (.const (.int .i64 1)) t45 (.int .i64 1)) fun t46 =>
       ifB t46
       (pureK Tryz.prog (sNil a0) fun t48 =>
        pureK Tryz.prog (sFieldAddr T_errataref30_Acc t48 2) fun t49 =>
        readK Tryz.prog (sLoad T_s_int t49) (tick w6) fun t50 =>
        pureK Tryz.prog (sNil a0) fun t53 =>
        pureK Tryz.prog (sFieldAddr T_errataref30_Acc t53 2) fun t54 =>
        readK Tryz.prog (sLoad T_s_int t54) (tick w6) fun t55 =>
        pureK Tryz.prog (sIdxAddr T_s_int t55 lv2.1) fun t57 =>
        readK Tryz.prog (sLoad T_int t57) (tick w6) fun t58 =>
        pureK Tryz.prog (sFieldAddr T_api_Value v7 1) fun t60 =>
        readK Tryz.prog (sLoad T_int t60) (tick w6) fun t61 =>
        pureK Tryz.prog (sBin .mul T_int (.tmp 59) (.tmp 61) n2 t61) fun t62 =>
        pureK Tryz.prog (sBin .add T_int (.tmp 58) (.tmp 62) t58 t62) fun t63 =>
        pureK Tryz.prog (sIdxAddr T_s_int t50 lv2.1) fun t64 =>
        upK Tryz.prog (sStore T_int t64 t63) (tick w6) fun tu_3 w11 =>
        J2 (()) w11)
       (J2 (()) w6))))
    (K (.tuple #[]) w2))
   ((.int .i64 0), ()) w1)
theorem errataref30_Acc_Add.pt_eq : errataref30_Acc_Add.pt = fun a0 row1 n2 w K => FN Tryz.prog Tryz.f16 (bodyOf Tryz.f16) [] (.node none .leaf (.node none .leaf (.node none .leaf (.node none (.node none (.node none .leaf (.node (some []) (.node none (.node none .leaf (.node (some []) .leaf .leaf)) .leaf) .leaf)) .leaf) .leaf)))) [a0, row1, n2] w K := by kernel_rfl
theorem errataref30_Acc_Add.call {a0 row1 n2 : Value} {w : World} {K : Value → World → Prop} (h : errataref30_Acc_Add.pt a0 row1 n2 w K) : Calls Tryz.prog F_errataref30_Acc_Add #[a0, row1, n2] w (retK K) :=
  calls_FN (args := [a0, row1, n2]) Tryz.func16 (by kernel_rfl) (by rw [errataref30_Acc_Add.pt_eq] at h; exact h)
theorem errataref30_Acc_Add.up {a0 row1 n2 : Value} {w : World} {K : Value → World → Prop} (h : Calls Tryz.prog F_errataref30_Acc_Add #[a0, row1, n2] w (retK K)) : upK Tryz.prog (sCall F_errataref30_Acc_Add #[a0, row1, n2]) w K :=
  up_call (fn := Tryz.f16) Tryz.func16 (by kernel_rfl) (by kernel_rfl) h

/-- (*errata/errataref30.Acc).Result -/
def errataref30_Acc_Result.pt (a0 : Value) (w : World) (K : Value → World → Prop) : Prop :=
  LOOP (X := Value × Value × Unit) (fun lv1 w1 next1 =>
   pureK Tryz.prog (sNil a0) fun t11 =>
   pureK Tryz.prog (sFieldAddr T_errataref30_Acc t11 0) fun t12 =>
   readK Tryz.prog (sLoad T_s_api_Agg t12) w1 fun t13 =>
   readK Tryz.prog (sBlt .len #[T_s_api_Agg] T_int #[false] #[t13]) w1 fun t14 =>
   pureK Tryz.prog (sBin .lss T_int (.tmp 9) (.tmp 14) lv1.2.1 t14) fun t15 =>
   ifB t15
   (LETJ (X := Value × Unit) (fun jv1 w2 =>
     pureK Tryz.prog (sBin .add T_int (.tmp 16) (.const (.int .i64 1)) lv1.2.1 (.int .i64 1)) fun t17 =>
     next1 (jv1.1, t17, ()) w2)
    (fun J1 =>
     pureK Tryz.prog (sBuild T_api_Value #[]) fun t18 =>
     upK Tryz.prog (sAlloc T_api_Value) w1 fun v5 w3 =>
     upK Tryz.prog (sStore T_api_Value v5 t18) w3 fun tu w4 =>
     LETJ (X := Unit) (fun jv2 w5 =>
      LETJ (X := Unit) (fun jv3 w6 =>
       LOOP (X := Value × Value × Unit) (fun lv7 w7 next7 =>
        pureK Tryz.prog (sNil a0) fun t52 =>
        pureK Tryz.prog (sFieldAddr T_errataref30_Acc t52 3) fun t53 =>
        readK Tryz.prog (sLoad T_s_s_errataref30_Counted t53) w7 fun t54 =>
        pureK Tryz.prog (sIdxAddr T_s_s_errataref30_Counted t54 lv1.2.1) fun t56 =>
        readK Tryz.prog (sLoad T_s_errataref30_Counted t56) w7 fun t57 =>
        readK Tryz.prog (sBlt .len #[T_s_errataref30_Counted] T_int #[false] #[t57]) w7 fun t58 =>
        pureK Tryz.prog (sBin .lss T_int (.tmp 50) (.tmp 58) lv7.2.1 t58) fun t59 =>
        ifB t59
        (LETJ (X := Value × Unit) (fun jv4 w8 =>
          pureK Tryz.prog (sBin .add T_int (.tmp 60) (.const (.int .i64 1)) lv7.2.1 (.int .i64 1)) fun t61 =>
          next7 (jv4.1, t61, ()) w8)
         (fun J4 =>
          pureK Tryz.prog (sNil a0) fun t63 =>
          pureK Tryz.prog (sFieldAddr T_errataref30_Acc t63 3) fun t64 =>
          readK Tryz.prog (sLoad T_s_s_errataref30_Counted t64) w7 fun t65 =>
          pureK Tryz.prog (sIdxAddr T_s_s_errataref30_Counted t65 lv1.2.1) fun t67 =>
          readK Tryz.prog (sLoad T_s_errataref30_Counted t67) w7 fun t68 =>
          pureK Tryz.prog (sIdxAddr T_s_errataref30_Counted t68 lv7.2.1) fun t70 =>
          readK Tryz.prog (sLoad T_errataref30_Counted t70) w7 fun t71 =>
          upK Tryz.prog (sAlloc T_errataref30_Counted) w7 fun x8 w9 =>
          upK Tryz.prog (sStore T_errataref30_Counted x8 t71) w9 fun tu_1 w10 =>
          pureK Tryz.prog (sFieldAddr T_errataref30_Counted x8 1) fun t72 =>
          readK Tryz.prog (sLoad T_int t72) w10 fun t73 =>
          pureK Tryz.prog (sBin .gtr T_int (.tmp 73) (.const (.int .i64 0)) t73 (.int .i64 0)) fun t74 =>
          ifB t74
          (pureK Tryz.prog (sUn .not lv7.1) fun t77 =>
           ifB t77
           (pureK Tryz.prog (sFieldAddr T_errataref30_Counted x8 0) fun t90 =>
            readK Tryz.prog (sLoad T_api_Value t90) w10 fun t91 =>
            upK Tryz.prog (sStore T_api_Value v5 t91) w10 fun tu_2 w11 =>
            J4 ((.bool true), ()) w11)
           (pureK Tryz.prog (sNil a0) fun t80 =>
            pureK Tryz.prog (sFieldAddr T_errataref30_Acc t80 0) fun t81 =>
            readK Tryz.prog (sLoad T_s_api_Agg t81) w10 fun t82 =>
            pureK Tryz.prog (sIdxAddr T_s_api_Agg t82 lv1.2.1) fun t84 =>
            pureK Tryz.prog (sFieldAddr T_api_Agg t84 0) fun t85 =>
            readK Tryz.prog (sLoad T_int t85) w10 fun t86 =>
            pureK Tryz.prog (sBin .eql T_int (.tmp 86) (.const (.int .i64 3)) t86 (.int .i64 3)) fun t87 =>
            ifB t87
            (pureK Tryz.prog (sFieldAddr T_errataref30_Counted x8 0) fun t90_1 =>
             readK Tryz.prog (sLoad T_api_Value t90_1) w10 fun t91_1 =>
             upK Tryz.prog (sStore T_api_Value v5 t91_1) w10 fun tu_3 w12 =>
             J4 ((.bool true), ()) w12)
            (J4 (lv7.1, ()) w10)))
          (J4 (lv7.1, ()) w10)))
        (readK Tryz.prog (sLoad T_api_Value v5) w7 fun t93 =>
         upK Tryz.prog (sBuildSlice T_s_api_Value 1 #[(0, t93)]) w7 fun t94 w13 =>
         upK Tryz.prog (sBlt .append #[T_s_api_Value, T_s_api_Value] T_s_api_Value #[false, false] #[lv1.1, t94]) w13 fun t95 w14 =>
         J1 (t95, ()) w14))
       ((.bool false), (.int .i64 0), ()) w6)
      (fun J3 =>
       pureK Tryz.prog (sNil a0) fun t34 =>
       pureK Tryz.prog (sFieldAddr T_errataref30_Acc t34 0) fun t35 =>
       readK Tryz.prog (sLoad T_s_api_Agg t35) w5 fun t36 =>
       pureK Tryz.prog (sIdxAddr T_s_api_Agg t36 lv1.2.1) fun t38 =>
       pureK Tryz.prog (sFieldAddr T_api_Agg t38 0) fun t39 =>
       readK Tryz.prog (sLoad T_int t39) w5 fun t40 =>
       pureK Tryz.prog (sBin .eql T_int (.tmp 40) (.const (.int .i64 1)) t40 (.int .i64 1)) fun t41 =>
       ifB t41
       (pureK Tryz.prog (sNil a0) fun t43 =>
        pureK Tryz.prog (sFieldAddr T_errataref30_Acc t43 2) fun t44 =>
        readK Tryz.prog (sLoad T_s_int t44) w5 fun t45 =>
        pureK Tryz.prog (sIdxAddr T_s_int t45 lv1.2.1) fun t47 =>
        readK Tryz.prog (sLoad T_int t47) w5 fun t48 =>
        pureK Tryz.prog (sFieldAddr T_api_Value v5 1) fun t49 =>
        upK Tryz.prog (sStore T_int t49 t48) w5 fun tu_4 w15 =>
        J3 (()) w15)
       (J3 (()) w5)))
     (fun J2 =>
      pureK Tryz.prog (sNil a0) fun t20 =>
      pureK Tryz.prog (sFieldAddr T_errataref30_Acc t20 0) fun t21 =>
      readK Tryz.prog (sLoad T_s_api_Agg t21) w4 fun t22 =>
      pureK Tryz.prog (sIdxAddr T_s_api_Agg t22 lv1.2.1) fun t24 =>
      pureK Tryz.prog (sFieldAddr T_api_Agg t24 0) fun t25 =>
      readK Tryz.prog (sLoad T_int t25) w4 fun t26 =>
      pureK Tryz.prog (sBin .eql T_int (.tmp 26) (.const (.int .i64 0)) t26 (.int .i64 0)) fun t27 =>
      ifB t27
      (pureK Tryz.prog (sNil a0) fun t29 =>
       pureK Tryz.prog (sFieldAddr T_errataref30_Acc t29 1) fun t30 =>
       readK Tryz.prog (sLoad T_int t30) w4 fun t31 =>
       pureK Tryz.prog (sFieldAddr T_api_Value v5 1) fun t32 =>
       upK Tryz.prog (sStore T_int t32 t31) w4 fun tu_5 w16 =>
       J2 (()) w16)
      (J2 (()) w4))))
   (K lv1.1 w1))
  ((.slice none 0 0), (.int .i64 0), ()) w
theorem errataref30_Acc_Result.pt_eq : errataref30_Acc_Result.pt = fun a0 w K => FN Tryz.prog Tryz.f17 (bodyOf Tryz.f17) [2] (.node none .leaf (.node none .leaf (.node none (.node none .leaf (.node none (.node none (.node none .leaf (.node (some [3]) (.node none (.node none .leaf (.node (some []) .leaf (.node (some []) .leaf (.node none .leaf (.node none (.node none .leaf (.node none (.node none (.node none .leaf (.node (some [6]) .leaf .leaf)) .leaf) .leaf)) .leaf))))) .leaf) .leaf)) .leaf) .leaf)) .leaf))) [a0] w K := by kernel_rfl
theorem errataref30_Acc_Result.call {a0 : Value} {w : World} {K : Value → World → Prop} (h : errataref30_Acc_Result.pt a0 w K) : Calls Tryz.prog F_errataref30_Acc_Result #[a0] w (retK K) :=
  calls_FN (args := [a0]) Tryz.func17 (by kernel_rfl) (by rw [errataref30_Acc_Result.pt_eq] at h; exact h)
theorem errataref30_Acc_Result.up {a0 : Value} {w : World} {K : Value → World → Prop} (h : Calls Tryz.prog F_errataref30_Acc_Result #[a0] w (retK K)) : upK Tryz.prog (sCall F_errataref30_Acc_Result #[a0]) w K :=
  up_call (fn := Tryz.f17) Tryz.func17 (by kernel_rfl) (by kernel_rfl) h

/-- (*errata/aggregate.Acc).Count -/
def aggregate_Acc_Count.pt (a0 : Value) (w : World) (K : Value → World → Prop) : Prop :=
  pureK Tryz.prog (sNil a0) fun t4 =>
  pureK Tryz.prog (sFieldAddr T_aggregate_Acc t4 1) fun t5 =>
  readK Tryz.prog (sLoad T_int t5) w fun t6 =>
  K t6 w
theorem aggregate_Acc_Count.pt_eq : aggregate_Acc_Count.pt = fun a0 w K => FN Tryz.prog Tryz.f18 (bodyOf Tryz.f18) [2] .leaf [a0] w K := by kernel_rfl
theorem aggregate_Acc_Count.call {a0 : Value} {w : World} {K : Value → World → Prop} (h : aggregate_Acc_Count.pt a0 w K) : Calls Tryz.prog F_aggregate_Acc_Count #[a0] w (retK K) :=
  calls_FN (args := [a0]) Tryz.func18 (by kernel_rfl) (by rw [aggregate_Acc_Count.pt_eq] at h; exact h)
theorem aggregate_Acc_Count.up {a0 : Value} {w : World} {K : Value → World → Prop} (h : Calls Tryz.prog F_aggregate_Acc_Count #[a0] w (retK K)) : upK Tryz.prog (sCall F_aggregate_Acc_Count #[a0]) w K :=
  up_call (fn := Tryz.f18) Tryz.func18 (by kernel_rfl) (by kernel_rfl) h

/-- (*errata/aggregate.Acc).Rows -/
def aggregate_Acc_Rows.pt (a0 : Value) (w : World) (K : Value → World → Prop) : Prop :=
  pureK Tryz.prog (sNil a0) fun t7 =>
  pureK Tryz.prog (sFieldAddr T_aggregate_Acc t7 3) fun t8 =>
  readK Tryz.prog (sLoad T_s_map_api_Value_int t8) w fun t9 =>
  readK Tryz.prog (sBlt .len #[T_s_map_api_Value_int] T_int #[false] #[t9]) w fun t10 =>
  LOOP (X := Value × Value × Unit) (fun lv1 w1 next1 =>
   pureK Tryz.prog (sBin .lss T_int (.tmp 11) (.tmp 10) lv1.2.1 t10) fun t12 =>
   ifB t12
   (pureK Tryz.prog (sIdxAddr T_s_map_api_Value_int t9 lv1.2.1) fun t13 =>
    readK Tryz.prog (sLoad T_map_api_Value_int t13) w1 fun t14 =>
    readK Tryz.prog (sBlt .len #[T_map_api_Value_int] T_int #[false] #[t14]) w1 fun t17 =>
    pureK Tryz.prog (sBin .add T_int (.tmp 15) (.tmp 17) lv1.1 t17) fun t18 =>
    pureK Tryz.prog (sBin .add T_int (.tmp 11) (.const (.int .i64 1)) lv1.2.1 (.int .i64 1)) fun t19 =>
    next1 (t18, t19, ()) w1)
   (K lv1.1 w1))
  ((.int .i64 0), (.int .i64 0), ()) w
theorem aggregate_Acc_Rows.pt_eq : aggregate_Acc_Rows.pt = fun a0 w K => FN Tryz.prog Tryz.f19 (bodyOf Tryz.f19) [2] .leaf [a0] w K := by kernel_rfl
theorem aggregate_Acc_Rows.call {a0 : Value} {w : World} {K : Value → World → Prop} (h : aggregate_Acc_Rows.pt a0 w K) : Calls Tryz.prog F_aggregate_Acc_Rows #[a0] w (retK K) :=
  calls_FN (args := [a0]) Tryz.func19 (by kernel_rfl) (by rw [aggregate_Acc_Rows.pt_eq] at h; exact h)
theorem aggregate_Acc_Rows.up {a0 : Value} {w : World} {K : Value → World → Prop} (h : Calls Tryz.prog F_aggregate_Acc_Rows #[a0] w (retK K)) : upK Tryz.prog (sCall F_aggregate_Acc_Rows #[a0]) w K :=
  up_call (fn := Tryz.f19) Tryz.func19 (by kernel_rfl) (by kernel_rfl) h

/-- (*errata/errataref30.Acc).Rows -/
def errataref30_Acc_Rows.pt (a0 : Value) (w : World) (K : Value → World → Prop) : Prop :=
  LOOP (X := Value × Value × Unit) (fun lv1 w1 next1 =>
   pureK Tryz.prog (sNil a0) fun t7 =>
   pureK Tryz.prog (sFieldAddr T_errataref30_Acc t7 3) fun t8 =>
   readK Tryz.prog (sLoad T_s_s_errataref30_Counted t8) w1 fun t9 =>
   readK Tryz.prog (sBlt .len #[T_s_s_errataref30_Counted] T_int #[false] #[t9]) w1 fun t10 =>
   pureK Tryz.prog (sBin .lss T_int (.tmp 5) (.tmp 10) lv1.2.1 t10) fun t11 =>
   ifB t11
   (pureK Tryz.prog (sNil a0) fun t16 =>
    pureK Tryz.prog (sFieldAddr T_errataref30_Acc t16 3) fun t17 =>
    readK Tryz.prog (sLoad T_s_s_errataref30_Counted t17) w1 fun t18 =>
    pureK Tryz.prog (sIdxAddr T_s_s_errataref30_Counted t18 lv1.2.1) fun t20 =>
    readK Tryz.prog (sLoad T_s_errataref30_Counted t20) w1 fun t21 =>
    readK Tryz.prog (sBlt .len #[T_s_errataref30_Counted] T_int #[false] #[t21]) w1 fun t22 =>
    pureK Tryz.prog (sBin .add T_int (.tmp 14) (.tmp 22) lv1.1 t22) fun t23 =>
    pureK Tryz.prog (sBin .add T_int (.tmp 12) (.const (.int .i64 1)) lv1.2.1 (.int .i64 1)) fun t13 =>
    next1 (t23, t13, ()) w1)
   (K lv1.1 w1))
  ((.int .i64 0), (.int .i64 0), ()) w
theorem errataref30_Acc_Rows.pt_eq : errataref30_Acc_Rows.pt = fun a0 w K => FN Tryz.prog Tryz.f20 (bodyOf Tryz.f20) [2] .leaf [a0] w K := by kernel_rfl
theorem errataref30_Acc_Rows.call {a0 : Value} {w : World} {K : Value → World → Prop} (h : errataref30_Acc_Rows.pt a0 w K) : Calls Tryz.prog F_errataref30_Acc_Rows #[a0] w (retK K) :=
  calls_FN (args := [a0]) Tryz.func20 (by kernel_rfl) (by rw [errataref30_Acc_Rows.pt_eq] at h; exact h)
theorem errataref30_Acc_Rows.up {a0 : Value} {w : World} {K : Value → World → Prop} (h : Calls Tryz.prog F_errataref30_Acc_Rows #[a0] w (retK K)) : upK Tryz.prog (sCall F_errataref30_Acc_Rows #[a0]) w K :=
  up_call (fn := Tryz.f20) Tryz.func20 (by kernel_rfl) (by kernel_rfl) h

/-- (*errata/aggregate.Acc).Empty -/
def aggregate_Acc_Empty.pt (a0 : Value) (w : World) (K : Value → World → Prop) : Prop :=
  pureK Tryz.prog (sNil a0) fun t4 =>
  pureK Tryz.prog (sFieldAddr T_aggregate_Acc t4 1) fun t5 =>
  readK Tryz.prog (sLoad T_int t5) w fun t6 =>
  pureK Tryz.prog (sBin .eql T_int (.tmp 6) (.const (.int .i64 0)) t6 (.int .i64 0)) fun t7 =>
  ifB t7
  (upK Tryz.prog (sCall F_aggregate_Acc_Rows #[a0]) w fun t10 w1 =>
   pureK Tryz.prog (sBin .eql T_int (.tmp 10) (.const (.int .i64 0)) t10 (.int .i64 0)) fun t11 =>
   ifB t11
   (pureK Tryz.prog (sNil a0) fun t15 =>
    pureK Tryz.prog (sFieldAddr T_aggregate_Acc t15 2) fun t16 =>
    readK Tryz.prog (sLoad T_s_int t16) w1 fun t17 =>
    upK Tryz.prog (sCall F_slices_ContainsFunc_s_int_int #[t17, (.func (.func 60) #[] #[])]) w1 fun t18 w2 =>
    pureK Tryz.prog (sUn .not t18) fun t19 =>
    K t19 w2)
   (K (.bool false) w1))
  (K (.bool false) w)
theorem aggregate_Acc_Empty.pt_eq : aggregate_Acc_Empty.pt = fun a0 w K => FN Tryz.prog Tryz.f21 (bodyOf Tryz.f21) [2] .leaf [a0] w K := by kernel_rfl
theorem aggregate_Acc_Empty.call {a0 : Value} {w : World} {K : Value → World → Prop} (h : aggregate_Acc_Empty.pt a0 w K) : Calls Tryz.prog F_aggregate_Acc_Empty #[a0] w (retK K) :=
  calls_FN (args := [a0]) Tryz.func21 (by kernel_rfl) (by rw [aggregate_Acc_Empty.pt_eq] at h; exact h)
theorem aggregate_Acc_Empty.up {a0 : Value} {w : World} {K : Value → World → Prop} (h : Calls Tryz.prog F_aggregate_Acc_Empty #[a0] w (retK K)) : upK Tryz.prog (sCall F_aggregate_Acc_Empty #[a0]) w K :=
  up_call (fn := Tryz.f21) Tryz.func21 (by kernel_rfl) (by kernel_rfl) h

/-- (*errata/errataref30.Acc).Empty -/
def errataref30_Acc_Empty.pt (a0 : Value) (w : World) (K : Value → World → Prop) : Prop :=
  pureK Tryz.prog (sNil a0) fun t6 =>
  pureK Tryz.prog (sFieldAddr T_errataref30_Acc t6 0) fun t7 =>
  readK Tryz.prog (sLoad T_s_api_Agg t7) (tick w) fun t8 =>
  upK Tryz.prog (sCall F_errataref30_Acc_Bytes #[a0]) (tick w) fun t4 w1 =>
  Is Tryz.prog (sLoad T_s_api_Agg t7) t8 w1 ∧ upK Tryz.prog (sCall F_errataref30_New #[t8]) w1 fun t9 w2 =>
  upK Tryz.prog (sCall F_errataref30_Acc_Bytes #[t9]) w2 fun t10 w3 =>
  pureK Tryz.prog (sBin .eql T_string (.tmp 4) (.tmp 10) t4 t10) fun t11 =>
  K t11 w3
theorem errataref30_Acc_Empty.pt_eq : errataref30_Acc_Empty.pt = fun a0 w K => FN Tryz.prog Tryz.f22 (bodyOf Tryz.f22) [2] .leaf [a0] w K := by kernel_rfl
theorem errataref30_Acc_Empty.call {a0 : Value} {w : World} {K : Value → World → Prop} (h : errataref30_Acc_Empty.pt a0 w K) : Calls Tryz.prog F_errataref30_Acc_Empty #[a0] w (retK K) :=
  calls_FN (args := [a0]) Tryz.func22 (by kernel_rfl) (by rw [errataref30_Acc_Empty.pt_eq] at h; exact h)
theorem errataref30_Acc_Empty.up {a0 : Value} {w : World} {K : Value → World → Prop} (h : Calls Tryz.prog F_errataref30_Acc_Empty #[a0] w (retK K)) : upK Tryz.prog (sCall F_errataref30_Acc_Empty #[a0]) w K :=
  up_call (fn := Tryz.f22) Tryz.func22 (by kernel_rfl) (by kernel_rfl) h

/-- (*errata/errataref30.Acc).Bytes -/
def errataref30_Acc_Bytes.pt (a0 : Value) (w : World) (K : Value → World → Prop) : Prop :=
  pureK Tryz.prog (sNil a0) fun t8 =>
  pureK Tryz.prog (sFieldAddr T_errataref30_Acc t8 1) fun t9 =>
  readK Tryz.prog (sLoad T_int t9) w fun t10 =>
  upK Tryz.prog (sCall F_errataref01_Int #[t10]) w fun t11 w1 =>
  LOOP (X := Value × Value × Unit) (fun lv2 w2 next2 =>
   pureK Tryz.prog (sNil a0) fun t14 =>
   pureK Tryz.prog (sFieldAddr T_errataref30_Acc t14 0) fun t15 =>
   readK Tryz.prog (sLoad T_s_api_Agg t15) w2 fun t16 =>
   readK Tryz.prog (sBlt .len #[T_s_api_Agg] T_int #[false] #[t16]) w2 fun t17 =>
   pureK Tryz.prog (sBin .lss T_int (.tmp 12) (.tmp 17) lv2.2.1 t17) fun t18 =>
   ifB t18
   (LETJ (X := Value × Unit) (fun jv1 w3 =>
     pureK Tryz.prog (sBin .add T_int (.tmp 19) (.const (.int .i64 1)) lv2.2.1 (.int .i64 1)) fun t20 =>
     next2 (jv1.1, t20, ()) w3)
    (fun J1 =>
     LETJ (X := Value × Unit) (fun jv2 w4 =>
      pureK Tryz.prog (sNil a0) fun t41 =>
      pureK Tryz.prog (sFieldAddr T_errataref30_Acc t41 0) fun t42 =>
      readK Tryz.prog (sLoad T_s_api_Agg t42) w4 fun t43 =>
      pureK Tryz.prog (sIdxAddr T_s_api_Agg t43 lv2.2.1) fun t45 =>
      readK Tryz.prog (sLoad T_api_Agg t45) w4 fun t46 =>
      upK Tryz.prog (sCall F_errataref30_Ordered #[t46]) w4 fun t47 w5 =>
      pureK Tryz.prog (sUn .not t47) fun t48 =>
      ifB t48
      (J1 (jv2.1, ()) w5)
      (pureK Tryz.prog (sNil a0) fun t51 =>
       pureK Tryz.prog (sFieldAddr T_errataref30_Acc t51 3) fun t52 =>
       readK Tryz.prog (sLoad T_s_s_errataref30_Counted t52) w5 fun t53 =>
       pureK Tryz.prog (sIdxAddr T_s_s_errataref30_Counted t53 lv2.2.1) fun t55 =>
       readK Tryz.prog (sLoad T_s_errataref30_Counted t55) w5 fun t56 =>
       readK Tryz.prog (sBlt .len #[T_s_errataref30_Counted] T_int #[false] #[t56]) w5 fun t57 =>
       upK Tryz.prog (sCall F_errataref01_Num #[t57]) w5 fun t58 w6 =>
       pureK Tryz.prog (sBin .add T_string (.tmp 49) (.tmp 58) jv2.1 t58) fun t59 =>
       LOOP (X := Value × Value × Unit) (fun lv7 w7 next7 =>
        pureK Tryz.prog (sNil a0) fun t62 =>
        pureK Tryz.prog (sFieldAddr T_errataref30_Acc t62 3) fun t63 =>
        readK Tryz.prog (sLoad T_s_s_errataref30_Counted t63) w7 fun t64 =>
        pureK Tryz.prog (sIdxAddr T_s_s_errataref30_Counted t64 lv2.2.1) fun t66 =>
        readK Tryz.prog (sLoad T_s_errataref30_Counted t66) w7 fun t67 =>
        readK Tryz.prog (sBlt .len #[T_s_errataref30_Counted] T_int #[false] #[t67]) w7 fun t68 =>
        pureK Tryz.prog (sBin .lss T_int (.tmp 60) (.tmp 68) lv7.2.1 t68) fun t69 =>
        ifB t69
        (pureK Tryz.prog (sNil a0) fun t73 =>
         pureK Tryz.prog (sFieldAddr T_errataref30_Acc t73 3) fun t74 =>
         readK Tryz.prog (sLoad T_s_s_errataref30_Counted t74) w7 fun t75 =>
         pureK Tryz.prog (sIdxAddr T_s_s_errataref30_Counted t75 lv2.2.1) fun t77 =>
         readK Tryz.prog (sLoad T_s_errataref30_Counted t77) w7 fun t78 =>
         pureK Tryz.prog (sIdxAddr T_s_errataref30_Counted t78 lv7.2.1) fun t80 =>
         readK Tryz.prog (sLoad T_errataref30_Counted t80) w7 fun t81 =>
         upK Tryz.prog (sAlloc T_errataref30_Counted) w7 fun x6 w8 =>
         upK Tryz.prog (sStore T_errataref30_Counted x6 t81) w8 fun tu w9 =>
         pureK Tryz.prog (sFieldAddr T_errataref30_Counted x6 0) fun t83 =>
         readK Tryz.prog (sLoad T_api_Value t83) (tick w9) fun t84 =>
         pureK Tryz.prog (sFieldAddr T_errataref30_Counted x6 1) fun t88 =>
         readK Tryz.prog (sLoad T_int t88) (tick w9) fun t89 =>
         upK Tryz.prog (sCall F_errataref03_Bytes #[t84]) (tick w9) fun t85 w10 =>
         Is Tryz.prog (sLoad T_int t88) t89 w10 ∧ upK Tryz.prog (sCall F_errataref01_Text #[t85]) w10 fun t86 w11 =>
         Is Tryz.prog (sLoad T_int t88) t89 w11 ∧ pureK Tryz.prog (sBin .add T_string (.tmp 82) (.tmp 86) lv7.1 t86) fun t87 =>
         upK Tryz.prog (sCall F_errataref01_Int #[t89]) w11 fun t90 w12 =>
         pureK Tryz.prog (sBin .add T_string (.tmp 87) (.tmp 90) t87 t90) fun t91 =>
         pureK Tryz.prog (sBin .add T_int (.tmp 70) (.const (.int .i64 1)) lv7.2.1 (.int .i64 1)) fun t71 =>
         next7 (t91, t71, ()) w12)
        (J1 (lv7.1, ()) w7))
       (t59, (.int .i64 0), ()) w6))
     (fun J2 =>
      pureK Tryz.prog (sNil a0) fun t22 =>
      pureK Tryz.prog (sFieldAddr T_errataref30_Acc t22 0) fun t23 =>
      readK Tryz.prog (sLoad T_s_api_Agg t23) w2 fun t24 =>
      pureK Tryz.prog (sIdxAddr T_s_api_Agg t24 lv2.2.1) fun t26 =>
      pureK Tryz.prog (sFieldAddr T_api_Agg t26 0) fun t27 =>
      readK Tryz.prog (sLoad T_int t27) w2 fun t28 =>
      pureK Tryz.prog (sBin .eql T_int (.tmp 28) (.const (.int .i64 1)) t28 (.int .i64 1)) fun t29 =>
      ifB t29
      (pureK Tryz.prog (sNil a0) fun t32 =>
       pureK Tryz.prog (sFieldAddr T_errataref30_Acc t32 2) fun t33 =>
       readK Tryz.prog (sLoad T_s_int t33) w2 fun t34 =>
       pureK Tryz.prog (sIdxAddr T_s_int t34 lv2.2.1) fun t36 =>
       readK Tryz.prog (sLoad T_int t36) w2 fun t37 =>
       upK Tryz.prog (sCall F_errataref01_Int #[t37]) w2 fun t38 w13 =>
       pureK Tryz.prog (sBin .add T_string (.tmp 30) (.tmp 38) lv2.1 t38) fun t39 =>
       J2 (t39, ()) w13)
      (J2 (lv2.1, ()) w2))))
   (K lv2.1 w2))
  (t11, (.int .i64 0), ()) w1
theorem errataref30_Acc_Bytes.pt_eq : errataref30_Acc_Bytes.pt = fun a0 w K => FN Tryz.prog Tryz.f23 (bodyOf Tryz.f23) [2] (.node none .leaf (.node none .leaf (.node none (.node none .leaf (.node none (.node none (.node none .leaf (.node (some [3]) (.node none (.node (some [3]) .leaf .leaf) .leaf) .leaf)) .leaf) .leaf)) .leaf))) [a0] w K := by kernel_rfl
theorem errataref30_Acc_Bytes.call {a0 : Value} {w : World} {K : Value → World → Prop} (h : errataref30_Acc_Bytes.pt a0 w K) : Calls Tryz.prog F_errataref30_Acc_Bytes #[a0] w (retK K) :=
  calls_FN (args := [a0]) Tryz.func23 (by kernel_rfl) (by rw [errataref30_Acc_Bytes.pt_eq] at h; exact h)
theorem errataref30_Acc_Bytes.up {a0 : Value} {w : World} {K : Value → World → Prop} (h : Calls Tryz.prog F_errataref30_Acc_Bytes #[a0] w (retK K)) : upK Tryz.prog (sCall F_errataref30_Acc_Bytes #[a0]) w K :=
  up_call (fn := Tryz.f23) Tryz.func23 (by kernel_rfl) (by kernel_rfl) h

/-- (*errata/aggregate.Acc).Merge -/
def aggregate_Acc_Merge.pt (a0 b1 : Value) (w : World) (K : Value → World → Prop) : Prop :=
  pureK Tryz.prog (sNil a0) fun t9 =>
  pureK Tryz.prog (sFieldAddr T_aggregate_Acc t9 0) fun t10 =>
  readK Tryz.prog (sLoad T_s_api_Agg t10) (tick w) fun t11 =>
  pureK Tryz.prog (sNil b1) fun t13 =>
  pureK Tryz.prog (sFieldAddr T_aggregate_Acc t13 0) fun t14 =>
  readK Tryz.prog (sLoad T_s_api_Agg t14) (tick w) fun t15 =>
  upK Tryz.prog (sCall F_slices_EqualFunc_s_api_Agg_s_api_Agg_api_Agg_api_Agg #[t11, t15, (.func (.func 66) #[] #[])]) (tick w) fun t16 w1 =>
  pureK Tryz.prog (sUn .not t16) fun t17 =>
  ifB t17
  (K (.int .i64 1) w1)
  (pureK Tryz.prog (sNil a0) fun t19 =>
   pureK Tryz.prog (sFieldAddr T_aggregate_Acc t19 1) fun t20 =>
   readK Tryz.prog (sLoad T_int t20) (tick w1) fun t21 =>
   pureK Tryz.prog (sNil b1) fun t23 =>
   pureK Tryz.prog (sFieldAddr T_aggregate_Acc t23 1) fun t24 =>
   readK Tryz.prog (sLoad T_int t24) (tick w1) fun t25 =>
   pureK Tryz.prog (sBin .add T_int (.tmp 21) (.tmp 25) t21 t25) fun t26 =>
   pureK Tryz.prog (sNil a0) fun t27 =>
   pureK Tryz.prog (sFieldAddr T_aggregate_Acc t27 1) fun t28 =>
   upK Tryz.prog (sStore T_int t28 t26) (tick w1) fun tu w2 =>
   pureK Tryz.prog (sNil a0) fun t30 =>
   pureK Tryz.prog (sFieldAddr T_aggregate_Acc t30 0) fun t31 =>
   readK Tryz.prog (sLoad T_s_api_Agg t31) w2 fun t32 =>
   readK Tryz.prog (sBlt .len #[T_s_api_Agg] T_int #[false] #[t32]) w2 fun t33 =>
   LOOP (X := Value × Unit) (fun lv3 w3 next3 =>
    pureK Tryz.prog (sBin .lss T_int (.tmp 34) (.tmp 33) lv3.1 t33) fun t35 =>
    ifB t35
    (LETJ (X := Unit) (fun jv1 w4 =>
      pureK Tryz.prog (sBin .add T_int (.tmp 34) (.const (.int .i64 1)) lv3.1 (.int .i64 1)) fun t77 =>
      next3 (t77, ()) w4)
     (fun J1 =>
      pureK Tryz.prog (sNil a0) fun t38 =>
      pureK Tryz.prog (sFieldAddr T_aggregate_Acc t38 2) fun t39 =>
      readK Tryz.prog (sLoad T_s_int t39) (tick w3) fun t40 =>
      pureK Tryz.prog (sIdxAddr T_s_int t40 lv3.1) fun t42 =>
      readK Tryz.prog (sLoad T_int t42) (tick w3) fun t43 =>
      pureK Tryz.prog (sNil b1) fun t45 =>
      pureK Tryz.prog (sFieldAddr T_aggregate_Acc t45 2) fun t46 =>
      readK Tryz.prog (sLoad T_s_int t46) (tick w3) fun t47 =>
      pureK Tryz.prog (sIdxAddr T_s_int t47 lv3.1) fun t49 =>
      readK Tryz.prog (sLoad T_int t49) (tick w3) fun t50 =>
      pureK Tryz.prog (sBin .add T_int (.tmp 43) (.tmp 50) t43 t50) fun t51 =>
      pureK Tryz.prog (sIdxAddr T_s_int t40 lv3.1) fun t52 =>
      upK Tryz.prog (sStore T_int t52 t51) (tick w3) fun tu_1 w5 =>
      pureK Tryz.prog (sNil b1) fun t54 =>
      pureK Tryz.prog (sFieldAddr T_aggregate_Acc t54 3) fun t55 =>
      readK Tryz.prog (sLoad T_s_map_api_Value_int t55) w5 fun t56 =>
      pureK Tryz.prog (sIdxAddr T_s_map_api_Value_int t56 lv3.1) fun t58 =>
      readK Tryz.prog (sLoad T_map_api_Value_int t58) w5 fun t59 =>
      upK Tryz.prog (sCall F_maps_Clone_map_api_Value_int_api_Value_int #[t59]) w5 fun t60 w6 =>
      upK Tryz.prog (sRange T_map_api_Value_int t60) w6 fun t61 w7 =>
      LOOP (X := Unit) (fun lv8 w8 next8 =>
       upK Tryz.prog (sNext t61 false T_) w8 fun t62 w9 =>
       pureK Tryz.prog (sExtract t62 0) fun t63 =>
       ifB t63
       (upK Tryz.prog (sEntry t61) w9 fun t64 w10 =>
        pureK Tryz.prog (sExtract t64 0) fun t65 =>
        pureK Tryz.prog (sExtract t64 1) fun t66 =>
        upK Tryz.prog (sAlloc T_api_Value) w10 fun v6 w11 =>
        upK Tryz.prog (sStore T_api_Value v6 t65) w11 fun tu_2 w12 =>
        pureK Tryz.prog (sNil a0) fun t68 =>
        pureK Tryz.prog (sFieldAddr T_aggregate_Acc t68 3) fun t69 =>
        readK Tryz.prog (sLoad T_s_map_api_Value_int t69) (tick w12) fun t70 =>
        pureK Tryz.prog (sIdxAddr T_s_map_api_Value_int t70 lv3.1) fun t72 =>
        readK Tryz.prog (sLoad T_map_api_Value_int t72) (tick w12) fun t73 =>
        readK Tryz.prog (sLoad T_api_Value v6) (tick w12) fun t74 =>
        upK Tryz.prog (sCall F_aggregate_put #[t73, t74, t66]) (tick w12) fun t76 w13 =>
        next8 (()) w13)
       (J1 (()) w9))
      (()) w7))
    (K (.int .i64 0) w3))
   ((.int .i64 0), ()) w2)
theorem aggregate_Acc_Merge.pt_eq : aggregate_Acc_Merge.pt = fun a0 b1 w K => FN Tryz.prog Tryz.f24 (bodyOf Tryz.f24) [4] (.node none .leaf (.node none .leaf (.node none .leaf (.node none (.node none .leaf (.node none (.node none (.node none .leaf (.node none .leaf (.node (some []) .leaf .leaf))) .leaf) .leaf)) .leaf)))) [a0, b1] w K := by kernel_rfl
theorem aggregate_Acc_Merge.call {a0 b1 : Value} {w : World} {K : Value → World → Prop} (h : aggregate_Acc_Merge.pt a0 b1 w K) : Calls Tryz.prog F_aggregate_Acc_Merge #[a0, b1] w (retK K) :=
  calls_FN (args := [a0, b1]) Tryz.func24 (by kernel_rfl) (by rw [aggregate_Acc_Merge.pt_eq] at h; exact h)
theorem aggregate_Acc_Merge.up {a0 b1 : Value} {w : World} {K : Value → World → Prop} (h : Calls Tryz.prog F_aggregate_Acc_Merge #[a0, b1] w (retK K)) : upK Tryz.prog (sCall F_aggregate_Acc_Merge #[a0, b1]) w K :=
  up_call (fn := Tryz.f24) Tryz.func24 (by kernel_rfl) (by kernel_rfl) h

/-- (*errata/errataref30.Acc).Merge -/
def errataref30_Acc_Merge.pt (a0 b1 : Value) (w : World) (K : Value → World → Prop) : Prop :=
  pureK Tryz.prog (sNil a0) fun t9 =>
  pureK Tryz.prog (sFieldAddr T_errataref30_Acc t9 0) fun t10 =>
  readK Tryz.prog (sLoad T_s_api_Agg t10) (tick w) fun t11 =>
  pureK Tryz.prog (sNil b1) fun t13 =>
  pureK Tryz.prog (sFieldAddr T_errataref30_Acc t13 0) fun t14 =>
  readK Tryz.prog (sLoad T_s_api_Agg t14) (tick w) fun t15 =>
  upK Tryz.prog (sCall F_errataref30_Alike #[t11, t15]) (tick w) fun t16 w1 =>
  pureK Tryz.prog (sUn .not t16) fun t17 =>
  ifB t17
  (K (.int .i64 1) w1)
  (pureK Tryz.prog (sNil a0) fun t20 =>
   pureK Tryz.prog (sFieldAddr T_errataref30_Acc t20 1) fun t21 =>
   readK Tryz.prog (sLoad T_int t21) (tick w1) fun t22 =>
   pureK Tryz.prog (sNil b1) fun t24 =>
   pureK Tryz.prog (sFieldAddr T_errataref30_Acc t24 1) fun t25 =>
   readK Tryz.prog (sLoad T_int t25) (tick w1) fun t26 =>
   pureK Tryz.prog (sBin .add T_int (.tmp 22) (.tmp 26) t22 t26) fun t27 =>
   pureK Tryz.prog (sNil a0) fun t28 =>
   pureK Tryz.prog (sFieldAddr T_errataref30_Acc t28 1) fun t29 =>
   upK Tryz.prog (sStore T_int t29 t27) (tick w1) fun tu w2 =>
   LOOP (X := Value × Unit) (fun lv3 w3 next3 =>
    pureK Tryz.prog (sNil a0) fun t32 =>
    pureK Tryz.prog (sFieldAddr T_errataref30_Acc t32 0) fun t33 =>
    readK Tryz.prog (sLoad T_s_api_Agg t33) w3 fun t34 =>
    readK Tryz.prog (sBlt .len #[T_s_api_Agg] T_int #[false] #[t34]) w3 fun t35 =>
    pureK Tryz.prog (sBin .lss T_int (.tmp 30) (.tmp 35) lv3.1 t35) fun t36 =>
    ifB t36
    (LETJ (X := Unit) (fun jv1 w4 =>
      pureK Tryz.prog (sBin .add T_int (.tmp 37) (.const (.int .i64 1)) lv3.1 (.int .i64 1)) fun t38 =>
      next3 (t38, ()) w4)
     (fun J1 =>
      pureK Tryz.prog (sNil a0) fun t40 =>
      pureK Tryz.prog (sFieldAddr T_errataref30_Acc t40 2) fun t41 =>
      readK Tryz.prog (sLoad T_s_int t41) (tick w3) fun t42 =>
      pureK Tryz.prog (sNil a0) fun t45 =>
      pureK Tryz.prog (sFieldAddr T_errataref30_Acc t45 2) fun t46 =>
      readK Tryz.prog (sLoad T_s_int t46) (tick w3) fun t47 =>
      pureK Tryz.prog (sIdxAddr T_s_int t47 lv3.1) fun t49 =>
      readK Tryz.prog (sLoad T_int t49) (tick w3) fun t50 =>
      pureK Tryz.prog (sNil b1) fun t52 =>
      pureK Tryz.prog (sFieldAddr T_errataref30_Acc t52 2) fun t53 =>
      readK Tryz.prog (sLoad T_s_int t53) (tick w3) fun t54 =>
      pureK Tryz.prog (sIdxAddr T_s_int t54 lv3.1) fun t56 =>
      readK Tryz.prog (sLoad T_int t56) (tick w3) fun t57 =>
      pureK Tryz.prog (sBin .add T_int (.tmp 50) (.tmp 57) t50 t57) fun t58 =>
      pureK Tryz.prog (sIdxAddr T_s_int t42 lv3.1) fun t59 =>
      upK Tryz.prog (sStore T_int t59 t58) (tick w3) fun tu_1 w5 =>
      pureK Tryz.prog (sNil b1) fun t61 =>
      pureK Tryz.prog (sFieldAddr T_errataref30_Acc t61 3) fun t62 =>
      readK Tryz.prog (sLoad T_s_s_errataref30_Counted t62) w5 fun t63 =>
      pureK Tryz.prog (sIdxAddr T_s_s_errataref30_Counted t63 lv3.1) fun t65 =>
      readK Tryz.prog (sLoad T_s_errataref30_Counted t65) w5 fun t66 =>
      LOOP (X := Value × Unit) (fun lv6 w6 next6 =>
       readK Tryz.prog (sBlt .len #[T_s_errataref30_Counted] T_int #[false] #[t66]) w6 fun t69 =>
       pureK Tryz.prog (sBin .lss T_int (.tmp 67) (.tmp 69) lv6.1 t69) fun t70 =>
       ifB t70
       (pureK Tryz.prog (sNil a0) fun t74 =>
        pureK Tryz.prog (sFieldAddr T_errataref30_Acc t74 3) fun t75 =>
        readK Tryz.prog (sLoad T_s_s_errataref30_Counted t75) (tick w6) fun t76 =>
        pureK Tryz.prog (sNil a0) fun t79 =>
        pureK Tryz.prog (sFieldAddr T_errataref30_Acc t79 3) fun t80 =>
        readK Tryz.prog (sLoad T_s_s_errataref30_Counted t80) (tick w6) fun t81 =>
        pureK Tryz.prog (sIdxAddr T_s_s_errataref30_Counted t81 lv3.1) fun t83 =>
        readK Tryz.prog (sLoad T_s_errataref30_Counted t83) (tick w6) fun t84 =>
        pureK Tryz.prog (sIdxAddr T_s_errataref30_Counted t66 lv6.1) fun t87 =>
        pureK Tryz.prog (sFieldAddr T_errataref30_Counted t87 0) fun t88 =>
        readK Tryz.prog (sLoad T_api_Value t88) (tick w6) fun t89 =>
        pureK Tryz.prog (sIdxAddr T_s_errataref30_Counted t66 lv6.1) fun t92 =>
        pureK Tryz.prog (sFieldAddr T_errataref30_Counted t92 1) fun t93 =>
        readK Tryz.prog (sLoad T_int t93) (tick w6) fun t94 =>
        upK Tryz.prog (sCall F_errataref30_With #[t84, t89, t94]) (tick w6) fun t95 w7 =>
        Is Tryz.prog (sLoad T_s_s_errataref30_Counted t75) t76 w7 ∧ pureK Tryz.prog (sIdxAddr T_s_s_errataref30_Counted t76 lv3.1) fun t96 =>
        upK Tryz.prog (sStore T_s_errataref30_Counted t96 t95) w7 fun tu_2 w8 =>
        pureK Tryz.prog (sBin .add T_int (.tmp 71) (.const (.int .i64 1)) lv6.1 (.int .i64 1)) fun t72 =>
        next6 (t72, ()) w8)
       (J1 (()) w6))
      ((.int .i64 0), ()) w5))
    (K (.int .i64 0) w3))
   ((.int .i64 0), ()) w2)
theorem errataref30_Acc_Merge.pt_eq : errataref30_Acc_Merge.pt = fun a0 b1 w K => FN Tryz.prog Tryz.f25 (bodyOf Tryz.f25) [4] (.node none .leaf (.node none .leaf (.node none .leaf (.node none (.node none .leaf (.node none (.node none (.node none .leaf (.node (some []) .leaf .leaf)) .leaf) .leaf)) .leaf)))) [a0, b1] w K := by kernel_rfl
theorem errataref30_Acc_Merge.call {a0 b1 : Value} {w : World} {K : Value → World → Prop} (h : errataref30_Acc_Merge.pt a0 b1 w K) : Calls Tryz.prog F_errataref30_Acc_Merge #[a0, b1] w (retK K) :=
  calls_FN (args := [a0, b1]) Tryz.func25 (by kernel_rfl) (by rw [errataref30_Acc_Merge.pt_eq] at h; exact h)
theorem errataref30_Acc_Merge.up {a0 b1 : Value} {w : World} {K : Value → World → Prop} (h : Calls Tryz.prog F_errataref30_Acc_Merge #[a0, b1] w (retK K)) : upK Tryz.prog (sCall F_errataref30_Acc_Merge #[a0, b1]) w K :=
  up_call (fn := Tryz.f25) Tryz.func25 (by kernel_rfl) (by kernel_rfl) h

/-- errata/errataref30.Read -/
def errataref30_Read.pt (aggs0 s1 : Value) (w : World) (K : Value → World → Prop) : Prop :=
  upK Tryz.prog (sCall F_errataref30_New #[aggs0]) w fun t16 w1 =>
  upK Tryz.prog (sCall F_errataref01_Open #[s1]) w1 fun t18 w2 =>
  upK Tryz.prog (sCall F_errataref01_Reader_Int #[t18]) w2 fun t21 w3 =>
  pureK Tryz.prog (sNil t16) fun t22 =>
  pureK Tryz.prog (sFieldAddr T_errataref30_Acc t22 1) fun t23 =>
  upK Tryz.prog (sStore T_int t23 t21) w3 fun tu w4 =>
  LOOP (X := Value × Unit) (fun lv5 w5 next5 =>
   readK Tryz.prog (sBlt .len #[T_s_api_Agg] T_int #[false] #[aggs0]) w5 fun t26 =>
   pureK Tryz.prog (sBin .lss T_int (.tmp 24) (.tmp 26) lv5.1 t26) fun t27 =>
   ifB t27
   (LETJ (X := Unit) (fun jv1 w6 =>
     pureK Tryz.prog (sBin .add T_int (.tmp 28) (.const (.int .i64 1)) lv5.1 (.int .i64 1)) fun t29 =>
     next5 (t29, ()) w6)
    (fun J1 =>
     LETJ (X := Unit) (fun jv2 w7 =>
      pureK Tryz.prog (sIdxAddr T_s_api_Agg aggs0 lv5.1) fun t46 =>
      readK Tryz.prog (sLoad T_api_Agg t46) w7 fun t47 =>
      upK Tryz.prog (sCall F_errataref30_Ordered #[t47]) w7 fun t48 w8 =>
      pureK Tryz.prog (sUn .not t48) fun t49 =>
      ifB t49
      (J1 (()) w8)
      (upK Tryz.prog (sCall F_errataref01_Reader_Num #[t18]) w8 fun t51 w9 =>
       LETJ (X := Value × Unit) (fun jv3 w10 =>
        pureK Tryz.prog (sNil t16) fun t122 =>
        pureK Tryz.prog (sFieldAddr T_errataref30_Acc t122 3) fun t123 =>
        readK Tryz.prog (sLoad T_s_s_errataref30_Counted t123) w10 fun t124 =>
        pureK Tryz.prog (sIdxAddr T_s_s_errataref30_Counted t124 lv5.1) fun t126 =>
        readK Tryz.prog (sLoad T_s_errataref30_Counted t126) w10 fun t127 =>
        readK Tryz.prog (sBlt .len #[T_s_errataref30_Counted] T_int #[false] #[t127]) w10 fun t128 =>
        pureK Tryz.prog (sBin .neq T_int (.tmp 128) (.tmp 129) t128 t51) fun t130 =>
        ifB t130
        (K (.tuple #[(.pointer none), (.bool false)]) w10)
        (pureK Tryz.prog (sNil t16) fun t134 =>
         pureK Tryz.prog (sFieldAddr T_errataref30_Acc t134 1) fun t135 =>
         readK Tryz.prog (sLoad T_int t135) w10 fun t136 =>
         pureK Tryz.prog (sBin .neq T_int (.tmp 132) (.tmp 136) jv3.1 t136) fun t137 =>
         ifB t137
         (K (.tuple #[(.pointer none), (.bool false)]) w10)
         (J1 (()) w10)))
       (fun J3 =>
        LOOP (X := Value × Value × Unit) (fun lv11 w11 next11 =>
         pureK Tryz.prog (sBin .lss T_int (.tmp 52) (.tmp 53) lv11.2.1 t51) fun t54 =>
         ifB t54
         (upK Tryz.prog (sCall F_errataref01_Reader_Left #[t18]) w11 fun t57 w12 =>
          pureK Tryz.prog (sBin .gtr T_int (.tmp 57) (.const (.int .i64 0)) t57 (.int .i64 0)) fun t58 =>
          ifB t58
          (upK Tryz.prog (sCall F_errataref01_Reader_Text #[t18]) w12 fun t64 w13 =>
           upK Tryz.prog (sCall F_errataref03_Read #[t64]) w13 fun t65 w14 =>
           pureK Tryz.prog (sExtract t65 0) fun t66 =>
           pureK Tryz.prog (sExtract t65 1) fun t67 =>
           upK Tryz.prog (sAlloc T_api_Value) w14 fun v12 w15 =>
           upK Tryz.prog (sStore T_api_Value v12 t66) w15 fun tu_1 w16 =>
           LETJ (X := Value × Unit) (fun jv4 w17 =>
            pureK Tryz.prog (sUn .not t67) fun t73 =>
            ifB t73
            (K (.tuple #[(.pointer none), (.bool false)]) w17)
            (readK Tryz.prog (sLoad T_api_Value v12) w17 fun t75 =>
             upK Tryz.prog (sCall F_errataref03_Right #[t75]) w17 fun t76 w18 =>
             pureK Tryz.prog (sUn .not t76) fun t77 =>
             ifB t77
             (K (.tuple #[(.pointer none), (.bool false)]) w18)
             (pureK Tryz.prog (sFieldAddr T_errataref30_Counted jv4.1 1) fun t80 =>
              readK Tryz.prog (sLoad T_int t80) w18 fun t81 =>
              pureK Tryz.prog (sBin .eql T_int (.tmp 81) (.const (.int .i64 0)) t81 (.int .i64 0)) fun t82 =>
              ifB t82
              (K (.tuple #[(.pointer none), (.bool false)]) w18)
              (LETJ (X := Unit) (fun jv5 w19 =>
                pureK Tryz.prog (sNil t16) fun t102 =>
                pureK Tryz.prog (sFieldAddr T_errataref30_Acc t102 3) fun t103 =>
                readK Tryz.prog (sLoad T_s_s_errataref30_Counted t103) (tick w19) fun t104 =>
                pureK Tryz.prog (sNil t16) fun t107 =>
                pureK Tryz.prog (sFieldAddr T_errataref30_Acc t107 3) fun t108 =>
                readK Tryz.prog (sLoad T_s_s_errataref30_Counted t108) (tick w19) fun t109 =>
                pureK Tryz.prog (sIdxAddr T_s_s_errataref30_Counted t109 lv5.1) fun t111 =>
                readK Tryz.prog (sLoad T_s_errataref30_Counted t111) (tick w19) fun t112 =>
                readK Tryz.prog (sLoad T_errataref30_Counted jv4.1) (tick w19) fun t113 =>
                upK Tryz.prog (sBuildSlice T_s_errataref30_Counted 1 #[(0, t113)]) (tick w19) fun t114 w20 =>
                Is Tryz.prog (sLoad T_s_errataref30_Counted t111) t112 w20 ∧ Is Tryz.prog (sLoad T_s_s_errataref30_Counted t108) t109 w20 ∧ Is Tryz.prog (sLoad T_s_s_errataref30_Counted t103) t104 w20 ∧ upK Tryz.prog (sBlt .append #[T_s_errataref30_Counted, T_s_errataref30_Counted] T_s_errataref30_Counted #[false, false] #[t112, t114]) w20 fun t115 w21 =>
                Is Tryz.prog (sLoad T_s_s_errataref30_Counted t103) t104 w21 ∧ pureK Tryz.prog (sIdxAddr T_s_s_errataref30_Counted t104 lv5.1) fun t116 =>
                upK Tryz.prog (sStore T_s_errataref30_Counted t116 t115) w21 fun tu_2 w22 =>
                pureK Tryz.prog (sFieldAddr T_errataref30_Counted jv4.1 1) fun t118 =>
                readK Tryz.prog (sLoad T_int t118) w22 fun t119 =>
                pureK Tryz.prog (sBin .add T_int (.tmp 117) (.tmp 119) lv11.1 t119) fun t120 =>
                pureK Tryz.prog (sBin .add T_int (.tmp 60) (.const (.int .i64 1)) lv11.2.1 (.int .i64 1)) fun t61 =>
                next11 (t120, t61, ()) w22)
               (fun J5 =>
                pureK Tryz.prog (sBin .gtr T_int (.tmp 84) (.const (.int .i64 0)) lv11.2.1 (.int .i64 0)) fun t85 =>
                ifB t85
                (pureK Tryz.prog (sNil t16) fun t87 =>
                 pureK Tryz.prog (sFieldAddr T_errataref30_Acc t87 3) fun t88 =>
                 readK Tryz.prog (sLoad T_s_s_errataref30_Counted t88) (tick w18) fun t89 =>
                 pureK Tryz.prog (sIdxAddr T_s_s_errataref30_Counted t89 lv5.1) fun t91 =>
                 readK Tryz.prog (sLoad T_s_errataref30_Counted t91) (tick w18) fun t92 =>
                 pureK Tryz.prog (sBin .sub T_int (.tmp 93) (.const (.int .i64 1)) lv11.2.1 (.int .i64 1)) fun t94 =>
                 pureK Tryz.prog (sIdxAddr T_s_errataref30_Counted t92 t94) fun t95 =>
                 pureK Tryz.prog (sFieldAddr T_errataref30_Counted t95 0) fun t96 =>
                 readK Tryz.prog (sLoad T_api_Value t96) (tick w18) fun t97 =>
                 readK Tryz.prog (sLoad T_api_Value v12) (tick w18) fun t98 =>
                 upK Tryz.prog (sCall F_errataref03_Compare #[t97, t98]) (tick w18) fun t99 w23 =>
                 pureK Tryz.prog (sBin .geq T_int (.tmp 99) (.const (.int .i64 0)) t99 (.int .i64 0)) fun t100 =>
                 ifB t100
                 (K (.tuple #[(.pointer none), (.bool false)]) w23)
                 (J5 (()) w23))
                (J5 (()) w18))))))
           (fun J4 =>
            readK Tryz.prog (sLoad T_api_Value v12) (tick w16) fun t68 =>
            ((upK Tryz.prog (sCall F_errataref01_Reader_Int #[t18]) (tick w16) fun t70 w24 =>
              Is Tryz.prog (sLoad T_api_Value v12) t68 w24 ∧ pureK Tryz.prog (sBuild T_errataref30_Counted #[(0, t68), (1, t70)]) fun t71 =>
              upK Tryz.prog (sAlloc T_errataref30_Counted) w24 fun x14 w25 =>
              Is Tryz.prog (sLoad T_api_Value v12) t68 w25 ∧ upK Tryz.prog (sStore T_errataref30_Counted x14 t71) w25 fun tu_3 w26 =>
              J4 (x14, ()) w26)
             ∧ (upK Tryz.prog (sAlloc T_errataref30_Counted) (tick w16) fun x14_1 w27 =>
              Is Tryz.prog (sLoad T_api_Value v12) t68 w27 ∧ upK Tryz.prog (sCall F_errataref01_Reader_Int #[t18]) w27 fun t70_1 w28 =>
              Is Tryz.prog (sLoad T_api_Value v12) t68 w28 ∧ pureK Tryz.prog (sBuild T_errataref30_Counted #[(0, t68), (1, t70_1)]) fun t71_1 =>
              upK Tryz.prog (sStore T_errataref30_Counted x14_1 t71_1) w28 fun tu_4 w29 =>
              J4 (x14_1, ()) w29))))
          (J3 (lv11.1, ()) w12))
         (J3 (lv11.1, ()) w11))
        ((.int .i64 0), (.int .i64 0), ()) w9)))
     (fun J2 =>
      pureK Tryz.prog (sIdxAddr T_s_api_Agg aggs0 lv5.1) fun t32 =>
      pureK Tryz.prog (sFieldAddr T_api_Agg t32 0) fun t33 =>
      readK Tryz.prog (sLoad T_int t33) w5 fun t34 =>
      pureK Tryz.prog (sBin .eql T_int (.tmp 34) (.const (.int .i64 1)) t34 (.int .i64 1)) fun t35 =>
      ifB t35
      (pureK Tryz.prog (sNil t16) fun t37 =>
       pureK Tryz.prog (sFieldAddr T_errataref30_Acc t37 2) fun t38 =>
       readK Tryz.prog (sLoad T_s_int t38) (tick w5) fun t39 =>
       upK Tryz.prog (sCall F_errataref01_Reader_Int #[t18]) (tick w5) fun t42 w30 =>
       Is Tryz.prog (sLoad T_s_int t38) t39 w30 ∧ pureK Tryz.prog (sIdxAddr T_s_int t39 lv5.1) fun t43 =>
       upK Tryz.prog (sStore T_int t43 t42) w30 fun tu_5 w31 =>
       J2 (()) w31)
      (J2 (()) w5))))
   (upK Tryz.prog (sCall F_errataref01_Reader_Done #[t18]) w5 fun t140 w32 =>
    pureK Tryz.prog (sUn .not t140) fun t141 =>
    ifB t141
    (K (.tuple #[(.pointer none), (.bool false)]) w32)
    (K (.tuple #[t16, (.bool true)]) w32)))
  ((.int .i64 0), ()) w4
theorem errataref30_Read.pt_eq : errataref30_Read.pt = fun aggs0 s1 w K => FN Tryz.prog Tryz.f26 (bodyOf Tryz.f26) [4, 5] (.node none .leaf (.node none .leaf (.node none .leaf (.node none .leaf (.node none (.node none .leaf (.node none (.node none (.node none .leaf (.node (some []) (.node none (.node (some []) .leaf (.node none .leaf (.node none .leaf (.node none .leaf (.node (some [10]) (.node none .leaf (.node none (.node none (.node none .leaf (.node none (.node none (.node none .leaf (.node (some [14]) .leaf (.node none .leaf (.node (some []) .leaf .leaf)))) .leaf) .leaf)) .leaf) .leaf)) .leaf))))) .leaf) .leaf)) .leaf) .leaf)) .leaf))))) [aggs0, s1] w K := by kernel_rfl
theorem errataref30_Read.call {aggs0 s1 : Value} {w : World} {K : Value → World → Prop} (h : errataref30_Read.pt aggs0 s1 w K) : Calls Tryz.prog F_errataref30_Read #[aggs0, s1] w (retK K) :=
  calls_FN (args := [aggs0, s1]) Tryz.func26 (by kernel_rfl) (by rw [errataref30_Read.pt_eq] at h; exact h)
theorem errataref30_Read.up {aggs0 s1 : Value} {w : World} {K : Value → World → Prop} (h : Calls Tryz.prog F_errataref30_Read #[aggs0, s1] w (retK K)) : upK Tryz.prog (sCall F_errataref30_Read #[aggs0, s1]) w K :=
  up_call (fn := Tryz.f26) Tryz.func26 (by kernel_rfl) (by kernel_rfl) h

end Go.Proofs.YtoebncgnjbblgaaGreatDoor
