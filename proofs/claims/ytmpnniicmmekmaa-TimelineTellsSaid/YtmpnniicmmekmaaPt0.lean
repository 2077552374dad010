/-
  The reckoned conditions of the functions that this seat's statements reach, printed by program, each held against the translation by the kernel. No condition.
-/
import Derived.Test.YtmpnniicmmekmaaNames
namespace Go.Proofs.Ytmpnniicmmekmaa
set_option linter.unusedVariables false

/-- errata/erratalaw45.TimelineLast -/
def erratalaw45_TimelineLast.pt (first0 l1 time2 : Value) (w : World) (K : Value → World → Prop) : Prop :=
  upK Try.prog (sCall F_erratalaw45_small #[]) w fun t14 w1 =>
  pureK Try.prog (sBin .lss T_int (.tmp 15) (.const (.int .i64 1)) first0 (.int .i64 1)) fun t16 =>
  ifB t16
  (K t14 w1)
  (pureK Try.prog (sBin .gtr T_int (.tmp 18) (.const (.int .i64 50)) first0 (.int .i64 50)) fun t19 =>
   ifB t19
   (K t14 w1)
   (readK Try.prog (sBlt .len #[T_s_erratalaw45_Change] T_int #[false] #[l1]) w1 fun t23 =>
    pureK Try.prog (sBin .gtr T_int (.tmp 23) (.const (.int .i64 40)) t23 (.int .i64 40)) fun t24 =>
    ifB t24
    (K t14 w1)
    (pureK Try.prog (sBin .lss T_int (.tmp 27) (.const (.int .i64 0)) time2 (.int .i64 0)) fun t28 =>
     ifB t28
     (K t14 w1)
     (upK Try.prog (sCall F_erratalaw45_begun #[first0]) w1 fun t32 w2 =>
      LOOP (X := Value × Value × Value × Unit) (fun x3 w3 next3 =>
       readK Try.prog (sBlt .len #[T_s_erratalaw45_Change] T_int #[false] #[l1]) w3 fun t36 =>
       pureK Try.prog (sBin .lss T_int (.tmp 34) (.tmp 36) x3.2.2.1 t36) fun t37 =>
       ifB t37
       (LETJ (X := Value × Value × Unit) (fun y1 w4 =>
         pureK Try.prog (sBin .add T_int (.tmp 38) (.const (.int .i64 1)) x3.2.2.1 (.int .i64 1)) fun t39 =>
         next3 (y1.1, y1.2.1, t39, ()) w4)
        (fun J1 =>
         pureK Try.prog (sIdxAddr T_s_erratalaw45_Change l1 x3.2.2.1) fun t44 =>
         pureK Try.prog (sFieldAddr T_erratalaw45_Change t44 0) fun t45 =>
         readK Try.prog (sLoad T_int t45) (tick w3) fun t46 =>
         pureK Try.prog (sIdxAddr T_s_erratalaw45_Change l1 x3.2.2.1) fun t49 =>
         pureK Try.prog (sFieldAddr T_erratalaw45_Change t49 1) fun t50 =>
         readK Try.prog (sLoad T_int t50) (tick w3) fun t51 =>
         upK Try.prog (sCall F_timeline_Replace #[x3.1, t46, t51]) (tick w3) fun t52 w5 =>
         pureK Try.prog (sExtract t52 0) fun t53 =>
         pureK Try.prog (sExtract t52 1) fun t54 =>
         pureK Try.prog (sIdxAddr T_s_erratalaw45_Change l1 x3.2.2.1) fun t57 =>
         pureK Try.prog (sFieldAddr T_erratalaw45_Change t57 0) fun t58 =>
         readK Try.prog (sLoad T_int t58) w5 fun t59 =>
         pureK Try.prog (sBin .geq T_int (.tmp 59) (.const (.int .i64 0)) t59 (.int .i64 0)) fun t60 =>
         ifB t60
         (pureK Try.prog (sIdxAddr T_s_erratalaw45_Change l1 x3.2.2.1) fun t64 =>
          pureK Try.prog (sFieldAddr T_erratalaw45_Change t64 0) fun t65 =>
          readK Try.prog (sLoad T_int t65) w5 fun t66 =>
          pureK Try.prog (sBin .leq T_int (.tmp 66) (.const (.int .i64 1099511627776)) t66 (.int .i64 1099511627776)) fun t67 =>
          ifB t67
          (pureK Try.prog (sIdxAddr T_s_erratalaw45_Change l1 x3.2.2.1) fun t72 =>
           pureK Try.prog (sFieldAddr T_erratalaw45_Change t72 1) fun t73 =>
           readK Try.prog (sLoad T_int t73) w5 fun t74 =>
           pureK Try.prog (sBin .geq T_int (.tmp 74) (.const (.int .i64 1)) t74 (.int .i64 1)) fun t75 =>
           ifB t75
           (pureK Try.prog (sIdxAddr T_s_erratalaw45_Change l1 x3.2.2.1) fun t80 =>
            pureK Try.prog (sFieldAddr T_erratalaw45_Change t80 1) fun t81 =>
            readK Try.prog (sLoad T_int t81) w5 fun t82 =>
            pureK Try.prog (sBin .leq T_int (.tmp 82) (.const (.int .i64 50)) t82 (.int .i64 50)) fun t83 =>
            pureK Try.prog (sBin .eql T_api_Errno (.tmp 86) (.const (.int .i64 0)) t54 (.int .i64 0)) fun t87 =>
            pureK Try.prog (sBin .neq T_bool (.tmp 85) (.tmp 87) t83 t87) fun t88 =>
            ifB t88
            (K (.bool false) w5)
            (pureK Try.prog (sUn .not t83) fun t90 =>
             ifB t90
             (J1 (x3.1, x3.2.1, ()) w5)
             (LETJ (X := Unit) (fun y2 w6 =>
               LETJ (X := Value × Unit) (fun y3 w7 =>
                upK Try.prog (sCall F_timeline_At #[t53, time2]) w7 fun t151 w8 =>
                pureK Try.prog (sBin .neq T_int (.tmp 151) (.tmp 152) t151 y3.1) fun t153 =>
                ifB t153
                (K (.bool false) w8)
                (J1 (t53, y3.1, ()) w8))
               (fun J3 =>
                pureK Try.prog (sIdxAddr T_s_erratalaw45_Change l1 x3.2.2.1) fun t139 =>
                pureK Try.prog (sFieldAddr T_erratalaw45_Change t139 0) fun t140 =>
                readK Try.prog (sLoad T_int t140) w6 fun t141 =>
                pureK Try.prog (sBin .leq T_int (.tmp 141) (.tmp 142) t141 time2) fun t143 =>
                ifB t143
                (pureK Try.prog (sIdxAddr T_s_erratalaw45_Change l1 x3.2.2.1) fun t146 =>
                 pureK Try.prog (sFieldAddr T_erratalaw45_Change t146 1) fun t147 =>
                 readK Try.prog (sLoad T_int t147) w6 fun t148 =>
                 J3 (t148, ()) w6)
                (J3 (x3.2.1, ()) w6)))
              (fun J2 =>
               upK Try.prog (sCall F_timeline_Right #[t53]) (tick w5) fun t92 w9 =>
               pureK Try.prog (sUn .not t92) fun t93 =>
               ifB t93
               (K (.bool false) w9)
               (pureK Try.prog (sIdxAddr T_s_erratalaw45_Change l1 x3.2.2.1) fun t97 =>
                pureK Try.prog (sFieldAddr T_erratalaw45_Change t97 0) fun t98 =>
                readK Try.prog (sLoad T_int t98) w9 fun t99 =>
                pureK Try.prog (sBin .gtr T_int (.tmp 99) (.const (.int .i64 0)) t99 (.int .i64 0)) fun t100 =>
                ifB t100
                (pureK Try.prog (sIdxAddr T_s_erratalaw45_Change l1 x3.2.2.1) fun t105 =>
                 pureK Try.prog (sFieldAddr T_erratalaw45_Change t105 0) fun t106 =>
                 readK Try.prog (sLoad T_int t106) w9 fun t107 =>
                 pureK Try.prog (sBin .sub T_int (.tmp 107) (.const (.int .i64 1)) t107 (.int .i64 1)) fun t108 =>
                 pureK Try.prog (sIdxAddr T_s_erratalaw45_Change l1 x3.2.2.1) fun t113 =>
                 pureK Try.prog (sFieldAddr T_erratalaw45_Change t113 0) fun t114 =>
                 readK Try.prog (sLoad T_int t114) w9 fun t115 =>
                 pureK Try.prog (sBin .sub T_int (.tmp 115) (.const (.int .i64 1)) t115 (.int .i64 1)) fun t116 =>
                 upK Try.prog (sCall F_timeline_At #[t53, t108]) w9 fun t109 w10 =>
                 Is Try.prog (sLoad T_int t114) t115 w10 ∧ upK Try.prog (sCall F_timeline_At #[x3.1, t116]) w10 fun t117 w11 =>
                 pureK Try.prog (sBin .neq T_int (.tmp 109) (.tmp 117) t109 t117) fun t118 =>
                 ifB t118
                 (K (.bool false) w11)
                 (pureK Try.prog (sIdxAddr T_s_erratalaw45_Change l1 x3.2.2.1) fun t125 =>
                  pureK Try.prog (sFieldAddr T_erratalaw45_Change t125 0) fun t126 =>
                  readK Try.prog (sLoad T_int t126) w11 fun t127 =>
                  pureK Try.prog (sIdxAddr T_s_erratalaw45_Change l1 x3.2.2.1) fun t131 =>
                  pureK Try.prog (sFieldAddr T_erratalaw45_Change t131 1) fun t132 =>
                  readK Try.prog (sLoad T_int t132) w11 fun t133 =>
                  upK Try.prog (sCall F_timeline_At #[t53, t127]) w11 fun t128 w12 =>
                  Is Try.prog (sLoad T_int t132) t133 w12 ∧ pureK Try.prog (sBin .neq T_int (.tmp 128) (.tmp 133) t128 t133) fun t134 =>
                  ifB t134
                  (K (.bool false) w12)
                  (J2 (()) w12)))
                (pureK Try.prog (sIdxAddr T_s_erratalaw45_Change l1 x3.2.2.1) fun t125_1 =>
                 pureK Try.prog (sFieldAddr T_erratalaw45_Change t125_1 0) fun t126_1 =>
                 readK Try.prog (sLoad T_int t126_1) w9 fun t127_1 =>
                 pureK Try.prog (sIdxAddr T_s_erratalaw45_Change l1 x3.2.2.1) fun t131_1 =>
                 pureK Try.prog (sFieldAddr T_erratalaw45_Change t131_1 1) fun t132_1 =>
                 readK Try.prog (sLoad T_int t132_1) w9 fun t133_1 =>
                 upK Try.prog (sCall F_timeline_At #[t53, t127_1]) w9 fun t128_1 w13 =>
                 Is Try.prog (sLoad T_int t132_1) t133_1 w13 ∧ pureK Try.prog (sBin .neq T_int (.tmp 128) (.tmp 133) t128_1 t133_1) fun t134_1 =>
                 ifB t134_1
                 (K (.bool false) w13)
                 (J2 (()) w13)))))))
           (pureK Try.prog (sBin .eql T_api_Errno (.tmp 86) (.const (.int .i64 0)) t54 (.int .i64 0)) fun t87_1 =>
            pureK Try.prog (sBin .neq T_bool (.tmp 85) (.tmp 87) (.bool false) t87_1) fun t88_1 =>
            ifB t88_1
            (K (.bool false) w5)
            (pureK Try.prog (sUn .not (.bool false)) fun t90_1 =>
             ifB t90_1
             (J1 (x3.1, x3.2.1, ()) w5)
             (LETJ (X := Unit) (fun y4 w14 =>
               LETJ (X := Value × Unit) (fun y5 w15 =>
                upK Try.prog (sCall F_timeline_At #[t53, time2]) w15 fun t151_1 w16 =>
                pureK Try.prog (sBin .neq T_int (.tmp 151) (.tmp 152) t151_1 y5.1) fun t153_1 =>
                ifB t153_1
                (K (.bool false) w16)
                (J1 (t53, y5.1, ()) w16))
               (fun J5 =>
                pureK Try.prog (sIdxAddr T_s_erratalaw45_Change l1 x3.2.2.1) fun t139_1 =>
                pureK Try.prog (sFieldAddr T_erratalaw45_Change t139_1 0) fun t140_1 =>
                readK Try.prog (sLoad T_int t140_1) w14 fun t141_1 =>
                pureK Try.prog (sBin .leq T_int (.tmp 141) (.tmp 142) t141_1 time2) fun t143_1 =>
                ifB t143_1
                (pureK Try.prog (sIdxAddr T_s_erratalaw45_Change l1 x3.2.2.1) fun t146_1 =>
                 pureK Try.prog (sFieldAddr T_erratalaw45_Change t146_1 1) fun t147_1 =>
                 readK Try.prog (sLoad T_int t147_1) w14 fun t148_1 =>
                 J5 (t148_1, ()) w14)
                (J5 (x3.2.1, ()) w14)))
              (fun J4 =>
               upK Try.prog (sCall F_timeline_Right #[t53]) (tick w5) fun t92_1 w17 =>
               pureK Try.prog (sUn .not t92_1) fun t93_1 =>
               ifB t93_1
               (K (.bool false) w17)
               (pureK Try.prog (sIdxAddr T_s_erratalaw45_Change l1 x3.2.2.1) fun t97_1 =>
                pureK Try.prog (sFieldAddr T_erratalaw45_Change t97_1 0) fun t98_1 =>
                readK Try.prog (sLoad T_int t98_1) w17 fun t99_1 =>
                pureK Try.prog (sBin .gtr T_int (.tmp 99) (.const (.int .i64 0)) t99_1 (.int .i64 0)) fun t100_1 =>
                ifB t100_1
                (pureK Try.prog (sIdxAddr T_s_erratalaw45_Change l1 x3.2.2.1) fun t105_1 =>
                 pureK Try.prog (sFieldAddr T_erratalaw45_Change t105_1 0) fun t106_1 =>
                 readK Try.prog (sLoad T_int t106_1) w17 fun t107_1 =>
                 pureK Try.prog (sBin .sub T_int (.tmp 107) (.const (.int .i64 1)) t107_1 (.int .i64 1)) fun t108_1 =>
                 pureK Try.prog (sIdxAddr T_s_erratalaw45_Change l1 x3.2.2.1) fun t113_1 =>
                 pureK Try.prog (sFieldAddr T_erratalaw45_Change t113_1 0) fun t114_1 =>
                 readK Try.prog (sLoad T_int t114_1) w17 fun t115_1 =>
                 pureK Try.prog (sBin .sub T_int (.tmp 115) (.const (.int .i64 1)) t115_1 (.int .i64 1)) fun t116_1 =>
                 upK Try.prog (sCall F_timeline_At #[t53, t108_1]) w17 fun t109_1 w18 =>
                 Is Try.prog (sLoad T_int t114_1) t115_1 w18 ∧ upK Try.prog (sCall F_timeline_At #[x3.1, t116_1]) w18 fun t117_1 w19 =>
                 pureK Try.prog (sBin .neq T_int (.tmp 109) (.tmp 117) t109_1 t117_1) fun t118_1 =>
                 ifB t118_1
                 (K (.bool false) w19)
                 (pureK Try.prog (sIdxAddr T_s_erratalaw45_Change l1 x3.2.2.1) fun t125_2 =>
                  pureK Try.prog (sFieldAddr T_erratalaw45_Change t125_2 0) fun t126_2 =>
                  readK Try.prog (sLoad T_int t126_2) w19 fun t127_2 =>
                  pureK Try.prog (sIdxAddr T_s_erratalaw45_Change l1 x3.2.2.1) fun t131_2 =>
                  pureK Try.prog (sFieldAddr T_erratalaw45_Change t131_2 1) fun t132_2 =>
                  readK Try.prog (sLoad T_int t132_2) w19 fun t133_2 =>
                  upK Try.prog (sCall F_timeline_At #[t53, t127_2]) w19 fun t128_2 w20 =>
                  Is Try.prog (sLoad T_int t132_2) t133_2 w20 ∧ pureK Try.prog (sBin .neq T_int (.tmp 128) (.tmp 133) t128_2 t133_2) fun t134_2 =>
                  ifB t134_2
                  (K (.bool false) w20)
                  (J4 (()) w20)))
                (pureK Try.prog (sIdxAddr T_s_erratalaw45_Change l1 x3.2.2.1) fun t125_3 =>
                 pureK Try.prog (sFieldAddr T_erratalaw45_Change t125_3 0) fun t126_3 =>
                 readK Try.prog (sLoad T_int t126_3) w17 fun t127_3 =>
                 pureK Try.prog (sIdxAddr T_s_erratalaw45_Change l1 x3.2.2.1) fun t131_3 =>
                 pureK Try.prog (sFieldAddr T_erratalaw45_Change t131_3 1) fun t132_3 =>
                 readK Try.prog (sLoad T_int t132_3) w17 fun t133_3 =>
                 upK Try.prog (sCall F_timeline_At #[t53, t127_3]) w17 fun t128_3 w21 =>
                 Is Try.prog (sLoad T_int t132_3) t133_3 w21 ∧ pureK Try.prog (sBin .neq T_int (.tmp 128) (.tmp 133) t128_3 t133_3) fun t134_3 =>
                 ifB t134_3
                 (K (.bool false) w21)
                 (J4 (()) w21))))))))
          (pureK Try.prog (sBin .eql T_api_Errno (.tmp 86) (.const (.int .i64 0)) t54 (.int .i64 0)) fun t87_2 =>
           pureK Try.prog (sBin .neq T_bool (.tmp 85) (.tmp 87) (.bool false) t87_2) fun t88_2 =>
           ifB t88_2
           (K (.bool false) w5)
           (pureK Try.prog (sUn .not (.bool false)) fun t90_2 =>
            ifB t90_2
            (J1 (x3.1, x3.2.1, ()) w5)
            (LETJ (X := Unit) (fun y6 w22 =>
              LETJ (X := Value × Unit) (fun y7 w23 =>
               upK Try.prog (sCall F_timeline_At #[t53, time2]) w23 fun t151_2 w24 =>
               pureK Try.prog (sBin .neq T_int (.tmp 151) (.tmp 152) t151_2 y7.1) fun t153_2 =>
               ifB t153_2
               (K (.bool false) w24)
               (J1 (t53, y7.1, ()) w24))
              (fun J7 =>
               pureK Try.prog (sIdxAddr T_s_erratalaw45_Change l1 x3.2.2.1) fun t139_2 =>
               pureK Try.prog (sFieldAddr T_erratalaw45_Change t139_2 0) fun t140_2 =>
               readK Try.prog (sLoad T_int t140_2) w22 fun t141_2 =>
               pureK Try.prog (sBin .leq T_int (.tmp 141) (.tmp 142) t141_2 time2) fun t143_2 =>
               ifB t143_2
               (pureK Try.prog (sIdxAddr T_s_erratalaw45_Change l1 x3.2.2.1) fun t146_2 =>
                pureK Try.prog (sFieldAddr T_erratalaw45_Change t146_2 1) fun t147_2 =>
                readK Try.prog (sLoad T_int t147_2) w22 fun t148_2 =>
                J7 (t148_2, ()) w22)
               (J7 (x3.2.1, ()) w22)))
             (fun J6 =>
              upK Try.prog (sCall F_timeline_Right #[t53]) (tick w5) fun t92_2 w25 =>
              pureK Try.prog (sUn .not t92_2) fun t93_2 =>
              ifB t93_2
              (K (.bool false) w25)
              (pureK Try.prog (sIdxAddr T_s_erratalaw45_Change l1 x3.2.2.1) fun t97_2 =>
               pureK Try.prog (sFieldAddr T_erratalaw45_Change t97_2 0) fun t98_2 =>
               readK Try.prog (sLoad T_int t98_2) w25 fun t99_2 =>
               pureK Try.prog (sBin .gtr T_int (.tmp 99) (.const (.int .i64 0)) t99_2 (.int .i64 0)) fun t100_2 =>
               ifB t100_2
               (pureK Try.prog (sIdxAddr T_s_erratalaw45_Change l1 x3.2.2.1) fun t105_2 =>
                pureK Try.prog (sFieldAddr T_erratalaw45_Change t105_2 0) fun t106_2 =>
                readK Try.prog (sLoad T_int t106_2) w25 fun t107_2 =>
                pureK Try.prog (sBin .sub T_int (.tmp 107) (.const (.int .i64 1)) t107_2 (.int .i64 1)) fun t108_2 =>
                pureK Try.prog (sIdxAddr T_s_erratalaw45_Change l1 x3.2.2.1) fun t113_2 =>
                pureK Try.prog (sFieldAddr T_erratalaw45_Change t113_2 0) fun t114_2 =>
                readK Try.prog (sLoad T_int t114_2) w25 fun t115_2 =>
                pureK Try.prog (sBin .sub T_int (.tmp 115) (.const (.int .i64 1)) t115_2 (.int .i64 1)) fun t116_2 =>
                upK Try.prog (sCall F_timeline_At #[t53, t108_2]) w25 fun t109_2 w26 =>
                Is Try.prog (sLoad T_int t114_2) t115_2 w26 ∧ upK Try.prog (sCall F_timeline_At #[x3.1, t116_2]) w26 fun t117_2 w27 =>
                pureK Try.prog (sBin .neq T_int (.tmp 109) (.tmp 117) t109_2 t117_2) fun t118_2 =>
                ifB t118_2
                (K (.bool false) w27)
                (pureK Try.prog (sIdxAddr T_s_erratalaw45_Change l1 x3.2.2.1) fun t125_4 =>
                 pureK Try.prog (sFieldAddr T_erratalaw45_Change t125_4 0) fun t126_4 =>
                 readK Try.prog (sLoad T_int t126_4) w27 fun t127_4 =>
                 pureK Try.prog (sIdxAddr T_s_erratalaw45_Change l1 x3.2.2.1) fun t131_4 =>
                 pureK Try.prog (sFieldAddr T_erratalaw45_Change t131_4 1) fun t132_4 =>
                 readK Try.prog (sLoad T_int t132_4) w27 fun t133_4 =>
                 upK Try.prog (sCall F_timeline_At #[t53, t127_4]) w27 fun t128_4 w28 =>
                 Is Try.prog (sLoad T_int t132_4) t133_4 w28 ∧ pureK Try.prog (sBin .neq T_int (.tmp 128) (.tmp 133) t128_4 t133_4) fun t134_4 =>
                 ifB t134_4
                 (K (.bool false) w28)
                 (J6 (()) w28)))
               (pureK Try.prog (sIdxAddr T_s_erratalaw45_Change l1 x3.2.2.1) fun t125_5 =>
                pureK Try.prog (sFieldAddr T_erratalaw45_Change t125_5 0) fun t126_5 =>
                readK Try.prog (sLoad T_int t126_5) w25 fun t127_5 =>
                pureK Try.prog (sIdxAddr T_s_erratalaw45_Change l1 x3.2.2.1) fun t131_5 =>
                pureK Try.prog (sFieldAddr T_erratalaw45_Change t131_5 1) fun t132_5 =>
                readK Try.prog (sLoad T_int t132_5) w25 fun t133_5 =>
                upK Try.prog (sCall F_timeline_At #[t53, t127_5]) w25 fun t128_5 w29 =>
                Is Try.prog (sLoad T_int t132_5) t133_5 w29 ∧ pureK Try.prog (sBin .neq T_int (.tmp 128) (.tmp 133) t128_5 t133_5) fun t134_5 =>
                ifB t134_5
                (K (.bool false) w29)
                (J6 (()) w29))))))))
         (pureK Try.prog (sBin .eql T_api_Errno (.tmp 86) (.const (.int .i64 0)) t54 (.int .i64 0)) fun t87_3 =>
          pureK Try.prog (sBin .neq T_bool (.tmp 85) (.tmp 87) (.bool false) t87_3) fun t88_3 =>
          ifB t88_3
          (K (.bool false) w5)
          (pureK Try.prog (sUn .not (.bool false)) fun t90_3 =>
           ifB t90_3
           (J1 (x3.1, x3.2.1, ()) w5)
           (LETJ (X := Unit) (fun y8 w30 =>
             LETJ (X := Value × Unit) (fun y9 w31 =>
              upK Try.prog (sCall F_timeline_At #[t53, time2]) w31 fun t151_3 w32 =>
              pureK Try.prog (sBin .neq T_int (.tmp 151) (.tmp 152) t151_3 y9.1) fun t153_3 =>
              ifB t153_3
              (K (.bool false) w32)
              (J1 (t53, y9.1, ()) w32))
             (fun J9 =>
              pureK Try.prog (sIdxAddr T_s_erratalaw45_Change l1 x3.2.2.1) fun t139_3 =>
              pureK Try.prog (sFieldAddr T_erratalaw45_Change t139_3 0) fun t140_3 =>
              readK Try.prog (sLoad T_int t140_3) w30 fun t141_3 =>
              pureK Try.prog (sBin .leq T_int (.tmp 141) (.tmp 142) t141_3 time2) fun t143_3 =>
              ifB t143_3
              (pureK Try.prog (sIdxAddr T_s_erratalaw45_Change l1 x3.2.2.1) fun t146_3 =>
               pureK Try.prog (sFieldAddr T_erratalaw45_Change t146_3 1) fun t147_3 =>
               readK Try.prog (sLoad T_int t147_3) w30 fun t148_3 =>
               J9 (t148_3, ()) w30)
              (J9 (x3.2.1, ()) w30)))
            (fun J8 =>
             upK Try.prog (sCall F_timeline_Right #[t53]) (tick w5) fun t92_3 w33 =>
             pureK Try.prog (sUn .not t92_3) fun t93_3 =>
             ifB t93_3
             (K (.bool false) w33)
             (pureK Try.prog (sIdxAddr T_s_erratalaw45_Change l1 x3.2.2.1) fun t97_3 =>
              pureK Try.prog (sFieldAddr T_erratalaw45_Change t97_3 0) fun t98_3 =>
              readK Try.prog (sLoad T_int t98_3) w33 fun t99_3 =>
              pureK Try.prog (sBin .gtr T_int (.tmp 99) (.const (.int .i64 0)) t99_3 (.int .i64 0)) fun t100_3 =>
              ifB t100_3
              (pureK Try.prog (sIdxAddr T_s_erratalaw45_Change l1 x3.2.2.1) fun t105_3 =>
               pureK Try.prog (sFieldAddr T_erratalaw45_Change t105_3 0) fun t106_3 =>
               readK Try.prog (sLoad T_int t106_3) w33 fun t107_3 =>
               pureK Try.prog (sBin .sub T_int (.tmp 107) (.const (.int .i64 1)) t107_3 (.int .i64 1)) fun t108_3 =>
               pureK Try.prog (sIdxAddr T_s_erratalaw45_Change l1 x3.2.2.1) fun t113_3 =>
               pureK Try.prog (sFieldAddr T_erratalaw45_Change t113_3 0) fun t114_3 =>
               readK Try.prog (sLoad T_int t114_3) w33 fun t115_3 =>
               pureK Try.prog (sBin .sub T_int (.tmp 115) (.const (.int .i64 1)) t115_3 (.int .i64 1)) fun t116_3 =>
               upK Try.prog (sCall F_timeline_At #[t53, t108_3]) w33 fun t109_3 w34 =>
               Is Try.prog (sLoad T_int t114_3) t115_3 w34 ∧ upK Try.prog (sCall F_timeline_At #[x3.1, t116_3]) w34 fun t117_3 w35 =>
               pureK Try.prog (sBin .neq T_int (.tmp 109) (.tmp 117) t109_3 t117_3) fun t118_3 =>
               ifB t118_3
               (K (.bool false) w35)
               (pureK Try.prog (sIdxAddr T_s_erratalaw45_Change l1 x3.2.2.1) fun t125_6 =>
                pureK Try.prog (sFieldAddr T_erratalaw45_Change t125_6 0) fun t126_6 =>
                readK Try.prog (sLoad T_int t126_6) w35 fun t127_6 =>
                pureK Try.prog (sIdxAddr T_s_erratalaw45_Change l1 x3.2.2.1) fun t131_6 =>
                pureK Try.prog (sFieldAddr T_erratalaw45_Change t131_6 1) fun t132_6 =>
                readK Try.prog (sLoad T_int t132_6) w35 fun t133_6 =>
                upK Try.prog (sCall F_timeline_At #[t53, t127_6]) w35 fun t128_6 w36 =>
                Is Try.prog (sLoad T_int t132_6) t133_6 w36 ∧ pureK Try.prog (sBin .neq T_int (.tmp 128) (.tmp 133) t128_6 t133_6) fun t134_6 =>
                ifB t134_6
                (K (.bool false) w36)
                (J8 (()) w36)))
              (pureK Try.prog (sIdxAddr T_s_erratalaw45_Change l1 x3.2.2.1) fun t125_7 =>
               pureK Try.prog (sFieldAddr T_erratalaw45_Change t125_7 0) fun t126_7 =>
               readK Try.prog (sLoad T_int t126_7) w33 fun t127_7 =>
               pureK Try.prog (sIdxAddr T_s_erratalaw45_Change l1 x3.2.2.1) fun t131_7 =>
               pureK Try.prog (sFieldAddr T_erratalaw45_Change t131_7 1) fun t132_7 =>
               readK Try.prog (sLoad T_int t132_7) w33 fun t133_7 =>
               upK Try.prog (sCall F_timeline_At #[t53, t127_7]) w33 fun t128_7 w37 =>
               Is Try.prog (sLoad T_int t132_7) t133_7 w37 ∧ pureK Try.prog (sBin .neq T_int (.tmp 128) (.tmp 133) t128_7 t133_7) fun t134_7 =>
               ifB t134_7
               (K (.bool false) w37)
               (J8 (()) w37)))))))))
       (K t14 w3))
      (t32, first0, (.int .i64 0), ()) w2))))
theorem erratalaw45_TimelineLast.pt_eq : erratalaw45_TimelineLast.pt = fun first0 l1 time2 w K => FN Try.prog Try.f3 (bodyOf Try.f3) [6] (.node none .leaf (.node none .leaf (.node none .leaf (.node none .leaf (.node none .leaf (.node none (.node none .leaf (.node none (.node none (.node none .leaf (.node (some [8, 9]) (.node none (.node none .leaf (.node none .leaf (.node none .leaf (.node none .leaf (.node (some []) .leaf (.node none .leaf (.node (some [9]) .leaf .leaf))))))) .leaf) .leaf)) .leaf) .leaf)) .leaf)))))) [first0, l1, time2] w K := by kernel_rfl
theorem erratalaw45_TimelineLast.call {first0 l1 time2 : Value} {w : World} {K : Value → World → Prop} (h : erratalaw45_TimelineLast.pt first0 l1 time2 w K) : Calls Try.prog F_erratalaw45_TimelineLast #[first0, l1, time2] w (retK K) :=
  calls_FN (args := [first0, l1, time2]) Try.func3 (by kernel_rfl) (by rw [erratalaw45_TimelineLast.pt_eq] at h; exact h)
theorem erratalaw45_TimelineLast.up {first0 l1 time2 : Value} {w : World} {K : Value → World → Prop} (h : Calls Try.prog F_erratalaw45_TimelineLast #[first0, l1, time2] w (retK K)) : upK Try.prog (sCall F_erratalaw45_TimelineLast #[first0, l1, time2]) w K :=
  up_call (fn := Try.f3) Try.func3 (by kernel_rfl) (by kernel_rfl) h

/-- errata/erratalaw45.TimelineSame -/
def erratalaw45_TimelineSame.pt (a0 b1 : Value) (w : World) (K : Value → World → Prop) : Prop :=
  upK Try.prog (sCall F_erratalaw45_small #[]) w fun t9 w1 =>
  readK Try.prog (sBlt .len #[T_s_api_Seg] T_int #[false] #[a0]) w1 fun t11 =>
  pureK Try.prog (sBin .gtr T_int (.tmp 11) (.const (.int .i64 40)) t11 (.int .i64 40)) fun t12 =>
  ifB t12
  (K t9 w1)
  (readK Try.prog (sBlt .len #[T_s_api_Seg] T_int #[false] #[b1]) w1 fun t15 =>
   pureK Try.prog (sBin .gtr T_int (.tmp 15) (.const (.int .i64 40)) t15 (.int .i64 40)) fun t16 =>
   ifB t16
   (K t9 w1)
   (upK Try.prog (sCall F_timeline_Right #[a0]) w1 fun t20 w2 =>
    pureK Try.prog (sUn .not t20) fun t21 =>
    ifB t21
    (K t9 w2)
    (upK Try.prog (sCall F_timeline_Right #[b1]) w2 fun t25 w3 =>
     pureK Try.prog (sUn .not t25) fun t26 =>
     ifB t26
     (K t9 w3)
     (LOOP (X := Value × Value × Unit) (fun x4 w4 next4 =>
       readK Try.prog (sBlt .len #[T_s_api_Seg] T_int #[false] #[a0]) w4 fun t31 =>
       pureK Try.prog (sBin .lss T_int (.tmp 29) (.tmp 31) x4.2.1 t31) fun t32 =>
       ifB t32
       (LETJ (X := Value × Unit) (fun y1 w5 =>
         pureK Try.prog (sBin .add T_int (.tmp 33) (.const (.int .i64 1)) x4.2.1 (.int .i64 1)) fun t34 =>
         next4 (y1.1, t34, ()) w5)
        (fun J1 =>
         ifB x4.1
         (pureK Try.prog (sIdxAddr T_s_api_Seg a0 x4.2.1) fun t40 =>
          pureK Try.prog (sFieldAddr T_api_Seg t40 0) fun t41 =>
          readK Try.prog (sLoad T_int t41) (tick w4) fun t42 =>
          pureK Try.prog (sIdxAddr T_s_api_Seg a0 x4.2.1) fun t46 =>
          pureK Try.prog (sFieldAddr T_api_Seg t46 1) fun t47 =>
          readK Try.prog (sLoad T_int t47) (tick w4) fun t48 =>
          upK Try.prog (sCall F_timeline_At #[b1, t42]) (tick w4) fun t43 w6 =>
          Is Try.prog (sLoad T_int t47) t48 w6 ∧ pureK Try.prog (sBin .eql T_int (.tmp 43) (.tmp 48) t43 t48) fun t49 =>
          J1 (t49, ()) w6)
         (J1 ((.bool false), ()) (tick w4))))
       (LOOP (X := Value × Value × Unit) (fun x7 w7 next7 =>
         readK Try.prog (sBlt .len #[T_s_api_Seg] T_int #[false] #[b1]) w7 fun t53 =>
         pureK Try.prog (sBin .lss T_int (.tmp 51) (.tmp 53) x7.2.1 t53) fun t54 =>
         ifB t54
         (LETJ (X := Value × Unit) (fun y2 w8 =>
           pureK Try.prog (sBin .add T_int (.tmp 55) (.const (.int .i64 1)) x7.2.1 (.int .i64 1)) fun t56 =>
           next7 (y2.1, t56, ()) w8)
          (fun J2 =>
           ifB x7.1
           (pureK Try.prog (sIdxAddr T_s_api_Seg b1 x7.2.1) fun t62 =>
            pureK Try.prog (sFieldAddr T_api_Seg t62 0) fun t63 =>
            readK Try.prog (sLoad T_int t63) (tick w7) fun t64 =>
            pureK Try.prog (sIdxAddr T_s_api_Seg b1 x7.2.1) fun t68 =>
            pureK Try.prog (sFieldAddr T_api_Seg t68 1) fun t69 =>
            readK Try.prog (sLoad T_int t69) (tick w7) fun t70 =>
            upK Try.prog (sCall F_timeline_At #[a0, t64]) (tick w7) fun t65 w9 =>
            Is Try.prog (sLoad T_int t69) t70 w9 ∧ pureK Try.prog (sBin .eql T_int (.tmp 65) (.tmp 70) t65 t70) fun t71 =>
            J2 (t71, ()) w9)
           (J2 ((.bool false), ()) (tick w7))))
         (ifB t9
          (upK Try.prog (sCall F_timeline_Same #[a0, b1]) w7 fun t77 w10 =>
           pureK Try.prog (sBin .eql T_bool (.tmp 77) (.tmp 78) t77 x7.1) fun t79 =>
           K t79 w10)
          (K (.bool false) w7)))
        (x4.1, (.int .i64 0), ()) w4))
      ((.bool true), (.int .i64 0), ()) w3))))
theorem erratalaw45_TimelineSame.pt_eq : erratalaw45_TimelineSame.pt = fun a0 b1 w K => FN Try.prog Try.f4 (bodyOf Try.f4) [4] (.node none .leaf (.node none .leaf (.node none .leaf (.node none .leaf (.node none (.node none .leaf (.node none (.node none (.node none .leaf (.node (some [6]) .leaf .leaf)) .leaf) .leaf)) (.node none (.node none .leaf (.node none (.node none (.node none .leaf (.node (some [6]) .leaf .leaf)) .leaf) .leaf)) .leaf)))))) [a0, b1] w K := by kernel_rfl
theorem erratalaw45_TimelineSame.call {a0 b1 : Value} {w : World} {K : Value → World → Prop} (h : erratalaw45_TimelineSame.pt a0 b1 w K) : Calls Try.prog F_erratalaw45_TimelineSame #[a0, b1] w (retK K) :=
  calls_FN (args := [a0, b1]) Try.func4 (by kernel_rfl) (by rw [erratalaw45_TimelineSame.pt_eq] at h; exact h)
theorem erratalaw45_TimelineSame.up {a0 b1 : Value} {w : World} {K : Value → World → Prop} (h : Calls Try.prog F_erratalaw45_TimelineSame #[a0, b1] w (retK K)) : upK Try.prog (sCall F_erratalaw45_TimelineSame #[a0, b1]) w K :=
  up_call (fn := Try.f4) Try.func4 (by kernel_rfl) (by kernel_rfl) h

/-- errata/erratalaw45.TimelineOpen -/
def erratalaw45_TimelineOpen.pt (l0 closed1 later2 version3 : Value) (w : World) (K : Value → World → Prop) : Prop :=
  upK Try.prog (sCall F_erratalaw45_small #[]) w fun t23 w1 =>
  readK Try.prog (sBlt .len #[T_s_api_Seg] T_int #[false] #[l0]) w1 fun t25 =>
  pureK Try.prog (sBin .gtr T_int (.tmp 25) (.const (.int .i64 40)) t25 (.int .i64 40)) fun t26 =>
  ifB t26
  (K t23 w1)
  (upK Try.prog (sCall F_timeline_Right #[l0]) w1 fun t29 w2 =>
   pureK Try.prog (sUn .not t29) fun t30 =>
   ifB t30
   (K t23 w2)
   (pureK Try.prog (sBin .lss T_int (.tmp 33) (.tmp 34) later2 closed1) fun t35 =>
    ifB t35
    (K t23 w2)
    (pureK Try.prog (sBin .lss T_int (.tmp 38) (.const (.int .i64 (-1))) closed1 (.int .i64 (-1))) fun t39 =>
     ifB t39
     (K t23 w2)
     (pureK Try.prog (sBin .geq T_int (.tmp 42) (.const (.int .i64 1099511627776)) later2 (.int .i64 1099511627776)) fun t43 =>
      ifB t43
      (K t23 w2)
      (upK Try.prog (sCall F_timeline_Open #[l0, closed1]) w2 fun t48 w3 =>
       LOOP (X := Value × Unit) (fun x4 w4 next4 =>
        pureK Try.prog (sBin .leq T_int (.tmp 49) (.const (.int .i64 50)) x4.1 (.int .i64 50)) fun t50 =>
        ifB t50
        (LETJ (X := Unit) (fun y1 w5 =>
          pureK Try.prog (sBin .add T_int (.tmp 51) (.const (.int .i64 1)) x4.1 (.int .i64 1)) fun t52 =>
          next4 (t52, ()) w5)
         (fun J1 =>
          readK Try.prog (sBlt .len #[T_s_api_Seg] T_int #[false] #[l0]) w4 fun t55 =>
          pureK Try.prog (sBin .sub T_int (.tmp 55) (.const (.int .i64 1)) t55 (.int .i64 1)) fun t56 =>
          pureK Try.prog (sIdxAddr T_s_api_Seg l0 t56) fun t57 =>
          pureK Try.prog (sFieldAddr T_api_Seg t57 1) fun t58 =>
          readK Try.prog (sLoad T_int t58) w4 fun t59 =>
          pureK Try.prog (sBin .eql T_int (.tmp 59) (.tmp 60) t59 x4.1) fun t61 =>
          ifB t61
          (LOOP (X := Value × Value × Unit) (fun x6 w6 next6 =>
            readK Try.prog (sBlt .len #[T_s_api_Seg] T_int #[false] #[l0]) w6 fun t72 =>
            pureK Try.prog (sBin .lss T_int (.tmp 70) (.tmp 72) x6.2.1 t72) fun t73 =>
            ifB t73
            (LETJ (X := Value × Unit) (fun y2 w7 =>
              pureK Try.prog (sBin .add T_int (.tmp 74) (.const (.int .i64 1)) x6.2.1 (.int .i64 1)) fun t75 =>
              next6 (y2.1, t75, ()) w7)
             (fun J2 =>
              ifB x6.1
              (J2 ((.bool true), ()) w6)
              (pureK Try.prog (sIdxAddr T_s_api_Seg l0 x6.2.1) fun t80 =>
               pureK Try.prog (sFieldAddr T_api_Seg t80 1) fun t81 =>
               readK Try.prog (sLoad T_int t81) w6 fun t82 =>
               pureK Try.prog (sBin .eql T_int (.tmp 82) (.tmp 83) t82 x4.1) fun t84 =>
               ifB t84
               (pureK Try.prog (sIdxAddr T_s_api_Seg l0 x6.2.1) fun t88 =>
                pureK Try.prog (sFieldAddr T_api_Seg t88 0) fun t89 =>
                readK Try.prog (sLoad T_int t89) w6 fun t90 =>
                pureK Try.prog (sBin .gtr T_int (.tmp 90) (.tmp 91) t90 closed1) fun t92 =>
                J2 (t92, ()) w6)
               (J2 ((.bool false), ()) w6))))
            (LOOP (X := Value × Value × Unit) (fun x8 w8 next8 =>
              readK Try.prog (sBlt .len #[T_s_int] T_int #[false] #[t48]) w8 fun t97 =>
              pureK Try.prog (sBin .lss T_int (.tmp 95) (.tmp 97) x8.2.1 t97) fun t98 =>
              ifB t98
              (LETJ (X := Value × Unit) (fun y3 w9 =>
                pureK Try.prog (sBin .add T_int (.tmp 99) (.const (.int .i64 1)) x8.2.1 (.int .i64 1)) fun t100 =>
                next8 (y3.1, t100, ()) w9)
               (fun J3 =>
                ifB x8.1
                (J3 ((.bool true), ()) w8)
                (pureK Try.prog (sIdxAddr T_s_int t48 x8.2.1) fun t105 =>
                 readK Try.prog (sLoad T_int t105) w8 fun t106 =>
                 pureK Try.prog (sBin .eql T_int (.tmp 106) (.tmp 107) t106 x4.1) fun t108 =>
                 J3 (t108, ()) w8)))
              (pureK Try.prog (sBin .neq T_bool (.tmp 110) (.tmp 111) x8.1 x6.1) fun t112 =>
               ifB t112
               (K (.bool false) w8)
               (J1 (()) w8)))
             ((.bool false), (.int .i64 0), ()) w6))
           ((.bool true), (.int .i64 0), ()) w4)
          (pureK Try.prog (sBin .add T_int (.tmp 64) (.const (.int .i64 1)) closed1 (.int .i64 1)) fun t65 =>
           upK Try.prog (sCall F_timeline_At #[l0, t65]) w4 fun t66 w10 =>
           pureK Try.prog (sBin .eql T_int (.tmp 66) (.tmp 67) t66 x4.1) fun t68 =>
           LOOP (X := Value × Value × Unit) (fun x11 w11 next11 =>
            readK Try.prog (sBlt .len #[T_s_api_Seg] T_int #[false] #[l0]) w11 fun t72_1 =>
            pureK Try.prog (sBin .lss T_int (.tmp 70) (.tmp 72) x11.2.1 t72_1) fun t73_1 =>
            ifB t73_1
            (LETJ (X := Value × Unit) (fun y4 w12 =>
              pureK Try.prog (sBin .add T_int (.tmp 74) (.const (.int .i64 1)) x11.2.1 (.int .i64 1)) fun t75_1 =>
              next11 (y4.1, t75_1, ()) w12)
             (fun J4 =>
              ifB x11.1
              (J4 ((.bool true), ()) w11)
              (pureK Try.prog (sIdxAddr T_s_api_Seg l0 x11.2.1) fun t80_1 =>
               pureK Try.prog (sFieldAddr T_api_Seg t80_1 1) fun t81_1 =>
               readK Try.prog (sLoad T_int t81_1) w11 fun t82_1 =>
               pureK Try.prog (sBin .eql T_int (.tmp 82) (.tmp 83) t82_1 x4.1) fun t84_1 =>
               ifB t84_1
               (pureK Try.prog (sIdxAddr T_s_api_Seg l0 x11.2.1) fun t88_1 =>
                pureK Try.prog (sFieldAddr T_api_Seg t88_1 0) fun t89_1 =>
                readK Try.prog (sLoad T_int t89_1) w11 fun t90_1 =>
                pureK Try.prog (sBin .gtr T_int (.tmp 90) (.tmp 91) t90_1 closed1) fun t92_1 =>
                J4 (t92_1, ()) w11)
               (J4 ((.bool false), ()) w11))))
            (LOOP (X := Value × Value × Unit) (fun x13 w13 next13 =>
              readK Try.prog (sBlt .len #[T_s_int] T_int #[false] #[t48]) w13 fun t97_1 =>
              pureK Try.prog (sBin .lss T_int (.tmp 95) (.tmp 97) x13.2.1 t97_1) fun t98_1 =>
              ifB t98_1
              (LETJ (X := Value × Unit) (fun y5 w14 =>
                pureK Try.prog (sBin .add T_int (.tmp 99) (.const (.int .i64 1)) x13.2.1 (.int .i64 1)) fun t100_1 =>
                next13 (y5.1, t100_1, ()) w14)
               (fun J5 =>
                ifB x13.1
                (J5 ((.bool true), ()) w13)
                (pureK Try.prog (sIdxAddr T_s_int t48 x13.2.1) fun t105_1 =>
                 readK Try.prog (sLoad T_int t105_1) w13 fun t106_1 =>
                 pureK Try.prog (sBin .eql T_int (.tmp 106) (.tmp 107) t106_1 x4.1) fun t108_1 =>
                 J5 (t108_1, ()) w13)))
              (pureK Try.prog (sBin .neq T_bool (.tmp 110) (.tmp 111) x13.1 x11.1) fun t112_1 =>
               ifB t112_1
               (K (.bool false) w13)
               (J1 (()) w13)))
             ((.bool false), (.int .i64 0), ()) w11))
           (t68, (.int .i64 0), ()) w10)))
        (upK Try.prog (sCall F_timeline_Open #[l0, later2]) w4 fun t115 w15 =>
         LOOP (X := Value × Unit) (fun x16 w16 next16 =>
          readK Try.prog (sBlt .len #[T_s_int] T_int #[false] #[t115]) w16 fun t118 =>
          pureK Try.prog (sBin .lss T_int (.tmp 116) (.tmp 118) x16.1 t118) fun t119 =>
          ifB t119
          (LETJ (X := Unit) (fun y6 w17 =>
            pureK Try.prog (sBin .add T_int (.tmp 120) (.const (.int .i64 1)) x16.1 (.int .i64 1)) fun t121 =>
            next16 (t121, ()) w17)
           (fun J6 =>
            LOOP (X := Value × Value × Unit) (fun x18 w18 next18 =>
             readK Try.prog (sBlt .len #[T_s_int] T_int #[false] #[t48]) w18 fun t124 =>
             pureK Try.prog (sBin .lss T_int (.tmp 122) (.tmp 124) x18.2.1 t124) fun t125 =>
             ifB t125
             (LETJ (X := Value × Unit) (fun y7 w19 =>
               pureK Try.prog (sBin .add T_int (.tmp 126) (.const (.int .i64 1)) x18.2.1 (.int .i64 1)) fun t127 =>
               next18 (y7.1, t127, ()) w19)
              (fun J7 =>
               ifB x18.1
               (J7 ((.bool true), ()) (tick w18))
               (pureK Try.prog (sIdxAddr T_s_int t48 x18.2.1) fun t132 =>
                readK Try.prog (sLoad T_int t132) (tick w18) fun t133 =>
                pureK Try.prog (sIdxAddr T_s_int t115 x16.1) fun t136 =>
                readK Try.prog (sLoad T_int t136) (tick w18) fun t137 =>
                pureK Try.prog (sBin .eql T_int (.tmp 133) (.tmp 137) t133 t137) fun t138 =>
                J7 (t138, ()) (tick w18))))
             (pureK Try.prog (sUn .not x18.1) fun t141 =>
              ifB t141
              (K (.bool false) w18)
              (J6 (()) w18)))
            ((.bool false), (.int .i64 0), ()) w16))
          (pureK Try.prog (sBin .add T_int (.tmp 144) (.const (.int .i64 1)) later2 (.int .i64 1)) fun t145 =>
           upK Try.prog (sCall F_timeline_Replace #[l0, t145, version3]) w16 fun t147 w20 =>
           pureK Try.prog (sExtract t147 0) fun t148 =>
           pureK Try.prog (sExtract t147 1) fun t149 =>
           pureK Try.prog (sBin .neq T_api_Errno (.tmp 150) (.const (.int .i64 0)) t149 (.int .i64 0)) fun t151 =>
           ifB t151
           (ifB t23
            (pureK Try.prog (sBin .lss T_int (.tmp 154) (.const (.int .i64 1)) version3 (.int .i64 1)) fun t155 =>
             ifB t155
             (K (.bool true) w20)
             (pureK Try.prog (sBin .gtr T_int (.tmp 157) (.const (.int .i64 50)) version3 (.int .i64 50)) fun t158 =>
              K t158 w20))
            (K (.bool false) w20))
           (upK Try.prog (sCall F_timeline_Open #[t148, later2]) w20 fun t163 w21 =>
            ifB t23
            (readK Try.prog (sBlt .len #[T_s_int] T_int #[false] #[t163]) w21 fun t167 =>
             pureK Try.prog (sBin .eql T_int (.tmp 167) (.const (.int .i64 1)) t167 (.int .i64 1)) fun t168 =>
             ifB t168
             (pureK Try.prog (sIdxAddr T_s_int t163 (.int .i64 0)) fun t172 =>
              readK Try.prog (sLoad T_int t172) w21 fun t173 =>
              pureK Try.prog (sBin .eql T_int (.tmp 173) (.tmp 174) t173 version3) fun t175 =>
              K t175 w21)
             (K (.bool false) w21))
            (K (.bool false) w21))))
         ((.int .i64 0), ()) w15))
       ((.int .i64 1), ()) w3)))))
theorem erratalaw45_TimelineOpen.pt_eq : erratalaw45_TimelineOpen.pt = fun l0 closed1 later2 version3 w K => FN Try.prog Try.f5 (bodyOf Try.f5) [8] (.node none .leaf (.node none .leaf (.node none .leaf (.node none .leaf (.node none (.node none .leaf (.node none (.node none (.node none .leaf (.node (some []) (.node none (.node none .leaf (.node none (.node none .leaf (.node none (.node none (.node none .leaf (.node (some [12]) .leaf .leaf)) .leaf) .leaf)) (.node none .leaf (.node none (.node none .leaf (.node none (.node none (.node none .leaf (.node (some [14]) .leaf .leaf)) .leaf) .leaf)) .leaf)))) .leaf) .leaf)) .leaf) .leaf)) (.node none .leaf (.node none (.node none .leaf (.node none (.node none (.node none .leaf (.node (some []) (.node none (.node none .leaf (.node none (.node none .leaf (.node none (.node none (.node none .leaf (.node (some [18]) .leaf .leaf)) .leaf) .leaf)) .leaf)) .leaf) .leaf)) .leaf) .leaf)) .leaf))))))) [l0, closed1, later2, version3] w K := by kernel_rfl
theorem erratalaw45_TimelineOpen.call {l0 closed1 later2 version3 : Value} {w : World} {K : Value → World → Prop} (h : erratalaw45_TimelineOpen.pt l0 closed1 later2 version3 w K) : Calls Try.prog F_erratalaw45_TimelineOpen #[l0, closed1, later2, version3] w (retK K) :=
  calls_FN (args := [l0, closed1, later2, version3]) Try.func5 (by kernel_rfl) (by rw [erratalaw45_TimelineOpen.pt_eq] at h; exact h)
theorem erratalaw45_TimelineOpen.up {l0 closed1 later2 version3 : Value} {w : World} {K : Value → World → Prop} (h : Calls Try.prog F_erratalaw45_TimelineOpen #[l0, closed1, later2, version3] w (retK K)) : upK Try.prog (sCall F_erratalaw45_TimelineOpen #[l0, closed1, later2, version3]) w K :=
  up_call (fn := Try.f5) Try.func5 (by kernel_rfl) (by kernel_rfl) h

/-- errata/erratalaw45.TimelineTells -/
def erratalaw45_TimelineTells.pt (l0 m1 time2 version3 d4 : Value) (w : World) (K : Value → World → Prop) : Prop :=
  upK Try.prog (sCall F_erratalaw45_small #[]) w fun t16 w1 =>
  upK Try.prog (sCall F_erratalaw45_few #[l0, d4]) w1 fun t19 w2 =>
  pureK Try.prog (sUn .not t19) fun t20 =>
  ifB t20
  (K t16 w2)
  (readK Try.prog (sBlt .len #[T_s_api_Seg] T_int #[false] #[m1]) w2 fun t23 =>
   pureK Try.prog (sBin .gtr T_int (.tmp 23) (.const (.int .i64 60)) t23 (.int .i64 60)) fun t24 =>
   ifB t24
   (K t16 w2)
   (upK Try.prog (sCall F_timeline_Right #[l0]) w2 fun t28 w3 =>
    upK Try.prog (sCall F_errataref45_Right #[l0]) w3 fun t30 w4 =>
    pureK Try.prog (sBin .neq T_bool (.tmp 28) (.tmp 30) t28 t30) fun t31 =>
    ifB t31
    (K (.bool false) w4)
    (upK Try.prog (sCall F_timeline_Same #[l0, m1]) w4 fun t35 w5 =>
     upK Try.prog (sCall F_errataref45_Same #[l0, m1]) w5 fun t38 w6 =>
     pureK Try.prog (sBin .neq T_bool (.tmp 35) (.tmp 38) t35 t38) fun t39 =>
     ifB t39
     (K (.bool false) w6)
     (upK Try.prog (sCall F_errataref45_Right #[l0]) w6 fun t42 w7 =>
      pureK Try.prog (sUn .not t42) fun t43 =>
      ifB t43
      (K t16 w7)
      (upK Try.prog (sCall F_timeline_Replace #[l0, time2, version3]) w7 fun t49 w8 =>
       pureK Try.prog (sExtract t49 0) fun t50 =>
       pureK Try.prog (sExtract t49 1) fun t51 =>
       upK Try.prog (sCall F_errataref45_Replace #[l0, time2, version3]) w8 fun t56 w9 =>
       pureK Try.prog (sExtract t56 0) fun t57 =>
       pureK Try.prog (sExtract t56 1) fun t58 =>
       pureK Try.prog (sBin .neq T_api_Errno (.tmp 59) (.tmp 60) t51 t58) fun t61 =>
       ifB t61
       (K (.bool false) w9)
       (upK Try.prog (sCall F_errataref45_Same #[t50, t57]) w9 fun t65 w10 =>
        pureK Try.prog (sUn .not t65) fun t66 =>
        ifB t66
        (K (.bool false) w10)
        (upK Try.prog (sCall F_timeline_At #[l0, time2]) w10 fun t71 w11 =>
         upK Try.prog (sCall F_errataref45_At #[l0, time2]) w11 fun t74 w12 =>
         pureK Try.prog (sBin .neq T_int (.tmp 71) (.tmp 74) t71 t74) fun t75 =>
         ifB t75
         (K (.bool false) w12)
         (upK Try.prog (sCall F_timeline_Versions #[l0]) w12 fun t78 w13 =>
          upK Try.prog (sCall F_errataref45_Versions #[l0, (.int .i64 (-1))]) w13 fun t80 w14 =>
          upK Try.prog (sCall F_errataref45_SameInts #[t78, t80]) w14 fun t81 w15 =>
          pureK Try.prog (sUn .not t81) fun t82 =>
          ifB t82
          (K (.bool false) w15)
          (upK Try.prog (sCall F_timeline_Open #[l0, time2]) w15 fun t86 w16 =>
           upK Try.prog (sCall F_errataref45_Versions #[l0, time2]) w16 fun t89 w17 =>
           upK Try.prog (sCall F_errataref45_SameInts #[t86, t89]) w17 fun t90 w18 =>
           pureK Try.prog (sUn .not t90) fun t91 =>
           ifB t91
           (K (.bool false) w18)
           (ifB t16
            (upK Try.prog (sCall F_timeline_Spans #[l0, version3]) w18 fun t97 w19 =>
             upK Try.prog (sCall F_errataref45_Spans #[l0, version3]) w19 fun t100 w20 =>
             upK Try.prog (sCall F_errataref45_Same #[t97, t100]) w20 fun t101 w21 =>
             ifB t101
             (upK Try.prog (sCall F_timeline_Pick #[l0, version3, d4]) w21 fun t107 w22 =>
              upK Try.prog (sCall F_errataref45_Pick #[l0, version3, d4]) w22 fun t111 w23 =>
              upK Try.prog (sCall F_errataref45_SameDeltas #[t107, t111]) w23 fun t112 w24 =>
              K t112 w24)
             (K (.bool false) w21))
            (K (.bool false) w18)))))))))))
theorem erratalaw45_TimelineTells.pt_eq : erratalaw45_TimelineTells.pt = fun l0 m1 time2 version3 d4 w K => FN Try.prog Try.f6 (bodyOf Try.f6) [10] .leaf [l0, m1, time2, version3, d4] w K := by kernel_rfl
theorem erratalaw45_TimelineTells.call {l0 m1 time2 version3 d4 : Value} {w : World} {K : Value → World → Prop} (h : erratalaw45_TimelineTells.pt l0 m1 time2 version3 d4 w K) : Calls Try.prog F_erratalaw45_TimelineTells #[l0, m1, time2, version3, d4] w (retK K) :=
  calls_FN (args := [l0, m1, time2, version3, d4]) Try.func6 (by kernel_rfl) (by rw [erratalaw45_TimelineTells.pt_eq] at h; exact h)
theorem erratalaw45_TimelineTells.up {l0 m1 time2 version3 d4 : Value} {w : World} {K : Value → World → Prop} (h : Calls Try.prog F_erratalaw45_TimelineTells #[l0, m1, time2, version3, d4] w (retK K)) : upK Try.prog (sCall F_erratalaw45_TimelineTells #[l0, m1, time2, version3, d4]) w K :=
  up_call (fn := Try.f6) Try.func6 (by kernel_rfl) (by kernel_rfl) h

/-- errata/erratalaw45.TimelinePicks -/
def erratalaw45_TimelinePicks.pt (l0 d1 time2 : Value) (w : World) (K : Value → World → Prop) : Prop :=
  upK Try.prog (sCall F_erratalaw45_small #[]) w fun t17 w1 =>
  upK Try.prog (sCall F_erratalaw45_few #[l0, d1]) w1 fun t20 w2 =>
  pureK Try.prog (sUn .not t20) fun t21 =>
  ifB t21
  (K t17 w2)
  (upK Try.prog (sCall F_timeline_Right #[l0]) w2 fun t24 w3 =>
   pureK Try.prog (sUn .not t24) fun t25 =>
   ifB t25
   (K t17 w3)
   (upK Try.prog (sCall F_timeline_Versions #[l0]) w3 fun t29 w4 =>
    LOOP (X := Value × Value × Value × Unit) (fun x5 w5 next5 =>
     readK Try.prog (sBlt .len #[T_s_int] T_int #[false] #[t29]) w5 fun t32 =>
     pureK Try.prog (sBin .lss T_int (.tmp 30) (.tmp 32) x5.2.2.1 t32) fun t33 =>
     ifB t33
     (LETJ (X := Value × Value × Unit) (fun y1 w6 =>
       pureK Try.prog (sBin .add T_int (.tmp 34) (.const (.int .i64 1)) x5.2.2.1 (.int .i64 1)) fun t35 =>
       next5 (y1.1, y1.2.1, t35, ()) w6)
      (fun J1 =>
       LETJ (X := Unit) (fun y2 w7 =>
        pureK Try.prog (sIdxAddr T_s_int t29 x5.2.2.1) fun t54 =>
        readK Try.prog (sLoad T_int t54) w7 fun t55 =>
        upK Try.prog (sCall F_timeline_Pick #[l0, t55, d1]) w7 fun t57 w8 =>
        LOOP (X := Value × Value × Unit) (fun x9 w9 next9 =>
         readK Try.prog (sBlt .len #[T_s_api_Delta] T_int #[false] #[d1]) w9 fun t60 =>
         pureK Try.prog (sBin .lss T_int (.tmp 58) (.tmp 60) x9.2.1 t60) fun t61 =>
         ifB t61
         (LETJ (X := Value × Unit) (fun y3 w10 =>
           pureK Try.prog (sBin .add T_int (.tmp 62) (.const (.int .i64 1)) x9.2.1 (.int .i64 1)) fun t63 =>
           next9 (y3.1, t63, ()) w10)
          (fun J3 =>
           pureK Try.prog (sIdxAddr T_s_api_Delta d1 x9.2.1) fun t67 =>
           pureK Try.prog (sFieldAddr T_api_Delta t67 0) fun t68 =>
           readK Try.prog (sLoad T_int t68) (tick w9) fun t69 =>
           pureK Try.prog (sIdxAddr T_s_int t29 x5.2.2.1) fun t73 =>
           readK Try.prog (sLoad T_int t73) (tick w9) fun t74 =>
           upK Try.prog (sCall F_timeline_At #[l0, t69]) (tick w9) fun t70 w11 =>
           Is Try.prog (sLoad T_int t73) t74 w11 ∧ pureK Try.prog (sBin .eql T_int (.tmp 70) (.tmp 74) t70 t74) fun t75 =>
           ifB t75
           (pureK Try.prog (sIdxAddr T_s_api_Delta d1 x9.2.1) fun t79 =>
            readK Try.prog (sLoad T_api_Delta t79) w11 fun t80 =>
            upK Try.prog (sBuildSlice T_s_api_Delta 1 #[(0, t80)]) w11 fun t81 w12 =>
            upK Try.prog (sBlt .append #[T_s_api_Delta, T_s_api_Delta] T_s_api_Delta #[false, false] #[x9.1, t81]) w12 fun t82 w13 =>
            J3 (t82, ()) w13)
           (J3 (x9.1, ()) w11)))
         (upK Try.prog (sCall F_errataref45_SameDeltas #[t57, x9.1]) w9 fun t85 w14 =>
          pureK Try.prog (sUn .not t85) fun t86 =>
          ifB t86
          (K (.bool false) w14)
          (readK Try.prog (sBlt .len #[T_s_api_Delta] T_int #[false] #[t57]) w14 fun t89 =>
           pureK Try.prog (sBin .add T_int (.tmp 87) (.tmp 89) x5.1 t89) fun t90 =>
           pureK Try.prog (sIdxAddr T_s_int t29 x5.2.2.1) fun t94 =>
           readK Try.prog (sLoad T_int t94) w14 fun t95 =>
           upK Try.prog (sCall F_timeline_Spans #[l0, t95]) w14 fun t96 w15 =>
           LOOP (X := Value × Value × Unit) (fun x16 w16 next16 =>
            readK Try.prog (sBlt .len #[T_s_api_Seg] T_int #[false] #[t96]) w16 fun t99 =>
            pureK Try.prog (sBin .lss T_int (.tmp 97) (.tmp 99) x16.2.1 t99) fun t100 =>
            ifB t100
            (LETJ (X := Value × Unit) (fun y4 w17 =>
              pureK Try.prog (sBin .add T_int (.tmp 101) (.const (.int .i64 1)) x16.2.1 (.int .i64 1)) fun t102 =>
              next16 (y4.1, t102, ()) w17)
             (fun J4 =>
              pureK Try.prog (sIdxAddr T_s_api_Seg t96 x16.2.1) fun t105 =>
              pureK Try.prog (sFieldAddr T_api_Seg t105 0) fun t106 =>
              readK Try.prog (sLoad T_int t106) w16 fun t107 =>
              pureK Try.prog (sBin .leq T_int (.tmp 107) (.tmp 108) t107 time2) fun t109 =>
              ifB t109
              (pureK Try.prog (sIdxAddr T_s_api_Seg t96 x16.2.1) fun t114 =>
               pureK Try.prog (sFieldAddr T_api_Seg t114 1) fun t115 =>
               readK Try.prog (sLoad T_int t115) w16 fun t116 =>
               pureK Try.prog (sBin .lss T_int (.tmp 111) (.tmp 116) time2 t116) fun t117 =>
               ifB t117
               (pureK Try.prog (sBin .add T_int (.tmp 119) (.const (.int .i64 1)) x16.1 (.int .i64 1)) fun t120 =>
                pureK Try.prog (sIdxAddr T_s_int t29 x5.2.2.1) fun t126 =>
                readK Try.prog (sLoad T_int t126) (tick w16) fun t127 =>
                upK Try.prog (sCall F_timeline_At #[l0, time2]) (tick w16) fun t123 w18 =>
                Is Try.prog (sLoad T_int t126) t127 w18 ∧ pureK Try.prog (sBin .neq T_int (.tmp 123) (.tmp 127) t123 t127) fun t128 =>
                ifB t128
                (K (.bool false) w18)
                (J4 (t120, ()) w18))
               (J4 (x16.1, ()) w16))
              (J4 (x16.1, ()) w16)))
            (J1 (t90, x16.1, ()) w16))
           (x5.2.1, (.int .i64 0), ()) w15)))
        ((.slice none 0 0), (.int .i64 0), ()) w8)
       (fun J2 =>
        pureK Try.prog (sBin .gtr T_int (.tmp 36) (.const (.int .i64 0)) x5.2.2.1 (.int .i64 0)) fun t37 =>
        ifB t37
        (pureK Try.prog (sIdxAddr T_s_int t29 x5.2.2.1) fun t41 =>
         readK Try.prog (sLoad T_int t41) (tick w5) fun t42 =>
         pureK Try.prog (sBin .sub T_int (.tmp 44) (.const (.int .i64 1)) x5.2.2.1 (.int .i64 1)) fun t45 =>
         pureK Try.prog (sBlt .max #[T_int, T_int] T_int #[false, true] #[t45, (.int .i64 0)]) fun t46 =>
         pureK Try.prog (sIdxAddr T_s_int t29 t46) fun t47 =>
         readK Try.prog (sLoad T_int t47) (tick w5) fun t48 =>
         pureK Try.prog (sBin .leq T_int (.tmp 42) (.tmp 48) t42 t48) fun t49 =>
         ifB t49
         (K (.bool false) (tick w5))
         (J2 (()) (tick w5)))
        (J2 (()) (tick w5)))))
     (ifB t17
      (readK Try.prog (sBlt .len #[T_s_api_Delta] T_int #[false] #[d1]) w5 fun t133 =>
       pureK Try.prog (sBin .eql T_int (.tmp 131) (.tmp 133) x5.1 t133) fun t134 =>
       ifB t134
       (pureK Try.prog (sBin .eql T_int (.tmp 137) (.const (.int .i64 1)) x5.2.1 (.int .i64 1)) fun t138 =>
        pureK Try.prog (sBin .geq T_int (.tmp 139) (.const (.int .i64 0)) time2 (.int .i64 0)) fun t140 =>
        ifB t140
        (pureK Try.prog (sBin .leq T_int (.tmp 142) (.const (.int .i64 1099511627776)) time2 (.int .i64 1099511627776)) fun t143 =>
         pureK Try.prog (sBin .eql T_bool (.tmp 138) (.tmp 144) t138 t143) fun t145 =>
         K t145 w5)
        (pureK Try.prog (sBin .eql T_bool (.tmp 138) (.tmp 144) t138 (.bool false)) fun t145_1 =>
         K t145_1 w5))
       (K (.bool false) w5))
      (K (.bool false) w5)))
    ((.int .i64 0), (.int .i64 0), (.int .i64 0), ()) w4))
theorem erratalaw45_TimelinePicks.pt_eq : erratalaw45_TimelinePicks.pt = fun l0 d1 time2 w K => FN Try.prog Try.f7 (bodyOf Try.f7) [6] (.node none .leaf (.node none .leaf (.node none .leaf (.node none .leaf (.node none .leaf (.node none .leaf (.node none (.node none .leaf (.node none (.node none (.node none .leaf (.node (some [9, 10]) (.node none (.node (some []) .leaf (.node none .leaf (.node none .leaf (.node none (.node none .leaf (.node none (.node none (.node none .leaf (.node (some [13]) .leaf .leaf)) .leaf) .leaf)) (.node none .leaf (.node none .leaf (.node none .leaf (.node none .leaf (.node none (.node none (.node none .leaf (.node (some [10]) .leaf .leaf)) .leaf) .leaf))))))))) .leaf) .leaf)) .leaf) .leaf)) .leaf))))))) [l0, d1, time2] w K := by kernel_rfl
theorem erratalaw45_TimelinePicks.call {l0 d1 time2 : Value} {w : World} {K : Value → World → Prop} (h : erratalaw45_TimelinePicks.pt l0 d1 time2 w K) : Calls Try.prog F_erratalaw45_TimelinePicks #[l0, d1, time2] w (retK K) :=
  calls_FN (args := [l0, d1, time2]) Try.func7 (by kernel_rfl) (by rw [erratalaw45_TimelinePicks.pt_eq] at h; exact h)
theorem erratalaw45_TimelinePicks.up {l0 d1 time2 : Value} {w : World} {K : Value → World → Prop} (h : Calls Try.prog F_erratalaw45_TimelinePicks #[l0, d1, time2] w (retK K)) : upK Try.prog (sCall F_erratalaw45_TimelinePicks #[l0, d1, time2]) w K :=
  up_call (fn := Try.f7) Try.func7 (by kernel_rfl) (by kernel_rfl) h

/-- errata/erratalaw45.small -/
def erratalaw45_small.pt (w : World) (K : Value → World → Prop) : Prop :=
  upK Try.prog (sCall F_erratalaw45_begun #[(.int .i64 1)]) w fun t9 w1 =>
  upK Try.prog (sCall F_timeline_Replace #[t9, (.int .i64 50), (.int .i64 2)]) w1 fun t10 w2 =>
  pureK Try.prog (sExtract t10 0) fun t11 =>
  pureK Try.prog (sExtract t10 1) fun t12 =>
  pureK Try.prog (sBin .neq T_api_Errno (.tmp 13) (.const (.int .i64 0)) t12 (.int .i64 0)) fun t14 =>
  ifB t14
  (K (.bool false) w2)
  (upK Try.prog (sCall F_timeline_Right #[t11]) w2 fun t17 w3 =>
   pureK Try.prog (sUn .not t17) fun t18 =>
   ifB t18
   (K (.bool false) w3)
   (upK Try.prog (sCall F_timeline_Replace #[t11, (.int .i64 20), (.int .i64 3)]) w3 fun t22 w4 =>
    pureK Try.prog (sExtract t22 0) fun t23 =>
    pureK Try.prog (sExtract t22 1) fun t24 =>
    upK Try.prog (sCall F_timeline_Replace #[t11, (.int .i64 80), (.int .i64 1)]) w4 fun t27 w5 =>
    pureK Try.prog (sExtract t27 0) fun t28 =>
    pureK Try.prog (sExtract t27 1) fun t29 =>
    pureK Try.prog (sBin .neq T_api_Errno (.tmp 30) (.const (.int .i64 0)) t24 (.int .i64 0)) fun t31 =>
    ifB t31
    (K (.bool false) w5)
    (pureK Try.prog (sBin .neq T_api_Errno (.tmp 33) (.const (.int .i64 0)) t29 (.int .i64 0)) fun t34 =>
     ifB t34
     (K (.bool false) w5)
     (upK Try.prog (sCall F_timeline_Right #[t28]) w5 fun t38 w6 =>
      pureK Try.prog (sUn .not t38) fun t39 =>
      ifB t39
      (K (.bool false) w6)
      (pureK Try.prog (sBuild T_api_Seg #[(0, (.int .i64 0)), (1, (.int .i64 1))]) fun t42 =>
       pureK Try.prog (sBuild T_api_Seg #[(0, (.int .i64 20)), (1, (.int .i64 3))]) fun t43 =>
       upK Try.prog (sBuildSlice T_s_api_Seg 2 #[(0, t42), (1, t43)]) w6 fun t44 w7 =>
       upK Try.prog (sCall F_timeline_Same #[t23, t44]) w7 fun t45 w8 =>
       ifB t45
       (pureK Try.prog (sBuild T_api_Seg #[(0, (.int .i64 0)), (1, (.int .i64 1))]) fun t48 =>
        pureK Try.prog (sBuild T_api_Seg #[(0, (.int .i64 50)), (1, (.int .i64 2))]) fun t49 =>
        pureK Try.prog (sBuild T_api_Seg #[(0, (.int .i64 80)), (1, (.int .i64 1))]) fun t50 =>
        upK Try.prog (sBuildSlice T_s_api_Seg 3 #[(0, t48), (1, t49), (2, t50)]) w8 fun t51 w9 =>
        upK Try.prog (sCall F_timeline_Same #[t28, t51]) w9 fun t52 w10 =>
        ifB t52
        (upK Try.prog (sCall F_timeline_Open #[t28, (.int .i64 60)]) w10 fun t57 w11 =>
         upK Try.prog (sBuildSlice T_s_int 2 #[(0, (.int .i64 1)), (1, (.int .i64 2))]) w11 fun t58 w12 =>
         upK Try.prog (sCall F_errataref45_SameInts #[t57, t58]) w12 fun t59 w13 =>
         ifB t59
         (upK Try.prog (sCall F_timeline_Open #[t28, (.int .i64 79)]) w13 fun t63 w14 =>
          upK Try.prog (sBuildSlice T_s_int 1 #[(0, (.int .i64 1))]) w14 fun t64 w15 =>
          upK Try.prog (sCall F_errataref45_SameInts #[t63, t64]) w15 fun t65 w16 =>
          ifB t65
          (upK Try.prog (sCall F_timeline_At #[t28, (.int .i64 79)]) w16 fun t69 w17 =>
           pureK Try.prog (sBin .eql T_int (.tmp 69) (.const (.int .i64 2)) t69 (.int .i64 2)) fun t70 =>
           K t70 w17)
          (K (.bool false) w16))
         (K (.bool false) w13))
        (K (.bool false) w10))
       (K (.bool false) w8))))))
theorem erratalaw45_small.pt_eq : erratalaw45_small.pt = fun  w K => FN Try.prog Try.f8 (bodyOf Try.f8) [0] .leaf [] w K := by kernel_rfl
theorem erratalaw45_small.call {w : World} {K : Value → World → Prop} (h : erratalaw45_small.pt  w K) : Calls Try.prog F_erratalaw45_small #[] w (retK K) :=
  calls_FN (args := []) Try.func8 (by kernel_rfl) (by rw [erratalaw45_small.pt_eq] at h; exact h)
theorem erratalaw45_small.up {w : World} {K : Value → World → Prop} (h : Calls Try.prog F_erratalaw45_small #[] w (retK K)) : upK Try.prog (sCall F_erratalaw45_small #[]) w K :=
  up_call (fn := Try.f8) Try.func8 (by kernel_rfl) (by kernel_rfl) h

/-- errata/erratalaw45.begun -/
def erratalaw45_begun.pt (version0 : Value) (w : World) (K : Value → World → Prop) : Prop :=
  pureK Try.prog (sBuild T_api_Seg #[(0, (.int .i64 0)), (1, version0)]) fun t4 =>
  upK Try.prog (sBuildSlice T_s_api_Seg 1 #[(0, t4)]) w fun t5 w1 =>
  K t5 w1
theorem erratalaw45_begun.pt_eq : erratalaw45_begun.pt = fun version0 w K => FN Try.prog Try.f9 (bodyOf Try.f9) [2] .leaf [version0] w K := by kernel_rfl
theorem erratalaw45_begun.call {version0 : Value} {w : World} {K : Value → World → Prop} (h : erratalaw45_begun.pt version0 w K) : Calls Try.prog F_erratalaw45_begun #[version0] w (retK K) :=
  calls_FN (args := [version0]) Try.func9 (by kernel_rfl) (by rw [erratalaw45_begun.pt_eq] at h; exact h)
theorem erratalaw45_begun.up {version0 : Value} {w : World} {K : Value → World → Prop} (h : Calls Try.prog F_erratalaw45_begun #[version0] w (retK K)) : upK Try.prog (sCall F_erratalaw45_begun #[version0]) w K :=
  up_call (fn := Try.f9) Try.func9 (by kernel_rfl) (by kernel_rfl) h

/-- errata/timeline.Replace -/
def timeline_Replace.pt (l0 from1 version2 : Value) (w : World) (K : Value → World → Prop) : Prop :=
  pureK Try.prog (sBin .lss T_int (.tmp 9) (.const (.int .i64 0)) from1 (.int .i64 0)) fun t10 =>
  ifB t10
  (K (.tuple #[(.slice none 0 0), (.int .i64 3)]) w)
  (pureK Try.prog (sBin .gtr T_int (.tmp 12) (.const (.int .i64 1099511627776)) from1 (.int .i64 1099511627776)) fun t13 =>
   ifB t13
   (K (.tuple #[(.slice none 0 0), (.int .i64 3)]) w)
   (pureK Try.prog (sBin .lss T_int (.tmp 16) (.const (.int .i64 1)) version2 (.int .i64 1)) fun t17 =>
    ifB t17
    (K (.tuple #[(.slice none 0 0), (.int .i64 3)]) w)
    (pureK Try.prog (sBin .gtr T_int (.tmp 20) (.const (.int .i64 50)) version2 (.int .i64 50)) fun t21 =>
     ifB t21
     (K (.tuple #[(.slice none 0 0), (.int .i64 3)]) w)
     (pureK Try.prog (sBin .sub T_int (.tmp 25) (.const (.int .i64 1)) from1 (.int .i64 1)) fun t26 =>
      upK Try.prog (sCall F_timeline_behind #[l0, t26]) w fun t27 w1 =>
      pureK Try.prog (sSlice T_s_api_Seg l0 none (some t27) none) fun t28 =>
      upK Try.prog (sCall F_slices_Clone_s_api_Seg_api_Seg #[t28]) w1 fun t29 w2 =>
      LETJ (X := Value × Unit) (fun y1 w3 =>
       K (.tuple #[y1.1, (.int .i64 0)]) w3)
      (fun J1 =>
       readK Try.prog (sBlt .len #[T_s_api_Seg] T_int #[false] #[t29]) w2 fun t31 =>
       pureK Try.prog (sBin .eql T_int (.tmp 31) (.const (.int .i64 0)) t31 (.int .i64 0)) fun t32 =>
       ifB t32
       (pureK Try.prog (sBuild T_api_Seg #[(0, from1), (1, version2)]) fun t47 =>
        upK Try.prog (sBuildSlice T_s_api_Seg 1 #[(0, t47)]) w2 fun t48 w4 =>
        upK Try.prog (sBlt .append #[T_s_api_Seg, T_s_api_Seg] T_s_api_Seg #[false, false] #[t29, t48]) w4 fun t49 w5 =>
        J1 (t49, ()) w5)
       (readK Try.prog (sBlt .len #[T_s_api_Seg] T_int #[false] #[t29]) w2 fun t36 =>
        pureK Try.prog (sBin .sub T_int (.tmp 36) (.const (.int .i64 1)) t36 (.int .i64 1)) fun t37 =>
        pureK Try.prog (sIdxAddr T_s_api_Seg t29 t37) fun t38 =>
        pureK Try.prog (sFieldAddr T_api_Seg t38 1) fun t39 =>
        readK Try.prog (sLoad T_int t39) w2 fun t40 =>
        pureK Try.prog (sBin .neq T_int (.tmp 40) (.tmp 41) t40 version2) fun t42 =>
        ifB t42
        (pureK Try.prog (sBuild T_api_Seg #[(0, from1), (1, version2)]) fun t47_1 =>
         upK Try.prog (sBuildSlice T_s_api_Seg 1 #[(0, t47_1)]) w2 fun t48_1 w6 =>
         upK Try.prog (sBlt .append #[T_s_api_Seg, T_s_api_Seg] T_s_api_Seg #[false, false] #[t29, t48_1]) w6 fun t49_1 w7 =>
         J1 (t49_1, ()) w7)
        (J1 (t29, ()) w2)))))))
theorem timeline_Replace.pt_eq : timeline_Replace.pt = fun l0 from1 version2 w K => FN Try.prog Try.f10 (bodyOf Try.f10) [6, 7] (.node none .leaf (.node none .leaf (.node none .leaf (.node (some [8]) .leaf .leaf)))) [l0, from1, version2] w K := by kernel_rfl
theorem timeline_Replace.call {l0 from1 version2 : Value} {w : World} {K : Value → World → Prop} (h : timeline_Replace.pt l0 from1 version2 w K) : Calls Try.prog F_timeline_Replace #[l0, from1, version2] w (retK K) :=
  calls_FN (args := [l0, from1, version2]) Try.func10 (by kernel_rfl) (by rw [timeline_Replace.pt_eq] at h; exact h)
theorem timeline_Replace.up {l0 from1 version2 : Value} {w : World} {K : Value → World → Prop} (h : Calls Try.prog F_timeline_Replace #[l0, from1, version2] w (retK K)) : upK Try.prog (sCall F_timeline_Replace #[l0, from1, version2]) w K :=
  up_call (fn := Try.f10) Try.func10 (by kernel_rfl) (by kernel_rfl) h

/-- errata/timeline.Right -/
def timeline_Right.pt (l0 : Value) (w : World) (K : Value → World → Prop) : Prop :=
  readK Try.prog (sBlt .len #[T_s_api_Seg] T_int #[false] #[l0]) w fun t6 =>
  pureK Try.prog (sBin .eql T_int (.tmp 6) (.const (.int .i64 0)) t6 (.int .i64 0)) fun t7 =>
  ifB t7
  (K (.bool false) w)
  (pureK Try.prog (sIdxAddr T_s_api_Seg l0 (.int .i64 0)) fun t10 =>
   pureK Try.prog (sFieldAddr T_api_Seg t10 0) fun t11 =>
   readK Try.prog (sLoad T_int t11) w fun t12 =>
   pureK Try.prog (sBin .neq T_int (.tmp 12) (.const (.int .i64 0)) t12 (.int .i64 0)) fun t13 =>
   ifB t13
   (K (.bool false) w)
   (readK Try.prog (sBlt .len #[T_s_api_Seg] T_int #[false] #[l0]) w fun t16 =>
    LOOP (X := Value × Unit) (fun x1 w1 next1 =>
     pureK Try.prog (sBin .lss T_int (.tmp 17) (.tmp 16) x1.1 t16) fun t18 =>
     ifB t18
     (LETJ (X := Unit) (fun y1 w2 =>
       pureK Try.prog (sBin .add T_int (.tmp 17) (.const (.int .i64 1)) x1.1 (.int .i64 1)) fun t59 =>
       next1 (t59, ()) w2)
      (fun J1 =>
       pureK Try.prog (sIdxAddr T_s_api_Seg l0 x1.1) fun t20 =>
       readK Try.prog (sLoad T_api_Seg t20) w1 fun t21 =>
       upK Try.prog (sAlloc T_api_Seg) w1 fun s4 w3 =>
       upK Try.prog (sStore T_api_Seg s4 t21) w3 fun tu w4 =>
       pureK Try.prog (sFieldAddr T_api_Seg s4 0) fun t22 =>
       readK Try.prog (sLoad T_int t22) w4 fun t23 =>
       pureK Try.prog (sBin .gtr T_int (.tmp 23) (.const (.int .i64 1099511627776)) t23 (.int .i64 1099511627776)) fun t24 =>
       ifB t24
       (K (.bool false) w4)
       (pureK Try.prog (sFieldAddr T_api_Seg s4 1) fun t26 =>
        readK Try.prog (sLoad T_int t26) w4 fun t27 =>
        pureK Try.prog (sBin .lss T_int (.tmp 27) (.const (.int .i64 1)) t27 (.int .i64 1)) fun t28 =>
        ifB t28
        (K (.bool false) w4)
        (pureK Try.prog (sFieldAddr T_api_Seg s4 1) fun t31 =>
         readK Try.prog (sLoad T_int t31) w4 fun t32 =>
         pureK Try.prog (sBin .gtr T_int (.tmp 32) (.const (.int .i64 50)) t32 (.int .i64 50)) fun t33 =>
         ifB t33
         (K (.bool false) w4)
         (pureK Try.prog (sBin .gtr T_int (.tmp 35) (.const (.int .i64 0)) x1.1 (.int .i64 0)) fun t36 =>
          ifB t36
          (pureK Try.prog (sFieldAddr T_api_Seg s4 0) fun t38 =>
           readK Try.prog (sLoad T_int t38) (tick w4) fun t39 =>
           pureK Try.prog (sBin .sub T_int (.tmp 41) (.const (.int .i64 1)) x1.1 (.int .i64 1)) fun t42 =>
           pureK Try.prog (sIdxAddr T_s_api_Seg l0 t42) fun t43 =>
           pureK Try.prog (sFieldAddr T_api_Seg t43 0) fun t44 =>
           readK Try.prog (sLoad T_int t44) (tick w4) fun t45 =>
           pureK Try.prog (sBin .leq T_int (.tmp 39) (.tmp 45) t39 t45) fun t46 =>
           ifB t46
           (K (.bool false) (tick w4))
           (pureK Try.prog (sFieldAddr T_api_Seg s4 1) fun t48 =>
            readK Try.prog (sLoad T_int t48) (tick w4) fun t49 =>
            pureK Try.prog (sBin .sub T_int (.tmp 51) (.const (.int .i64 1)) x1.1 (.int .i64 1)) fun t52 =>
            pureK Try.prog (sIdxAddr T_s_api_Seg l0 t52) fun t53 =>
            pureK Try.prog (sFieldAddr T_api_Seg t53 1) fun t54 =>
            readK Try.prog (sLoad T_int t54) (tick w4) fun t55 =>
            pureK Try.prog (sBin .eql T_int (.tmp 49) (.tmp 55) t49 t55) fun t56 =>
            ifB t56
            (K (.bool false) (tick w4))
            (J1 (()) (tick w4))))
          (J1 (()) (tick w4)))))))
     (K (.bool true) w1))
    ((.int .i64 0), ()) w))
theorem timeline_Right.pt_eq : timeline_Right.pt = fun l0 w K => FN Try.prog Try.f11 (bodyOf Try.f11) [2] (.node none .leaf (.node none .leaf (.node none (.node none .leaf (.node none (.node none (.node none .leaf (.node none .leaf (.node (some []) .leaf .leaf))) .leaf) .leaf)) .leaf))) [l0] w K := by kernel_rfl
theorem timeline_Right.call {l0 : Value} {w : World} {K : Value → World → Prop} (h : timeline_Right.pt l0 w K) : Calls Try.prog F_timeline_Right #[l0] w (retK K) :=
  calls_FN (args := [l0]) Try.func11 (by kernel_rfl) (by rw [timeline_Right.pt_eq] at h; exact h)
theorem timeline_Right.up {l0 : Value} {w : World} {K : Value → World → Prop} (h : Calls Try.prog F_timeline_Right #[l0] w (retK K)) : upK Try.prog (sCall F_timeline_Right #[l0]) w K :=
  up_call (fn := Try.f11) Try.func11 (by kernel_rfl) (by kernel_rfl) h

/-- errata/timeline.At -/
def timeline_At.pt (l0 time1 : Value) (w : World) (K : Value → World → Prop) : Prop :=
  upK Try.prog (sCall F_timeline_behind #[l0, time1]) w fun t8 w1 =>
  pureK Try.prog (sBlt .max #[T_int, T_int] T_int #[false, true] #[t8, (.int .i64 1)]) fun t9 =>
  pureK Try.prog (sBin .sub T_int (.tmp 9) (.const (.int .i64 1)) t9 (.int .i64 1)) fun t10 =>
  pureK Try.prog (sIdxAddr T_s_api_Seg l0 t10) fun t11 =>
  pureK Try.prog (sFieldAddr T_api_Seg t11 1) fun t12 =>
  readK Try.prog (sLoad T_int t12) w1 fun t13 =>
  K t13 w1
theorem timeline_At.pt_eq : timeline_At.pt = fun l0 time1 w K => FN Try.prog Try.f12 (bodyOf Try.f12) [4] .leaf [l0, time1] w K := by kernel_rfl
theorem timeline_At.call {l0 time1 : Value} {w : World} {K : Value → World → Prop} (h : timeline_At.pt l0 time1 w K) : Calls Try.prog F_timeline_At #[l0, time1] w (retK K) :=
  calls_FN (args := [l0, time1]) Try.func12 (by kernel_rfl) (by rw [timeline_At.pt_eq] at h; exact h)
theorem timeline_At.up {l0 time1 : Value} {w : World} {K : Value → World → Prop} (h : Calls Try.prog F_timeline_At #[l0, time1] w (retK K)) : upK Try.prog (sCall F_timeline_At #[l0, time1]) w K :=
  up_call (fn := Try.f12) Try.func12 (by kernel_rfl) (by kernel_rfl) h

/-- errata/timeline.Same -/
def timeline_Same.pt (a0 b1 : Value) (w : World) (K : Value → World → Prop) : Prop :=
  upK Try.prog (sCall F_slices_Equal_s_api_Seg_api_Seg #[a0, b1]) w fun t7 w1 =>
  K t7 w1
theorem timeline_Same.pt_eq : timeline_Same.pt = fun a0 b1 w K => FN Try.prog Try.f13 (bodyOf Try.f13) [4] .leaf [a0, b1] w K := by kernel_rfl
theorem timeline_Same.call {a0 b1 : Value} {w : World} {K : Value → World → Prop} (h : timeline_Same.pt a0 b1 w K) : Calls Try.prog F_timeline_Same #[a0, b1] w (retK K) :=
  calls_FN (args := [a0, b1]) Try.func13 (by kernel_rfl) (by rw [timeline_Same.pt_eq] at h; exact h)
theorem timeline_Same.up {a0 b1 : Value} {w : World} {K : Value → World → Prop} (h : Calls Try.prog F_timeline_Same #[a0, b1] w (retK K)) : upK Try.prog (sCall F_timeline_Same #[a0, b1]) w K :=
  up_call (fn := Try.f13) Try.func13 (by kernel_rfl) (by kernel_rfl) h

/-- errata/timeline.Open -/
def timeline_Open.pt (l0 closed1 : Value) (w : World) (K : Value → World → Prop) : Prop :=
  pureK Try.prog (sBlt .min #[T_int, T_int] T_int #[false, true] #[closed1, (.int .i64 1099511627776)]) fun t6 =>
  pureK Try.prog (sBin .add T_int (.tmp 9) (.const (.int .i64 1)) t6 (.int .i64 1)) fun t10 =>
  upK Try.prog (sCall F_timeline_behind #[l0, t10]) w fun t11 w1 =>
  pureK Try.prog (sBlt .max #[T_int, T_int] T_int #[false, true] #[t11, (.int .i64 1)]) fun t12 =>
  pureK Try.prog (sBin .sub T_int (.tmp 12) (.const (.int .i64 1)) t12 (.int .i64 1)) fun t13 =>
  pureK Try.prog (sSlice T_s_api_Seg l0 (some t13) none none) fun t14 =>
  upK Try.prog (sCall F_timeline_versions #[t14]) w1 fun t15 w2 =>
  K t15 w2
theorem timeline_Open.pt_eq : timeline_Open.pt = fun l0 closed1 w K => FN Try.prog Try.f14 (bodyOf Try.f14) [4] .leaf [l0, closed1] w K := by kernel_rfl
theorem timeline_Open.call {l0 closed1 : Value} {w : World} {K : Value → World → Prop} (h : timeline_Open.pt l0 closed1 w K) : Calls Try.prog F_timeline_Open #[l0, closed1] w (retK K) :=
  calls_FN (args := [l0, closed1]) Try.func14 (by kernel_rfl) (by rw [timeline_Open.pt_eq] at h; exact h)
theorem timeline_Open.up {l0 closed1 : Value} {w : World} {K : Value → World → Prop} (h : Calls Try.prog F_timeline_Open #[l0, closed1] w (retK K)) : upK Try.prog (sCall F_timeline_Open #[l0, closed1]) w K :=
  up_call (fn := Try.f14) Try.func14 (by kernel_rfl) (by kernel_rfl) h

/-- errata/erratalaw45.few -/
def erratalaw45_few.pt (l0 d1 : Value) (w : World) (K : Value → World → Prop) : Prop :=
  LOOP (X := Value × Unit) (fun x1 w1 next1 =>
   readK Try.prog (sBlt .len #[T_s_api_Delta] T_int #[false] #[d1]) w1 fun t8 =>
   pureK Try.prog (sBin .lss T_int (.tmp 6) (.tmp 8) x1.1 t8) fun t9 =>
   ifB t9
   (pureK Try.prog (sIdxAddr T_s_api_Delta d1 x1.1) fun t14 =>
    pureK Try.prog (sFieldAddr T_api_Delta t14 1) fun t15 =>
    readK Try.prog (sLoad T_s_api_Value t15) w1 fun t16 =>
    readK Try.prog (sBlt .len #[T_s_api_Value] T_int #[false] #[t16]) w1 fun t17 =>
    pureK Try.prog (sBin .gtr T_int (.tmp 17) (.const (.int .i64 15)) t17 (.int .i64 15)) fun t18 =>
    ifB t18
    (K (.bool false) w1)
    (pureK Try.prog (sBin .add T_int (.tmp 10) (.const (.int .i64 1)) x1.1 (.int .i64 1)) fun t11 =>
     next1 (t11, ()) w1))
   (readK Try.prog (sBlt .len #[T_s_api_Seg] T_int #[false] #[l0]) w1 fun t20 =>
    pureK Try.prog (sBin .leq T_int (.tmp 20) (.const (.int .i64 60)) t20 (.int .i64 60)) fun t21 =>
    ifB t21
    (readK Try.prog (sBlt .len #[T_s_api_Delta] T_int #[false] #[d1]) w1 fun t24 =>
     pureK Try.prog (sBin .leq T_int (.tmp 24) (.const (.int .i64 60)) t24 (.int .i64 60)) fun t25 =>
     K t25 w1)
    (K (.bool false) w1)))
  ((.int .i64 0), ()) w
theorem erratalaw45_few.pt_eq : erratalaw45_few.pt = fun l0 d1 w K => FN Try.prog Try.f15 (bodyOf Try.f15) [4] .leaf [l0, d1] w K := by kernel_rfl
theorem erratalaw45_few.call {l0 d1 : Value} {w : World} {K : Value → World → Prop} (h : erratalaw45_few.pt l0 d1 w K) : Calls Try.prog F_erratalaw45_few #[l0, d1] w (retK K) :=
  calls_FN (args := [l0, d1]) Try.func15 (by kernel_rfl) (by rw [erratalaw45_few.pt_eq] at h; exact h)
theorem erratalaw45_few.up {l0 d1 : Value} {w : World} {K : Value → World → Prop} (h : Calls Try.prog F_erratalaw45_few #[l0, d1] w (retK K)) : upK Try.prog (sCall F_erratalaw45_few #[l0, d1]) w K :=
  up_call (fn := Try.f15) Try.func15 (by kernel_rfl) (by kernel_rfl) h

/-- errata/errataref45.Right -/
def errataref45_Right.pt (l0 : Value) (w : World) (K : Value → World → Prop) : Prop :=
  readK Try.prog (sBlt .len #[T_s_api_Seg] T_int #[false] #[l0]) w fun t7 =>
  pureK Try.prog (sBin .eql T_int (.tmp 7) (.const (.int .i64 0)) t7 (.int .i64 0)) fun t8 =>
  ifB t8
  (K (.bool false) w)
  (pureK Try.prog (sBuild T_api_Seg #[(0, (.int .i64 (-1)))]) fun t9 =>
   upK Try.prog (sAlloc T_api_Seg) w fun before3 w1 =>
   upK Try.prog (sStore T_api_Seg before3 t9) w1 fun tu w2 =>
   LOOP (X := Value × Unit) (fun x3 w3 next3 =>
    readK Try.prog (sBlt .len #[T_s_api_Seg] T_int #[false] #[l0]) w3 fun t12 =>
    pureK Try.prog (sBin .lss T_int (.tmp 10) (.tmp 12) x3.1 t12) fun t13 =>
    ifB t13
    (pureK Try.prog (sIdxAddr T_s_api_Seg l0 x3.1) fun t18 =>
     readK Try.prog (sLoad T_api_Seg t18) w3 fun t19 =>
     upK Try.prog (sAlloc T_api_Seg) w3 fun s5 w4 =>
     upK Try.prog (sStore T_api_Seg s5 t19) w4 fun tu_1 w5 =>
     pureK Try.prog (sFieldAddr T_api_Seg s5 0) fun t20 =>
     readK Try.prog (sLoad T_int t20) w5 fun t21 =>
     pureK Try.prog (sFieldAddr T_api_Seg before3 0) fun t22 =>
     readK Try.prog (sLoad T_int t22) w5 fun t23 =>
     pureK Try.prog (sBin .leq T_int (.tmp 21) (.tmp 23) t21 t23) fun t24 =>
     ifB t24
     (K (.bool false) w5)
     (pureK Try.prog (sFieldAddr T_api_Seg s5 0) fun t26 =>
      readK Try.prog (sLoad T_int t26) w5 fun t27 =>
      pureK Try.prog (sBin .gtr T_int (.tmp 27) (.const (.int .i64 1099511627776)) t27 (.int .i64 1099511627776)) fun t28 =>
      ifB t28
      (K (.bool false) w5)
      (pureK Try.prog (sFieldAddr T_api_Seg s5 1) fun t31 =>
       readK Try.prog (sLoad T_int t31) w5 fun t32 =>
       pureK Try.prog (sBin .lss T_int (.tmp 32) (.const (.int .i64 1)) t32 (.int .i64 1)) fun t33 =>
       ifB t33
       (K (.bool false) w5)
       (pureK Try.prog (sFieldAddr T_api_Seg s5 1) fun t36 =>
        readK Try.prog (sLoad T_int t36) w5 fun t37 =>
        pureK Try.prog (sBin .gtr T_int (.tmp 37) (.const (.int .i64 50)) t37 (.int .i64 50)) fun t38 =>
        ifB t38
        (K (.bool false) w5)
        (pureK Try.prog (sFieldAddr T_api_Seg s5 1) fun t41 =>
         readK Try.prog (sLoad T_int t41) w5 fun t42 =>
         pureK Try.prog (sFieldAddr T_api_Seg before3 1) fun t43 =>
         readK Try.prog (sLoad T_int t43) w5 fun t44 =>
         pureK Try.prog (sBin .eql T_int (.tmp 42) (.tmp 44) t42 t44) fun t45 =>
         ifB t45
         (K (.bool false) w5)
         (readK Try.prog (sLoad T_api_Seg s5) w5 fun t47 =>
          upK Try.prog (sStore T_api_Seg before3 t47) w5 fun tu_2 w6 =>
          pureK Try.prog (sBin .add T_int (.tmp 14) (.const (.int .i64 1)) x3.1 (.int .i64 1)) fun t15 =>
          next3 (t15, ()) w6))))))
    (pureK Try.prog (sIdxAddr T_s_api_Seg l0 (.int .i64 0)) fun t49 =>
     pureK Try.prog (sFieldAddr T_api_Seg t49 0) fun t50 =>
     readK Try.prog (sLoad T_int t50) w3 fun t51 =>
     pureK Try.prog (sBin .eql T_int (.tmp 51) (.const (.int .i64 0)) t51 (.int .i64 0)) fun t52 =>
     K t52 w3))
   ((.int .i64 0), ()) w2)
theorem errataref45_Right.pt_eq : errataref45_Right.pt = fun l0 w K => FN Try.prog Try.f16 (bodyOf Try.f16) [2] .leaf [l0] w K := by kernel_rfl
theorem errataref45_Right.call {l0 : Value} {w : World} {K : Value → World → Prop} (h : errataref45_Right.pt l0 w K) : Calls Try.prog F_errataref45_Right #[l0] w (retK K) :=
  calls_FN (args := [l0]) Try.func16 (by kernel_rfl) (by rw [errataref45_Right.pt_eq] at h; exact h)
theorem errataref45_Right.up {l0 : Value} {w : World} {K : Value → World → Prop} (h : Calls Try.prog F_errataref45_Right #[l0] w (retK K)) : upK Try.prog (sCall F_errataref45_Right #[l0]) w K :=
  up_call (fn := Try.f16) Try.func16 (by kernel_rfl) (by kernel_rfl) h

/-- errata/errataref45.Same -/
def errataref45_Same.pt (a0 b1 : Value) (w : World) (K : Value → World → Prop) : Prop :=
  readK Try.prog (sBlt .len #[T_s_api_Seg] T_int #[false] #[a0]) w fun t7 =>
  readK Try.prog (sBlt .len #[T_s_api_Seg] T_int #[false] #[b1]) w fun t9 =>
  pureK Try.prog (sBin .neq T_int (.tmp 7) (.tmp 9) t7 t9) fun t10 =>
  ifB t10
  (K (.bool false) w)
  (LOOP (X := Value × Unit) (fun x1 w1 next1 =>
    readK Try.prog (sBlt .len #[T_s_api_Seg] T_int #[false] #[a0]) w1 fun t13 =>
    pureK Try.prog (sBin .lss T_int (.tmp 11) (.tmp 13) x1.1 t13) fun t14 =>
    ifB t14
    (pureK Try.prog (sIdxAddr T_s_api_Seg a0 x1.1) fun t19 =>
     readK Try.prog (sLoad T_api_Seg t19) (tick w1) fun t20 =>
     pureK Try.prog (sIdxAddr T_s_api_Seg b1 x1.1) fun t23 =>
     readK Try.prog (sLoad T_api_Seg t23) (tick w1) fun t24 =>
     pureK Try.prog (sBin .neq T_api_Seg (.tmp 20) (.tmp 24) t20 t24) fun t25 =>
     ifB t25
     (K (.bool false) (tick w1))
     (pureK Try.prog (sBin .add T_int (.tmp 15) (.const (.int .i64 1)) x1.1 (.int .i64 1)) fun t16 =>
      next1 (t16, ()) (tick w1)))
    (K (.bool true) w1))
   ((.int .i64 0), ()) w)
theorem errataref45_Same.pt_eq : errataref45_Same.pt = fun a0 b1 w K => FN Try.prog Try.f17 (bodyOf Try.f17) [4] .leaf [a0, b1] w K := by kernel_rfl
theorem errataref45_Same.call {a0 b1 : Value} {w : World} {K : Value → World → Prop} (h : errataref45_Same.pt a0 b1 w K) : Calls Try.prog F_errataref45_Same #[a0, b1] w (retK K) :=
  calls_FN (args := [a0, b1]) Try.func17 (by kernel_rfl) (by rw [errataref45_Same.pt_eq] at h; exact h)
theorem errataref45_Same.up {a0 b1 : Value} {w : World} {K : Value → World → Prop} (h : Calls Try.prog F_errataref45_Same #[a0, b1] w (retK K)) : upK Try.prog (sCall F_errataref45_Same #[a0, b1]) w K :=
  up_call (fn := Try.f17) Try.func17 (by kernel_rfl) (by kernel_rfl) h

/-- errata/errataref45.Replace -/
def errataref45_Replace.pt (l0 from1 version2 : Value) (w : World) (K : Value → World → Prop) : Prop :=
  pureK Try.prog (sBin .lss T_int (.tmp 11) (.const (.int .i64 0)) from1 (.int .i64 0)) fun t12 =>
  ifB t12
  (K (.tuple #[(.slice none 0 0), (.int .i64 3)]) w)
  (pureK Try.prog (sBin .gtr T_int (.tmp 14) (.const (.int .i64 1099511627776)) from1 (.int .i64 1099511627776)) fun t15 =>
   ifB t15
   (K (.tuple #[(.slice none 0 0), (.int .i64 3)]) w)
   (pureK Try.prog (sBin .lss T_int (.tmp 18) (.const (.int .i64 1)) version2 (.int .i64 1)) fun t19 =>
    ifB t19
    (K (.tuple #[(.slice none 0 0), (.int .i64 3)]) w)
    (pureK Try.prog (sBin .gtr T_int (.tmp 22) (.const (.int .i64 50)) version2 (.int .i64 50)) fun t23 =>
     ifB t23
     (K (.tuple #[(.slice none 0 0), (.int .i64 3)]) w)
     (LOOP (X := Value × Value × Value × Unit) (fun x1 w1 next1 =>
       readK Try.prog (sBlt .len #[T_s_api_Seg] T_int #[false] #[l0]) w1 fun t27 =>
       pureK Try.prog (sBin .lss T_int (.tmp 25) (.tmp 27) x1.2.2.1 t27) fun t28 =>
       ifB t28
       (LETJ (X := Value × Value × Unit) (fun y1 w2 =>
         pureK Try.prog (sBin .add T_int (.tmp 29) (.const (.int .i64 1)) x1.2.2.1 (.int .i64 1)) fun t30 =>
         next1 (y1.1, y1.2.1, t30, ()) w2)
        (fun J1 =>
         pureK Try.prog (sIdxAddr T_s_api_Seg l0 x1.2.2.1) fun t33 =>
         pureK Try.prog (sFieldAddr T_api_Seg t33 0) fun t34 =>
         readK Try.prog (sLoad T_int t34) w1 fun t35 =>
         pureK Try.prog (sBin .lss T_int (.tmp 35) (.tmp 36) t35 from1) fun t37 =>
         ifB t37
         (pureK Try.prog (sIdxAddr T_s_api_Seg l0 x1.2.2.1) fun t41 =>
          readK Try.prog (sLoad T_api_Seg t41) w1 fun t42 =>
          upK Try.prog (sBuildSlice T_s_api_Seg 1 #[(0, t42)]) w1 fun t43 w3 =>
          upK Try.prog (sBlt .append #[T_s_api_Seg, T_s_api_Seg] T_s_api_Seg #[false, false] #[x1.1, t43]) w3 fun t44 w4 =>
          pureK Try.prog (sIdxAddr T_s_api_Seg l0 x1.2.2.1) fun t47 =>
          pureK Try.prog (sFieldAddr T_api_Seg t47 1) fun t48 =>
          readK Try.prog (sLoad T_int t48) w4 fun t49 =>
          J1 (t44, t49, ()) w4)
         (J1 (x1.1, x1.2.1, ()) w1)))
       (LETJ (X := Value × Unit) (fun y2 w5 =>
         K (.tuple #[y2.1, (.int .i64 0)]) w5)
        (fun J2 =>
         pureK Try.prog (sBin .neq T_int (.tmp 50) (.tmp 51) x1.2.1 version2) fun t52 =>
         ifB t52
         (pureK Try.prog (sBuild T_api_Seg #[(0, from1), (1, version2)]) fun t56 =>
          upK Try.prog (sBuildSlice T_s_api_Seg 1 #[(0, t56)]) w1 fun t57 w6 =>
          upK Try.prog (sBlt .append #[T_s_api_Seg, T_s_api_Seg] T_s_api_Seg #[false, false] #[x1.1, t57]) w6 fun t58 w7 =>
          J2 (t58, ()) w7)
         (J2 (x1.1, ()) w1))))
      ((.slice none 0 0), (.int .i64 0), (.int .i64 0), ()) w))))
theorem errataref45_Replace.pt_eq : errataref45_Replace.pt = fun l0 from1 version2 w K => FN Try.prog Try.f18 (bodyOf Try.f18) [6, 7] (.node none .leaf (.node none .leaf (.node none .leaf (.node none .leaf (.node none (.node none .leaf (.node none (.node none (.node none .leaf (.node (some [8, 9]) .leaf .leaf)) .leaf) .leaf)) (.node (some [8]) .leaf .leaf)))))) [l0, from1, version2] w K := by kernel_rfl
theorem errataref45_Replace.call {l0 from1 version2 : Value} {w : World} {K : Value → World → Prop} (h : errataref45_Replace.pt l0 from1 version2 w K) : Calls Try.prog F_errataref45_Replace #[l0, from1, version2] w (retK K) :=
  calls_FN (args := [l0, from1, version2]) Try.func18 (by kernel_rfl) (by rw [errataref45_Replace.pt_eq] at h; exact h)
theorem errataref45_Replace.up {l0 from1 version2 : Value} {w : World} {K : Value → World → Prop} (h : Calls Try.prog F_errataref45_Replace #[l0, from1, version2] w (retK K)) : upK Try.prog (sCall F_errataref45_Replace #[l0, from1, version2]) w K :=
  up_call (fn := Try.f18) Try.func18 (by kernel_rfl) (by kernel_rfl) h

/-- errata/errataref45.At -/
def errataref45_At.pt (l0 time1 : Value) (w : World) (K : Value → World → Prop) : Prop :=
  pureK Try.prog (sIdxAddr T_s_api_Seg l0 (.int .i64 0)) fun t8 =>
  pureK Try.prog (sFieldAddr T_api_Seg t8 1) fun t9 =>
  readK Try.prog (sLoad T_int t9) w fun t10 =>
  LOOP (X := Value × Value × Unit) (fun x1 w1 next1 =>
   readK Try.prog (sBlt .len #[T_s_api_Seg] T_int #[false] #[l0]) w1 fun t13 =>
   pureK Try.prog (sBin .lss T_int (.tmp 11) (.tmp 13) x1.2.1 t13) fun t14 =>
   ifB t14
   (LETJ (X := Value × Unit) (fun y1 w2 =>
     pureK Try.prog (sBin .add T_int (.tmp 15) (.const (.int .i64 1)) x1.2.1 (.int .i64 1)) fun t16 =>
     next1 (y1.1, t16, ()) w2)
    (fun J1 =>
     pureK Try.prog (sIdxAddr T_s_api_Seg l0 x1.2.1) fun t19 =>
     pureK Try.prog (sFieldAddr T_api_Seg t19 0) fun t20 =>
     readK Try.prog (sLoad T_int t20) w1 fun t21 =>
     pureK Try.prog (sBin .leq T_int (.tmp 21) (.tmp 22) t21 time1) fun t23 =>
     ifB t23
     (pureK Try.prog (sIdxAddr T_s_api_Seg l0 x1.2.1) fun t26 =>
      pureK Try.prog (sFieldAddr T_api_Seg t26 1) fun t27 =>
      readK Try.prog (sLoad T_int t27) w1 fun t28 =>
      J1 (t28, ()) w1)
     (J1 (x1.1, ()) w1)))
   (K x1.1 w1))
  (t10, (.int .i64 0), ()) w
theorem errataref45_At.pt_eq : errataref45_At.pt = fun l0 time1 w K => FN Try.prog Try.f19 (bodyOf Try.f19) [4] (.node none .leaf (.node none .leaf (.node none (.node none .leaf (.node none (.node none (.node none .leaf (.node (some [5]) .leaf .leaf)) .leaf) .leaf)) .leaf))) [l0, time1] w K := by kernel_rfl
theorem errataref45_At.call {l0 time1 : Value} {w : World} {K : Value → World → Prop} (h : errataref45_At.pt l0 time1 w K) : Calls Try.prog F_errataref45_At #[l0, time1] w (retK K) :=
  calls_FN (args := [l0, time1]) Try.func19 (by kernel_rfl) (by rw [errataref45_At.pt_eq] at h; exact h)
theorem errataref45_At.up {l0 time1 : Value} {w : World} {K : Value → World → Prop} (h : Calls Try.prog F_errataref45_At #[l0, time1] w (retK K)) : upK Try.prog (sCall F_errataref45_At #[l0, time1]) w K :=
  up_call (fn := Try.f19) Try.func19 (by kernel_rfl) (by kernel_rfl) h

/-- errata/errataref45.SameInts -/
def errataref45_SameInts.pt (a0 b1 : Value) (w : World) (K : Value → World → Prop) : Prop :=
  readK Try.prog (sBlt .len #[T_s_int] T_int #[false] #[a0]) w fun t7 =>
  readK Try.prog (sBlt .len #[T_s_int] T_int #[false] #[b1]) w fun t9 =>
  pureK Try.prog (sBin .neq T_int (.tmp 7) (.tmp 9) t7 t9) fun t10 =>
  ifB t10
  (K (.bool false) w)
  (LOOP (X := Value × Unit) (fun x1 w1 next1 =>
    readK Try.prog (sBlt .len #[T_s_int] T_int #[false] #[a0]) w1 fun t13 =>
    pureK Try.prog (sBin .lss T_int (.tmp 11) (.tmp 13) x1.1 t13) fun t14 =>
    ifB t14
    (pureK Try.prog (sIdxAddr T_s_int a0 x1.1) fun t19 =>
     readK Try.prog (sLoad T_int t19) (tick w1) fun t20 =>
     pureK Try.prog (sIdxAddr T_s_int b1 x1.1) fun t23 =>
     readK Try.prog (sLoad T_int t23) (tick w1) fun t24 =>
     pureK Try.prog (sBin .neq T_int (.tmp 20) (.tmp 24) t20 t24) fun t25 =>
     ifB t25
     (K (.bool false) (tick w1))
     (pureK Try.prog (sBin .add T_int (.tmp 15) (.const (.int .i64 1)) x1.1 (.int .i64 1)) fun t16 =>
      next1 (t16, ()) (tick w1)))
    (K (.bool true) w1))
   ((.int .i64 0), ()) w)
theorem errataref45_SameInts.pt_eq : errataref45_SameInts.pt = fun a0 b1 w K => FN Try.prog Try.f20 (bodyOf Try.f20) [4] .leaf [a0, b1] w K := by kernel_rfl
theorem errataref45_SameInts.call {a0 b1 : Value} {w : World} {K : Value → World → Prop} (h : errataref45_SameInts.pt a0 b1 w K) : Calls Try.prog F_errataref45_SameInts #[a0, b1] w (retK K) :=
  calls_FN (args := [a0, b1]) Try.func20 (by kernel_rfl) (by rw [errataref45_SameInts.pt_eq] at h; exact h)
theorem errataref45_SameInts.up {a0 b1 : Value} {w : World} {K : Value → World → Prop} (h : Calls Try.prog F_errataref45_SameInts #[a0, b1] w (retK K)) : upK Try.prog (sCall F_errataref45_SameInts #[a0, b1]) w K :=
  up_call (fn := Try.f20) Try.func20 (by kernel_rfl) (by kernel_rfl) h

/-- errata/timeline.Versions -/
def timeline_Versions.pt (l0 : Value) (w : World) (K : Value → World → Prop) : Prop :=
  upK Try.prog (sCall F_timeline_versions #[l0]) w fun t4 w1 =>
  K t4 w1
theorem timeline_Versions.pt_eq : timeline_Versions.pt = fun l0 w K => FN Try.prog Try.f21 (bodyOf Try.f21) [2] .leaf [l0] w K := by kernel_rfl
theorem timeline_Versions.call {l0 : Value} {w : World} {K : Value → World → Prop} (h : timeline_Versions.pt l0 w K) : Calls Try.prog F_timeline_Versions #[l0] w (retK K) :=
  calls_FN (args := [l0]) Try.func21 (by kernel_rfl) (by rw [timeline_Versions.pt_eq] at h; exact h)
theorem timeline_Versions.up {l0 : Value} {w : World} {K : Value → World → Prop} (h : Calls Try.prog F_timeline_Versions #[l0] w (retK K)) : upK Try.prog (sCall F_timeline_Versions #[l0]) w K :=
  up_call (fn := Try.f21) Try.func21 (by kernel_rfl) (by kernel_rfl) h

/-- errata/errataref45.Versions -/
def errataref45_Versions.pt (l0 closed1 : Value) (w : World) (K : Value → World → Prop) : Prop :=
  LOOP (X := Value × Value × Unit) (fun x1 w1 next1 =>
   pureK Try.prog (sBin .leq T_int (.tmp 10) (.const (.int .i64 50)) x1.2.1 (.int .i64 50)) fun t11 =>
   ifB t11
   (LETJ (X := Value × Unit) (fun y1 w2 =>
     pureK Try.prog (sBin .add T_int (.tmp 12) (.const (.int .i64 1)) x1.2.1 (.int .i64 1)) fun t13 =>
     next1 (y1.1, t13, ()) w2)
    (fun J1 =>
     LOOP (X := Value × Value × Unit) (fun x3 w3 next3 =>
      readK Try.prog (sBlt .len #[T_s_api_Seg] T_int #[false] #[l0]) w3 fun t16 =>
      pureK Try.prog (sBin .lss T_int (.tmp 14) (.tmp 16) x3.2.1 t16) fun t17 =>
      ifB t17
      (LETJ (X := Value × Unit) (fun y2 w4 =>
        pureK Try.prog (sBin .add T_int (.tmp 18) (.const (.int .i64 1)) x3.2.1 (.int .i64 1)) fun t19 =>
        next3 (y2.1, t19, ()) w4)
       (fun J2 =>
        readK Try.prog (sBlt .len #[T_s_api_Seg] T_int #[false] #[l0]) w3 fun t22 =>
        pureK Try.prog (sBin .sub T_int (.tmp 22) (.const (.int .i64 1)) t22 (.int .i64 1)) fun t23 =>
        pureK Try.prog (sBin .eql T_int (.tmp 20) (.tmp 23) x3.2.1 t23) fun t24 =>
        ifB x3.1
        (J2 ((.bool true), ()) w3)
        (pureK Try.prog (sIdxAddr T_s_api_Seg l0 x3.2.1) fun t29 =>
         pureK Try.prog (sFieldAddr T_api_Seg t29 1) fun t30 =>
         readK Try.prog (sLoad T_int t30) w3 fun t31 =>
         pureK Try.prog (sBin .eql T_int (.tmp 31) (.tmp 32) t31 x1.2.1) fun t33 =>
         ifB t33
         (ifB t24
          (J2 ((.bool true), ()) w3)
          (upK Try.prog (sCall F_errataref45_end #[l0, x3.2.1]) w3 fun t39 w5 =>
           pureK Try.prog (sBin .sub T_int (.tmp 39) (.const (.int .i64 1)) t39 (.int .i64 1)) fun t40 =>
           pureK Try.prog (sBin .gtr T_int (.tmp 40) (.tmp 41) t40 closed1) fun t42 =>
           J2 (t42, ()) w5))
         (J2 ((.bool false), ()) w3))))
      (ifB x3.1
       (upK Try.prog (sBuildSlice T_s_int 1 #[(0, x1.2.1)]) w3 fun t49 w6 =>
        upK Try.prog (sBlt .append #[T_s_int, T_s_int] T_s_int #[false, false] #[x1.1, t49]) w6 fun t50 w7 =>
        J1 (t50, ()) w7)
       (J1 (x1.1, ()) w3)))
     ((.bool false), (.int .i64 0), ()) w1))
   (K x1.1 w1))
  ((.slice none 0 0), (.int .i64 1), ()) w
theorem errataref45_Versions.pt_eq : errataref45_Versions.pt = fun l0 closed1 w K => FN Try.prog Try.f22 (bodyOf Try.f22) [4] (.node none .leaf (.node none .leaf (.node none (.node none .leaf (.node none (.node none (.node none .leaf (.node (some [5]) (.node none (.node none .leaf (.node none (.node none .leaf (.node none (.node none (.node none .leaf (.node (some [7]) .leaf .leaf)) .leaf) .leaf)) .leaf)) .leaf) .leaf)) .leaf) .leaf)) .leaf))) [l0, closed1] w K := by kernel_rfl
theorem errataref45_Versions.call {l0 closed1 : Value} {w : World} {K : Value → World → Prop} (h : errataref45_Versions.pt l0 closed1 w K) : Calls Try.prog F_errataref45_Versions #[l0, closed1] w (retK K) :=
  calls_FN (args := [l0, closed1]) Try.func22 (by kernel_rfl) (by rw [errataref45_Versions.pt_eq] at h; exact h)
theorem errataref45_Versions.up {l0 closed1 : Value} {w : World} {K : Value → World → Prop} (h : Calls Try.prog F_errataref45_Versions #[l0, closed1] w (retK K)) : upK Try.prog (sCall F_errataref45_Versions #[l0, closed1]) w K :=
  up_call (fn := Try.f22) Try.func22 (by kernel_rfl) (by kernel_rfl) h

/-- errata/timeline.Spans -/
def timeline_Spans.pt (l0 version1 : Value) (w : World) (K : Value → World → Prop) : Prop :=
  readK Try.prog (sBlt .len #[T_s_api_Seg] T_int #[false] #[l0]) w fun t10 =>
  LOOP (X := Value × Value × Unit) (fun x1 w1 next1 =>
   pureK Try.prog (sBin .lss T_int (.tmp 11) (.tmp 10) x1.2.1 t10) fun t12 =>
   ifB t12
   (LETJ (X := Value × Unit) (fun y1 w2 =>
     pureK Try.prog (sBin .add T_int (.tmp 11) (.const (.int .i64 1)) x1.2.1 (.int .i64 1)) fun t38 =>
     next1 (y1.1, t38, ()) w2)
    (fun J1 =>
     pureK Try.prog (sIdxAddr T_s_api_Seg l0 x1.2.1) fun t14 =>
     readK Try.prog (sLoad T_api_Seg t14) w1 fun t15 =>
     upK Try.prog (sAlloc T_api_Seg) w1 fun s7 w3 =>
     upK Try.prog (sStore T_api_Seg s7 t15) w3 fun tu w4 =>
     LETJ (X := Value × Unit) (fun y2 w5 =>
      pureK Try.prog (sFieldAddr T_api_Seg s7 1) fun t27 =>
      readK Try.prog (sLoad T_int t27) w5 fun t28 =>
      pureK Try.prog (sBin .eql T_int (.tmp 28) (.tmp 29) t28 version1) fun t30 =>
      ifB t30
      (pureK Try.prog (sFieldAddr T_api_Seg s7 0) fun t32 =>
       readK Try.prog (sLoad T_int t32) w5 fun t33 =>
       pureK Try.prog (sBuild T_api_Seg #[(0, t33), (1, y2.1)]) fun t35 =>
       upK Try.prog (sBuildSlice T_s_api_Seg 1 #[(0, t35)]) w5 fun t36 w6 =>
       upK Try.prog (sBlt .append #[T_s_api_Seg, T_s_api_Seg] T_s_api_Seg #[false, false] #[x1.1, t36]) w6 fun t37 w7 =>
       J1 (t37, ()) w7)
      (J1 (x1.1, ()) w5))
     (fun J2 =>
      pureK Try.prog (sBin .add T_int (.tmp 16) (.const (.int .i64 1)) x1.2.1 (.int .i64 1)) fun t17 =>
      readK Try.prog (sBlt .len #[T_s_api_Seg] T_int #[false] #[l0]) w4 fun t19 =>
      pureK Try.prog (sBin .lss T_int (.tmp 17) (.tmp 19) t17 t19) fun t20 =>
      ifB t20
      (pureK Try.prog (sBin .add T_int (.tmp 22) (.const (.int .i64 1)) x1.2.1 (.int .i64 1)) fun t23 =>
       pureK Try.prog (sIdxAddr T_s_api_Seg l0 t23) fun t24 =>
       pureK Try.prog (sFieldAddr T_api_Seg t24 0) fun t25 =>
       readK Try.prog (sLoad T_int t25) w4 fun t26 =>
       J2 (t26, ()) w4)
      (J2 ((.int .i64 1099511627777), ()) w4))))
   (K x1.1 w1))
  ((.slice none 0 0), (.int .i64 0), ()) w
theorem timeline_Spans.pt_eq : timeline_Spans.pt = fun l0 version1 w K => FN Try.prog Try.f23 (bodyOf Try.f23) [4] (.node none .leaf (.node none .leaf (.node none (.node none .leaf (.node none (.node none (.node none .leaf (.node none .leaf (.node (some [5]) (.node none (.node none .leaf (.node none .leaf (.node (some [8]) .leaf .leaf))) .leaf) .leaf))) .leaf) .leaf)) .leaf))) [l0, version1] w K := by kernel_rfl
theorem timeline_Spans.call {l0 version1 : Value} {w : World} {K : Value → World → Prop} (h : timeline_Spans.pt l0 version1 w K) : Calls Try.prog F_timeline_Spans #[l0, version1] w (retK K) :=
  calls_FN (args := [l0, version1]) Try.func23 (by kernel_rfl) (by rw [timeline_Spans.pt_eq] at h; exact h)
theorem timeline_Spans.up {l0 version1 : Value} {w : World} {K : Value → World → Prop} (h : Calls Try.prog F_timeline_Spans #[l0, version1] w (retK K)) : upK Try.prog (sCall F_timeline_Spans #[l0, version1]) w K :=
  up_call (fn := Try.f23) Try.func23 (by kernel_rfl) (by kernel_rfl) h

/-- errata/errataref45.Spans -/
def errataref45_Spans.pt (l0 version1 : Value) (w : World) (K : Value → World → Prop) : Prop :=
  LOOP (X := Value × Value × Unit) (fun x1 w1 next1 =>
   readK Try.prog (sBlt .len #[T_s_api_Seg] T_int #[false] #[l0]) w1 fun t9 =>
   pureK Try.prog (sBin .lss T_int (.tmp 7) (.tmp 9) x1.2.1 t9) fun t10 =>
   ifB t10
   (LETJ (X := Value × Unit) (fun y1 w2 =>
     pureK Try.prog (sBin .add T_int (.tmp 11) (.const (.int .i64 1)) x1.2.1 (.int .i64 1)) fun t12 =>
     next1 (y1.1, t12, ()) w2)
    (fun J1 =>
     pureK Try.prog (sIdxAddr T_s_api_Seg l0 x1.2.1) fun t15 =>
     pureK Try.prog (sFieldAddr T_api_Seg t15 1) fun t16 =>
     readK Try.prog (sLoad T_int t16) w1 fun t17 =>
     pureK Try.prog (sBin .eql T_int (.tmp 17) (.tmp 18) t17 version1) fun t19 =>
     ifB t19
     (pureK Try.prog (sIdxAddr T_s_api_Seg l0 x1.2.1) fun t23 =>
      pureK Try.prog (sFieldAddr T_api_Seg t23 0) fun t24 =>
      readK Try.prog (sLoad T_int t24) (tick w1) fun t25 =>
      upK Try.prog (sCall F_errataref45_end #[l0, x1.2.1]) (tick w1) fun t28 w3 =>
      Is Try.prog (sLoad T_int t24) t25 w3 ∧ pureK Try.prog (sBuild T_api_Seg #[(0, t25), (1, t28)]) fun t29 =>
      upK Try.prog (sBuildSlice T_s_api_Seg 1 #[(0, t29)]) w3 fun t30 w4 =>
      upK Try.prog (sBlt .append #[T_s_api_Seg, T_s_api_Seg] T_s_api_Seg #[false, false] #[x1.1, t30]) w4 fun t31 w5 =>
      J1 (t31, ()) w5)
     (J1 (x1.1, ()) w1)))
   (K x1.1 w1))
  ((.slice none 0 0), (.int .i64 0), ()) w
theorem errataref45_Spans.pt_eq : errataref45_Spans.pt = fun l0 version1 w K => FN Try.prog Try.f24 (bodyOf Try.f24) [4] (.node none .leaf (.node none .leaf (.node none (.node none .leaf (.node none (.node none (.node none .leaf (.node (some [5]) .leaf .leaf)) .leaf) .leaf)) .leaf))) [l0, version1] w K := by kernel_rfl
theorem errataref45_Spans.call {l0 version1 : Value} {w : World} {K : Value → World → Prop} (h : errataref45_Spans.pt l0 version1 w K) : Calls Try.prog F_errataref45_Spans #[l0, version1] w (retK K) :=
  calls_FN (args := [l0, version1]) Try.func24 (by kernel_rfl) (by rw [errataref45_Spans.pt_eq] at h; exact h)
theorem errataref45_Spans.up {l0 version1 : Value} {w : World} {K : Value → World → Prop} (h : Calls Try.prog F_errataref45_Spans #[l0, version1] w (retK K)) : upK Try.prog (sCall F_errataref45_Spans #[l0, version1]) w K :=
  up_call (fn := Try.f24) Try.func24 (by kernel_rfl) (by kernel_rfl) h

/-- errata/errataref45.SameDeltas -/
def errataref45_SameDeltas.pt (a0 b1 : Value) (w : World) (K : Value → World → Prop) : Prop :=
  readK Try.prog (sBlt .len #[T_s_api_Delta] T_int #[false] #[a0]) w fun t7 =>
  readK Try.prog (sBlt .len #[T_s_api_Delta] T_int #[false] #[b1]) w fun t9 =>
  pureK Try.prog (sBin .neq T_int (.tmp 7) (.tmp 9) t7 t9) fun t10 =>
  ifB t10
  (K (.bool false) w)
  (LOOP (X := Value × Unit) (fun x1 w1 next1 =>
    readK Try.prog (sBlt .len #[T_s_api_Delta] T_int #[false] #[a0]) w1 fun t13 =>
    pureK Try.prog (sBin .lss T_int (.tmp 11) (.tmp 13) x1.1 t13) fun t14 =>
    ifB t14
    (pureK Try.prog (sIdxAddr T_s_api_Delta a0 x1.1) fun t19 =>
     pureK Try.prog (sFieldAddr T_api_Delta t19 0) fun t20 =>
     readK Try.prog (sLoad T_int t20) (tick w1) fun t21 =>
     pureK Try.prog (sIdxAddr T_s_api_Delta b1 x1.1) fun t24 =>
     pureK Try.prog (sFieldAddr T_api_Delta t24 0) fun t25 =>
     readK Try.prog (sLoad T_int t25) (tick w1) fun t26 =>
     pureK Try.prog (sBin .neq T_int (.tmp 21) (.tmp 26) t21 t26) fun t27 =>
     ifB t27
     (K (.bool false) (tick w1))
     (pureK Try.prog (sIdxAddr T_s_api_Delta a0 x1.1) fun t31 =>
      pureK Try.prog (sFieldAddr T_api_Delta t31 2) fun t32 =>
      readK Try.prog (sLoad T_int t32) (tick w1) fun t33 =>
      pureK Try.prog (sIdxAddr T_s_api_Delta b1 x1.1) fun t36 =>
      pureK Try.prog (sFieldAddr T_api_Delta t36 2) fun t37 =>
      readK Try.prog (sLoad T_int t37) (tick w1) fun t38 =>
      pureK Try.prog (sBin .neq T_int (.tmp 33) (.tmp 38) t33 t38) fun t39 =>
      ifB t39
      (K (.bool false) (tick w1))
      (pureK Try.prog (sIdxAddr T_s_api_Delta a0 x1.1) fun t44 =>
       pureK Try.prog (sFieldAddr T_api_Delta t44 1) fun t45 =>
       readK Try.prog (sLoad T_s_api_Value t45) (tick w1) fun t46 =>
       pureK Try.prog (sIdxAddr T_s_api_Delta b1 x1.1) fun t49 =>
       pureK Try.prog (sFieldAddr T_api_Delta t49 1) fun t50 =>
       readK Try.prog (sLoad T_s_api_Value t50) (tick w1) fun t51 =>
       upK Try.prog (sCall F_errataref03_Same #[t46, t51]) (tick w1) fun t52 w2 =>
       pureK Try.prog (sUn .not t52) fun t53 =>
       ifB t53
       (K (.bool false) w2)
       (pureK Try.prog (sBin .add T_int (.tmp 15) (.const (.int .i64 1)) x1.1 (.int .i64 1)) fun t16 =>
        next1 (t16, ()) w2))))
    (K (.bool true) w1))
   ((.int .i64 0), ()) w)
theorem errataref45_SameDeltas.pt_eq : errataref45_SameDeltas.pt = fun a0 b1 w K => FN Try.prog Try.f25 (bodyOf Try.f25) [4] .leaf [a0, b1] w K := by kernel_rfl
theorem errataref45_SameDeltas.call {a0 b1 : Value} {w : World} {K : Value → World → Prop} (h : errataref45_SameDeltas.pt a0 b1 w K) : Calls Try.prog F_errataref45_SameDeltas #[a0, b1] w (retK K) :=
  calls_FN (args := [a0, b1]) Try.func25 (by kernel_rfl) (by rw [errataref45_SameDeltas.pt_eq] at h; exact h)
theorem errataref45_SameDeltas.up {a0 b1 : Value} {w : World} {K : Value → World → Prop} (h : Calls Try.prog F_errataref45_SameDeltas #[a0, b1] w (retK K)) : upK Try.prog (sCall F_errataref45_SameDeltas #[a0, b1]) w K :=
  up_call (fn := Try.f25) Try.func25 (by kernel_rfl) (by kernel_rfl) h

/-- errata/timeline.Pick -/
def timeline_Pick.pt (l0 version1 d2 : Value) (w : World) (K : Value → World → Prop) : Prop :=
  readK Try.prog (sBlt .len #[T_s_api_Delta] T_int #[false] #[d2]) w fun t11 =>
  LOOP (X := Value × Value × Unit) (fun x1 w1 next1 =>
   pureK Try.prog (sBin .lss T_int (.tmp 12) (.tmp 11) x1.2.1 t11) fun t13 =>
   ifB t13
   (LETJ (X := Value × Unit) (fun y1 w2 =>
     pureK Try.prog (sBin .add T_int (.tmp 12) (.const (.int .i64 1)) x1.2.1 (.int .i64 1)) fun t30 =>
     next1 (y1.1, t30, ()) w2)
    (fun J1 =>
     pureK Try.prog (sIdxAddr T_s_api_Delta d2 x1.2.1) fun t14 =>
     readK Try.prog (sLoad T_api_Delta t14) w1 fun t15 =>
     upK Try.prog (sAlloc T_api_Delta) w1 fun x9 w3 =>
     upK Try.prog (sStore T_api_Delta x9 t15) w3 fun tu w4 =>
     pureK Try.prog (sFieldAddr T_api_Delta x9 0) fun t17 =>
     readK Try.prog (sLoad T_int t17) w4 fun t18 =>
     upK Try.prog (sCall F_timeline_At #[l0, t18]) w4 fun t19 w5 =>
     pureK Try.prog (sBin .eql T_int (.tmp 19) (.tmp 20) t19 version1) fun t21 =>
     ifB t21
     (pureK Try.prog (sFieldAddr T_api_Delta x9 1) fun t22 =>
      readK Try.prog (sLoad T_s_api_Value t22) w5 fun t23 =>
      upK Try.prog (sCall F_slices_Clone_s_api_Value_api_Value #[t23]) w5 fun t24 w6 =>
      pureK Try.prog (sFieldAddr T_api_Delta x9 1) fun t25 =>
      upK Try.prog (sStore T_s_api_Value t25 t24) w6 fun tu_1 w7 =>
      readK Try.prog (sLoad T_api_Delta x9) w7 fun t27 =>
      upK Try.prog (sBuildSlice T_s_api_Delta 1 #[(0, t27)]) w7 fun t28 w8 =>
      upK Try.prog (sBlt .append #[T_s_api_Delta, T_s_api_Delta] T_s_api_Delta #[false, false] #[x1.1, t28]) w8 fun t29 w9 =>
      J1 (t29, ()) w9)
     (J1 (x1.1, ()) w5)))
   (K x1.1 w1))
  ((.slice none 0 0), (.int .i64 0), ()) w
theorem timeline_Pick.pt_eq : timeline_Pick.pt = fun l0 version1 d2 w K => FN Try.prog Try.f26 (bodyOf Try.f26) [6] (.node none .leaf (.node none .leaf (.node none (.node none .leaf (.node none (.node none (.node none .leaf (.node none .leaf (.node (some [7]) .leaf .leaf))) .leaf) .leaf)) .leaf))) [l0, version1, d2] w K := by kernel_rfl
theorem timeline_Pick.call {l0 version1 d2 : Value} {w : World} {K : Value → World → Prop} (h : timeline_Pick.pt l0 version1 d2 w K) : Calls Try.prog F_timeline_Pick #[l0, version1, d2] w (retK K) :=
  calls_FN (args := [l0, version1, d2]) Try.func26 (by kernel_rfl) (by rw [timeline_Pick.pt_eq] at h; exact h)
theorem timeline_Pick.up {l0 version1 d2 : Value} {w : World} {K : Value → World → Prop} (h : Calls Try.prog F_timeline_Pick #[l0, version1, d2] w (retK K)) : upK Try.prog (sCall F_timeline_Pick #[l0, version1, d2]) w K :=
  up_call (fn := Try.f26) Try.func26 (by kernel_rfl) (by kernel_rfl) h

/-- errata/errataref45.Pick -/
def errataref45_Pick.pt (l0 version1 d2 : Value) (w : World) (K : Value → World → Prop) : Prop :=
  LOOP (X := Value × Value × Unit) (fun x1 w1 next1 =>
   readK Try.prog (sBlt .len #[T_s_api_Delta] T_int #[false] #[d2]) w1 fun t11 =>
   pureK Try.prog (sBin .lss T_int (.tmp 9) (.tmp 11) x1.2.1 t11) fun t12 =>
   ifB t12
   (LETJ (X := Value × Unit) (fun y1 w2 =>
     pureK Try.prog (sBin .add T_int (.tmp 13) (.const (.int .i64 1)) x1.2.1 (.int .i64 1)) fun t14 =>
     next1 (y1.1, t14, ()) w2)
    (fun J1 =>
     pureK Try.prog (sIdxAddr T_s_api_Delta d2 x1.2.1) fun t18 =>
     pureK Try.prog (sFieldAddr T_api_Delta t18 0) fun t19 =>
     readK Try.prog (sLoad T_int t19) w1 fun t20 =>
     upK Try.prog (sCall F_errataref45_At #[l0, t20]) w1 fun t21 w3 =>
     pureK Try.prog (sBin .eql T_int (.tmp 21) (.tmp 22) t21 version1) fun t23 =>
     ifB t23
     (pureK Try.prog (sIdxAddr T_s_api_Delta d2 x1.2.1) fun t27 =>
      readK Try.prog (sLoad T_api_Delta t27) w3 fun t28 =>
      upK Try.prog (sBuildSlice T_s_api_Delta 1 #[(0, t28)]) w3 fun t29 w4 =>
      upK Try.prog (sBlt .append #[T_s_api_Delta, T_s_api_Delta] T_s_api_Delta #[false, false] #[x1.1, t29]) w4 fun t30 w5 =>
      J1 (t30, ()) w5)
     (J1 (x1.1, ()) w3)))
   (K x1.1 w1))
  ((.slice none 0 0), (.int .i64 0), ()) w
theorem errataref45_Pick.pt_eq : errataref45_Pick.pt = fun l0 version1 d2 w K => FN Try.prog Try.f27 (bodyOf Try.f27) [6] (.node none .leaf (.node none .leaf (.node none (.node none .leaf (.node none (.node none (.node none .leaf (.node (some [7]) .leaf .leaf)) .leaf) .leaf)) .leaf))) [l0, version1, d2] w K := by kernel_rfl
theorem errataref45_Pick.call {l0 version1 d2 : Value} {w : World} {K : Value → World → Prop} (h : errataref45_Pick.pt l0 version1 d2 w K) : Calls Try.prog F_errataref45_Pick #[l0, version1, d2] w (retK K) :=
  calls_FN (args := [l0, version1, d2]) Try.func27 (by kernel_rfl) (by rw [errataref45_Pick.pt_eq] at h; exact h)
theorem errataref45_Pick.up {l0 version1 d2 : Value} {w : World} {K : Value → World → Prop} (h : Calls Try.prog F_errataref45_Pick #[l0, version1, d2] w (retK K)) : upK Try.prog (sCall F_errataref45_Pick #[l0, version1, d2]) w K :=
  up_call (fn := Try.f27) Try.func27 (by kernel_rfl) (by kernel_rfl) h

/-- slices.Clone[[]errata/api.Seg,errata/api.Seg] -/
def slices_Clone_s_api_Seg_api_Seg.pt (s0 : Value) (w : World) (K : Value → World → Prop) : Prop :=
  pureK Try.prog (sBin .eql T_s_api_Seg (.tmp 3) (.const (.slice none 0 0)) s0 (.slice none 0 0)) fun t4 =>
  ifB t4
  (K (.slice none 0 0) w)
  (upK Try.prog (sBuildSlice T_s_api_Seg 0 #[]) w fun t5 w1 =>
   upK Try.prog (sBlt .append #[T_s_api_Seg, T_s_api_Seg] T_s_api_Seg #[false, false] #[t5, s0]) w1 fun t7 w2 =>
   K t7 w2)
theorem slices_Clone_s_api_Seg_api_Seg.pt_eq : slices_Clone_s_api_Seg_api_Seg.pt = fun s0 w K => FN Try.prog Try.f28 (bodyOf Try.f28) [2] .leaf [s0] w K := by kernel_rfl
theorem slices_Clone_s_api_Seg_api_Seg.call {s0 : Value} {w : World} {K : Value → World → Prop} (h : slices_Clone_s_api_Seg_api_Seg.pt s0 w K) : Calls Try.prog F_slices_Clone_s_api_Seg_api_Seg #[s0] w (retK K) :=
  calls_FN (args := [s0]) Try.func28 (by kernel_rfl) (by rw [slices_Clone_s_api_Seg_api_Seg.pt_eq] at h; exact h)
theorem slices_Clone_s_api_Seg_api_Seg.up {s0 : Value} {w : World} {K : Value → World → Prop} (h : Calls Try.prog F_slices_Clone_s_api_Seg_api_Seg #[s0] w (retK K)) : upK Try.prog (sCall F_slices_Clone_s_api_Seg_api_Seg #[s0]) w K :=
  up_call (fn := Try.f28) Try.func28 (by kernel_rfl) (by kernel_rfl) h

/-- errata/timeline.behind -/
def timeline_behind.pt (l0 time1 : Value) (w : World) (K : Value → World → Prop) : Prop :=
  upK Try.prog (sBox T_s_api_Seg l0) w fun l2 w1 =>
  upK Try.prog (sBox T_int time1) w1 fun time3 w2 =>
  readK Try.prog (sLoad T_s_api_Seg l2) w2 fun t5 =>
  readK Try.prog (sBlt .len #[T_s_api_Seg] T_int #[false] #[t5]) w2 fun t6 =>
  pureK Try.prog (sMkFunc (.func F_timeline_behind_1) #[] #[l2, time3]) fun t7 =>
  upK Try.prog (sCall F_sort_Search #[t6, t7]) w2 fun t8 w3 =>
  K t8 w3
theorem timeline_behind.pt_eq : timeline_behind.pt = fun l0 time1 w K => FN Try.prog Try.f29 (bodyOf Try.f29) [4] .leaf [l0, time1] w K := by kernel_rfl
theorem timeline_behind.call {l0 time1 : Value} {w : World} {K : Value → World → Prop} (h : timeline_behind.pt l0 time1 w K) : Calls Try.prog F_timeline_behind #[l0, time1] w (retK K) :=
  calls_FN (args := [l0, time1]) Try.func29 (by kernel_rfl) (by rw [timeline_behind.pt_eq] at h; exact h)
theorem timeline_behind.up {l0 time1 : Value} {w : World} {K : Value → World → Prop} (h : Calls Try.prog F_timeline_behind #[l0, time1] w (retK K)) : upK Try.prog (sCall F_timeline_behind #[l0, time1]) w K :=
  up_call (fn := Try.f29) Try.func29 (by kernel_rfl) (by kernel_rfl) h

/-- slices.Equal[[]errata/api.Seg,errata/api.Seg] -/
def slices_Equal_s_api_Seg_api_Seg.pt (s10 s21 : Value) (w : World) (K : Value → World → Prop) : Prop :=
  readK Try.prog (sBlt .len #[T_s_api_Seg] T_int #[false] #[s10]) w fun t7 =>
  readK Try.prog (sBlt .len #[T_s_api_Seg] T_int #[false] #[s21]) w fun t9 =>
  pureK Try.prog (sBin .neq T_int (.tmp 7) (.tmp 9) t7 t9) fun t10 =>
  ifB t10
  (K (.bool false) w)
  (readK Try.prog (sBlt .len #[T_s_api_Seg] T_int #[false] #[s10]) w fun t12 =>
   LOOP (X := Value × Unit) (fun x1 w1 next1 =>
    pureK Try.prog (sBin .lss T_int (.tmp 13) (.tmp 12) x1.1 t12) fun t14 =>
    ifB t14
    (pureK Try.prog (sIdxAddr T_s_api_Seg s10 x1.1) fun t18 =>
     readK Try.prog (sLoad T_api_Seg t18) (tick w1) fun t19 =>
     pureK Try.prog (sIdxAddr T_s_api_Seg s21 x1.1) fun t22 =>
     readK Try.prog (sLoad T_api_Seg t22) (tick w1) fun t23 =>
     pureK Try.prog (sBin .neq T_api_Seg (.tmp 19) (.tmp 23) t19 t23) fun t24 =>
     ifB t24
     (K (.bool false) (tick w1))
     (pureK Try.prog (sBin .add T_int (.tmp 13) (.const (.int .i64 1)) x1.1 (.int .i64 1)) fun t25 =>
      next1 (t25, ()) (tick w1)))
    (K (.bool true) w1))
   ((.int .i64 0), ()) w)
theorem slices_Equal_s_api_Seg_api_Seg.pt_eq : slices_Equal_s_api_Seg_api_Seg.pt = fun s10 s21 w K => FN Try.prog Try.f30 (bodyOf Try.f30) [4] .leaf [s10, s21] w K := by kernel_rfl
theorem slices_Equal_s_api_Seg_api_Seg.call {s10 s21 : Value} {w : World} {K : Value → World → Prop} (h : slices_Equal_s_api_Seg_api_Seg.pt s10 s21 w K) : Calls Try.prog F_slices_Equal_s_api_Seg_api_Seg #[s10, s21] w (retK K) :=
  calls_FN (args := [s10, s21]) Try.func30 (by kernel_rfl) (by rw [slices_Equal_s_api_Seg_api_Seg.pt_eq] at h; exact h)
theorem slices_Equal_s_api_Seg_api_Seg.up {s10 s21 : Value} {w : World} {K : Value → World → Prop} (h : Calls Try.prog F_slices_Equal_s_api_Seg_api_Seg #[s10, s21] w (retK K)) : upK Try.prog (sCall F_slices_Equal_s_api_Seg_api_Seg #[s10, s21]) w K :=
  up_call (fn := Try.f30) Try.func30 (by kernel_rfl) (by kernel_rfl) h

/-- errata/timeline.versions -/
def timeline_versions.pt (l0 : Value) (w : World) (K : Value → World → Prop) : Prop :=
  readK Try.prog (sBlt .len #[T_s_api_Seg] T_int #[false] #[l0]) w fun t7 =>
  LOOP (X := Value × Value × Unit) (fun x1 w1 next1 =>
   pureK Try.prog (sBin .lss T_int (.tmp 8) (.tmp 7) x1.2.1 t7) fun t9 =>
   ifB t9
   (pureK Try.prog (sIdxAddr T_s_api_Seg l0 x1.2.1) fun t10 =>
    readK Try.prog (sLoad T_api_Seg t10) w1 fun t11 =>
    upK Try.prog (sAlloc T_api_Seg) w1 fun s5 w2 =>
    upK Try.prog (sStore T_api_Seg s5 t11) w2 fun tu w3 =>
    pureK Try.prog (sFieldAddr T_api_Seg s5 1) fun t13 =>
    readK Try.prog (sLoad T_int t13) w3 fun t14 =>
    upK Try.prog (sBuildSlice T_s_int 1 #[(0, t14)]) w3 fun t15 w4 =>
    upK Try.prog (sBlt .append #[T_s_int, T_s_int] T_s_int #[false, false] #[x1.1, t15]) w4 fun t16 w5 =>
    pureK Try.prog (sBin .add T_int (.tmp 8) (.const (.int .i64 1)) x1.2.1 (.int .i64 1)) fun t17 =>
    next1 (t16, t17, ()) w5)
   (upK Try.prog (sCall F_slices_Sort_s_int_int #[x1.1]) w1 fun t19 w6 =>
    upK Try.prog (sCall F_slices_Compact_s_int_int #[x1.1]) w6 fun t21 w7 =>
    K t21 w7))
  ((.slice none 0 0), (.int .i64 0), ()) w
theorem timeline_versions.pt_eq : timeline_versions.pt = fun l0 w K => FN Try.prog Try.f31 (bodyOf Try.f31) [2] .leaf [l0] w K := by kernel_rfl
theorem timeline_versions.call {l0 : Value} {w : World} {K : Value → World → Prop} (h : timeline_versions.pt l0 w K) : Calls Try.prog F_timeline_versions #[l0] w (retK K) :=
  calls_FN (args := [l0]) Try.func31 (by kernel_rfl) (by rw [timeline_versions.pt_eq] at h; exact h)
theorem timeline_versions.up {l0 : Value} {w : World} {K : Value → World → Prop} (h : Calls Try.prog F_timeline_versions #[l0] w (retK K)) : upK Try.prog (sCall F_timeline_versions #[l0]) w K :=
  up_call (fn := Try.f31) Try.func31 (by kernel_rfl) (by kernel_rfl) h

/-- errata/errataref45.end -/
def errataref45_end.pt (l0 i1 : Value) (w : World) (K : Value → World → Prop) : Prop :=
  pureK Try.prog (sBin .add T_int (.tmp 5) (.const (.int .i64 1)) i1 (.int .i64 1)) fun t6 =>
  readK Try.prog (sBlt .len #[T_s_api_Seg] T_int #[false] #[l0]) w fun t8 =>
  pureK Try.prog (sBin .lss T_int (.tmp 6) (.tmp 8) t6 t8) fun t9 =>
  ifB t9
  (pureK Try.prog (sBin .add T_int (.tmp 11) (.const (.int .i64 1)) i1 (.int .i64 1)) fun t12 =>
   pureK Try.prog (sIdxAddr T_s_api_Seg l0 t12) fun t13 =>
   pureK Try.prog (sFieldAddr T_api_Seg t13 0) fun t14 =>
   readK Try.prog (sLoad T_int t14) w fun t15 =>
   K t15 w)
  (K (.int .i64 1099511627777) w)
theorem errataref45_end.pt_eq : errataref45_end.pt = fun l0 i1 w K => FN Try.prog Try.f32 (bodyOf Try.f32) [4] .leaf [l0, i1] w K := by kernel_rfl
theorem errataref45_end.call {l0 i1 : Value} {w : World} {K : Value → World → Prop} (h : errataref45_end.pt l0 i1 w K) : Calls Try.prog F_errataref45_end #[l0, i1] w (retK K) :=
  calls_FN (args := [l0, i1]) Try.func32 (by kernel_rfl) (by rw [errataref45_end.pt_eq] at h; exact h)
theorem errataref45_end.up {l0 i1 : Value} {w : World} {K : Value → World → Prop} (h : Calls Try.prog F_errataref45_end #[l0, i1] w (retK K)) : upK Try.prog (sCall F_errataref45_end #[l0, i1]) w K :=
  up_call (fn := Try.f32) Try.func32 (by kernel_rfl) (by kernel_rfl) h

/-- errata/errataref03.Same -/
def errataref03_Same.pt (a0 b1 : Value) (w : World) (K : Value → World → Prop) : Prop :=
  upK Try.prog (sCall F_errataref03_CompareRows #[a0, b1]) w fun t7 w1 =>
  pureK Try.prog (sBin .eql T_int (.tmp 7) (.const (.int .i64 0)) t7 (.int .i64 0)) fun t8 =>
  K t8 w1
theorem errataref03_Same.pt_eq : errataref03_Same.pt = fun a0 b1 w K => FN Try.prog Try.f33 (bodyOf Try.f33) [4] .leaf [a0, b1] w K := by kernel_rfl
theorem errataref03_Same.call {a0 b1 : Value} {w : World} {K : Value → World → Prop} (h : errataref03_Same.pt a0 b1 w K) : Calls Try.prog F_errataref03_Same #[a0, b1] w (retK K) :=
  calls_FN (args := [a0, b1]) Try.func33 (by kernel_rfl) (by rw [errataref03_Same.pt_eq] at h; exact h)
theorem errataref03_Same.up {a0 b1 : Value} {w : World} {K : Value → World → Prop} (h : Calls Try.prog F_errataref03_Same #[a0, b1] w (retK K)) : upK Try.prog (sCall F_errataref03_Same #[a0, b1]) w K :=
  up_call (fn := Try.f33) Try.func33 (by kernel_rfl) (by kernel_rfl) h

/-- slices.Clone[[]errata/api.Value,errata/api.Value] -/
def slices_Clone_s_api_Value_api_Value.pt (s0 : Value) (w : World) (K : Value → World → Prop) : Prop :=
  pureK Try.prog (sBin .eql T_s_api_Value (.tmp 3) (.const (.slice none 0 0)) s0 (.slice none 0 0)) fun t4 =>
  ifB t4
  (K (.slice none 0 0) w)
  (upK Try.prog (sBuildSlice T_s_api_Value 0 #[]) w fun t5 w1 =>
   upK Try.prog (sBlt .append #[T_s_api_Value, T_s_api_Value] T_s_api_Value #[false, false] #[t5, s0]) w1 fun t7 w2 =>
   K t7 w2)
theorem slices_Clone_s_api_Value_api_Value.pt_eq : slices_Clone_s_api_Value_api_Value.pt = fun s0 w K => FN Try.prog Try.f34 (bodyOf Try.f34) [2] .leaf [s0] w K := by kernel_rfl
theorem slices_Clone_s_api_Value_api_Value.call {s0 : Value} {w : World} {K : Value → World → Prop} (h : slices_Clone_s_api_Value_api_Value.pt s0 w K) : Calls Try.prog F_slices_Clone_s_api_Value_api_Value #[s0] w (retK K) :=
  calls_FN (args := [s0]) Try.func34 (by kernel_rfl) (by rw [slices_Clone_s_api_Value_api_Value.pt_eq] at h; exact h)
theorem slices_Clone_s_api_Value_api_Value.up {s0 : Value} {w : World} {K : Value → World → Prop} (h : Calls Try.prog F_slices_Clone_s_api_Value_api_Value #[s0] w (retK K)) : upK Try.prog (sCall F_slices_Clone_s_api_Value_api_Value #[s0]) w K :=
  up_call (fn := Try.f34) Try.func34 (by kernel_rfl) (by kernel_rfl) h

/-- sort.Search -/
def sort_Search.pt (n0 f1 : Value) (w : World) (K : Value → World → Prop) : Prop :=
  LETJ (X := Value × Unit) (fun y1 w1 =>
   K y1.1 w1)
  (fun J1 =>
   LOOP (X := Value × Value × Unit) (fun x2 w2 next2 =>
    pureK Try.prog (sBin .lss T_int (.tmp 9) (.tmp 10) x2.1 x2.2.1) fun t11 =>
    ifB t11
    (pureK Try.prog (sBin .add T_int (.tmp 12) (.tmp 13) x2.1 x2.2.1) fun t14 =>
     upK Try.prog (sConv T_int T_uint t14) w2 fun t15 w3 =>
     pureK Try.prog (sBin .shr T_uint (.tmp 15) (.const (.int .u64 1)) t15 (.int .u64 1)) fun t16 =>
     upK Try.prog (sConv T_uint T_int t16) w3 fun t17 w4 =>
     upK Try.prog (sCallV f1 #[t17]) w4 fun t20 w5 =>
     pureK Try.prog (sUn .not t20) fun t21 =>
     ifB t21
     (pureK Try.prog (sBin .add T_int (.tmp 22) (.const (.int .i64 1)) t17 (.int .i64 1)) fun t23 =>
      next2 (t23, x2.2.1, ()) w5)
     (next2 (x2.1, t17, ()) w5))
    (J1 (x2.1, ()) w2))
   ((.int .i64 0), n0, ()) w)
theorem sort_Search.pt_eq : sort_Search.pt = fun n0 f1 w K => FN Try.prog Try.f35 (bodyOf Try.f35) [4] (.node none .leaf (.node none .leaf (.node (some [5]) .leaf .leaf))) [n0, f1] w K := by kernel_rfl
theorem sort_Search.call {n0 f1 : Value} {w : World} {K : Value → World → Prop} (h : sort_Search.pt n0 f1 w K) : Calls Try.prog F_sort_Search #[n0, f1] w (retK K) :=
  calls_FN (args := [n0, f1]) Try.func35 (by kernel_rfl) (by rw [sort_Search.pt_eq] at h; exact h)
theorem sort_Search.up {n0 f1 : Value} {w : World} {K : Value → World → Prop} (h : Calls Try.prog F_sort_Search #[n0, f1] w (retK K)) : upK Try.prog (sCall F_sort_Search #[n0, f1]) w K :=
  up_call (fn := Try.f35) Try.func35 (by kernel_rfl) (by kernel_rfl) h

/-- errata/timeline.behind$1 -/
def timeline_behind_1.pt (i0 t1 t2 : Value) (w : World) (K : Value → World → Prop) : Prop :=
  readK Try.prog (sLoad T_s_api_Seg t1) (tick w) fun t5 =>
  pureK Try.prog (sIdxAddr T_s_api_Seg t5 i0) fun t7 =>
  pureK Try.prog (sFieldAddr T_api_Seg t7 0) fun t8 =>
  readK Try.prog (sLoad T_int t8) (tick w) fun t9 =>
  readK Try.prog (sLoad T_int t2) (tick w) fun t10 =>
  pureK Try.prog (sBin .gtr T_int (.tmp 9) (.tmp 10) t9 t10) fun t11 =>
  K t11 (tick w)
theorem timeline_behind_1.pt_eq : timeline_behind_1.pt = fun i0 t1 t2 w K => FN Try.prog Try.f36 (bodyOf Try.f36) [4] .leaf [i0, t1, t2] w K := by kernel_rfl
theorem timeline_behind_1.call {i0 t1 t2 : Value} {w : World} {K : Value → World → Prop} (h : timeline_behind_1.pt i0 t1 t2 w K) : Calls Try.prog F_timeline_behind_1 #[i0, t1, t2] w (retK K) :=
  calls_FN (args := [i0, t1, t2]) Try.func36 (by kernel_rfl) (by rw [timeline_behind_1.pt_eq] at h; exact h)
theorem timeline_behind_1.up {i0 t1 t2 : Value} {w : World} {K : Value → World → Prop} (h : Calls Try.prog F_timeline_behind_1 #[i0, t1, t2] w (retK K)) : upK Try.prog (sCall F_timeline_behind_1 #[i0, t1, t2]) w K :=
  up_call (fn := Try.f36) Try.func36 (by kernel_rfl) (by kernel_rfl) h

/-- slices.Sort[[]int,int] -/
def slices_Sort_s_int_int.pt (x0 : Value) (w : World) (K : Value → World → Prop) : Prop :=
  readK Try.prog (sBlt .len #[T_s_int] T_int #[false] #[x0]) w fun t4 =>
  upK Try.prog (sConv T_int T_uint t4) w fun t8 w1 =>
  upK Try.prog (sCall F_math_bits_Len #[t8]) w1 fun t9 w2 =>
  upK Try.prog (sCall F_slices_pdqsortOrdered_int #[x0, (.int .i64 0), t4, t9]) w2 fun t10 w3 =>
  K (.tuple #[]) w3
theorem slices_Sort_s_int_int.pt_eq : slices_Sort_s_int_int.pt = fun x0 w K => FN Try.prog Try.f37 (bodyOf Try.f37) [] .leaf [x0] w K := by kernel_rfl
theorem slices_Sort_s_int_int.call {x0 : Value} {w : World} {K : Value → World → Prop} (h : slices_Sort_s_int_int.pt x0 w K) : Calls Try.prog F_slices_Sort_s_int_int #[x0] w (retK K) :=
  calls_FN (args := [x0]) Try.func37 (by kernel_rfl) (by rw [slices_Sort_s_int_int.pt_eq] at h; exact h)
theorem slices_Sort_s_int_int.up {x0 : Value} {w : World} {K : Value → World → Prop} (h : Calls Try.prog F_slices_Sort_s_int_int #[x0] w (retK K)) : upK Try.prog (sCall F_slices_Sort_s_int_int #[x0]) w K :=
  up_call (fn := Try.f37) Try.func37 (by kernel_rfl) (by kernel_rfl) h

end Go.Proofs.Ytmpnniicmmekmaa
