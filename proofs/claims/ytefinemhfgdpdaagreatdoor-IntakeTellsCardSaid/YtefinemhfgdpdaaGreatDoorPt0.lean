/-
  The reckoned conditions of the functions that this seat's statements reach, printed by program, each held against the translation by the kernel. No condition.
-/
import Derived.Test.YtefinemhfgdpdaaGreatDoorNames
namespace Go.Proofs.YtefinemhfgdpdaaGreatDoor
set_option linter.unusedVariables false
set_option maxRecDepth 100000

/-- errata/erratalaw11.IntakeTells -/
def erratalaw11_IntakeTells.pt (c0 l1 : Value) (w : World) (K : Value → World → Prop) : Prop :=
  upK Tryz.prog (sBox T_api_Config c0) w fun c2 w1 =>
  upK Tryz.prog (sCall F_erratalaw11_small #[]) w1 fun t15 w2 =>
  upK Tryz.prog (sCall F_erratalaw11_few #[l1, (.int .i64 120)]) w2 fun t17 w3 =>
  pureK Tryz.prog (sUn .not t17) fun t18 =>
  ifB t18
  (K t15 w3)
  (readK Tryz.prog (sLoad T_api_Config c2) (tick w3) fun t20 =>
   upK Tryz.prog (sCall F_erratalaw11_known #[]) (tick w3) fun t21 w4 =>
   Is Tryz.prog (sLoad T_api_Config c2) t20 w4 ∧ upK Tryz.prog (sCall F_intake_New #[t20, t21]) w4 fun t22 w5 =>
   readK Tryz.prog (sLoad T_api_Config c2) (tick w5) fun t23 =>
   upK Tryz.prog (sCall F_erratalaw11_known #[]) (tick w5) fun t24 w6 =>
   Is Tryz.prog (sLoad T_api_Config c2) t23 w6 ∧ upK Tryz.prog (sCall F_errataref11_New #[t23, t24]) w6 fun t25 w7 =>
   pureK Tryz.prog (sBin .neq T_p_intake_Intake (.tmp 26) (.const (.pointer none)) t22 (.pointer none)) fun t27 =>
   pureK Tryz.prog (sBin .neq T_p_errataref11_Intake (.tmp 28) (.const (.pointer none)) t25 (.pointer none)) fun t29 =>
   pureK Tryz.prog (sBin .neq T_bool (.tmp 27) (.tmp 29) t27 t29) fun t30 =>
   ifB t30
   (K (.bool false) (tick w7))
   (readK Tryz.prog (sLoad T_api_Config c2) (tick w7) fun t32 =>
    readK Tryz.prog (sLoad T_api_Config c2) (tick w7) fun t34 =>
    upK Tryz.prog (sCall F_intake_Right #[t32]) (tick w7) fun t33 w8 =>
    Is Tryz.prog (sLoad T_api_Config c2) t34 w8 ∧ upK Tryz.prog (sCall F_errataref11_Right #[t34]) w8 fun t35 w9 =>
    pureK Tryz.prog (sBin .neq T_bool (.tmp 33) (.tmp 35) t33 t35) fun t36 =>
    ifB t36
    (K (.bool false) w9)
    (LETJ (X := Unit) (fun jv1 w10 =>
      K t15 w10)
     (fun J1 =>
      LOOP (X := Value × Unit) (fun lv11 w11 next11 =>
       readK Tryz.prog (sBlt .len #[T_s_api_Entry] T_int #[false] #[l1]) w11 fun t40 =>
       pureK Tryz.prog (sBin .lss T_int (.tmp 38) (.tmp 40) lv11.1 t40) fun t41 =>
       ifB t41
       (pureK Tryz.prog (sBin .neq T_p_intake_Intake (.tmp 43) (.const (.pointer none)) t22 (.pointer none)) fun t44 =>
        ifB t44
        (pureK Tryz.prog (sBin .neq T_p_errataref11_Intake (.tmp 47) (.const (.pointer none)) t25 (.pointer none)) fun t48 =>
         ifB t48
         (LETJ (X := Unit) (fun jv2 w12 =>
           pureK Tryz.prog (sIdxAddr T_s_api_Entry l1 lv11.1) fun t70 =>
           readK Tryz.prog (sLoad T_api_Entry t70) w12 fun t71 =>
           upK Tryz.prog (sCall F_intake_Intake_Check #[t22, t71]) w12 fun t72 w13 =>
           pureK Tryz.prog (sExtract t72 0) fun t73 =>
           pureK Tryz.prog (sExtract t72 1) fun t74 =>
           pureK Tryz.prog (sIdxAddr T_s_api_Entry l1 lv11.1) fun t79 =>
           readK Tryz.prog (sLoad T_api_Entry t79) w13 fun t80 =>
           upK Tryz.prog (sCall F_intake_Intake_Apply #[t22, t80]) w13 fun t81 w14 =>
           pureK Tryz.prog (sExtract t81 0) fun t82 =>
           pureK Tryz.prog (sExtract t81 1) fun t83 =>
           pureK Tryz.prog (sIdxAddr T_s_api_Entry l1 lv11.1) fun t88 =>
           readK Tryz.prog (sLoad T_api_Entry t88) w14 fun t89 =>
           upK Tryz.prog (sCall F_errataref11_Intake_Apply #[t25, t89]) w14 fun t90 w15 =>
           pureK Tryz.prog (sExtract t90 0) fun t91 =>
           pureK Tryz.prog (sExtract t90 1) fun t92 =>
           pureK Tryz.prog (sBin .neq T_int (.tmp 93) (.tmp 94) t73 t82) fun t95 =>
           ifB t95
           (K (.bool false) (tick w15))
           (pureK Tryz.prog (sBin .neq T_api_Errno (.tmp 97) (.tmp 98) t74 t83) fun t99 =>
            ifB t99
            (K (.bool false) (tick w15))
            (pureK Tryz.prog (sBin .neq T_int (.tmp 102) (.tmp 103) t82 t91) fun t104 =>
             ifB t104
             (K (.bool false) (tick w15))
             (pureK Tryz.prog (sBin .neq T_api_Errno (.tmp 107) (.tmp 108) t83 t92) fun t109 =>
              ifB t109
              (K (.bool false) (tick w15))
              (pureK Tryz.prog (sNil t25) fun t115 =>
               pureK Tryz.prog (sFieldAddr T_errataref11_Intake t115 2) fun t116 =>
               readK Tryz.prog (sLoad T_int t116) (tick w15) fun t117 =>
               upK Tryz.prog (sCall F_intake_Intake_Now #[t22]) (tick w15) fun t113 w16 =>
               Is Tryz.prog (sLoad T_int t116) t117 w16 ∧ pureK Tryz.prog (sBin .neq T_int (.tmp 113) (.tmp 117) t113 t117) fun t118 =>
               ifB t118
               (K (.bool false) w16)
               (pureK Tryz.prog (sNil t25) fun t124 =>
                pureK Tryz.prog (sFieldAddr T_errataref11_Intake t124 3) fun t125 =>
                readK Tryz.prog (sLoad T_int t125) w16 fun t126 =>
                upK Tryz.prog (sCall F_intake_Intake_Top #[t22]) w16 fun t122 w17 =>
                Is Tryz.prog (sLoad T_int t125) t126 w17 ∧ pureK Tryz.prog (sBin .neq T_int (.tmp 122) (.tmp 126) t122 t126) fun t127 =>
                ifB t127
                (K (.bool false) w17)
                (upK Tryz.prog (sCall F_intake_Intake_Closed #[t22]) w17 fun t131 w18 =>
                 upK Tryz.prog (sCall F_errataref11_Intake_Closed #[t25]) w18 fun t133 w19 =>
                 pureK Tryz.prog (sBin .neq T_int (.tmp 131) (.tmp 133) t131 t133) fun t134 =>
                 ifB t134
                 (K (.bool false) w19)
                 (upK Tryz.prog (sCall F_intake_Intake_Mark #[t22]) w19 fun t138 w20 =>
                  Is Tryz.prog (sLoad T_int t116) t117 w20 ∧ upK Tryz.prog (sCall F_errataref11_Intake_Mark #[t25]) w20 fun t140 w21 =>
                  Is Tryz.prog (sLoad T_int t116) t117 w21 ∧ pureK Tryz.prog (sBin .neq T_int (.tmp 138) (.tmp 140) t138 t140) fun t141 =>
                  ifB t141
                  (K (.bool false) w21)
                  (pureK Tryz.prog (sNil t25) fun t147 =>
                   pureK Tryz.prog (sFieldAddr T_errataref11_Intake t147 4) fun t148 =>
                   readK Tryz.prog (sLoad T_int t148) w21 fun t149 =>
                   upK Tryz.prog (sCall F_intake_Intake_Next #[t22]) w21 fun t145 w22 =>
                   Is Tryz.prog (sLoad T_int t148) t149 w22 ∧ Is Tryz.prog (sLoad T_int t125) t126 w22 ∧ Is Tryz.prog (sLoad T_int t116) t117 w22 ∧ pureK Tryz.prog (sBin .neq T_int (.tmp 145) (.tmp 149) t145 t149) fun t150 =>
                   ifB t150
                   (K (.bool false) w22)
                   (pureK Tryz.prog (sNil t25) fun t156 =>
                    pureK Tryz.prog (sFieldAddr T_errataref11_Intake t156 5) fun t157 =>
                    readK Tryz.prog (sLoad T_int t157) w22 fun t158 =>
                    upK Tryz.prog (sCall F_intake_Intake_Refused #[t22]) w22 fun t154 w23 =>
                    Is Tryz.prog (sLoad T_int t157) t158 w23 ∧ Is Tryz.prog (sLoad T_int t125) t126 w23 ∧ Is Tryz.prog (sLoad T_int t116) t117 w23 ∧ pureK Tryz.prog (sBin .neq T_int (.tmp 154) (.tmp 158) t154 t158) fun t159 =>
                    ifB t159
                    (K (.bool false) w23)
                    (pureK Tryz.prog (sIdxAddr T_s_api_Entry l1 lv11.1) fun t164 =>
                     pureK Tryz.prog (sFieldAddr T_api_Entry t164 6) fun t165 =>
                     readK Tryz.prog (sLoad T_int t165) (tick w23) fun t166 =>
                     pureK Tryz.prog (sIdxAddr T_s_api_Entry l1 lv11.1) fun t171 =>
                     pureK Tryz.prog (sFieldAddr T_api_Entry t171 6) fun t172 =>
                     readK Tryz.prog (sLoad T_int t172) (tick w23) fun t173 =>
                     upK Tryz.prog (sCall F_intake_Intake_Count #[t22, t166]) (tick w23) fun t167 w24 =>
                     Is Tryz.prog (sLoad T_int t172) t173 w24 ∧ upK Tryz.prog (sCall F_errataref11_Intake_Count #[t25, t173]) w24 fun t174 w25 =>
                     pureK Tryz.prog (sBin .neq T_int (.tmp 167) (.tmp 174) t167 t174) fun t175 =>
                     ifB t175
                     (K (.bool false) w25)
                     (upK Tryz.prog (sCall F_intake_Intake_Bytes #[t22]) w25 fun t178 w26 =>
                      upK Tryz.prog (sCall F_errataref11_Intake_Bytes #[t25]) w26 fun t180 w27 =>
                      pureK Tryz.prog (sBin .neq T_string (.tmp 178) (.tmp 180) t178 t180) fun t181 =>
                      ifB t181
                      (K (.bool false) w27)
                      (pureK Tryz.prog (sNil t25) fun t187 =>
                       pureK Tryz.prog (sFieldAddr T_errataref11_Intake t187 6) fun t188 =>
                       readK Tryz.prog (sLoad T_s_api_Producer t188) w27 fun t189 =>
                       upK Tryz.prog (sCall F_intake_Intake_Producers #[t22]) w27 fun t185 w28 =>
                       Is Tryz.prog (sLoad T_s_api_Producer t188) t189 w28 ∧ upK Tryz.prog (sCall F_errataref10_Same #[t185, t189]) w28 fun t190 w29 =>
                       pureK Tryz.prog (sUn .not t190) fun t191 =>
                       ifB t191
                       (K (.bool false) w29)
                       (pureK Tryz.prog (sBin .add T_int (.tmp 50) (.const (.int .i64 1)) lv11.1 (.int .i64 1)) fun t51 =>
                        next11 (t51, ()) w29))))))))))))))
          (fun J2 =>
           readK Tryz.prog (sBlt .len #[T_s_api_Entry] T_int #[false] #[l1]) w11 fun t54 =>
           pureK Tryz.prog (sBin .quo T_int (.tmp 54) (.const (.int .i64 2)) t54 (.int .i64 2)) fun t55 =>
           pureK Tryz.prog (sBin .eql T_int (.tmp 52) (.tmp 55) lv11.1 t55) fun t56 =>
           ifB t56
           (upK Tryz.prog (sCall F_erratalaw11_known #[]) w11 fun t58 w30 =>
            pureK Tryz.prog (sSlice T_s_api_Known t58 none (some (.int .i64 1)) none) fun t59 =>
            upK Tryz.prog (sCall F_intake_Intake_Know #[t22, t59]) w30 fun t60 w31 =>
            upK Tryz.prog (sCall F_erratalaw11_known #[]) w31 fun t62 w32 =>
            pureK Tryz.prog (sSlice T_s_api_Known t62 none (some (.int .i64 1)) none) fun t63 =>
            pureK Tryz.prog (sNil t25) fun t64 =>
            pureK Tryz.prog (sFieldAddr T_errataref11_Intake t64 1) fun t65 =>
            upK Tryz.prog (sStore T_s_api_Known t65 t63) w32 fun tu w33 =>
            J2 (()) w33)
           (J2 (()) w11)))
         (J1 (()) w11))
        (J1 (()) w11))
       (J1 (()) w11))
      ((.int .i64 0), ()) w9))))
theorem erratalaw11_IntakeTells.pt_eq : erratalaw11_IntakeTells.pt = fun c0 l1 w K => FN Tryz.prog Tryz.f3 (bodyOf Tryz.f3) [4] (.node none .leaf (.node none .leaf (.node none .leaf (.node none .leaf (.node none .leaf (.node none .leaf (.node (some []) (.node none .leaf (.node none (.node none (.node none .leaf (.node none (.node none (.node (some []) .leaf .leaf) .leaf) .leaf)) .leaf) .leaf)) .leaf))))))) [c0, l1] w K := by kernel_rfl
theorem erratalaw11_IntakeTells.call {c0 l1 : Value} {w : World} {K : Value → World → Prop} (h : erratalaw11_IntakeTells.pt c0 l1 w K) : Calls Tryz.prog F_erratalaw11_IntakeTells #[c0, l1] w (retK K) :=
  calls_FN (args := [c0, l1]) Tryz.func3 (by kernel_rfl) (by rw [erratalaw11_IntakeTells.pt_eq] at h; exact h)
theorem erratalaw11_IntakeTells.up {c0 l1 : Value} {w : World} {K : Value → World → Prop} (h : Calls Tryz.prog F_erratalaw11_IntakeTells #[c0, l1] w (retK K)) : upK Tryz.prog (sCall F_erratalaw11_IntakeTells #[c0, l1]) w K :=
  up_call (fn := Tryz.f3) Tryz.func3 (by kernel_rfl) (by kernel_rfl) h

/-- errata/erratalaw11.IntakeBack -/
def erratalaw11_IntakeBack.pt (c0 l1 s2 more3 : Value) (w : World) (K : Value → World → Prop) : Prop :=
  upK Tryz.prog (sBox T_api_Config c0) w fun c4 w1 =>
  upK Tryz.prog (sCall F_erratalaw11_small #[]) w1 fun t26 w2 =>
  readK Tryz.prog (sLoad T_api_Config c4) (tick w2) fun t27 =>
  upK Tryz.prog (sCall F_erratalaw11_known #[]) (tick w2) fun t28 w3 =>
  Is Tryz.prog (sLoad T_api_Config c4) t27 w3 ∧ upK Tryz.prog (sCall F_intake_New #[t27, t28]) w3 fun t29 w4 =>
  upK Tryz.prog (sCall F_erratalaw11_few #[l1, (.int .i64 60)]) w4 fun t31 w5 =>
  pureK Tryz.prog (sUn .not t31) fun t32 =>
  ifB t32
  (ifB t26
   (pureK Tryz.prog (sBin .neq T_p_intake_Intake (.tmp 49) (.const (.pointer none)) t29 (.pointer none)) fun t50 =>
    ifB t50
    (K (.bool true) w5)
    (readK Tryz.prog (sLoad T_api_Config c4) w5 fun t52 =>
     upK Tryz.prog (sCall F_intake_Right #[t52]) w5 fun t53 w6 =>
     pureK Tryz.prog (sUn .not t53) fun t54 =>
     K t54 w6))
   (K (.bool false) w5))
  (upK Tryz.prog (sCall F_erratalaw11_few #[more3, (.int .i64 40)]) w5 fun t35 w7 =>
   pureK Tryz.prog (sUn .not t35) fun t36 =>
   ifB t36
   (ifB t26
    (pureK Tryz.prog (sBin .neq T_p_intake_Intake (.tmp 49) (.const (.pointer none)) t29 (.pointer none)) fun t50_1 =>
     ifB t50_1
     (K (.bool true) w7)
     (readK Tryz.prog (sLoad T_api_Config c4) w7 fun t52_1 =>
      upK Tryz.prog (sCall F_intake_Right #[t52_1]) w7 fun t53_1 w8 =>
      pureK Tryz.prog (sUn .not t53_1) fun t54_1 =>
      K t54_1 w8))
    (K (.bool false) w7))
   (readK Tryz.prog (sBlt .len #[T_string] T_int #[false] #[s2]) w7 fun t40 =>
    pureK Tryz.prog (sBin .gtr T_int (.tmp 40) (.const (.int .i64 400)) t40 (.int .i64 400)) fun t41 =>
    ifB t41
    (ifB t26
     (pureK Tryz.prog (sBin .neq T_p_intake_Intake (.tmp 49) (.const (.pointer none)) t29 (.pointer none)) fun t50_2 =>
      ifB t50_2
      (K (.bool true) w7)
      (readK Tryz.prog (sLoad T_api_Config c4) w7 fun t52_2 =>
       upK Tryz.prog (sCall F_intake_Right #[t52_2]) w7 fun t53_2 w9 =>
       pureK Tryz.prog (sUn .not t53_2) fun t54_2 =>
       K t54_2 w9))
     (K (.bool false) w7))
    (pureK Tryz.prog (sBin .eql T_p_intake_Intake (.tmp 44) (.const (.pointer none)) t29 (.pointer none)) fun t45 =>
     ifB t45
     (ifB t26
      (pureK Tryz.prog (sBin .neq T_p_intake_Intake (.tmp 49) (.const (.pointer none)) t29 (.pointer none)) fun t50_3 =>
       ifB t50_3
       (K (.bool true) w7)
       (readK Tryz.prog (sLoad T_api_Config c4) w7 fun t52_3 =>
        upK Tryz.prog (sCall F_intake_Right #[t52_3]) w7 fun t53_3 w10 =>
        pureK Tryz.prog (sUn .not t53_3) fun t54_3 =>
        K t54_3 w10))
      (K (.bool false) w7))
     (LOOP (X := Value × Unit) (fun lv11 w11 next11 =>
       readK Tryz.prog (sBlt .len #[T_s_api_Entry] T_int #[false] #[l1]) w11 fun t59 =>
       pureK Tryz.prog (sBin .lss T_int (.tmp 57) (.tmp 59) lv11.1 t59) fun t60 =>
       ifB t60
       (pureK Tryz.prog (sIdxAddr T_s_api_Entry l1 lv11.1) fun t66 =>
        readK Tryz.prog (sLoad T_api_Entry t66) w11 fun t67 =>
        upK Tryz.prog (sCall F_intake_Intake_Apply #[t29, t67]) w11 fun t68 w12 =>
        pureK Tryz.prog (sBin .add T_int (.tmp 61) (.const (.int .i64 1)) lv11.1 (.int .i64 1)) fun t62 =>
        next11 (t62, ()) w12)
       (readK Tryz.prog (sLoad T_api_Config c4) (tick w11) fun t70 =>
        upK Tryz.prog (sCall F_erratalaw11_known #[]) (tick w11) fun t71 w13 =>
        Is Tryz.prog (sLoad T_api_Config c4) t70 w13 ∧ upK Tryz.prog (sCall F_intake_Intake_Bytes #[t29]) w13 fun t73 w14 =>
        Is Tryz.prog (sLoad T_api_Config c4) t70 w14 ∧ upK Tryz.prog (sCall F_intake_Read #[t70, t71, t73]) w14 fun t74 w15 =>
        pureK Tryz.prog (sExtract t74 0) fun t75 =>
        pureK Tryz.prog (sExtract t74 1) fun t76 =>
        upK Tryz.prog (sCall F_intake_Intake_Copy #[t29]) w15 fun t78 w16 =>
        pureK Tryz.prog (sUn .not t76) fun t80 =>
        ifB t80
        (K (.bool false) w16)
        (pureK Tryz.prog (sBin .eql T_p_intake_Intake (.tmp 82) (.const (.pointer none)) t75 (.pointer none)) fun t83 =>
         ifB t83
         (K (.bool false) w16)
         (pureK Tryz.prog (sBin .eql T_p_intake_Intake (.tmp 86) (.const (.pointer none)) t78 (.pointer none)) fun t87 =>
          ifB t87
          (K (.bool false) w16)
          (LOOP (X := Value × Unit) (fun lv17 w17 next17 =>
            readK Tryz.prog (sBlt .len #[T_s_api_Entry] T_int #[false] #[more3]) w17 fun t91 =>
            pureK Tryz.prog (sBin .lss T_int (.tmp 89) (.tmp 91) lv17.1 t91) fun t92 =>
            ifB t92
            (pureK Tryz.prog (sIdxAddr T_s_api_Entry more3 lv17.1) fun t99 =>
             readK Tryz.prog (sLoad T_api_Entry t99) w17 fun t100 =>
             upK Tryz.prog (sCall F_intake_Intake_Apply #[t29, t100]) w17 fun t101 w18 =>
             pureK Tryz.prog (sExtract t101 0) fun t102 =>
             pureK Tryz.prog (sExtract t101 1) fun t103 =>
             pureK Tryz.prog (sIdxAddr T_s_api_Entry more3 lv17.1) fun t108 =>
             readK Tryz.prog (sLoad T_api_Entry t108) w18 fun t109 =>
             upK Tryz.prog (sCall F_intake_Intake_Apply #[t75, t109]) w18 fun t110 w19 =>
             pureK Tryz.prog (sExtract t110 0) fun t111 =>
             pureK Tryz.prog (sExtract t110 1) fun t112 =>
             pureK Tryz.prog (sIdxAddr T_s_api_Entry more3 lv17.1) fun t117 =>
             readK Tryz.prog (sLoad T_api_Entry t117) w19 fun t118 =>
             upK Tryz.prog (sCall F_intake_Intake_Apply #[t78, t118]) w19 fun t119 w20 =>
             pureK Tryz.prog (sExtract t119 0) fun t120 =>
             pureK Tryz.prog (sExtract t119 1) fun t121 =>
             pureK Tryz.prog (sBin .neq T_int (.tmp 122) (.tmp 123) t102 t111) fun t124 =>
             ifB t124
             (K (.bool false) w20)
             (pureK Tryz.prog (sBin .neq T_int (.tmp 126) (.tmp 127) t102 t120) fun t128 =>
              ifB t128
              (K (.bool false) w20)
              (pureK Tryz.prog (sBin .neq T_api_Errno (.tmp 131) (.tmp 132) t103 t112) fun t133 =>
               ifB t133
               (K (.bool false) w20)
               (pureK Tryz.prog (sBin .neq T_api_Errno (.tmp 136) (.tmp 137) t103 t121) fun t138 =>
                ifB t138
                (K (.bool false) w20)
                (pureK Tryz.prog (sBin .add T_int (.tmp 93) (.const (.int .i64 1)) lv17.1 (.int .i64 1)) fun t94 =>
                 next17 (t94, ()) w20)))))
            (upK Tryz.prog (sCall F_intake_Intake_Bytes #[t29]) w17 fun t141 w21 =>
             upK Tryz.prog (sCall F_intake_Intake_Bytes #[t75]) w21 fun t143 w22 =>
             pureK Tryz.prog (sBin .neq T_string (.tmp 141) (.tmp 143) t141 t143) fun t144 =>
             ifB t144
             (K (.bool false) w22)
             (upK Tryz.prog (sCall F_intake_Intake_Bytes #[t29]) w22 fun t147 w23 =>
              upK Tryz.prog (sCall F_intake_Intake_Bytes #[t78]) w23 fun t149 w24 =>
              pureK Tryz.prog (sBin .neq T_string (.tmp 147) (.tmp 149) t147 t149) fun t150 =>
              ifB t150
              (K (.bool false) w24)
              (readK Tryz.prog (sLoad T_api_Config c4) (tick w24) fun t153 =>
               upK Tryz.prog (sCall F_erratalaw11_known #[]) (tick w24) fun t154 w25 =>
               Is Tryz.prog (sLoad T_api_Config c4) t153 w25 ∧ upK Tryz.prog (sCall F_intake_Read #[t153, t154, s2]) w25 fun t156 w26 =>
               pureK Tryz.prog (sExtract t156 0) fun t157 =>
               pureK Tryz.prog (sExtract t156 1) fun t158 =>
               readK Tryz.prog (sLoad T_api_Config c4) (tick w26) fun t160 =>
               upK Tryz.prog (sCall F_erratalaw11_known #[]) (tick w26) fun t161 w27 =>
               Is Tryz.prog (sLoad T_api_Config c4) t160 w27 ∧ upK Tryz.prog (sCall F_errataref11_Read #[t160, t161, s2]) w27 fun t163 w28 =>
               pureK Tryz.prog (sExtract t163 0) fun t164 =>
               pureK Tryz.prog (sExtract t163 1) fun t165 =>
               pureK Tryz.prog (sBin .neq T_bool (.tmp 166) (.tmp 167) t158 t165) fun t168 =>
               ifB t168
               (K (.bool false) w28)
               (pureK Tryz.prog (sBin .neq T_p_intake_Intake (.tmp 171) (.const (.pointer none)) t157 (.pointer none)) fun t172 =>
                pureK Tryz.prog (sBin .neq T_bool (.tmp 170) (.tmp 172) t158 t172) fun t173 =>
                ifB t173
                (K (.bool false) w28)
                (ifB t26
                 (pureK Tryz.prog (sBin .eql T_p_intake_Intake (.tmp 177) (.const (.pointer none)) t157 (.pointer none)) fun t178 =>
                  ifB t178
                  (K (.bool true) w28)
                  (upK Tryz.prog (sCall F_intake_Intake_Bytes #[t157]) w28 fun t181 w29 =>
                   pureK Tryz.prog (sBin .eql T_string (.tmp 181) (.tmp 182) t181 s2) fun t183 =>
                   K t183 w29))
                 (K (.bool false) w28)))))))
           ((.int .i64 0), ()) w16)))))
      ((.int .i64 0), ()) w7))))
theorem erratalaw11_IntakeBack.pt_eq : erratalaw11_IntakeBack.pt = fun c0 l1 s2 more3 w K => FN Tryz.prog Tryz.f4 (bodyOf Tryz.f4) [8] .leaf [c0, l1, s2, more3] w K := by kernel_rfl
theorem erratalaw11_IntakeBack.call {c0 l1 s2 more3 : Value} {w : World} {K : Value → World → Prop} (h : erratalaw11_IntakeBack.pt c0 l1 s2 more3 w K) : Calls Tryz.prog F_erratalaw11_IntakeBack #[c0, l1, s2, more3] w (retK K) :=
  calls_FN (args := [c0, l1, s2, more3]) Tryz.func4 (by kernel_rfl) (by rw [erratalaw11_IntakeBack.pt_eq] at h; exact h)
theorem erratalaw11_IntakeBack.up {c0 l1 s2 more3 : Value} {w : World} {K : Value → World → Prop} (h : Calls Tryz.prog F_erratalaw11_IntakeBack #[c0, l1, s2, more3] w (retK K)) : upK Tryz.prog (sCall F_erratalaw11_IntakeBack #[c0, l1, s2, more3]) w K :=
  up_call (fn := Tryz.f4) Tryz.func4 (by kernel_rfl) (by kernel_rfl) h

/-- errata/erratalaw11.IntakeRefuses -/
def erratalaw11_IntakeRefuses.pt (c0 l1 : Value) (w : World) (K : Value → World → Prop) : Prop :=
  upK Tryz.prog (sBox T_api_Config c0) w fun c2 w1 =>
  upK Tryz.prog (sCall F_erratalaw11_small #[]) w1 fun t15 w2 =>
  readK Tryz.prog (sLoad T_api_Config c2) (tick w2) fun t16 =>
  upK Tryz.prog (sCall F_erratalaw11_known #[]) (tick w2) fun t17 w3 =>
  Is Tryz.prog (sLoad T_api_Config c2) t16 w3 ∧ upK Tryz.prog (sCall F_intake_New #[t16, t17]) w3 fun t18 w4 =>
  readK Tryz.prog (sLoad T_api_Config c2) (tick w4) fun t19 =>
  upK Tryz.prog (sCall F_erratalaw11_known #[]) (tick w4) fun t20 w5 =>
  Is Tryz.prog (sLoad T_api_Config c2) t19 w5 ∧ upK Tryz.prog (sCall F_intake_New #[t19, t20]) w5 fun t21 w6 =>
  upK Tryz.prog (sCall F_erratalaw11_few #[l1, (.int .i64 100)]) w6 fun t23 w7 =>
  pureK Tryz.prog (sUn .not t23) fun t24 =>
  ifB t24
  (ifB t15
   (pureK Tryz.prog (sBin .neq T_p_intake_Intake (.tmp 35) (.const (.pointer none)) t18 (.pointer none)) fun t36 =>
    ifB t36
    (pureK Tryz.prog (sBin .neq T_p_intake_Intake (.tmp 38) (.const (.pointer none)) t21 (.pointer none)) fun t39 =>
     ifB t39
     (K (.bool true) w7)
     (readK Tryz.prog (sLoad T_api_Config c2) w7 fun t42 =>
      upK Tryz.prog (sCall F_intake_Right #[t42]) w7 fun t43 w8 =>
      pureK Tryz.prog (sUn .not t43) fun t44 =>
      K t44 w8))
    (readK Tryz.prog (sLoad T_api_Config c2) w7 fun t42_1 =>
     upK Tryz.prog (sCall F_intake_Right #[t42_1]) w7 fun t43_1 w9 =>
     pureK Tryz.prog (sUn .not t43_1) fun t44_1 =>
     K t44_1 w9))
   (K (.bool false) w7))
  (pureK Tryz.prog (sBin .eql T_p_intake_Intake (.tmp 26) (.const (.pointer none)) t18 (.pointer none)) fun t27 =>
   ifB t27
   (ifB t15
    (pureK Tryz.prog (sBin .neq T_p_intake_Intake (.tmp 35) (.const (.pointer none)) t18 (.pointer none)) fun t36_1 =>
     ifB t36_1
     (pureK Tryz.prog (sBin .neq T_p_intake_Intake (.tmp 38) (.const (.pointer none)) t21 (.pointer none)) fun t39_1 =>
      ifB t39_1
      (K (.bool true) w7)
      (readK Tryz.prog (sLoad T_api_Config c2) w7 fun t42_2 =>
       upK Tryz.prog (sCall F_intake_Right #[t42_2]) w7 fun t43_2 w10 =>
       pureK Tryz.prog (sUn .not t43_2) fun t44_2 =>
       K t44_2 w10))
     (readK Tryz.prog (sLoad T_api_Config c2) w7 fun t42_3 =>
      upK Tryz.prog (sCall F_intake_Right #[t42_3]) w7 fun t43_3 w11 =>
      pureK Tryz.prog (sUn .not t43_3) fun t44_3 =>
      K t44_3 w11))
    (K (.bool false) w7))
   (pureK Tryz.prog (sBin .eql T_p_intake_Intake (.tmp 30) (.const (.pointer none)) t21 (.pointer none)) fun t31 =>
    ifB t31
    (ifB t15
     (pureK Tryz.prog (sBin .neq T_p_intake_Intake (.tmp 35) (.const (.pointer none)) t18 (.pointer none)) fun t36_2 =>
      ifB t36_2
      (pureK Tryz.prog (sBin .neq T_p_intake_Intake (.tmp 38) (.const (.pointer none)) t21 (.pointer none)) fun t39_2 =>
       ifB t39_2
       (K (.bool true) w7)
       (readK Tryz.prog (sLoad T_api_Config c2) w7 fun t42_4 =>
        upK Tryz.prog (sCall F_intake_Right #[t42_4]) w7 fun t43_4 w12 =>
        pureK Tryz.prog (sUn .not t43_4) fun t44_4 =>
        K t44_4 w12))
      (readK Tryz.prog (sLoad T_api_Config c2) w7 fun t42_5 =>
       upK Tryz.prog (sCall F_intake_Right #[t42_5]) w7 fun t43_5 w13 =>
       pureK Tryz.prog (sUn .not t43_5) fun t44_5 =>
       K t44_5 w13))
     (K (.bool false) w7))
    (LOOP (X := Value × Value × Unit) (fun lv14 w14 next14 =>
      readK Tryz.prog (sBlt .len #[T_s_api_Entry] T_int #[false] #[l1]) w14 fun t49 =>
      pureK Tryz.prog (sBin .lss T_int (.tmp 47) (.tmp 49) lv14.2.1 t49) fun t50 =>
      ifB t50
      (LETJ (X := Value × Unit) (fun jv1 w15 =>
        pureK Tryz.prog (sBin .add T_int (.tmp 51) (.const (.int .i64 1)) lv14.2.1 (.int .i64 1)) fun t52 =>
        next14 (jv1.1, t52, ()) w15)
       (fun J1 =>
        upK Tryz.prog (sCall F_intake_Intake_Copy #[t18]) w14 fun t54 w16 =>
        pureK Tryz.prog (sIdxAddr T_s_api_Entry l1 lv14.2.1) fun t59 =>
        readK Tryz.prog (sLoad T_api_Entry t59) w16 fun t60 =>
        upK Tryz.prog (sCall F_intake_Intake_Apply #[t18, t60]) w16 fun t61 w17 =>
        pureK Tryz.prog (sExtract t61 0) fun t62 =>
        pureK Tryz.prog (sExtract t61 1) fun t63 =>
        pureK Tryz.prog (sBin .eql T_api_Errno (.tmp 64) (.const (.int .i64 0)) t63 (.int .i64 0)) fun t65 =>
        ifB t65
        (pureK Tryz.prog (sIdxAddr T_s_api_Entry l1 lv14.2.1) fun t69 =>
         readK Tryz.prog (sLoad T_api_Entry t69) w17 fun t70 =>
         upK Tryz.prog (sCall F_intake_Intake_Apply #[t21, t70]) w17 fun t71 w18 =>
         J1 (lv14.1, ()) w18)
        (LETJ (X := Value × Unit) (fun jv2 w19 =>
          pureK Tryz.prog (sBin .eql T_p_intake_Intake (.tmp 84) (.const (.pointer none)) t54 (.pointer none)) fun t85 =>
          ifB t85
          (K (.bool false) w19)
          (upK Tryz.prog (sCall F_intake_Intake_Next #[t18]) w19 fun t88 w20 =>
           upK Tryz.prog (sCall F_intake_Intake_Next #[t21]) w20 fun t90 w21 =>
           pureK Tryz.prog (sBin .neq T_int (.tmp 88) (.tmp 90) t88 t90) fun t91 =>
           ifB t91
           (K (.bool false) w21)
           (upK Tryz.prog (sCall F_intake_Intake_Top #[t18]) w21 fun t95 w22 =>
            upK Tryz.prog (sCall F_intake_Intake_Top #[t21]) w22 fun t97 w23 =>
            pureK Tryz.prog (sBin .neq T_int (.tmp 95) (.tmp 97) t95 t97) fun t98 =>
            ifB t98
            (K (.bool false) w23)
            (upK Tryz.prog (sCall F_intake_Intake_Now #[t18]) w23 fun t102 w24 =>
             upK Tryz.prog (sCall F_intake_Intake_Now #[t21]) w24 fun t104 w25 =>
             pureK Tryz.prog (sBin .neq T_int (.tmp 102) (.tmp 104) t102 t104) fun t105 =>
             ifB t105
             (K (.bool false) w25)
             (upK Tryz.prog (sCall F_intake_Intake_Producers #[t18]) w25 fun t109 w26 =>
              upK Tryz.prog (sCall F_producer_Bytes #[t109]) w26 fun t110 w27 =>
              upK Tryz.prog (sCall F_intake_Intake_Producers #[t54]) w27 fun t112 w28 =>
              upK Tryz.prog (sCall F_producer_Bytes #[t112]) w28 fun t113 w29 =>
              pureK Tryz.prog (sBin .neq T_string (.tmp 110) (.tmp 113) t110 t113) fun t114 =>
              ifB t114
              (K (.bool false) w29)
              (J1 (jv2.1, ()) w29))))))
         (fun J2 =>
          pureK Tryz.prog (sIdxAddr T_s_api_Entry l1 lv14.2.1) fun t74 =>
          pureK Tryz.prog (sFieldAddr T_api_Entry t74 0) fun t75 =>
          readK Tryz.prog (sLoad T_int t75) w17 fun t76 =>
          pureK Tryz.prog (sBin .eql T_int (.tmp 76) (.const (.int .i64 0)) t76 (.int .i64 0)) fun t77 =>
          ifB t77
          (pureK Tryz.prog (sBin .neq T_api_Errno (.tmp 79) (.const (.int .i64 5)) t63 (.int .i64 5)) fun t80 =>
           ifB t80
           (pureK Tryz.prog (sBin .add T_int (.tmp 82) (.const (.int .i64 1)) lv14.1 (.int .i64 1)) fun t83 =>
            J2 (t83, ()) w17)
           (J2 (lv14.1, ()) w17))
          (J2 (lv14.1, ()) w17)))))
      (readK Tryz.prog (sLoad T_api_Config c2) (tick w14) fun t117 =>
       upK Tryz.prog (sCall F_erratalaw11_known #[]) (tick w14) fun t118 w30 =>
       Is Tryz.prog (sLoad T_api_Config c2) t117 w30 ∧ upK Tryz.prog (sCall F_intake_Intake_Bytes #[t21]) w30 fun t120 w31 =>
       Is Tryz.prog (sLoad T_api_Config c2) t117 w31 ∧ upK Tryz.prog (sCall F_intake_Read #[t117, t118, t120]) w31 fun t121 w32 =>
       pureK Tryz.prog (sExtract t121 0) fun t122 =>
       pureK Tryz.prog (sExtract t121 1) fun t123 =>
       pureK Tryz.prog (sUn .not t123) fun t125 =>
       ifB t125
       (K (.bool false) w32)
       (pureK Tryz.prog (sBin .eql T_p_intake_Intake (.tmp 127) (.const (.pointer none)) t122 (.pointer none)) fun t128 =>
        ifB t128
        (K (.bool false) w32)
        (upK Tryz.prog (sCall F_intake_Intake_Refused #[t18]) w32 fun t132 w33 =>
         pureK Tryz.prog (sBin .neq T_int (.tmp 132) (.tmp 133) t132 lv14.1) fun t134 =>
         ifB t134
         (K (.bool false) w33)
         (upK Tryz.prog (sCall F_intake_Intake_Refused #[t21]) w33 fun t138 w34 =>
          pureK Tryz.prog (sBin .neq T_int (.tmp 138) (.const (.int .i64 0)) t138 (.int .i64 0)) fun t139 =>
          ifB t139
          (K (.bool false) w34)
          (ifB t15
           (upK Tryz.prog (sCall F_intake_Intake_Bytes #[t122]) w34 fun t144 w35 =>
            upK Tryz.prog (sCall F_intake_Intake_Bytes #[t21]) w35 fun t146 w36 =>
            pureK Tryz.prog (sBin .eql T_string (.tmp 144) (.tmp 146) t144 t146) fun t147 =>
            ifB t147
            (upK Tryz.prog (sCall F_intake_Intake_Next #[t122]) w36 fun t151 w37 =>
             upK Tryz.prog (sCall F_intake_Intake_Next #[t18]) w37 fun t153 w38 =>
             pureK Tryz.prog (sBin .eql T_int (.tmp 151) (.tmp 153) t151 t153) fun t154 =>
             ifB t154
             (upK Tryz.prog (sCall F_intake_Intake_Producers #[t122]) w38 fun t158 w39 =>
              upK Tryz.prog (sCall F_producer_Bytes #[t158]) w39 fun t159 w40 =>
              upK Tryz.prog (sCall F_intake_Intake_Producers #[t18]) w40 fun t161 w41 =>
              upK Tryz.prog (sCall F_producer_Bytes #[t161]) w41 fun t162 w42 =>
              pureK Tryz.prog (sBin .eql T_string (.tmp 159) (.tmp 162) t159 t162) fun t163 =>
              K t163 w42)
             (K (.bool false) w38))
            (K (.bool false) w36))
           (K (.bool false) w34)))))))
     ((.int .i64 0), (.int .i64 0), ()) w7)))
theorem erratalaw11_IntakeRefuses.pt_eq : erratalaw11_IntakeRefuses.pt = fun c0 l1 w K => FN Tryz.prog Tryz.f5 (bodyOf Tryz.f5) [4] (.node none .leaf (.node none .leaf (.node none .leaf (.node none .leaf (.node none .leaf (.node none .leaf (.node none (.node none .leaf (.node none (.node none (.node none .leaf (.node (some [8]) (.node none (.node none .leaf (.node none .leaf (.node none .leaf (.node (some [8]) .leaf .leaf)))) .leaf) .leaf)) .leaf) .leaf)) .leaf))))))) [c0, l1] w K := by kernel_rfl
theorem erratalaw11_IntakeRefuses.call {c0 l1 : Value} {w : World} {K : Value → World → Prop} (h : erratalaw11_IntakeRefuses.pt c0 l1 w K) : Calls Tryz.prog F_erratalaw11_IntakeRefuses #[c0, l1] w (retK K) :=
  calls_FN (args := [c0, l1]) Tryz.func5 (by kernel_rfl) (by rw [erratalaw11_IntakeRefuses.pt_eq] at h; exact h)
theorem erratalaw11_IntakeRefuses.up {c0 l1 : Value} {w : World} {K : Value → World → Prop} (h : Calls Tryz.prog F_erratalaw11_IntakeRefuses #[c0, l1] w (retK K)) : upK Tryz.prog (sCall F_erratalaw11_IntakeRefuses #[c0, l1]) w K :=
  up_call (fn := Tryz.f5) Tryz.func5 (by kernel_rfl) (by kernel_rfl) h

/-- errata/erratalaw11.small -/
def erratalaw11_small.pt (w : World) (K : Value → World → Prop) : Prop :=
  pureK Tryz.prog (sBuild T_api_Config #[(1, (.int .i64 2)), (2, (.int .i64 5)), (3, (.int .i64 100)), (4, (.int .i64 1))]) fun t15 =>
  upK Tryz.prog (sCall F_erratalaw11_known #[]) w fun t16 w1 =>
  upK Tryz.prog (sCall F_intake_New #[t15, t16]) w1 fun t17 w2 =>
  pureK Tryz.prog (sBin .eql T_p_intake_Intake (.tmp 18) (.const (.pointer none)) t17 (.pointer none)) fun t19 =>
  ifB t19
  (K (.bool false) w2)
  (upK Tryz.prog (sCall F_erratalaw11_entry #[(.int .i64 0), (.int .i64 10), (.int .i64 1)]) w2 fun t22 w3 =>
   upK Tryz.prog (sCall F_intake_Intake_Apply #[t17, t22]) w3 fun t23 w4 =>
   pureK Tryz.prog (sExtract t23 0) fun t24 =>
   pureK Tryz.prog (sExtract t23 1) fun t25 =>
   upK Tryz.prog (sCall F_erratalaw11_entry #[(.int .i64 0), (.int .i64 10), (.int .i64 1)]) w4 fun t28 w5 =>
   upK Tryz.prog (sCall F_intake_Intake_Apply #[t17, t28]) w5 fun t29 w6 =>
   pureK Tryz.prog (sExtract t29 0) fun t30 =>
   pureK Tryz.prog (sExtract t29 1) fun t31 =>
   upK Tryz.prog (sCall F_erratalaw11_entry #[(.int .i64 1), (.int .i64 10), (.int .i64 2)]) w6 fun t34 w7 =>
   upK Tryz.prog (sCall F_intake_Intake_Apply #[t17, t34]) w7 fun t35 w8 =>
   pureK Tryz.prog (sExtract t35 0) fun t36 =>
   pureK Tryz.prog (sExtract t35 1) fun t37 =>
   upK Tryz.prog (sCall F_erratalaw11_entry #[(.int .i64 1), (.int .i64 4), (.int .i64 2)]) w8 fun t40 w9 =>
   upK Tryz.prog (sCall F_intake_Intake_Apply #[t17, t40]) w9 fun t41 w10 =>
   pureK Tryz.prog (sExtract t41 0) fun t42 =>
   pureK Tryz.prog (sExtract t41 1) fun t43 =>
   upK Tryz.prog (sCall F_erratalaw11_entry #[(.int .i64 1), (.int .i64 5), (.int .i64 2)]) w10 fun t46 w11 =>
   upK Tryz.prog (sCall F_intake_Intake_Apply #[t17, t46]) w11 fun t47 w12 =>
   pureK Tryz.prog (sExtract t47 0) fun t48 =>
   pureK Tryz.prog (sExtract t47 1) fun t49 =>
   upK Tryz.prog (sCall F_erratalaw11_entry #[(.int .i64 2), (.int .i64 101), (.int .i64 1)]) w12 fun t52 w13 =>
   upK Tryz.prog (sCall F_intake_Intake_Apply #[t17, t52]) w13 fun t53 w14 =>
   pureK Tryz.prog (sExtract t53 0) fun t54 =>
   pureK Tryz.prog (sExtract t53 1) fun t55 =>
   pureK Tryz.prog (sBin .eql T_int (.tmp 56) (.const (.int .i64 0)) t24 (.int .i64 0)) fun t57 =>
   ifB t57
   (pureK Tryz.prog (sBin .eql T_api_Errno (.tmp 59) (.const (.int .i64 0)) t25 (.int .i64 0)) fun t60 =>
    ifB t60
    (pureK Tryz.prog (sBin .eql T_int (.tmp 63) (.const (.int .i64 0)) t30 (.int .i64 0)) fun t64 =>
     ifB t64
     (pureK Tryz.prog (sBin .eql T_api_Errno (.tmp 67) (.const (.int .i64 5)) t31 (.int .i64 5)) fun t68 =>
      ifB t68
      (pureK Tryz.prog (sBin .eql T_api_Errno (.tmp 71) (.const (.int .i64 22)) t37 (.int .i64 22)) fun t72 =>
       ifB t72
       (pureK Tryz.prog (sBin .eql T_api_Errno (.tmp 75) (.const (.int .i64 20)) t43 (.int .i64 20)) fun t76 =>
        ifB t76
        (pureK Tryz.prog (sBin .eql T_int (.tmp 80) (.const (.int .i64 1)) t48 (.int .i64 1)) fun t81 =>
         ifB t81
         (pureK Tryz.prog (sBin .eql T_api_Errno (.tmp 84) (.const (.int .i64 0)) t49 (.int .i64 0)) fun t85 =>
          ifB t85
          (pureK Tryz.prog (sBin .eql T_api_Errno (.tmp 88) (.const (.int .i64 21)) t55 (.int .i64 21)) fun t89 =>
           ifB t89
           (upK Tryz.prog (sCall F_intake_Intake_Closed #[t17]) w14 fun t93 w15 =>
            pureK Tryz.prog (sBin .eql T_int (.tmp 93) (.const (.int .i64 4)) t93 (.int .i64 4)) fun t94 =>
            ifB t94
            (upK Tryz.prog (sCall F_intake_Intake_Mark #[t17]) w15 fun t98 w16 =>
             pureK Tryz.prog (sBin .eql T_int (.tmp 98) (.const (.int .i64 7)) t98 (.int .i64 7)) fun t99 =>
             ifB t99
             (upK Tryz.prog (sCall F_intake_Intake_Refused #[t17]) w16 fun t103 w17 =>
              pureK Tryz.prog (sBin .eql T_int (.tmp 103) (.const (.int .i64 3)) t103 (.int .i64 3)) fun t104 =>
              K t104 w17)
             (K (.bool false) w16))
            (K (.bool false) w15))
           (K (.bool false) w14))
          (K (.bool false) w14))
         (K (.bool false) w14))
        (K (.bool false) w14))
       (K (.bool false) w14))
      (K (.bool false) w14))
     (K (.bool false) w14))
    (K (.bool false) w14))
   (K (.bool false) w14))
theorem erratalaw11_small.pt_eq : erratalaw11_small.pt = fun  w K => FN Tryz.prog Tryz.f6 (bodyOf Tryz.f6) [0] .leaf [] w K := by kernel_rfl
theorem erratalaw11_small.call {w : World} {K : Value → World → Prop} (h : erratalaw11_small.pt  w K) : Calls Tryz.prog F_erratalaw11_small #[] w (retK K) :=
  calls_FN (args := []) Tryz.func6 (by kernel_rfl) (by rw [erratalaw11_small.pt_eq] at h; exact h)
theorem erratalaw11_small.up {w : World} {K : Value → World → Prop} (h : Calls Tryz.prog F_erratalaw11_small #[] w (retK K)) : upK Tryz.prog (sCall F_erratalaw11_small #[]) w K :=
  up_call (fn := Tryz.f6) Tryz.func6 (by kernel_rfl) (by kernel_rfl) h

/-- errata/erratalaw11.few -/
def erratalaw11_few.pt (l0 n1 : Value) (w : World) (K : Value → World → Prop) : Prop :=
  LOOP (X := Value × Unit) (fun lv1 w1 next1 =>
   readK Tryz.prog (sBlt .len #[T_s_api_Entry] T_int #[false] #[l0]) w1 fun t9 =>
   pureK Tryz.prog (sBin .lss T_int (.tmp 7) (.tmp 9) lv1.1 t9) fun t10 =>
   ifB t10
   (LETJ (X := Unit) (fun jv1 w2 =>
     pureK Tryz.prog (sBin .add T_int (.tmp 11) (.const (.int .i64 1)) lv1.1 (.int .i64 1)) fun t12 =>
     next1 (t12, ()) w2)
    (fun J1 =>
     pureK Tryz.prog (sIdxAddr T_s_api_Entry l0 lv1.1) fun t15 =>
     pureK Tryz.prog (sFieldAddr T_api_Entry t15 7) fun t16 =>
     readK Tryz.prog (sLoad T_s_api_Value t16) w1 fun t17 =>
     readK Tryz.prog (sBlt .len #[T_s_api_Value] T_int #[false] #[t17]) w1 fun t18 =>
     pureK Tryz.prog (sBin .gtr T_int (.tmp 18) (.const (.int .i64 12)) t18 (.int .i64 12)) fun t19 =>
     ifB t19
     (K (.bool false) w1)
     (pureK Tryz.prog (sIdxAddr T_s_api_Entry l0 lv1.1) fun t23 =>
      pureK Tryz.prog (sFieldAddr T_api_Entry t23 4) fun t24 =>
      readK Tryz.prog (sLoad T_string t24) w1 fun t25 =>
      readK Tryz.prog (sBlt .len #[T_string] T_int #[false] #[t25]) w1 fun t26 =>
      pureK Tryz.prog (sBin .gtr T_int (.tmp 26) (.const (.int .i64 30)) t26 (.int .i64 30)) fun t27 =>
      ifB t27
      (K (.bool false) w1)
      (LOOP (X := Value × Unit) (fun lv3 w3 next3 =>
        pureK Tryz.prog (sIdxAddr T_s_api_Entry l0 lv1.1) fun t32 =>
        pureK Tryz.prog (sFieldAddr T_api_Entry t32 7) fun t33 =>
        readK Tryz.prog (sLoad T_s_api_Value t33) w3 fun t34 =>
        readK Tryz.prog (sBlt .len #[T_s_api_Value] T_int #[false] #[t34]) w3 fun t35 =>
        pureK Tryz.prog (sBin .lss T_int (.tmp 29) (.tmp 35) lv3.1 t35) fun t36 =>
        ifB t36
        (pureK Tryz.prog (sIdxAddr T_s_api_Entry l0 lv1.1) fun t41 =>
         pureK Tryz.prog (sFieldAddr T_api_Entry t41 7) fun t42 =>
         readK Tryz.prog (sLoad T_s_api_Value t42) w3 fun t43 =>
         pureK Tryz.prog (sIdxAddr T_s_api_Value t43 lv3.1) fun t45 =>
         pureK Tryz.prog (sFieldAddr T_api_Value t45 2) fun t46 =>
         readK Tryz.prog (sLoad T_string t46) w3 fun t47 =>
         readK Tryz.prog (sBlt .len #[T_string] T_int #[false] #[t47]) w3 fun t48 =>
         pureK Tryz.prog (sBin .gtr T_int (.tmp 48) (.const (.int .i64 210)) t48 (.int .i64 210)) fun t49 =>
         ifB t49
         (K (.bool false) w3)
         (pureK Tryz.prog (sBin .add T_int (.tmp 37) (.const (.int .i64 1)) lv3.1 (.int .i64 1)) fun t38 =>
          next3 (t38, ()) w3))
        (J1 (()) w3))
       ((.int .i64 0), ()) w1))))
   (readK Tryz.prog (sBlt .len #[T_s_api_Entry] T_int #[false] #[l0]) w1 fun t51 =>
    pureK Tryz.prog (sBin .leq T_int (.tmp 51) (.tmp 52) t51 n1) fun t53 =>
    K t53 w1))
  ((.int .i64 0), ()) w
theorem erratalaw11_few.pt_eq : erratalaw11_few.pt = fun l0 n1 w K => FN Tryz.prog Tryz.f7 (bodyOf Tryz.f7) [4] (.node none .leaf (.node none (.node none .leaf (.node none (.node none (.node none .leaf (.node (some []) .leaf .leaf)) .leaf) .leaf)) .leaf)) [l0, n1] w K := by kernel_rfl
theorem erratalaw11_few.call {l0 n1 : Value} {w : World} {K : Value → World → Prop} (h : erratalaw11_few.pt l0 n1 w K) : Calls Tryz.prog F_erratalaw11_few #[l0, n1] w (retK K) :=
  calls_FN (args := [l0, n1]) Tryz.func7 (by kernel_rfl) (by rw [erratalaw11_few.pt_eq] at h; exact h)
theorem erratalaw11_few.up {l0 n1 : Value} {w : World} {K : Value → World → Prop} (h : Calls Tryz.prog F_erratalaw11_few #[l0, n1] w (retK K)) : upK Tryz.prog (sCall F_erratalaw11_few #[l0, n1]) w K :=
  up_call (fn := Tryz.f7) Tryz.func7 (by kernel_rfl) (by kernel_rfl) h

/-- errata/intake.New -/
def intake_New.pt (c0 known1 : Value) (w : World) (K : Value → World → Prop) : Prop :=
  upK Tryz.prog (sBox T_api_Config c0) w fun c2 w1 =>
  readK Tryz.prog (sLoad T_api_Config c2) w1 fun t6 =>
  upK Tryz.prog (sCall F_intake_Right #[t6]) w1 fun t7 w2 =>
  pureK Tryz.prog (sUn .not t7) fun t8 =>
  ifB t8
  (K (.pointer none) w2)
  (readK Tryz.prog (sLoad T_api_Config c2) w2 fun t9 =>
   upK Tryz.prog (sMkMap T_map_int_int none) w2 fun t10 w3 =>
   pureK Tryz.prog (sBuild T_intake_Intake #[(0, t9), (3, (.int .i64 (-1))), (7, t10)]) fun t11 =>
   upK Tryz.prog (sBox T_intake_Intake t11) w3 fun t12 w4 =>
   upK Tryz.prog (sCall F_intake_Intake_Know #[t12, known1]) w4 fun t15 w5 =>
   K t12 w5)
theorem intake_New.pt_eq : intake_New.pt = fun c0 known1 w K => FN Tryz.prog Tryz.f8 (bodyOf Tryz.f8) [4] .leaf [c0, known1] w K := by kernel_rfl
theorem intake_New.call {c0 known1 : Value} {w : World} {K : Value → World → Prop} (h : intake_New.pt c0 known1 w K) : Calls Tryz.prog F_intake_New #[c0, known1] w (retK K) :=
  calls_FN (args := [c0, known1]) Tryz.func8 (by kernel_rfl) (by rw [intake_New.pt_eq] at h; exact h)
theorem intake_New.up {c0 known1 : Value} {w : World} {K : Value → World → Prop} (h : Calls Tryz.prog F_intake_New #[c0, known1] w (retK K)) : upK Tryz.prog (sCall F_intake_New #[c0, known1]) w K :=
  up_call (fn := Tryz.f8) Tryz.func8 (by kernel_rfl) (by kernel_rfl) h

/-- errata/erratalaw11.known -/
def erratalaw11_known.pt (w : World) (K : Value → World → Prop) : Prop :=
  pureK Tryz.prog (sBuild T_api_Col #[(0, (.string ⟨#[97]⟩))]) fun t1 =>
  upK Tryz.prog (sBuildSlice T_s_api_Col 1 #[(0, t1)]) w fun t2 w1 =>
  pureK Tryz.prog (sBuild T_api_Known #[(0, (.string ⟨#[115]⟩)), (1, (.int .i64 1)), (2, t2)]) fun t3 =>
  pureK Tryz.prog (sBuild T_api_Col #[(0, (.string ⟨#[97]⟩)), (1, (.int .i64 1))]) fun t4 =>
  pureK Tryz.prog (sBuild T_api_Col #[(0, (.string ⟨#[98]⟩)), (1, (.int .i64 2))]) fun t5 =>
  upK Tryz.prog (sBuildSlice T_s_api_Col 2 #[(0, t4), (1, t5)]) w1 fun t6 w2 =>
  pureK Tryz.prog (sBuild T_api_Known #[(0, (.string ⟨#[116]⟩)), (1, (.int .i64 2)), (2, t6)]) fun t7 =>
  upK Tryz.prog (sBuildSlice T_s_api_Known 2 #[(0, t3), (1, t7)]) w2 fun t8 w3 =>
  K t8 w3
theorem erratalaw11_known.pt_eq : erratalaw11_known.pt = fun  w K => FN Tryz.prog Tryz.f9 (bodyOf Tryz.f9) [0] .leaf [] w K := by kernel_rfl
theorem erratalaw11_known.call {w : World} {K : Value → World → Prop} (h : erratalaw11_known.pt  w K) : Calls Tryz.prog F_erratalaw11_known #[] w (retK K) :=
  calls_FN (args := []) Tryz.func9 (by kernel_rfl) (by rw [erratalaw11_known.pt_eq] at h; exact h)
theorem erratalaw11_known.up {w : World} {K : Value → World → Prop} (h : Calls Tryz.prog F_erratalaw11_known #[] w (retK K)) : upK Tryz.prog (sCall F_erratalaw11_known #[]) w K :=
  up_call (fn := Tryz.f9) Tryz.func9 (by kernel_rfl) (by kernel_rfl) h

/-- errata/errataref11.New -/
def errataref11_New.pt (c0 known1 : Value) (w : World) (K : Value → World → Prop) : Prop :=
  upK Tryz.prog (sBox T_api_Config c0) w fun c2 w1 =>
  readK Tryz.prog (sLoad T_api_Config c2) w1 fun t5 =>
  upK Tryz.prog (sCall F_errataref11_Right #[t5]) w1 fun t6 w2 =>
  pureK Tryz.prog (sUn .not t6) fun t7 =>
  ifB t7
  (K (.pointer none) w2)
  (readK Tryz.prog (sLoad T_api_Config c2) w2 fun t8 =>
   pureK Tryz.prog (sBuild T_errataref11_Intake #[(0, t8), (1, known1), (3, (.int .i64 (-1)))]) fun t10 =>
   upK Tryz.prog (sBox T_errataref11_Intake t10) w2 fun t11 w3 =>
   K t11 w3)
theorem errataref11_New.pt_eq : errataref11_New.pt = fun c0 known1 w K => FN Tryz.prog Tryz.f10 (bodyOf Tryz.f10) [4] .leaf [c0, known1] w K := by kernel_rfl
theorem errataref11_New.call {c0 known1 : Value} {w : World} {K : Value → World → Prop} (h : errataref11_New.pt c0 known1 w K) : Calls Tryz.prog F_errataref11_New #[c0, known1] w (retK K) :=
  calls_FN (args := [c0, known1]) Tryz.func10 (by kernel_rfl) (by rw [errataref11_New.pt_eq] at h; exact h)
theorem errataref11_New.up {c0 known1 : Value} {w : World} {K : Value → World → Prop} (h : Calls Tryz.prog F_errataref11_New #[c0, known1] w (retK K)) : upK Tryz.prog (sCall F_errataref11_New #[c0, known1]) w K :=
  up_call (fn := Tryz.f10) Tryz.func10 (by kernel_rfl) (by kernel_rfl) h

/-- errata/intake.Right -/
def intake_Right.pt (c0 : Value) (w : World) (K : Value → World → Prop) : Prop :=
  upK Tryz.prog (sBox T_api_Config c0) w fun c1 w1 =>
  pureK Tryz.prog (sFieldAddr T_api_Config c1 2) fun t3 =>
  readK Tryz.prog (sLoad T_int t3) w1 fun t4 =>
  upK Tryz.prog (sCall F_intake_between #[t4, (.int .i64 0), (.int .i64 10000)]) w1 fun t5 w2 =>
  ifB t5
  (pureK Tryz.prog (sFieldAddr T_api_Config c1 1) fun t7 =>
   readK Tryz.prog (sLoad T_int t7) w2 fun t8 =>
   pureK Tryz.prog (sFieldAddr T_api_Config c1 2) fun t9 =>
   readK Tryz.prog (sLoad T_int t9) w2 fun t10 =>
   upK Tryz.prog (sCall F_intake_between #[t8, (.int .i64 0), t10]) w2 fun t11 w3 =>
   ifB t11
   (pureK Tryz.prog (sFieldAddr T_api_Config c1 3) fun t14 =>
    readK Tryz.prog (sLoad T_int t14) w3 fun t15 =>
    upK Tryz.prog (sCall F_intake_between #[t15, (.int .i64 0), (.int .i64 10000)]) w3 fun t16 w4 =>
    ifB t16
    (pureK Tryz.prog (sFieldAddr T_api_Config c1 4) fun t19 =>
     readK Tryz.prog (sLoad T_int t19) w4 fun t20 =>
     upK Tryz.prog (sCall F_intake_between #[t20, (.int .i64 1), (.int .i64 20)]) w4 fun t21 w5 =>
     K t21 w5)
    (K (.bool false) w4))
   (K (.bool false) w3))
  (K (.bool false) w2)
theorem intake_Right.pt_eq : intake_Right.pt = fun c0 w K => FN Tryz.prog Tryz.f11 (bodyOf Tryz.f11) [2] .leaf [c0] w K := by kernel_rfl
theorem intake_Right.call {c0 : Value} {w : World} {K : Value → World → Prop} (h : intake_Right.pt c0 w K) : Calls Tryz.prog F_intake_Right #[c0] w (retK K) :=
  calls_FN (args := [c0]) Tryz.func11 (by kernel_rfl) (by rw [intake_Right.pt_eq] at h; exact h)
theorem intake_Right.up {c0 : Value} {w : World} {K : Value → World → Prop} (h : Calls Tryz.prog F_intake_Right #[c0] w (retK K)) : upK Tryz.prog (sCall F_intake_Right #[c0]) w K :=
  up_call (fn := Tryz.f11) Tryz.func11 (by kernel_rfl) (by kernel_rfl) h

/-- errata/errataref11.Right -/
def errataref11_Right.pt (c0 : Value) (w : World) (K : Value → World → Prop) : Prop :=
  upK Tryz.prog (sBox T_api_Config c0) w fun c1 w1 =>
  pureK Tryz.prog (sFieldAddr T_api_Config c1 1) fun t3 =>
  readK Tryz.prog (sLoad T_int t3) w1 fun t4 =>
  pureK Tryz.prog (sBin .geq T_int (.tmp 4) (.const (.int .i64 0)) t4 (.int .i64 0)) fun t5 =>
  ifB t5
  (pureK Tryz.prog (sFieldAddr T_api_Config c1 1) fun t7 =>
   readK Tryz.prog (sLoad T_int t7) w1 fun t8 =>
   pureK Tryz.prog (sFieldAddr T_api_Config c1 2) fun t9 =>
   readK Tryz.prog (sLoad T_int t9) w1 fun t10 =>
   pureK Tryz.prog (sBin .leq T_int (.tmp 8) (.tmp 10) t8 t10) fun t11 =>
   ifB t11
   (pureK Tryz.prog (sFieldAddr T_api_Config c1 2) fun t14 =>
    readK Tryz.prog (sLoad T_int t14) w1 fun t15 =>
    pureK Tryz.prog (sBin .leq T_int (.tmp 15) (.const (.int .i64 10000)) t15 (.int .i64 10000)) fun t16 =>
    ifB t16
    (pureK Tryz.prog (sFieldAddr T_api_Config c1 3) fun t19 =>
     readK Tryz.prog (sLoad T_int t19) w1 fun t20 =>
     pureK Tryz.prog (sBin .geq T_int (.tmp 20) (.const (.int .i64 0)) t20 (.int .i64 0)) fun t21 =>
     ifB t21
     (pureK Tryz.prog (sFieldAddr T_api_Config c1 3) fun t24 =>
      readK Tryz.prog (sLoad T_int t24) w1 fun t25 =>
      pureK Tryz.prog (sBin .leq T_int (.tmp 25) (.const (.int .i64 10000)) t25 (.int .i64 10000)) fun t26 =>
      ifB t26
      (pureK Tryz.prog (sFieldAddr T_api_Config c1 4) fun t29 =>
       readK Tryz.prog (sLoad T_int t29) w1 fun t30 =>
       pureK Tryz.prog (sBin .geq T_int (.tmp 30) (.const (.int .i64 1)) t30 (.int .i64 1)) fun t31 =>
       ifB t31
       (pureK Tryz.prog (sFieldAddr T_api_Config c1 4) fun t34 =>
        readK Tryz.prog (sLoad T_int t34) w1 fun t35 =>
        pureK Tryz.prog (sBin .leq T_int (.tmp 35) (.const (.int .i64 20)) t35 (.int .i64 20)) fun t36 =>
        K t36 w1)
       (K (.bool false) w1))
      (K (.bool false) w1))
     (K (.bool false) w1))
    (K (.bool false) w1))
   (K (.bool false) w1))
  (K (.bool false) w1)
theorem errataref11_Right.pt_eq : errataref11_Right.pt = fun c0 w K => FN Tryz.prog Tryz.f12 (bodyOf Tryz.f12) [2] .leaf [c0] w K := by kernel_rfl
theorem errataref11_Right.call {c0 : Value} {w : World} {K : Value → World → Prop} (h : errataref11_Right.pt c0 w K) : Calls Tryz.prog F_errataref11_Right #[c0] w (retK K) :=
  calls_FN (args := [c0]) Tryz.func12 (by kernel_rfl) (by rw [errataref11_Right.pt_eq] at h; exact h)
theorem errataref11_Right.up {c0 : Value} {w : World} {K : Value → World → Prop} (h : Calls Tryz.prog F_errataref11_Right #[c0] w (retK K)) : upK Tryz.prog (sCall F_errataref11_Right #[c0]) w K :=
  up_call (fn := Tryz.f12) Tryz.func12 (by kernel_rfl) (by kernel_rfl) h

/-- (*errata/intake.Intake).Know -/
def intake_Intake_Know.pt (x0 known1 : Value) (w : World) (K : Value → World → Prop) : Prop :=
  pureK Tryz.prog (sNil x0) fun t7 =>
  pureK Tryz.prog (sFieldAddr T_intake_Intake t7 1) fun t8 =>
  upK Tryz.prog (sStore T_s_api_Known t8 (.slice none 0 0)) w fun tu w1 =>
  readK Tryz.prog (sBlt .len #[T_s_api_Known] T_int #[false] #[known1]) w1 fun t10 =>
  LOOP (X := Value × Unit) (fun lv2 w2 next2 =>
   pureK Tryz.prog (sBin .lss T_int (.tmp 11) (.tmp 10) lv2.1 t10) fun t12 =>
   ifB t12
   (pureK Tryz.prog (sIdxAddr T_s_api_Known known1 lv2.1) fun t13 =>
    readK Tryz.prog (sLoad T_api_Known t13) w2 fun t14 =>
    upK Tryz.prog (sAlloc T_api_Known) w2 fun k5 w3 =>
    upK Tryz.prog (sStore T_api_Known k5 t14) w3 fun tu_1 w4 =>
    pureK Tryz.prog (sFieldAddr T_api_Known k5 2) fun t15 =>
    readK Tryz.prog (sLoad T_s_api_Col t15) w4 fun t16 =>
    upK Tryz.prog (sCall F_slices_Clone_s_api_Col_api_Col #[t16]) w4 fun t17 w5 =>
    pureK Tryz.prog (sFieldAddr T_api_Known k5 2) fun t18 =>
    upK Tryz.prog (sStore T_s_api_Col t18 t17) w5 fun tu_2 w6 =>
    pureK Tryz.prog (sNil x0) fun t21 =>
    pureK Tryz.prog (sFieldAddr T_intake_Intake t21 1) fun t22 =>
    readK Tryz.prog (sLoad T_s_api_Known t22) (tick w6) fun t23 =>
    readK Tryz.prog (sLoad T_api_Known k5) (tick w6) fun t24 =>
    upK Tryz.prog (sBuildSlice T_s_api_Known 1 #[(0, t24)]) (tick w6) fun t25 w7 =>
    Is Tryz.prog (sLoad T_s_api_Known t22) t23 w7 ∧ upK Tryz.prog (sBlt .append #[T_s_api_Known, T_s_api_Known] T_s_api_Known #[false, false] #[t23, t25]) w7 fun t26 w8 =>
    pureK Tryz.prog (sNil x0) fun t27 =>
    pureK Tryz.prog (sFieldAddr T_intake_Intake t27 1) fun t28 =>
    upK Tryz.prog (sStore T_s_api_Known t28 t26) w8 fun tu_3 w9 =>
    pureK Tryz.prog (sBin .add T_int (.tmp 11) (.const (.int .i64 1)) lv2.1 (.int .i64 1)) fun t29 =>
    next2 (t29, ()) w9)
   (K (.tuple #[]) w2))
  ((.int .i64 0), ()) w1
theorem intake_Intake_Know.pt_eq : intake_Intake_Know.pt = fun x0 known1 w K => FN Tryz.prog Tryz.f13 (bodyOf Tryz.f13) [] .leaf [x0, known1] w K := by kernel_rfl
theorem intake_Intake_Know.call {x0 known1 : Value} {w : World} {K : Value → World → Prop} (h : intake_Intake_Know.pt x0 known1 w K) : Calls Tryz.prog F_intake_Intake_Know #[x0, known1] w (retK K) :=
  calls_FN (args := [x0, known1]) Tryz.func13 (by kernel_rfl) (by rw [intake_Intake_Know.pt_eq] at h; exact h)
theorem intake_Intake_Know.up {x0 known1 : Value} {w : World} {K : Value → World → Prop} (h : Calls Tryz.prog F_intake_Intake_Know #[x0, known1] w (retK K)) : upK Tryz.prog (sCall F_intake_Intake_Know #[x0, known1]) w K :=
  up_call (fn := Tryz.f13) Tryz.func13 (by kernel_rfl) (by kernel_rfl) h

/-- (*errata/intake.Intake).Check -/
def intake_Intake_Check.pt (x0 e1 : Value) (w : World) (K : Value → World → Prop) : Prop :=
  upK Tryz.prog (sBox T_api_Entry e1) w fun e3 w1 =>
  pureK Tryz.prog (sFieldAddr T_api_Entry e3 0) fun t6 =>
  readK Tryz.prog (sLoad T_int t6) w1 fun t7 =>
  pureK Tryz.prog (sBin .eql T_int (.tmp 7) (.const (.int .i64 0)) t7 (.int .i64 0)) fun t8 =>
  ifB t8
  (readK Tryz.prog (sLoad T_api_Entry e3) w1 fun t10 =>
   upK Tryz.prog (sCall F_intake_Intake_put #[x0, t10]) w1 fun t11 w2 =>
   pureK Tryz.prog (sExtract t11 0) fun t12 =>
   pureK Tryz.prog (sExtract t11 1) fun t13 =>
   K (.tuple #[t12, t13]) w2)
  (readK Tryz.prog (sLoad T_api_Entry e3) (tick w1) fun t16 =>
   upK Tryz.prog (sCall F_intake_Intake_Copy #[x0]) (tick w1) fun t15 w3 =>
   Is Tryz.prog (sLoad T_api_Entry e3) t16 w3 ∧ upK Tryz.prog (sCall F_intake_Intake_Apply #[t15, t16]) w3 fun t17 w4 =>
   pureK Tryz.prog (sExtract t17 0) fun t18 =>
   pureK Tryz.prog (sExtract t17 1) fun t19 =>
   K (.tuple #[t18, t19]) w4)
theorem intake_Intake_Check.pt_eq : intake_Intake_Check.pt = fun x0 e1 w K => FN Tryz.prog Tryz.f14 (bodyOf Tryz.f14) [4, 5] .leaf [x0, e1] w K := by kernel_rfl
theorem intake_Intake_Check.call {x0 e1 : Value} {w : World} {K : Value → World → Prop} (h : intake_Intake_Check.pt x0 e1 w K) : Calls Tryz.prog F_intake_Intake_Check #[x0, e1] w (retK K) :=
  calls_FN (args := [x0, e1]) Tryz.func14 (by kernel_rfl) (by rw [intake_Intake_Check.pt_eq] at h; exact h)
theorem intake_Intake_Check.up {x0 e1 : Value} {w : World} {K : Value → World → Prop} (h : Calls Tryz.prog F_intake_Intake_Check #[x0, e1] w (retK K)) : upK Tryz.prog (sCall F_intake_Intake_Check #[x0, e1]) w K :=
  up_call (fn := Tryz.f14) Tryz.func14 (by kernel_rfl) (by kernel_rfl) h

/-- (*errata/intake.Intake).Apply -/
def intake_Intake_Apply.pt (x0 e1 : Value) (w : World) (K : Value → World → Prop) : Prop :=
  upK Tryz.prog (sBox T_api_Entry e1) w fun e3 w1 =>
  pureK Tryz.prog (sFieldAddr T_api_Entry e3 0) fun t9 =>
  readK Tryz.prog (sLoad T_int t9) w1 fun t10 =>
  pureK Tryz.prog (sBin .eql T_int (.tmp 10) (.const (.int .i64 0)) t10 (.int .i64 0)) fun t12 =>
  ifB t12
  (readK Tryz.prog (sLoad T_api_Entry e3) w1 fun t14 =>
   upK Tryz.prog (sCall F_intake_Intake_accept #[x0, t14]) w1 fun t15 w2 =>
   pureK Tryz.prog (sExtract t15 0) fun t16 =>
   pureK Tryz.prog (sExtract t15 1) fun t17 =>
   K (.tuple #[t16, t17]) w2)
  (pureK Tryz.prog (sBin .eql T_int (.tmp 10) (.const (.int .i64 1)) t10 (.int .i64 1)) fun t19 =>
   ifB t19
   (pureK Tryz.prog (sNil x0) fun t22 =>
    pureK Tryz.prog (sFieldAddr T_intake_Intake t22 6) fun t23 =>
    readK Tryz.prog (sLoad T_s_api_Producer t23) (tick w1) fun t24 =>
    pureK Tryz.prog (sFieldAddr T_api_Entry e3 1) fun t25 =>
    readK Tryz.prog (sLoad T_int t25) (tick w1) fun t26 =>
    upK Tryz.prog (sCall F_producer_Fence #[t24, t26]) (tick w1) fun t27 w3 =>
    pureK Tryz.prog (sExtract t27 0) fun t28 =>
    pureK Tryz.prog (sExtract t27 1) fun t29 =>
    pureK Tryz.prog (sExtract t27 2) fun t30 =>
    LETJ (X := Unit) (fun jv1 w4 =>
     K (.tuple #[t29, t30]) w4)
    (fun J1 =>
     pureK Tryz.prog (sBin .eql T_api_Errno (.tmp 31) (.const (.int .i64 0)) t30 (.int .i64 0)) fun t32 =>
     ifB t32
     (pureK Tryz.prog (sNil x0) fun t35 =>
      pureK Tryz.prog (sFieldAddr T_intake_Intake t35 6) fun t36 =>
      upK Tryz.prog (sStore T_s_api_Producer t36 t28) w3 fun tu w5 =>
      J1 (()) w5)
     (J1 (()) w3)))
   (LETJ (X := Value × Unit) (fun jv2 w6 =>
     ifB jv2.1
     (pureK Tryz.prog (sFieldAddr T_api_Entry e3 6) fun t42 =>
      readK Tryz.prog (sLoad T_int t42) w6 fun t43 =>
      upK Tryz.prog (sCall F_intake_isTime #[t43]) w6 fun t44 w7 =>
      pureK Tryz.prog (sUn .not t44) fun t45 =>
      ifB t45
      (K (.tuple #[(.int .i64 0), (.int .i64 3)]) w7)
      (pureK Tryz.prog (sFieldAddr T_api_Entry e3 0) fun t46 =>
       readK Tryz.prog (sLoad T_int t46) w7 fun t47 =>
       pureK Tryz.prog (sBin .eql T_int (.tmp 47) (.const (.int .i64 3)) t47 (.int .i64 3)) fun t48 =>
       ifB t48
       (pureK Tryz.prog (sNil x0) fun t51 =>
        pureK Tryz.prog (sFieldAddr T_intake_Intake t51 2) fun t52 =>
        readK Tryz.prog (sLoad T_int t52) (tick w7) fun t53 =>
        pureK Tryz.prog (sFieldAddr T_api_Entry e3 6) fun t54 =>
        readK Tryz.prog (sLoad T_int t54) (tick w7) fun t55 =>
        pureK Tryz.prog (sBlt .max #[T_int, T_int] T_int #[false, false] #[t53, t55]) fun t56 =>
        pureK Tryz.prog (sNil x0) fun t57 =>
        pureK Tryz.prog (sFieldAddr T_intake_Intake t57 2) fun t58 =>
        upK Tryz.prog (sStore T_int t58 t56) (tick w7) fun tu_1 w8 =>
        K (.tuple #[(.int .i64 0), (.int .i64 0)]) w8)
       (pureK Tryz.prog (sFieldAddr T_api_Entry e3 6) fun t59 =>
        readK Tryz.prog (sLoad T_int t59) (tick w7) fun t60 =>
        pureK Tryz.prog (sNil x0) fun t62 =>
        pureK Tryz.prog (sFieldAddr T_intake_Intake t62 2) fun t63 =>
        readK Tryz.prog (sLoad T_int t63) (tick w7) fun t64 =>
        pureK Tryz.prog (sNil x0) fun t66 =>
        pureK Tryz.prog (sFieldAddr T_intake_Intake t66 0) fun t67 =>
        pureK Tryz.prog (sFieldAddr T_api_Config t67 3) fun t68 =>
        readK Tryz.prog (sLoad T_int t68) (tick w7) fun t69 =>
        pureK Tryz.prog (sBin .add T_int (.tmp 64) (.tmp 69) t64 t69) fun t70 =>
        pureK Tryz.prog (sBin .gtr T_int (.tmp 60) (.tmp 70) t60 t70) fun t71 =>
        ifB t71
        (K (.tuple #[(.int .i64 0), (.int .i64 21)]) (tick w7))
        (pureK Tryz.prog (sFieldAddr T_api_Entry e3 6) fun t73 =>
         readK Tryz.prog (sLoad T_int t73) (tick w7) fun t74 =>
         upK Tryz.prog (sCall F_intake_Intake_raise #[x0, t74]) (tick w7) fun t75 w9 =>
         K (.tuple #[(.int .i64 0), (.int .i64 0)]) w9))))
     (K (.tuple #[(.int .i64 0), (.int .i64 1)]) w6))
    (fun J2 =>
     pureK Tryz.prog (sBin .eql T_int (.tmp 10) (.const (.int .i64 2)) t10 (.int .i64 2)) fun t40 =>
     ifB t40
     (J2 (t40, ()) w1)
     (pureK Tryz.prog (sBin .eql T_int (.tmp 10) (.const (.int .i64 3)) t10 (.int .i64 3)) fun t41 =>
      J2 (t41, ()) w1))))
theorem intake_Intake_Apply.pt_eq : intake_Intake_Apply.pt = fun x0 e1 w K => FN Tryz.prog Tryz.f15 (bodyOf Tryz.f15) [4, 5] (.node none .leaf (.node none (.node none .leaf (.node none (.node none .leaf (.node none .leaf (.node none .leaf (.node none (.node none .leaf (.node (some []) .leaf .leaf)) (.node (some [39]) .leaf .leaf))))) .leaf)) .leaf)) [x0, e1] w K := by kernel_rfl
theorem intake_Intake_Apply.call {x0 e1 : Value} {w : World} {K : Value → World → Prop} (h : intake_Intake_Apply.pt x0 e1 w K) : Calls Tryz.prog F_intake_Intake_Apply #[x0, e1] w (retK K) :=
  calls_FN (args := [x0, e1]) Tryz.func15 (by kernel_rfl) (by rw [intake_Intake_Apply.pt_eq] at h; exact h)
theorem intake_Intake_Apply.up {x0 e1 : Value} {w : World} {K : Value → World → Prop} (h : Calls Tryz.prog F_intake_Intake_Apply #[x0, e1] w (retK K)) : upK Tryz.prog (sCall F_intake_Intake_Apply #[x0, e1]) w K :=
  up_call (fn := Tryz.f15) Tryz.func15 (by kernel_rfl) (by kernel_rfl) h

/-- (*errata/errataref11.Intake).Apply -/
def errataref11_Intake_Apply.pt (x0 e1 : Value) (w : World) (K : Value → World → Prop) : Prop :=
  upK Tryz.prog (sBox T_api_Entry e1) w fun e3 w1 =>
  LETJ (X := Value × Unit) (fun jv1 w2 =>
   pureK Tryz.prog (sFieldAddr T_api_Entry e3 0) fun t20 =>
   readK Tryz.prog (sLoad T_int t20) w2 fun t21 =>
   pureK Tryz.prog (sBin .eql T_int (.tmp 21) (.const (.int .i64 0)) t21 (.int .i64 0)) fun t23 =>
   ifB t23
   (readK Tryz.prog (sLoad T_api_Entry e3) w2 fun t26 =>
    upK Tryz.prog (sCall F_errataref11_Intake_put #[x0, t26]) w2 fun t27 w3 =>
    pureK Tryz.prog (sExtract t27 0) fun t28 =>
    pureK Tryz.prog (sExtract t27 1) fun t29 =>
    pureK Tryz.prog (sBin .neq T_api_Errno (.tmp 30) (.const (.int .i64 0)) t29 (.int .i64 0)) fun t31 =>
    ifB t31
    (LETJ (X := Unit) (fun jv2 w4 =>
      K (.tuple #[t28, t29]) w4)
     (fun J2 =>
      pureK Tryz.prog (sBin .neq T_api_Errno (.tmp 32) (.const (.int .i64 5)) t29 (.int .i64 5)) fun t33 =>
      ifB t33
      (pureK Tryz.prog (sNil x0) fun t35 =>
       pureK Tryz.prog (sFieldAddr T_errataref11_Intake t35 5) fun t36 =>
       readK Tryz.prog (sLoad T_int t36) w3 fun t37 =>
       pureK Tryz.prog (sBin .add T_int (.tmp 37) (.const (.int .i64 1)) t37 (.int .i64 1)) fun t38 =>
       pureK Tryz.prog (sNil x0) fun t39 =>
       pureK Tryz.prog (sFieldAddr T_errataref11_Intake t39 5) fun t40 =>
       upK Tryz.prog (sStore T_int t40 t38) w3 fun tu w5 =>
       J2 (()) w5)
      (J2 (()) w3)))
    (pureK Tryz.prog (sNil x0) fun t45 =>
     pureK Tryz.prog (sFieldAddr T_errataref11_Intake t45 6) fun t46 =>
     readK Tryz.prog (sLoad T_s_api_Producer t46) (tick w3) fun t47 =>
     readK Tryz.prog (sLoad T_api_Entry e3) (tick w3) fun t48 =>
     upK Tryz.prog (sCall F_errataref10_Put #[t47, t48, t28]) (tick w3) fun t50 w6 =>
     pureK Tryz.prog (sNil x0) fun t51 =>
     pureK Tryz.prog (sFieldAddr T_errataref11_Intake t51 6) fun t52 =>
     upK Tryz.prog (sStore T_s_api_Producer t52 t50) w6 fun tu_1 w7 =>
     pureK Tryz.prog (sNil x0) fun t54 =>
     pureK Tryz.prog (sFieldAddr T_errataref11_Intake t54 4) fun t55 =>
     readK Tryz.prog (sLoad T_int t55) w7 fun t56 =>
     pureK Tryz.prog (sBin .add T_int (.tmp 56) (.const (.int .i64 1)) t56 (.int .i64 1)) fun t57 =>
     pureK Tryz.prog (sNil x0) fun t58 =>
     pureK Tryz.prog (sFieldAddr T_errataref11_Intake t58 4) fun t59 =>
     upK Tryz.prog (sStore T_int t59 t57) w7 fun tu_2 w8 =>
     pureK Tryz.prog (sFieldAddr T_api_Entry e3 6) fun t61 =>
     readK Tryz.prog (sLoad T_int t61) w8 fun t62 =>
     upK Tryz.prog (sCall F_errataref11_Intake_add #[x0, t62]) w8 fun t63 w9 =>
     pureK Tryz.prog (sFieldAddr T_api_Entry e3 6) fun t65 =>
     readK Tryz.prog (sLoad T_int t65) w9 fun t66 =>
     upK Tryz.prog (sCall F_errataref11_Intake_raise #[x0, t66]) w9 fun t67 w10 =>
     K (.tuple #[t28, (.int .i64 0)]) w10))
   (pureK Tryz.prog (sBin .eql T_int (.tmp 21) (.const (.int .i64 1)) t21 (.int .i64 1)) fun t70 =>
    ifB t70
    (pureK Tryz.prog (sNil x0) fun t73 =>
     pureK Tryz.prog (sFieldAddr T_errataref11_Intake t73 6) fun t74 =>
     readK Tryz.prog (sLoad T_s_api_Producer t74) (tick w2) fun t75 =>
     pureK Tryz.prog (sFieldAddr T_api_Entry e3 1) fun t76 =>
     readK Tryz.prog (sLoad T_int t76) (tick w2) fun t77 =>
     upK Tryz.prog (sCall F_errataref10_Fence #[t75, t77]) (tick w2) fun t78 w11 =>
     pureK Tryz.prog (sExtract t78 0) fun t79 =>
     pureK Tryz.prog (sExtract t78 1) fun t80 =>
     pureK Tryz.prog (sExtract t78 2) fun t81 =>
     LETJ (X := Unit) (fun jv3 w12 =>
      K (.tuple #[t80, t81]) w12)
     (fun J3 =>
      pureK Tryz.prog (sBin .eql T_api_Errno (.tmp 82) (.const (.int .i64 0)) t81 (.int .i64 0)) fun t83 =>
      ifB t83
      (pureK Tryz.prog (sNil x0) fun t86 =>
       pureK Tryz.prog (sFieldAddr T_errataref11_Intake t86 6) fun t87 =>
       upK Tryz.prog (sStore T_s_api_Producer t87 t79) w11 fun tu_3 w13 =>
       J3 (()) w13)
      (J3 (()) w11)))
    (pureK Tryz.prog (sBin .eql T_int (.tmp 21) (.const (.int .i64 2)) t21 (.int .i64 2)) fun t91 =>
     ifB t91
     (pureK Tryz.prog (sUn .not jv1.1) fun t93 =>
      ifB t93
      (K (.tuple #[(.int .i64 0), (.int .i64 3)]) w2)
      (pureK Tryz.prog (sFieldAddr T_api_Entry e3 6) fun t94 =>
       readK Tryz.prog (sLoad T_int t94) (tick w2) fun t95 =>
       pureK Tryz.prog (sNil x0) fun t97 =>
       pureK Tryz.prog (sFieldAddr T_errataref11_Intake t97 2) fun t98 =>
       readK Tryz.prog (sLoad T_int t98) (tick w2) fun t99 =>
       pureK Tryz.prog (sNil x0) fun t101 =>
       pureK Tryz.prog (sFieldAddr T_errataref11_Intake t101 0) fun t102 =>
       pureK Tryz.prog (sFieldAddr T_api_Config t102 3) fun t103 =>
       readK Tryz.prog (sLoad T_int t103) (tick w2) fun t104 =>
       pureK Tryz.prog (sBin .add T_int (.tmp 99) (.tmp 104) t99 t104) fun t105 =>
       pureK Tryz.prog (sBin .gtr T_int (.tmp 95) (.tmp 105) t95 t105) fun t106 =>
       ifB t106
       (K (.tuple #[(.int .i64 0), (.int .i64 21)]) (tick w2))
       (pureK Tryz.prog (sFieldAddr T_api_Entry e3 6) fun t108 =>
        readK Tryz.prog (sLoad T_int t108) (tick w2) fun t109 =>
        upK Tryz.prog (sCall F_errataref11_Intake_raise #[x0, t109]) (tick w2) fun t110 w14 =>
        K (.tuple #[(.int .i64 0), (.int .i64 0)]) w14)))
     (pureK Tryz.prog (sBin .eql T_int (.tmp 21) (.const (.int .i64 3)) t21 (.int .i64 3)) fun t112 =>
      ifB t112
      (pureK Tryz.prog (sUn .not jv1.1) fun t114 =>
       ifB t114
       (K (.tuple #[(.int .i64 0), (.int .i64 3)]) w2)
       (pureK Tryz.prog (sNil x0) fun t117 =>
        pureK Tryz.prog (sFieldAddr T_errataref11_Intake t117 2) fun t118 =>
        readK Tryz.prog (sLoad T_int t118) (tick w2) fun t119 =>
        pureK Tryz.prog (sFieldAddr T_api_Entry e3 6) fun t120 =>
        readK Tryz.prog (sLoad T_int t120) (tick w2) fun t121 =>
        pureK Tryz.prog (sBlt .max #[T_int, T_int] T_int #[false, false] #[t119, t121]) fun t122 =>
        pureK Tryz.prog (sNil x0) fun t123 =>
        pureK Tryz.prog (sFieldAddr T_errataref11_Intake t123 2) fun t124 =>
        upK Tryz.prog (sStore T_int t124 t122) (tick w2) fun tu_4 w15 =>
        K (.tuple #[(.int .i64 0), (.int .i64 0)]) w15))
      (K (.tuple #[(.int .i64 0), (.int .i64 1)]) w2)))))
  (fun J1 =>
   pureK Tryz.prog (sFieldAddr T_api_Entry e3 6) fun t12 =>
   readK Tryz.prog (sLoad T_int t12) w1 fun t13 =>
   pureK Tryz.prog (sBin .geq T_int (.tmp 13) (.const (.int .i64 0)) t13 (.int .i64 0)) fun t14 =>
   ifB t14
   (pureK Tryz.prog (sFieldAddr T_api_Entry e3 6) fun t16 =>
    readK Tryz.prog (sLoad T_int t16) w1 fun t17 =>
    pureK Tryz.prog (sBin .leq T_int (.tmp 17) (.const (.int .i64 1099511627776)) t17 (.int .i64 1099511627776)) fun t18 =>
    J1 (t18, ()) w1)
   (J1 ((.bool false), ()) w1))
theorem errataref11_Intake_Apply.pt_eq : errataref11_Intake_Apply.pt = fun x0 e1 w K => FN Tryz.prog Tryz.f16 (bodyOf Tryz.f16) [4, 5] (.node none .leaf (.node (some [6]) .leaf (.node none (.node none .leaf (.node none (.node none .leaf (.node none (.node none .leaf (.node none (.node none .leaf (.node none (.node (some []) .leaf .leaf) .leaf)) .leaf)) (.node none .leaf (.node none (.node none .leaf (.node (some []) .leaf .leaf)) .leaf)))) .leaf)) .leaf))) [x0, e1] w K := by kernel_rfl
theorem errataref11_Intake_Apply.call {x0 e1 : Value} {w : World} {K : Value → World → Prop} (h : errataref11_Intake_Apply.pt x0 e1 w K) : Calls Tryz.prog F_errataref11_Intake_Apply #[x0, e1] w (retK K) :=
  calls_FN (args := [x0, e1]) Tryz.func16 (by kernel_rfl) (by rw [errataref11_Intake_Apply.pt_eq] at h; exact h)
theorem errataref11_Intake_Apply.up {x0 e1 : Value} {w : World} {K : Value → World → Prop} (h : Calls Tryz.prog F_errataref11_Intake_Apply #[x0, e1] w (retK K)) : upK Tryz.prog (sCall F_errataref11_Intake_Apply #[x0, e1]) w K :=
  up_call (fn := Tryz.f16) Tryz.func16 (by kernel_rfl) (by kernel_rfl) h

/-- (*errata/intake.Intake).Now -/
def intake_Intake_Now.pt (x0 : Value) (w : World) (K : Value → World → Prop) : Prop :=
  pureK Tryz.prog (sNil x0) fun t4 =>
  pureK Tryz.prog (sFieldAddr T_intake_Intake t4 2) fun t5 =>
  readK Tryz.prog (sLoad T_int t5) w fun t6 =>
  K t6 w
theorem intake_Intake_Now.pt_eq : intake_Intake_Now.pt = fun x0 w K => FN Tryz.prog Tryz.f17 (bodyOf Tryz.f17) [2] .leaf [x0] w K := by kernel_rfl
theorem intake_Intake_Now.call {x0 : Value} {w : World} {K : Value → World → Prop} (h : intake_Intake_Now.pt x0 w K) : Calls Tryz.prog F_intake_Intake_Now #[x0] w (retK K) :=
  calls_FN (args := [x0]) Tryz.func17 (by kernel_rfl) (by rw [intake_Intake_Now.pt_eq] at h; exact h)
theorem intake_Intake_Now.up {x0 : Value} {w : World} {K : Value → World → Prop} (h : Calls Tryz.prog F_intake_Intake_Now #[x0] w (retK K)) : upK Tryz.prog (sCall F_intake_Intake_Now #[x0]) w K :=
  up_call (fn := Tryz.f17) Tryz.func17 (by kernel_rfl) (by kernel_rfl) h

/-- (*errata/intake.Intake).Top -/
def intake_Intake_Top.pt (x0 : Value) (w : World) (K : Value → World → Prop) : Prop :=
  pureK Tryz.prog (sNil x0) fun t4 =>
  pureK Tryz.prog (sFieldAddr T_intake_Intake t4 3) fun t5 =>
  readK Tryz.prog (sLoad T_int t5) w fun t6 =>
  K t6 w
theorem intake_Intake_Top.pt_eq : intake_Intake_Top.pt = fun x0 w K => FN Tryz.prog Tryz.f18 (bodyOf Tryz.f18) [2] .leaf [x0] w K := by kernel_rfl
theorem intake_Intake_Top.call {x0 : Value} {w : World} {K : Value → World → Prop} (h : intake_Intake_Top.pt x0 w K) : Calls Tryz.prog F_intake_Intake_Top #[x0] w (retK K) :=
  calls_FN (args := [x0]) Tryz.func18 (by kernel_rfl) (by rw [intake_Intake_Top.pt_eq] at h; exact h)
theorem intake_Intake_Top.up {x0 : Value} {w : World} {K : Value → World → Prop} (h : Calls Tryz.prog F_intake_Intake_Top #[x0] w (retK K)) : upK Tryz.prog (sCall F_intake_Intake_Top #[x0]) w K :=
  up_call (fn := Tryz.f18) Tryz.func18 (by kernel_rfl) (by kernel_rfl) h

/-- (*errata/intake.Intake).Closed -/
def intake_Intake_Closed.pt (x0 : Value) (w : World) (K : Value → World → Prop) : Prop :=
  pureK Tryz.prog (sNil x0) fun t4 =>
  pureK Tryz.prog (sFieldAddr T_intake_Intake t4 3) fun t5 =>
  readK Tryz.prog (sLoad T_int t5) (tick w) fun t6 =>
  pureK Tryz.prog (sNil x0) fun t8 =>
  pureK Tryz.prog (sFieldAddr T_intake_Intake t8 0) fun t9 =>
  pureK Tryz.prog (sFieldAddr T_api_Config t9 2) fun t10 =>
  readK Tryz.prog (sLoad T_int t10) (tick w) fun t11 =>
  pureK Tryz.prog (sBin .sub T_int (.tmp 6) (.tmp 11) t6 t11) fun t12 =>
  pureK Tryz.prog (sBin .sub T_int (.tmp 12) (.const (.int .i64 1)) t12 (.int .i64 1)) fun t13 =>
  pureK Tryz.prog (sBlt .max #[T_int, T_int] T_int #[true, false] #[(.int .i64 (-1)), t13]) fun t14 =>
  K t14 (tick w)
theorem intake_Intake_Closed.pt_eq : intake_Intake_Closed.pt = fun x0 w K => FN Tryz.prog Tryz.f19 (bodyOf Tryz.f19) [2] .leaf [x0] w K := by kernel_rfl
theorem intake_Intake_Closed.call {x0 : Value} {w : World} {K : Value → World → Prop} (h : intake_Intake_Closed.pt x0 w K) : Calls Tryz.prog F_intake_Intake_Closed #[x0] w (retK K) :=
  calls_FN (args := [x0]) Tryz.func19 (by kernel_rfl) (by rw [intake_Intake_Closed.pt_eq] at h; exact h)
theorem intake_Intake_Closed.up {x0 : Value} {w : World} {K : Value → World → Prop} (h : Calls Tryz.prog F_intake_Intake_Closed #[x0] w (retK K)) : upK Tryz.prog (sCall F_intake_Intake_Closed #[x0]) w K :=
  up_call (fn := Tryz.f19) Tryz.func19 (by kernel_rfl) (by kernel_rfl) h

/-- (*errata/errataref11.Intake).Closed -/
def errataref11_Intake_Closed.pt (x0 : Value) (w : World) (K : Value → World → Prop) : Prop :=
  pureK Tryz.prog (sNil x0) fun t4 =>
  pureK Tryz.prog (sFieldAddr T_errataref11_Intake t4 3) fun t5 =>
  readK Tryz.prog (sLoad T_int t5) (tick w) fun t6 =>
  pureK Tryz.prog (sNil x0) fun t8 =>
  pureK Tryz.prog (sFieldAddr T_errataref11_Intake t8 0) fun t9 =>
  pureK Tryz.prog (sFieldAddr T_api_Config t9 2) fun t10 =>
  readK Tryz.prog (sLoad T_int t10) (tick w) fun t11 =>
  pureK Tryz.prog (sBin .sub T_int (.tmp 6) (.tmp 11) t6 t11) fun t12 =>
  pureK Tryz.prog (sBin .sub T_int (.tmp 12) (.const (.int .i64 1)) t12 (.int .i64 1)) fun t13 =>
  pureK Tryz.prog (sBlt .max #[T_int, T_int] T_int #[true, false] #[(.int .i64 (-1)), t13]) fun t14 =>
  K t14 (tick w)
theorem errataref11_Intake_Closed.pt_eq : errataref11_Intake_Closed.pt = fun x0 w K => FN Tryz.prog Tryz.f20 (bodyOf Tryz.f20) [2] .leaf [x0] w K := by kernel_rfl
theorem errataref11_Intake_Closed.call {x0 : Value} {w : World} {K : Value → World → Prop} (h : errataref11_Intake_Closed.pt x0 w K) : Calls Tryz.prog F_errataref11_Intake_Closed #[x0] w (retK K) :=
  calls_FN (args := [x0]) Tryz.func20 (by kernel_rfl) (by rw [errataref11_Intake_Closed.pt_eq] at h; exact h)
theorem errataref11_Intake_Closed.up {x0 : Value} {w : World} {K : Value → World → Prop} (h : Calls Tryz.prog F_errataref11_Intake_Closed #[x0] w (retK K)) : upK Tryz.prog (sCall F_errataref11_Intake_Closed #[x0]) w K :=
  up_call (fn := Tryz.f20) Tryz.func20 (by kernel_rfl) (by kernel_rfl) h

/-- (*errata/intake.Intake).Mark -/
def intake_Intake_Mark.pt (x0 : Value) (w : World) (K : Value → World → Prop) : Prop :=
  pureK Tryz.prog (sNil x0) fun t4 =>
  pureK Tryz.prog (sFieldAddr T_intake_Intake t4 3) fun t5 =>
  readK Tryz.prog (sLoad T_int t5) (tick w) fun t6 =>
  pureK Tryz.prog (sNil x0) fun t8 =>
  pureK Tryz.prog (sFieldAddr T_intake_Intake t8 0) fun t9 =>
  pureK Tryz.prog (sFieldAddr T_api_Config t9 1) fun t10 =>
  readK Tryz.prog (sLoad T_int t10) (tick w) fun t11 =>
  pureK Tryz.prog (sBin .sub T_int (.tmp 6) (.tmp 11) t6 t11) fun t12 =>
  pureK Tryz.prog (sBin .sub T_int (.tmp 12) (.const (.int .i64 1)) t12 (.int .i64 1)) fun t13 =>
  pureK Tryz.prog (sBlt .max #[T_int, T_int] T_int #[true, false] #[(.int .i64 (-1)), t13]) fun t14 =>
  K t14 (tick w)
theorem intake_Intake_Mark.pt_eq : intake_Intake_Mark.pt = fun x0 w K => FN Tryz.prog Tryz.f21 (bodyOf Tryz.f21) [2] .leaf [x0] w K := by kernel_rfl
theorem intake_Intake_Mark.call {x0 : Value} {w : World} {K : Value → World → Prop} (h : intake_Intake_Mark.pt x0 w K) : Calls Tryz.prog F_intake_Intake_Mark #[x0] w (retK K) :=
  calls_FN (args := [x0]) Tryz.func21 (by kernel_rfl) (by rw [intake_Intake_Mark.pt_eq] at h; exact h)
theorem intake_Intake_Mark.up {x0 : Value} {w : World} {K : Value → World → Prop} (h : Calls Tryz.prog F_intake_Intake_Mark #[x0] w (retK K)) : upK Tryz.prog (sCall F_intake_Intake_Mark #[x0]) w K :=
  up_call (fn := Tryz.f21) Tryz.func21 (by kernel_rfl) (by kernel_rfl) h

/-- (*errata/errataref11.Intake).Mark -/
def errataref11_Intake_Mark.pt (x0 : Value) (w : World) (K : Value → World → Prop) : Prop :=
  pureK Tryz.prog (sNil x0) fun t4 =>
  pureK Tryz.prog (sFieldAddr T_errataref11_Intake t4 3) fun t5 =>
  readK Tryz.prog (sLoad T_int t5) (tick w) fun t6 =>
  pureK Tryz.prog (sNil x0) fun t8 =>
  pureK Tryz.prog (sFieldAddr T_errataref11_Intake t8 0) fun t9 =>
  pureK Tryz.prog (sFieldAddr T_api_Config t9 1) fun t10 =>
  readK Tryz.prog (sLoad T_int t10) (tick w) fun t11 =>
  pureK Tryz.prog (sBin .sub T_int (.tmp 6) (.tmp 11) t6 t11) fun t12 =>
  pureK Tryz.prog (sBin .sub T_int (.tmp 12) (.const (.int .i64 1)) t12 (.int .i64 1)) fun t13 =>
  pureK Tryz.prog (sBlt .max #[T_int, T_int] T_int #[true, false] #[(.int .i64 (-1)), t13]) fun t14 =>
  K t14 (tick w)
theorem errataref11_Intake_Mark.pt_eq : errataref11_Intake_Mark.pt = fun x0 w K => FN Tryz.prog Tryz.f22 (bodyOf Tryz.f22) [2] .leaf [x0] w K := by kernel_rfl
theorem errataref11_Intake_Mark.call {x0 : Value} {w : World} {K : Value → World → Prop} (h : errataref11_Intake_Mark.pt x0 w K) : Calls Tryz.prog F_errataref11_Intake_Mark #[x0] w (retK K) :=
  calls_FN (args := [x0]) Tryz.func22 (by kernel_rfl) (by rw [errataref11_Intake_Mark.pt_eq] at h; exact h)
theorem errataref11_Intake_Mark.up {x0 : Value} {w : World} {K : Value → World → Prop} (h : Calls Tryz.prog F_errataref11_Intake_Mark #[x0] w (retK K)) : upK Tryz.prog (sCall F_errataref11_Intake_Mark #[x0]) w K :=
  up_call (fn := Tryz.f22) Tryz.func22 (by kernel_rfl) (by kernel_rfl) h

/-- (*errata/intake.Intake).Next -/
def intake_Intake_Next.pt (x0 : Value) (w : World) (K : Value → World → Prop) : Prop :=
  pureK Tryz.prog (sNil x0) fun t4 =>
  pureK Tryz.prog (sFieldAddr T_intake_Intake t4 4) fun t5 =>
  readK Tryz.prog (sLoad T_int t5) w fun t6 =>
  K t6 w
theorem intake_Intake_Next.pt_eq : intake_Intake_Next.pt = fun x0 w K => FN Tryz.prog Tryz.f23 (bodyOf Tryz.f23) [2] .leaf [x0] w K := by kernel_rfl
theorem intake_Intake_Next.call {x0 : Value} {w : World} {K : Value → World → Prop} (h : intake_Intake_Next.pt x0 w K) : Calls Tryz.prog F_intake_Intake_Next #[x0] w (retK K) :=
  calls_FN (args := [x0]) Tryz.func23 (by kernel_rfl) (by rw [intake_Intake_Next.pt_eq] at h; exact h)
theorem intake_Intake_Next.up {x0 : Value} {w : World} {K : Value → World → Prop} (h : Calls Tryz.prog F_intake_Intake_Next #[x0] w (retK K)) : upK Tryz.prog (sCall F_intake_Intake_Next #[x0]) w K :=
  up_call (fn := Tryz.f23) Tryz.func23 (by kernel_rfl) (by kernel_rfl) h

/-- (*errata/intake.Intake).Refused -/
def intake_Intake_Refused.pt (x0 : Value) (w : World) (K : Value → World → Prop) : Prop :=
  pureK Tryz.prog (sNil x0) fun t4 =>
  pureK Tryz.prog (sFieldAddr T_intake_Intake t4 5) fun t5 =>
  readK Tryz.prog (sLoad T_int t5) w fun t6 =>
  K t6 w
theorem intake_Intake_Refused.pt_eq : intake_Intake_Refused.pt = fun x0 w K => FN Tryz.prog Tryz.f24 (bodyOf Tryz.f24) [2] .leaf [x0] w K := by kernel_rfl
theorem intake_Intake_Refused.call {x0 : Value} {w : World} {K : Value → World → Prop} (h : intake_Intake_Refused.pt x0 w K) : Calls Tryz.prog F_intake_Intake_Refused #[x0] w (retK K) :=
  calls_FN (args := [x0]) Tryz.func24 (by kernel_rfl) (by rw [intake_Intake_Refused.pt_eq] at h; exact h)
theorem intake_Intake_Refused.up {x0 : Value} {w : World} {K : Value → World → Prop} (h : Calls Tryz.prog F_intake_Intake_Refused #[x0] w (retK K)) : upK Tryz.prog (sCall F_intake_Intake_Refused #[x0]) w K :=
  up_call (fn := Tryz.f24) Tryz.func24 (by kernel_rfl) (by kernel_rfl) h

/-- (*errata/intake.Intake).Count -/
def intake_Intake_Count.pt (x0 time1 : Value) (w : World) (K : Value → World → Prop) : Prop :=
  pureK Tryz.prog (sNil x0) fun t6 =>
  pureK Tryz.prog (sFieldAddr T_intake_Intake t6 7) fun t7 =>
  readK Tryz.prog (sLoad T_map_int_int t7) w fun t8 =>
  readK Tryz.prog (sLookup T_map_int_int t8 time1 false) w fun t10 =>
  K t10 w
theorem intake_Intake_Count.pt_eq : intake_Intake_Count.pt = fun x0 time1 w K => FN Tryz.prog Tryz.f25 (bodyOf Tryz.f25) [4] .leaf [x0, time1] w K := by kernel_rfl
theorem intake_Intake_Count.call {x0 time1 : Value} {w : World} {K : Value → World → Prop} (h : intake_Intake_Count.pt x0 time1 w K) : Calls Tryz.prog F_intake_Intake_Count #[x0, time1] w (retK K) :=
  calls_FN (args := [x0, time1]) Tryz.func25 (by kernel_rfl) (by rw [intake_Intake_Count.pt_eq] at h; exact h)
theorem intake_Intake_Count.up {x0 time1 : Value} {w : World} {K : Value → World → Prop} (h : Calls Tryz.prog F_intake_Intake_Count #[x0, time1] w (retK K)) : upK Tryz.prog (sCall F_intake_Intake_Count #[x0, time1]) w K :=
  up_call (fn := Tryz.f25) Tryz.func25 (by kernel_rfl) (by kernel_rfl) h

/-- (*errata/errataref11.Intake).Count -/
def errataref11_Intake_Count.pt (x0 time1 : Value) (w : World) (K : Value → World → Prop) : Prop :=
  LOOP (X := Value × Unit) (fun lv1 w1 next1 =>
   pureK Tryz.prog (sNil x0) fun t8 =>
   pureK Tryz.prog (sFieldAddr T_errataref11_Intake t8 7) fun t9 =>
   readK Tryz.prog (sLoad T_s_errataref11_Count t9) w1 fun t10 =>
   readK Tryz.prog (sBlt .len #[T_s_errataref11_Count] T_int #[false] #[t10]) w1 fun t11 =>
   pureK Tryz.prog (sBin .lss T_int (.tmp 6) (.tmp 11) lv1.1 t11) fun t12 =>
   ifB t12
   (pureK Tryz.prog (sNil x0) fun t16 =>
    pureK Tryz.prog (sFieldAddr T_errataref11_Intake t16 7) fun t17 =>
    readK Tryz.prog (sLoad T_s_errataref11_Count t17) w1 fun t18 =>
    pureK Tryz.prog (sIdxAddr T_s_errataref11_Count t18 lv1.1) fun t20 =>
    pureK Tryz.prog (sFieldAddr T_errataref11_Count t20 0) fun t21 =>
    readK Tryz.prog (sLoad T_int t21) w1 fun t22 =>
    pureK Tryz.prog (sBin .eql T_int (.tmp 22) (.tmp 23) t22 time1) fun t24 =>
    ifB t24
    (pureK Tryz.prog (sNil x0) fun t26 =>
     pureK Tryz.prog (sFieldAddr T_errataref11_Intake t26 7) fun t27 =>
     readK Tryz.prog (sLoad T_s_errataref11_Count t27) w1 fun t28 =>
     pureK Tryz.prog (sIdxAddr T_s_errataref11_Count t28 lv1.1) fun t30 =>
     pureK Tryz.prog (sFieldAddr T_errataref11_Count t30 1) fun t31 =>
     readK Tryz.prog (sLoad T_int t31) w1 fun t32 =>
     K t32 w1)
    (pureK Tryz.prog (sBin .add T_int (.tmp 13) (.const (.int .i64 1)) lv1.1 (.int .i64 1)) fun t14 =>
     next1 (t14, ()) w1))
   (K (.int .i64 0) w1))
  ((.int .i64 0), ()) w
theorem errataref11_Intake_Count.pt_eq : errataref11_Intake_Count.pt = fun x0 time1 w K => FN Tryz.prog Tryz.f26 (bodyOf Tryz.f26) [4] .leaf [x0, time1] w K := by kernel_rfl
theorem errataref11_Intake_Count.call {x0 time1 : Value} {w : World} {K : Value → World → Prop} (h : errataref11_Intake_Count.pt x0 time1 w K) : Calls Tryz.prog F_errataref11_Intake_Count #[x0, time1] w (retK K) :=
  calls_FN (args := [x0, time1]) Tryz.func26 (by kernel_rfl) (by rw [errataref11_Intake_Count.pt_eq] at h; exact h)
theorem errataref11_Intake_Count.up {x0 time1 : Value} {w : World} {K : Value → World → Prop} (h : Calls Tryz.prog F_errataref11_Intake_Count #[x0, time1] w (retK K)) : upK Tryz.prog (sCall F_errataref11_Intake_Count #[x0, time1]) w K :=
  up_call (fn := Tryz.f26) Tryz.func26 (by kernel_rfl) (by kernel_rfl) h

/-- (*errata/intake.Intake).Bytes -/
def intake_Intake_Bytes.pt (x0 : Value) (w : World) (K : Value → World → Prop) : Prop :=
  pureK Tryz.prog (sNil x0) fun t7 =>
  pureK Tryz.prog (sFieldAddr T_intake_Intake t7 2) fun t8 =>
  readK Tryz.prog (sLoad T_int t8) (tick w) fun t9 =>
  pureK Tryz.prog (sNil x0) fun t12 =>
  pureK Tryz.prog (sFieldAddr T_intake_Intake t12 3) fun t13 =>
  readK Tryz.prog (sLoad T_int t13) (tick w) fun t14 =>
  pureK Tryz.prog (sNil x0) fun t18 =>
  pureK Tryz.prog (sFieldAddr T_intake_Intake t18 4) fun t19 =>
  readK Tryz.prog (sLoad T_int t19) (tick w) fun t20 =>
  pureK Tryz.prog (sNil x0) fun t24 =>
  pureK Tryz.prog (sFieldAddr T_intake_Intake t24 5) fun t25 =>
  readK Tryz.prog (sLoad T_int t25) (tick w) fun t26 =>
  pureK Tryz.prog (sNil x0) fun t30 =>
  pureK Tryz.prog (sFieldAddr T_intake_Intake t30 6) fun t31 =>
  readK Tryz.prog (sLoad T_s_api_Producer t31) (tick w) fun t32 =>
  pureK Tryz.prog (sNil x0) fun t37 =>
  pureK Tryz.prog (sFieldAddr T_intake_Intake t37 7) fun t38 =>
  readK Tryz.prog (sLoad T_map_int_int t38) (tick w) fun t39 =>
  upK Tryz.prog (sCall F_wire_Int #[t9]) (tick w) fun t10 w1 =>
  Is Tryz.prog (sLoad T_map_int_int t38) t39 w1 ∧ Is Tryz.prog (sLoad T_s_api_Producer t31) t32 w1 ∧ Is Tryz.prog (sLoad T_int t25) t26 w1 ∧ Is Tryz.prog (sLoad T_int t19) t20 w1 ∧ Is Tryz.prog (sLoad T_int t13) t14 w1 ∧ upK Tryz.prog (sCall F_wire_Int #[t14]) w1 fun t15 w2 =>
  Is Tryz.prog (sLoad T_map_int_int t38) t39 w2 ∧ Is Tryz.prog (sLoad T_s_api_Producer t31) t32 w2 ∧ Is Tryz.prog (sLoad T_int t25) t26 w2 ∧ Is Tryz.prog (sLoad T_int t19) t20 w2 ∧ pureK Tryz.prog (sBin .add T_string (.tmp 10) (.tmp 15) t10 t15) fun t16 =>
  upK Tryz.prog (sCall F_wire_Int #[t20]) w2 fun t21 w3 =>
  Is Tryz.prog (sLoad T_map_int_int t38) t39 w3 ∧ Is Tryz.prog (sLoad T_s_api_Producer t31) t32 w3 ∧ Is Tryz.prog (sLoad T_int t25) t26 w3 ∧ pureK Tryz.prog (sBin .add T_string (.tmp 16) (.tmp 21) t16 t21) fun t22 =>
  upK Tryz.prog (sCall F_wire_Int #[t26]) w3 fun t27 w4 =>
  Is Tryz.prog (sLoad T_map_int_int t38) t39 w4 ∧ Is Tryz.prog (sLoad T_s_api_Producer t31) t32 w4 ∧ pureK Tryz.prog (sBin .add T_string (.tmp 22) (.tmp 27) t22 t27) fun t28 =>
  upK Tryz.prog (sCall F_producer_Bytes #[t32]) w4 fun t33 w5 =>
  Is Tryz.prog (sLoad T_map_int_int t38) t39 w5 ∧ upK Tryz.prog (sCall F_wire_Text #[t33]) w5 fun t34 w6 =>
  Is Tryz.prog (sLoad T_map_int_int t38) t39 w6 ∧ pureK Tryz.prog (sBin .add T_string (.tmp 28) (.tmp 34) t28 t34) fun t35 =>
  readK Tryz.prog (sBlt .len #[T_map_int_int] T_int #[false] #[t39]) w6 fun t40 =>
  upK Tryz.prog (sCall F_wire_Num #[t40]) w6 fun t41 w7 =>
  Is Tryz.prog (sLoad T_int t13) t14 w7 ∧ Is Tryz.prog (sLoad T_int t8) t9 w7 ∧ pureK Tryz.prog (sBin .add T_string (.tmp 35) (.tmp 41) t35 t41) fun t42 =>
  pureK Tryz.prog (sNil x0) fun t44 =>
  pureK Tryz.prog (sFieldAddr T_intake_Intake t44 7) fun t45 =>
  readK Tryz.prog (sLoad T_map_int_int t45) w7 fun t46 =>
  upK Tryz.prog (sCall F_maps_Keys_map_int_int_int_int #[t46]) w7 fun t47 w8 =>
  upK Tryz.prog (sCall F_slices_Sorted_int #[t47]) w8 fun t48 w9 =>
  readK Tryz.prog (sBlt .len #[T_s_int] T_int #[false] #[t48]) w9 fun t49 =>
  LOOP (X := Value × Value × Unit) (fun lv10 w10 next10 =>
   pureK Tryz.prog (sBin .lss T_int (.tmp 50) (.tmp 49) lv10.2.1 t49) fun t51 =>
   ifB t51
   (pureK Tryz.prog (sIdxAddr T_s_int t48 lv10.2.1) fun t52 =>
    readK Tryz.prog (sLoad T_int t52) w10 fun t53 =>
    pureK Tryz.prog (sNil x0) fun t58 =>
    pureK Tryz.prog (sFieldAddr T_intake_Intake t58 7) fun t59 =>
    readK Tryz.prog (sLoad T_map_int_int t59) (tick w10) fun t60 =>
    readK Tryz.prog (sLookup T_map_int_int t60 t53 false) (tick w10) fun t62 =>
    upK Tryz.prog (sCall F_wire_Int #[t53]) (tick w10) fun t56 w11 =>
    Is Tryz.prog (sLookup T_map_int_int t60 t53 false) t62 w11 ∧ Is Tryz.prog (sLoad T_map_int_int t59) t60 w11 ∧ upK Tryz.prog (sCall F_wire_Int #[t62]) w11 fun t63 w12 =>
    pureK Tryz.prog (sBin .add T_string (.tmp 56) (.tmp 63) t56 t63) fun t64 =>
    pureK Tryz.prog (sBin .add T_string (.tmp 54) (.tmp 64) lv10.1 t64) fun t65 =>
    pureK Tryz.prog (sBin .add T_int (.tmp 50) (.const (.int .i64 1)) lv10.2.1 (.int .i64 1)) fun t66 =>
    next10 (t65, t66, ()) w12)
   (K lv10.1 w10))
  (t42, (.int .i64 0), ()) w9
theorem intake_Intake_Bytes.pt_eq : intake_Intake_Bytes.pt = fun x0 w K => FN Tryz.prog Tryz.f27 (bodyOf Tryz.f27) [2] .leaf [x0] w K := by kernel_rfl
theorem intake_Intake_Bytes.call {x0 : Value} {w : World} {K : Value → World → Prop} (h : intake_Intake_Bytes.pt x0 w K) : Calls Tryz.prog F_intake_Intake_Bytes #[x0] w (retK K) :=
  calls_FN (args := [x0]) Tryz.func27 (by kernel_rfl) (by rw [intake_Intake_Bytes.pt_eq] at h; exact h)
theorem intake_Intake_Bytes.up {x0 : Value} {w : World} {K : Value → World → Prop} (h : Calls Tryz.prog F_intake_Intake_Bytes #[x0] w (retK K)) : upK Tryz.prog (sCall F_intake_Intake_Bytes #[x0]) w K :=
  up_call (fn := Tryz.f27) Tryz.func27 (by kernel_rfl) (by kernel_rfl) h

/-- (*errata/errataref11.Intake).Bytes -/
def errataref11_Intake_Bytes.pt (x0 : Value) (w : World) (K : Value → World → Prop) : Prop :=
  pureK Tryz.prog (sNil x0) fun t6 =>
  pureK Tryz.prog (sFieldAddr T_errataref11_Intake t6 2) fun t7 =>
  readK Tryz.prog (sLoad T_int t7) (tick w) fun t8 =>
  pureK Tryz.prog (sNil x0) fun t11 =>
  pureK Tryz.prog (sFieldAddr T_errataref11_Intake t11 3) fun t12 =>
  readK Tryz.prog (sLoad T_int t12) (tick w) fun t13 =>
  pureK Tryz.prog (sNil x0) fun t17 =>
  pureK Tryz.prog (sFieldAddr T_errataref11_Intake t17 4) fun t18 =>
  readK Tryz.prog (sLoad T_int t18) (tick w) fun t19 =>
  pureK Tryz.prog (sNil x0) fun t23 =>
  pureK Tryz.prog (sFieldAddr T_errataref11_Intake t23 5) fun t24 =>
  readK Tryz.prog (sLoad T_int t24) (tick w) fun t25 =>
  pureK Tryz.prog (sNil x0) fun t29 =>
  pureK Tryz.prog (sFieldAddr T_errataref11_Intake t29 6) fun t30 =>
  readK Tryz.prog (sLoad T_s_api_Producer t30) (tick w) fun t31 =>
  pureK Tryz.prog (sNil x0) fun t36 =>
  pureK Tryz.prog (sFieldAddr T_errataref11_Intake t36 7) fun t37 =>
  readK Tryz.prog (sLoad T_s_errataref11_Count t37) (tick w) fun t38 =>
  readK Tryz.prog (sBlt .len #[T_s_errataref11_Count] T_int #[false] #[t38]) (tick w) fun t39 =>
  upK Tryz.prog (sCall F_errataref01_Int #[t8]) (tick w) fun t9 w1 =>
  Is Tryz.prog (sBlt .len #[T_s_errataref11_Count] T_int #[false] #[t38]) t39 w1 ∧ Is Tryz.prog (sLoad T_s_errataref11_Count t37) t38 w1 ∧ Is Tryz.prog (sLoad T_s_api_Producer t30) t31 w1 ∧ Is Tryz.prog (sLoad T_int t24) t25 w1 ∧ Is Tryz.prog (sLoad T_int t18) t19 w1 ∧ Is Tryz.prog (sLoad T_int t12) t13 w1 ∧ upK Tryz.prog (sCall F_errataref01_Int #[t13]) w1 fun t14 w2 =>
  Is Tryz.prog (sBlt .len #[T_s_errataref11_Count] T_int #[false] #[t38]) t39 w2 ∧ Is Tryz.prog (sLoad T_s_errataref11_Count t37) t38 w2 ∧ Is Tryz.prog (sLoad T_s_api_Producer t30) t31 w2 ∧ Is Tryz.prog (sLoad T_int t24) t25 w2 ∧ Is Tryz.prog (sLoad T_int t18) t19 w2 ∧ pureK Tryz.prog (sBin .add T_string (.tmp 9) (.tmp 14) t9 t14) fun t15 =>
  upK Tryz.prog (sCall F_errataref01_Int #[t19]) w2 fun t20 w3 =>
  Is Tryz.prog (sBlt .len #[T_s_errataref11_Count] T_int #[false] #[t38]) t39 w3 ∧ Is Tryz.prog (sLoad T_s_errataref11_Count t37) t38 w3 ∧ Is Tryz.prog (sLoad T_s_api_Producer t30) t31 w3 ∧ Is Tryz.prog (sLoad T_int t24) t25 w3 ∧ pureK Tryz.prog (sBin .add T_string (.tmp 15) (.tmp 20) t15 t20) fun t21 =>
  upK Tryz.prog (sCall F_errataref01_Int #[t25]) w3 fun t26 w4 =>
  Is Tryz.prog (sBlt .len #[T_s_errataref11_Count] T_int #[false] #[t38]) t39 w4 ∧ Is Tryz.prog (sLoad T_s_errataref11_Count t37) t38 w4 ∧ Is Tryz.prog (sLoad T_s_api_Producer t30) t31 w4 ∧ pureK Tryz.prog (sBin .add T_string (.tmp 21) (.tmp 26) t21 t26) fun t27 =>
  upK Tryz.prog (sCall F_errataref10_Bytes #[t31]) w4 fun t32 w5 =>
  Is Tryz.prog (sBlt .len #[T_s_errataref11_Count] T_int #[false] #[t38]) t39 w5 ∧ Is Tryz.prog (sLoad T_s_errataref11_Count t37) t38 w5 ∧ upK Tryz.prog (sCall F_errataref01_Text #[t32]) w5 fun t33 w6 =>
  Is Tryz.prog (sBlt .len #[T_s_errataref11_Count] T_int #[false] #[t38]) t39 w6 ∧ Is Tryz.prog (sLoad T_s_errataref11_Count t37) t38 w6 ∧ pureK Tryz.prog (sBin .add T_string (.tmp 27) (.tmp 33) t27 t33) fun t34 =>
  upK Tryz.prog (sCall F_errataref01_Num #[t39]) w6 fun t40 w7 =>
  Is Tryz.prog (sLoad T_int t7) t8 w7 ∧ pureK Tryz.prog (sBin .add T_string (.tmp 34) (.tmp 40) t34 t40) fun t41 =>
  LOOP (X := Value × Value × Unit) (fun lv8 w8 next8 =>
   pureK Tryz.prog (sNil x0) fun t44 =>
   pureK Tryz.prog (sFieldAddr T_errataref11_Intake t44 7) fun t45 =>
   readK Tryz.prog (sLoad T_s_errataref11_Count t45) w8 fun t46 =>
   readK Tryz.prog (sBlt .len #[T_s_errataref11_Count] T_int #[false] #[t46]) w8 fun t47 =>
   pureK Tryz.prog (sBin .lss T_int (.tmp 42) (.tmp 47) lv8.2.1 t47) fun t48 =>
   ifB t48
   (pureK Tryz.prog (sNil x0) fun t53 =>
    pureK Tryz.prog (sFieldAddr T_errataref11_Intake t53 7) fun t54 =>
    readK Tryz.prog (sLoad T_s_errataref11_Count t54) (tick w8) fun t55 =>
    pureK Tryz.prog (sIdxAddr T_s_errataref11_Count t55 lv8.2.1) fun t57 =>
    pureK Tryz.prog (sFieldAddr T_errataref11_Count t57 0) fun t58 =>
    readK Tryz.prog (sLoad T_int t58) (tick w8) fun t59 =>
    pureK Tryz.prog (sNil x0) fun t63 =>
    pureK Tryz.prog (sFieldAddr T_errataref11_Intake t63 7) fun t64 =>
    readK Tryz.prog (sLoad T_s_errataref11_Count t64) (tick w8) fun t65 =>
    pureK Tryz.prog (sIdxAddr T_s_errataref11_Count t65 lv8.2.1) fun t67 =>
    pureK Tryz.prog (sFieldAddr T_errataref11_Count t67 1) fun t68 =>
    readK Tryz.prog (sLoad T_int t68) (tick w8) fun t69 =>
    upK Tryz.prog (sCall F_errataref01_Int #[t59]) (tick w8) fun t60 w9 =>
    Is Tryz.prog (sLoad T_int t68) t69 w9 ∧ Is Tryz.prog (sLoad T_s_errataref11_Count t64) t65 w9 ∧ pureK Tryz.prog (sBin .add T_string (.tmp 51) (.tmp 60) lv8.1 t60) fun t61 =>
    upK Tryz.prog (sCall F_errataref01_Int #[t69]) w9 fun t70 w10 =>
    pureK Tryz.prog (sBin .add T_string (.tmp 61) (.tmp 70) t61 t70) fun t71 =>
    pureK Tryz.prog (sBin .add T_int (.tmp 49) (.const (.int .i64 1)) lv8.2.1 (.int .i64 1)) fun t50 =>
    next8 (t71, t50, ()) w10)
   (K lv8.1 w8))
  (t41, (.int .i64 0), ()) w7
theorem errataref11_Intake_Bytes.pt_eq : errataref11_Intake_Bytes.pt = fun x0 w K => FN Tryz.prog Tryz.f28 (bodyOf Tryz.f28) [2] .leaf [x0] w K := by kernel_rfl
theorem errataref11_Intake_Bytes.call {x0 : Value} {w : World} {K : Value → World → Prop} (h : errataref11_Intake_Bytes.pt x0 w K) : Calls Tryz.prog F_errataref11_Intake_Bytes #[x0] w (retK K) :=
  calls_FN (args := [x0]) Tryz.func28 (by kernel_rfl) (by rw [errataref11_Intake_Bytes.pt_eq] at h; exact h)
theorem errataref11_Intake_Bytes.up {x0 : Value} {w : World} {K : Value → World → Prop} (h : Calls Tryz.prog F_errataref11_Intake_Bytes #[x0] w (retK K)) : upK Tryz.prog (sCall F_errataref11_Intake_Bytes #[x0]) w K :=
  up_call (fn := Tryz.f28) Tryz.func28 (by kernel_rfl) (by kernel_rfl) h

/-- errata/errataref10.Same -/
def errataref10_Same.pt (a0 b1 : Value) (w : World) (K : Value → World → Prop) : Prop :=
  readK Tryz.prog (sBlt .len #[T_s_api_Producer] T_int #[false] #[a0]) w fun t7 =>
  readK Tryz.prog (sBlt .len #[T_s_api_Producer] T_int #[false] #[b1]) w fun t9 =>
  pureK Tryz.prog (sBin .neq T_int (.tmp 7) (.tmp 9) t7 t9) fun t10 =>
  ifB t10
  (K (.bool false) w)
  (LOOP (X := Value × Unit) (fun lv1 w1 next1 =>
    readK Tryz.prog (sBlt .len #[T_s_api_Producer] T_int #[false] #[a0]) w1 fun t13 =>
    pureK Tryz.prog (sBin .lss T_int (.tmp 11) (.tmp 13) lv1.1 t13) fun t14 =>
    ifB t14
    (pureK Tryz.prog (sIdxAddr T_s_api_Producer a0 lv1.1) fun t19 =>
     pureK Tryz.prog (sFieldAddr T_api_Producer t19 0) fun t20 =>
     readK Tryz.prog (sLoad T_int t20) (tick w1) fun t21 =>
     pureK Tryz.prog (sIdxAddr T_s_api_Producer b1 lv1.1) fun t24 =>
     pureK Tryz.prog (sFieldAddr T_api_Producer t24 0) fun t25 =>
     readK Tryz.prog (sLoad T_int t25) (tick w1) fun t26 =>
     pureK Tryz.prog (sBin .neq T_int (.tmp 21) (.tmp 26) t21 t26) fun t27 =>
     ifB t27
     (K (.bool false) (tick w1))
     (pureK Tryz.prog (sIdxAddr T_s_api_Producer a0 lv1.1) fun t31 =>
      pureK Tryz.prog (sFieldAddr T_api_Producer t31 1) fun t32 =>
      readK Tryz.prog (sLoad T_int t32) (tick w1) fun t33 =>
      pureK Tryz.prog (sIdxAddr T_s_api_Producer b1 lv1.1) fun t36 =>
      pureK Tryz.prog (sFieldAddr T_api_Producer t36 1) fun t37 =>
      readK Tryz.prog (sLoad T_int t37) (tick w1) fun t38 =>
      pureK Tryz.prog (sBin .neq T_int (.tmp 33) (.tmp 38) t33 t38) fun t39 =>
      ifB t39
      (K (.bool false) (tick w1))
      (pureK Tryz.prog (sIdxAddr T_s_api_Producer a0 lv1.1) fun t44 =>
       pureK Tryz.prog (sFieldAddr T_api_Producer t44 2) fun t45 =>
       readK Tryz.prog (sLoad T_int t45) (tick w1) fun t46 =>
       pureK Tryz.prog (sIdxAddr T_s_api_Producer b1 lv1.1) fun t49 =>
       pureK Tryz.prog (sFieldAddr T_api_Producer t49 2) fun t50 =>
       readK Tryz.prog (sLoad T_int t50) (tick w1) fun t51 =>
       pureK Tryz.prog (sBin .neq T_int (.tmp 46) (.tmp 51) t46 t51) fun t52 =>
       ifB t52
       (K (.bool false) (tick w1))
       (pureK Tryz.prog (sIdxAddr T_s_api_Producer a0 lv1.1) fun t57 =>
        pureK Tryz.prog (sFieldAddr T_api_Producer t57 3) fun t58 =>
        readK Tryz.prog (sLoad T_s_int t58) (tick w1) fun t59 =>
        pureK Tryz.prog (sIdxAddr T_s_api_Producer b1 lv1.1) fun t62 =>
        pureK Tryz.prog (sFieldAddr T_api_Producer t62 3) fun t63 =>
        readK Tryz.prog (sLoad T_s_int t63) (tick w1) fun t64 =>
        upK Tryz.prog (sCall F_errataref10_SameNums #[t59, t64]) (tick w1) fun t65 w2 =>
        pureK Tryz.prog (sUn .not t65) fun t66 =>
        ifB t66
        (K (.bool false) w2)
        (pureK Tryz.prog (sBin .add T_int (.tmp 15) (.const (.int .i64 1)) lv1.1 (.int .i64 1)) fun t16 =>
         next1 (t16, ()) w2)))))
    (K (.bool true) w1))
   ((.int .i64 0), ()) w)
theorem errataref10_Same.pt_eq : errataref10_Same.pt = fun a0 b1 w K => FN Tryz.prog Tryz.f29 (bodyOf Tryz.f29) [4] .leaf [a0, b1] w K := by kernel_rfl
theorem errataref10_Same.call {a0 b1 : Value} {w : World} {K : Value → World → Prop} (h : errataref10_Same.pt a0 b1 w K) : Calls Tryz.prog F_errataref10_Same #[a0, b1] w (retK K) :=
  calls_FN (args := [a0, b1]) Tryz.func29 (by kernel_rfl) (by rw [errataref10_Same.pt_eq] at h; exact h)
theorem errataref10_Same.up {a0 b1 : Value} {w : World} {K : Value → World → Prop} (h : Calls Tryz.prog F_errataref10_Same #[a0, b1] w (retK K)) : upK Tryz.prog (sCall F_errataref10_Same #[a0, b1]) w K :=
  up_call (fn := Tryz.f29) Tryz.func29 (by kernel_rfl) (by kernel_rfl) h

/-- (*errata/intake.Intake).Producers -/
def intake_Intake_Producers.pt (x0 : Value) (w : World) (K : Value → World → Prop) : Prop :=
  pureK Tryz.prog (sNil x0) fun t7 =>
  pureK Tryz.prog (sFieldAddr T_intake_Intake t7 6) fun t8 =>
  readK Tryz.prog (sLoad T_s_api_Producer t8) w fun t9 =>
  readK Tryz.prog (sBlt .len #[T_s_api_Producer] T_int #[false] #[t9]) w fun t10 =>
  LOOP (X := Value × Value × Unit) (fun lv1 w1 next1 =>
   pureK Tryz.prog (sBin .lss T_int (.tmp 11) (.tmp 10) lv1.2.1 t10) fun t12 =>
   ifB t12
   (pureK Tryz.prog (sIdxAddr T_s_api_Producer t9 lv1.2.1) fun t13 =>
    readK Tryz.prog (sLoad T_api_Producer t13) w1 fun t14 =>
    upK Tryz.prog (sAlloc T_api_Producer) w1 fun p5 w2 =>
    upK Tryz.prog (sStore T_api_Producer p5 t14) w2 fun tu w3 =>
    pureK Tryz.prog (sFieldAddr T_api_Producer p5 3) fun t15 =>
    readK Tryz.prog (sLoad T_s_int t15) w3 fun t16 =>
    upK Tryz.prog (sCall F_slices_Clone_s_int_int #[t16]) w3 fun t17 w4 =>
    pureK Tryz.prog (sFieldAddr T_api_Producer p5 3) fun t18 =>
    upK Tryz.prog (sStore T_s_int t18 t17) w4 fun tu_1 w5 =>
    readK Tryz.prog (sLoad T_api_Producer p5) w5 fun t20 =>
    upK Tryz.prog (sBuildSlice T_s_api_Producer 1 #[(0, t20)]) w5 fun t21 w6 =>
    upK Tryz.prog (sBlt .append #[T_s_api_Producer, T_s_api_Producer] T_s_api_Producer #[false, false] #[lv1.1, t21]) w6 fun t22 w7 =>
    pureK Tryz.prog (sBin .add T_int (.tmp 11) (.const (.int .i64 1)) lv1.2.1 (.int .i64 1)) fun t23 =>
    next1 (t22, t23, ()) w7)
   (K lv1.1 w1))
  ((.slice none 0 0), (.int .i64 0), ()) w
theorem intake_Intake_Producers.pt_eq : intake_Intake_Producers.pt = fun x0 w K => FN Tryz.prog Tryz.f30 (bodyOf Tryz.f30) [2] .leaf [x0] w K := by kernel_rfl
theorem intake_Intake_Producers.call {x0 : Value} {w : World} {K : Value → World → Prop} (h : intake_Intake_Producers.pt x0 w K) : Calls Tryz.prog F_intake_Intake_Producers #[x0] w (retK K) :=
  calls_FN (args := [x0]) Tryz.func30 (by kernel_rfl) (by rw [intake_Intake_Producers.pt_eq] at h; exact h)
theorem intake_Intake_Producers.up {x0 : Value} {w : World} {K : Value → World → Prop} (h : Calls Tryz.prog F_intake_Intake_Producers #[x0] w (retK K)) : upK Tryz.prog (sCall F_intake_Intake_Producers #[x0]) w K :=
  up_call (fn := Tryz.f30) Tryz.func30 (by kernel_rfl) (by kernel_rfl) h

/-- errata/intake.Read -/
def intake_Read.pt (c0 known1 s2 : Value) (w : World) (K : Value → World → Prop) : Prop :=
  upK Tryz.prog (sBox T_api_Config c0) w fun c3 w1 =>
  readK Tryz.prog (sLoad T_api_Config c3) w1 fun t16 =>
  upK Tryz.prog (sCall F_intake_New #[t16, known1]) w1 fun t18 w2 =>
  pureK Tryz.prog (sBin .eql T_p_intake_Intake (.tmp 19) (.const (.pointer none)) t18 (.pointer none)) fun t20 =>
  ifB t20
  (K (.tuple #[(.pointer none), (.bool false)]) w2)
  (upK Tryz.prog (sCall F_wire_Open #[s2]) w2 fun t22 w3 =>
   upK Tryz.prog (sCall F_wire_Reader_Int #[t22]) w3 fun t28 w4 =>
   upK Tryz.prog (sCall F_wire_Reader_Int #[t22]) w4 fun t30 w5 =>
   upK Tryz.prog (sCall F_wire_Reader_Int #[t22]) w5 fun t32 w6 =>
   upK Tryz.prog (sCall F_wire_Reader_Int #[t22]) w6 fun t34 w7 =>
   pureK Tryz.prog (sNil t18) fun t35 =>
   pureK Tryz.prog (sFieldAddr T_intake_Intake t35 2) fun t36 =>
   upK Tryz.prog (sStore T_int t36 t28) w7 fun tu w8 =>
   pureK Tryz.prog (sNil t18) fun t37 =>
   pureK Tryz.prog (sFieldAddr T_intake_Intake t37 3) fun t38 =>
   upK Tryz.prog (sStore T_int t38 t30) w8 fun tu_1 w9 =>
   pureK Tryz.prog (sNil t18) fun t39 =>
   pureK Tryz.prog (sFieldAddr T_intake_Intake t39 4) fun t40 =>
   upK Tryz.prog (sStore T_int t40 t32) w9 fun tu_2 w10 =>
   pureK Tryz.prog (sNil t18) fun t41 =>
   pureK Tryz.prog (sFieldAddr T_intake_Intake t41 5) fun t42 =>
   upK Tryz.prog (sStore T_int t42 t34) w10 fun tu_3 w11 =>
   upK Tryz.prog (sCall F_wire_Reader_Text #[t22]) w11 fun t46 w12 =>
   upK Tryz.prog (sCall F_producer_Read #[t46]) w12 fun t47 w13 =>
   pureK Tryz.prog (sExtract t47 0) fun t48 =>
   pureK Tryz.prog (sExtract t47 1) fun t49 =>
   pureK Tryz.prog (sNil t18) fun t50 =>
   pureK Tryz.prog (sFieldAddr T_intake_Intake t50 6) fun t51 =>
   upK Tryz.prog (sStore T_s_api_Producer t51 t48) w13 fun tu_4 w14 =>
   pureK Tryz.prog (sUn .not t49) fun t53 =>
   ifB t53
   (K (.tuple #[(.pointer none), (.bool false)]) w14)
   (pureK Tryz.prog (sNil t18) fun t55 =>
    pureK Tryz.prog (sFieldAddr T_intake_Intake t55 2) fun t56 =>
    readK Tryz.prog (sLoad T_int t56) w14 fun t57 =>
    upK Tryz.prog (sCall F_intake_isTime #[t57]) w14 fun t58 w15 =>
    pureK Tryz.prog (sUn .not t58) fun t59 =>
    ifB t59
    (K (.tuple #[(.pointer none), (.bool false)]) w15)
    (pureK Tryz.prog (sNil t18) fun t62 =>
     pureK Tryz.prog (sFieldAddr T_intake_Intake t62 4) fun t63 =>
     readK Tryz.prog (sLoad T_int t63) w15 fun t64 =>
     upK Tryz.prog (sCall F_intake_isTime #[t64]) w15 fun t65 w16 =>
     pureK Tryz.prog (sUn .not t65) fun t66 =>
     ifB t66
     (K (.tuple #[(.pointer none), (.bool false)]) w16)
     (pureK Tryz.prog (sNil t18) fun t70 =>
      pureK Tryz.prog (sFieldAddr T_intake_Intake t70 3) fun t71 =>
      readK Tryz.prog (sLoad T_int t71) w16 fun t72 =>
      upK Tryz.prog (sCall F_intake_between #[t72, (.int .i64 (-1)), (.int .i64 1099511627776)]) w16 fun t73 w17 =>
      pureK Tryz.prog (sUn .not t73) fun t74 =>
      ifB t74
      (K (.tuple #[(.pointer none), (.bool false)]) w17)
      (pureK Tryz.prog (sNil t18) fun t78 =>
       pureK Tryz.prog (sFieldAddr T_intake_Intake t78 5) fun t79 =>
       readK Tryz.prog (sLoad T_int t79) w17 fun t80 =>
       pureK Tryz.prog (sBin .lss T_int (.tmp 80) (.const (.int .i64 0)) t80 (.int .i64 0)) fun t81 =>
       ifB t81
       (K (.tuple #[(.pointer none), (.bool false)]) w17)
       (upK Tryz.prog (sCall F_intake_Intake_Closed #[t18]) w17 fun t84 w18 =>
        upK Tryz.prog (sCall F_wire_Reader_Num #[t22]) w18 fun t86 w19 =>
        LETJ (X := Unit) (fun jv1 w20 =>
         upK Tryz.prog (sCall F_wire_Reader_Done #[t22]) w20 fun t127 w21 =>
         pureK Tryz.prog (sUn .not t127) fun t128 =>
         ifB t128
         (K (.tuple #[(.pointer none), (.bool false)]) w21)
         (pureK Tryz.prog (sNil t18) fun t131 =>
          pureK Tryz.prog (sFieldAddr T_intake_Intake t131 7) fun t132 =>
          readK Tryz.prog (sLoad T_map_int_int t132) w21 fun t133 =>
          readK Tryz.prog (sBlt .len #[T_map_int_int] T_int #[false] #[t133]) w21 fun t134 =>
          pureK Tryz.prog (sBin .neq T_int (.tmp 134) (.tmp 135) t134 t86) fun t136 =>
          ifB t136
          (K (.tuple #[(.pointer none), (.bool false)]) w21)
          (K (.tuple #[t18, (.bool true)]) w21)))
        (fun J1 =>
         LOOP (X := Value × Value × Unit) (fun lv22 w22 next22 =>
          pureK Tryz.prog (sBin .lss T_int (.tmp 87) (.tmp 88) lv22.2.1 t86) fun t89 =>
          ifB t89
          (upK Tryz.prog (sCall F_wire_Reader_Left #[t22]) w22 fun t92 w23 =>
           pureK Tryz.prog (sBin .gtr T_int (.tmp 92) (.const (.int .i64 0)) t92 (.int .i64 0)) fun t93 =>
           ifB t93
           (upK Tryz.prog (sCall F_wire_Reader_Int #[t22]) w23 fun t98 w24 =>
            upK Tryz.prog (sCall F_wire_Reader_Int #[t22]) w24 fun t100 w25 =>
            pureK Tryz.prog (sBin .add T_int (.tmp 102) (.const (.int .i64 1)) lv22.1 (.int .i64 1)) fun t103 =>
            pureK Tryz.prog (sNil t18) fun t105 =>
            pureK Tryz.prog (sFieldAddr T_intake_Intake t105 3) fun t106 =>
            readK Tryz.prog (sLoad T_int t106) w25 fun t107 =>
            upK Tryz.prog (sCall F_intake_between #[t98, t103, t107]) w25 fun t108 w26 =>
            pureK Tryz.prog (sUn .not t108) fun t109 =>
            ifB t109
            (K (.tuple #[(.pointer none), (.bool false)]) w26)
            (pureK Tryz.prog (sFieldAddr T_api_Config c3 4) fun t112 =>
             readK Tryz.prog (sLoad T_int t112) w26 fun t113 =>
             upK Tryz.prog (sCall F_intake_between #[t100, (.int .i64 1), t113]) w26 fun t114 w27 =>
             pureK Tryz.prog (sUn .not t114) fun t115 =>
             ifB t115
             (K (.tuple #[(.pointer none), (.bool false)]) w27)
             (pureK Tryz.prog (sNil t18) fun t118 =>
              pureK Tryz.prog (sFieldAddr T_intake_Intake t118 7) fun t119 =>
              readK Tryz.prog (sLoad T_map_int_int t119) w27 fun t120 =>
              upK Tryz.prog (sMapEntry T_map_int_int t120 t98) w27 fun t124 w28 =>
              pureK Tryz.prog (sExtract t124 1) fun t125 =>
              upK Tryz.prog (sEntryStore T_map_int_int t120 t125 t100) w28 fun tu_5 w29 =>
              pureK Tryz.prog (sBin .add T_int (.tmp 95) (.const (.int .i64 1)) lv22.2.1 (.int .i64 1)) fun t96 =>
              next22 (t98, t96, ()) w29)))
           (J1 (()) w23))
          (J1 (()) w22))
         (t84, (.int .i64 0), ()) w19)))))))
theorem intake_Read.pt_eq : intake_Read.pt = fun c0 known1 s2 w K => FN Tryz.prog Tryz.f31 (bodyOf Tryz.f31) [6, 7] (.node none .leaf (.node none .leaf (.node none .leaf (.node none .leaf (.node none .leaf (.node none .leaf (.node none .leaf (.node none .leaf (.node none .leaf (.node none .leaf (.node (some []) .leaf .leaf))))))))))) [c0, known1, s2] w K := by kernel_rfl
theorem intake_Read.call {c0 known1 s2 : Value} {w : World} {K : Value → World → Prop} (h : intake_Read.pt c0 known1 s2 w K) : Calls Tryz.prog F_intake_Read #[c0, known1, s2] w (retK K) :=
  calls_FN (args := [c0, known1, s2]) Tryz.func31 (by kernel_rfl) (by rw [intake_Read.pt_eq] at h; exact h)
theorem intake_Read.up {c0 known1 s2 : Value} {w : World} {K : Value → World → Prop} (h : Calls Tryz.prog F_intake_Read #[c0, known1, s2] w (retK K)) : upK Tryz.prog (sCall F_intake_Read #[c0, known1, s2]) w K :=
  up_call (fn := Tryz.f31) Tryz.func31 (by kernel_rfl) (by kernel_rfl) h

/-- (*errata/intake.Intake).Copy -/
def intake_Intake_Copy.pt (x0 : Value) (w : World) (K : Value → World → Prop) : Prop :=
  pureK Tryz.prog (sNil x0) fun t5 =>
  readK Tryz.prog (sLoad T_intake_Intake t5) w fun t6 =>
  upK Tryz.prog (sAlloc T_intake_Intake) w fun c3 w1 =>
  upK Tryz.prog (sStore T_intake_Intake c3 t6) w1 fun tu w2 =>
  pureK Tryz.prog (sNil x0) fun t8 =>
  pureK Tryz.prog (sFieldAddr T_intake_Intake t8 1) fun t9 =>
  readK Tryz.prog (sLoad T_s_api_Known t9) w2 fun t10 =>
  upK Tryz.prog (sCall F_intake_Intake_Know #[c3, t10]) w2 fun t11 w3 =>
  pureK Tryz.prog (sNil x0) fun t15 =>
  pureK Tryz.prog (sFieldAddr T_intake_Intake t15 7) fun t16 =>
  readK Tryz.prog (sLoad T_map_int_int t16) (tick w3) fun t17 =>
  upK Tryz.prog (sCall F_intake_Intake_Producers #[x0]) (tick w3) fun t13 w4 =>
  Is Tryz.prog (sLoad T_map_int_int t16) t17 w4 ∧ upK Tryz.prog (sCall F_maps_Clone_map_int_int_int_int #[t17]) w4 fun t18 w5 =>
  pureK Tryz.prog (sFieldAddr T_intake_Intake c3 6) fun t19 =>
  upK Tryz.prog (sStore T_s_api_Producer t19 t13) w5 fun tu_1 w6 =>
  pureK Tryz.prog (sFieldAddr T_intake_Intake c3 7) fun t20 =>
  upK Tryz.prog (sStore T_map_int_int t20 t18) w6 fun tu_2 w7 =>
  K c3 w7
theorem intake_Intake_Copy.pt_eq : intake_Intake_Copy.pt = fun x0 w K => FN Tryz.prog Tryz.f32 (bodyOf Tryz.f32) [2] .leaf [x0] w K := by kernel_rfl
theorem intake_Intake_Copy.call {x0 : Value} {w : World} {K : Value → World → Prop} (h : intake_Intake_Copy.pt x0 w K) : Calls Tryz.prog F_intake_Intake_Copy #[x0] w (retK K) :=
  calls_FN (args := [x0]) Tryz.func32 (by kernel_rfl) (by rw [intake_Intake_Copy.pt_eq] at h; exact h)
theorem intake_Intake_Copy.up {x0 : Value} {w : World} {K : Value → World → Prop} (h : Calls Tryz.prog F_intake_Intake_Copy #[x0] w (retK K)) : upK Tryz.prog (sCall F_intake_Intake_Copy #[x0]) w K :=
  up_call (fn := Tryz.f32) Tryz.func32 (by kernel_rfl) (by kernel_rfl) h

/-- errata/errataref11.Read -/
def errataref11_Read.pt (c0 known1 s2 : Value) (w : World) (K : Value → World → Prop) : Prop :=
  upK Tryz.prog (sBox T_api_Config c0) w fun c3 w1 =>
  readK Tryz.prog (sLoad T_api_Config c3) w1 fun t17 =>
  upK Tryz.prog (sCall F_errataref11_New #[t17, known1]) w1 fun t19 w2 =>
  pureK Tryz.prog (sBin .eql T_p_errataref11_Intake (.tmp 20) (.const (.pointer none)) t19 (.pointer none)) fun t21 =>
  ifB t21
  (K (.tuple #[(.pointer none), (.bool false)]) w2)
  (upK Tryz.prog (sCall F_errataref01_Open #[s2]) w2 fun t23 w3 =>
   upK Tryz.prog (sCall F_errataref01_Reader_Int #[t23]) w3 fun t26 w4 =>
   pureK Tryz.prog (sNil t19) fun t27 =>
   pureK Tryz.prog (sFieldAddr T_errataref11_Intake t27 2) fun t28 =>
   upK Tryz.prog (sStore T_int t28 t26) w4 fun tu w5 =>
   upK Tryz.prog (sCall F_errataref01_Reader_Int #[t23]) w5 fun t31 w6 =>
   pureK Tryz.prog (sNil t19) fun t32 =>
   pureK Tryz.prog (sFieldAddr T_errataref11_Intake t32 3) fun t33 =>
   upK Tryz.prog (sStore T_int t33 t31) w6 fun tu_1 w7 =>
   upK Tryz.prog (sCall F_errataref01_Reader_Int #[t23]) w7 fun t36 w8 =>
   pureK Tryz.prog (sNil t19) fun t37 =>
   pureK Tryz.prog (sFieldAddr T_errataref11_Intake t37 4) fun t38 =>
   upK Tryz.prog (sStore T_int t38 t36) w8 fun tu_2 w9 =>
   upK Tryz.prog (sCall F_errataref01_Reader_Int #[t23]) w9 fun t41 w10 =>
   pureK Tryz.prog (sNil t19) fun t42 =>
   pureK Tryz.prog (sFieldAddr T_errataref11_Intake t42 5) fun t43 =>
   upK Tryz.prog (sStore T_int t43 t41) w10 fun tu_3 w11 =>
   upK Tryz.prog (sCall F_errataref01_Reader_Text #[t23]) w11 fun t46 w12 =>
   upK Tryz.prog (sCall F_errataref10_Read #[t46]) w12 fun t47 w13 =>
   pureK Tryz.prog (sExtract t47 0) fun t48 =>
   pureK Tryz.prog (sExtract t47 1) fun t49 =>
   pureK Tryz.prog (sNil t19) fun t52 =>
   pureK Tryz.prog (sFieldAddr T_errataref11_Intake t52 6) fun t53 =>
   upK Tryz.prog (sStore T_s_api_Producer t53 t48) w13 fun tu_4 w14 =>
   upK Tryz.prog (sCall F_errataref01_Reader_Num #[t23]) w14 fun t55 w15 =>
   LETJ (X := Unit) (fun jv1 w16 =>
    upK Tryz.prog (sCall F_errataref01_Reader_Done #[t23]) w16 fun t83 w17 =>
    pureK Tryz.prog (sUn .not t83) fun t84 =>
    ifB t84
    (K (.tuple #[(.pointer none), (.bool false)]) w17)
    (pureK Tryz.prog (sUn .not t49) fun t87 =>
     ifB t87
     (K (.tuple #[(.pointer none), (.bool false)]) w17)
     (pureK Tryz.prog (sNil t19) fun t91 =>
      pureK Tryz.prog (sFieldAddr T_errataref11_Intake t91 7) fun t92 =>
      readK Tryz.prog (sLoad T_s_errataref11_Count t92) w17 fun t93 =>
      readK Tryz.prog (sBlt .len #[T_s_errataref11_Count] T_int #[false] #[t93]) w17 fun t94 =>
      pureK Tryz.prog (sBin .neq T_int (.tmp 94) (.tmp 95) t94 t55) fun t96 =>
      ifB t96
      (K (.tuple #[(.pointer none), (.bool false)]) w17)
      (pureK Tryz.prog (sNil t19) fun t100 =>
       pureK Tryz.prog (sFieldAddr T_errataref11_Intake t100 2) fun t101 =>
       readK Tryz.prog (sLoad T_int t101) w17 fun t102 =>
       pureK Tryz.prog (sBin .lss T_int (.tmp 102) (.const (.int .i64 0)) t102 (.int .i64 0)) fun t103 =>
       ifB t103
       (K (.tuple #[(.pointer none), (.bool false)]) w17)
       (pureK Tryz.prog (sNil t19) fun t107 =>
        pureK Tryz.prog (sFieldAddr T_errataref11_Intake t107 2) fun t108 =>
        readK Tryz.prog (sLoad T_int t108) w17 fun t109 =>
        pureK Tryz.prog (sBin .gtr T_int (.tmp 109) (.const (.int .i64 1099511627776)) t109 (.int .i64 1099511627776)) fun t110 =>
        ifB t110
        (K (.tuple #[(.pointer none), (.bool false)]) w17)
        (pureK Tryz.prog (sNil t19) fun t114 =>
         pureK Tryz.prog (sFieldAddr T_errataref11_Intake t114 4) fun t115 =>
         readK Tryz.prog (sLoad T_int t115) w17 fun t116 =>
         pureK Tryz.prog (sBin .lss T_int (.tmp 116) (.const (.int .i64 0)) t116 (.int .i64 0)) fun t117 =>
         ifB t117
         (K (.tuple #[(.pointer none), (.bool false)]) w17)
         (pureK Tryz.prog (sNil t19) fun t121 =>
          pureK Tryz.prog (sFieldAddr T_errataref11_Intake t121 4) fun t122 =>
          readK Tryz.prog (sLoad T_int t122) w17 fun t123 =>
          pureK Tryz.prog (sBin .gtr T_int (.tmp 123) (.const (.int .i64 1099511627776)) t123 (.int .i64 1099511627776)) fun t124 =>
          ifB t124
          (K (.tuple #[(.pointer none), (.bool false)]) w17)
          (pureK Tryz.prog (sNil t19) fun t128 =>
           pureK Tryz.prog (sFieldAddr T_errataref11_Intake t128 3) fun t129 =>
           readK Tryz.prog (sLoad T_int t129) w17 fun t130 =>
           pureK Tryz.prog (sBin .lss T_int (.tmp 130) (.const (.int .i64 (-1))) t130 (.int .i64 (-1))) fun t131 =>
           ifB t131
           (K (.tuple #[(.pointer none), (.bool false)]) w17)
           (pureK Tryz.prog (sNil t19) fun t135 =>
            pureK Tryz.prog (sFieldAddr T_errataref11_Intake t135 3) fun t136 =>
            readK Tryz.prog (sLoad T_int t136) w17 fun t137 =>
            pureK Tryz.prog (sBin .gtr T_int (.tmp 137) (.const (.int .i64 1099511627776)) t137 (.int .i64 1099511627776)) fun t138 =>
            ifB t138
            (K (.tuple #[(.pointer none), (.bool false)]) w17)
            (pureK Tryz.prog (sNil t19) fun t142 =>
             pureK Tryz.prog (sFieldAddr T_errataref11_Intake t142 5) fun t143 =>
             readK Tryz.prog (sLoad T_int t143) w17 fun t144 =>
             pureK Tryz.prog (sBin .lss T_int (.tmp 144) (.const (.int .i64 0)) t144 (.int .i64 0)) fun t145 =>
             ifB t145
             (K (.tuple #[(.pointer none), (.bool false)]) w17)
             (upK Tryz.prog (sCall F_errataref11_Intake_Closed #[t19]) w17 fun t148 w18 =>
              LOOP (X := Value × Value × Unit) (fun lv19 w19 next19 =>
               pureK Tryz.prog (sNil t19) fun t151 =>
               pureK Tryz.prog (sFieldAddr T_errataref11_Intake t151 7) fun t152 =>
               readK Tryz.prog (sLoad T_s_errataref11_Count t152) w19 fun t153 =>
               readK Tryz.prog (sBlt .len #[T_s_errataref11_Count] T_int #[false] #[t153]) w19 fun t154 =>
               pureK Tryz.prog (sBin .lss T_int (.tmp 149) (.tmp 154) lv19.2.1 t154) fun t155 =>
               ifB t155
               (pureK Tryz.prog (sNil t19) fun t159 =>
                pureK Tryz.prog (sFieldAddr T_errataref11_Intake t159 7) fun t160 =>
                readK Tryz.prog (sLoad T_s_errataref11_Count t160) (tick w19) fun t161 =>
                pureK Tryz.prog (sIdxAddr T_s_errataref11_Count t161 lv19.2.1) fun t163 =>
                pureK Tryz.prog (sFieldAddr T_errataref11_Count t163 0) fun t164 =>
                readK Tryz.prog (sLoad T_int t164) (tick w19) fun t165 =>
                pureK Tryz.prog (sBin .leq T_int (.tmp 165) (.tmp 166) t165 lv19.1) fun t167 =>
                ifB t167
                (K (.tuple #[(.pointer none), (.bool false)]) (tick w19))
                (pureK Tryz.prog (sNil t19) fun t170 =>
                 pureK Tryz.prog (sFieldAddr T_errataref11_Intake t170 7) fun t171 =>
                 readK Tryz.prog (sLoad T_s_errataref11_Count t171) (tick w19) fun t172 =>
                 pureK Tryz.prog (sIdxAddr T_s_errataref11_Count t172 lv19.2.1) fun t174 =>
                 pureK Tryz.prog (sFieldAddr T_errataref11_Count t174 0) fun t175 =>
                 readK Tryz.prog (sLoad T_int t175) (tick w19) fun t176 =>
                 pureK Tryz.prog (sNil t19) fun t178 =>
                 pureK Tryz.prog (sFieldAddr T_errataref11_Intake t178 3) fun t179 =>
                 readK Tryz.prog (sLoad T_int t179) (tick w19) fun t180 =>
                 pureK Tryz.prog (sBin .gtr T_int (.tmp 176) (.tmp 180) t176 t180) fun t181 =>
                 ifB t181
                 (K (.tuple #[(.pointer none), (.bool false)]) (tick w19))
                 (pureK Tryz.prog (sNil t19) fun t185 =>
                  pureK Tryz.prog (sFieldAddr T_errataref11_Intake t185 7) fun t186 =>
                  readK Tryz.prog (sLoad T_s_errataref11_Count t186) (tick w19) fun t187 =>
                  pureK Tryz.prog (sIdxAddr T_s_errataref11_Count t187 lv19.2.1) fun t189 =>
                  pureK Tryz.prog (sFieldAddr T_errataref11_Count t189 1) fun t190 =>
                  readK Tryz.prog (sLoad T_int t190) (tick w19) fun t191 =>
                  pureK Tryz.prog (sBin .lss T_int (.tmp 191) (.const (.int .i64 1)) t191 (.int .i64 1)) fun t192 =>
                  ifB t192
                  (K (.tuple #[(.pointer none), (.bool false)]) (tick w19))
                  (pureK Tryz.prog (sNil t19) fun t196 =>
                   pureK Tryz.prog (sFieldAddr T_errataref11_Intake t196 7) fun t197 =>
                   readK Tryz.prog (sLoad T_s_errataref11_Count t197) (tick w19) fun t198 =>
                   pureK Tryz.prog (sIdxAddr T_s_errataref11_Count t198 lv19.2.1) fun t200 =>
                   pureK Tryz.prog (sFieldAddr T_errataref11_Count t200 1) fun t201 =>
                   readK Tryz.prog (sLoad T_int t201) (tick w19) fun t202 =>
                   pureK Tryz.prog (sFieldAddr T_api_Config c3 4) fun t203 =>
                   readK Tryz.prog (sLoad T_int t203) (tick w19) fun t204 =>
                   pureK Tryz.prog (sBin .gtr T_int (.tmp 202) (.tmp 204) t202 t204) fun t205 =>
                   ifB t205
                   (K (.tuple #[(.pointer none), (.bool false)]) (tick w19))
                   (pureK Tryz.prog (sNil t19) fun t208 =>
                    pureK Tryz.prog (sFieldAddr T_errataref11_Intake t208 7) fun t209 =>
                    readK Tryz.prog (sLoad T_s_errataref11_Count t209) (tick w19) fun t210 =>
                    pureK Tryz.prog (sIdxAddr T_s_errataref11_Count t210 lv19.2.1) fun t212 =>
                    pureK Tryz.prog (sFieldAddr T_errataref11_Count t212 0) fun t213 =>
                    readK Tryz.prog (sLoad T_int t213) (tick w19) fun t214 =>
                    pureK Tryz.prog (sBin .add T_int (.tmp 156) (.const (.int .i64 1)) lv19.2.1 (.int .i64 1)) fun t157 =>
                    next19 (t214, t157, ()) (tick w19))))))
               (K (.tuple #[t19, (.bool true)]) w19))
              (t148, (.int .i64 0), ()) w18)))))))))))
   (fun J1 =>
    LOOP (X := Value × Unit) (fun lv20 w20 next20 =>
     pureK Tryz.prog (sBin .lss T_int (.tmp 56) (.tmp 57) lv20.1 t55) fun t58 =>
     ifB t58
     (upK Tryz.prog (sCall F_errataref01_Reader_Left #[t23]) w20 fun t61 w21 =>
      pureK Tryz.prog (sBin .gtr T_int (.tmp 61) (.const (.int .i64 0)) t61 (.int .i64 0)) fun t62 =>
      ifB t62
      (upK Tryz.prog (sCall F_errataref01_Reader_Int #[t23]) w21 fun t67 w22 =>
       pureK Tryz.prog (sBuild T_errataref11_Count #[(0, t67)]) fun t68 =>
       upK Tryz.prog (sAlloc T_errataref11_Count) w22 fun k14 w23 =>
       upK Tryz.prog (sStore T_errataref11_Count k14 t68) w23 fun tu_5 w24 =>
       upK Tryz.prog (sCall F_errataref01_Reader_Int #[t23]) w24 fun t70 w25 =>
       pureK Tryz.prog (sFieldAddr T_errataref11_Count k14 1) fun t71 =>
       upK Tryz.prog (sStore T_int t71 t70) w25 fun tu_6 w26 =>
       pureK Tryz.prog (sNil t19) fun t74 =>
       pureK Tryz.prog (sFieldAddr T_errataref11_Intake t74 7) fun t75 =>
       readK Tryz.prog (sLoad T_s_errataref11_Count t75) (tick w26) fun t76 =>
       readK Tryz.prog (sLoad T_errataref11_Count k14) (tick w26) fun t77 =>
       upK Tryz.prog (sBuildSlice T_s_errataref11_Count 1 #[(0, t77)]) (tick w26) fun t78 w27 =>
       Is Tryz.prog (sLoad T_s_errataref11_Count t75) t76 w27 ∧ upK Tryz.prog (sBlt .append #[T_s_errataref11_Count, T_s_errataref11_Count] T_s_errataref11_Count #[false, false] #[t76, t78]) w27 fun t79 w28 =>
       pureK Tryz.prog (sNil t19) fun t80 =>
       pureK Tryz.prog (sFieldAddr T_errataref11_Intake t80 7) fun t81 =>
       upK Tryz.prog (sStore T_s_errataref11_Count t81 t79) w28 fun tu_7 w29 =>
       pureK Tryz.prog (sBin .add T_int (.tmp 64) (.const (.int .i64 1)) lv20.1 (.int .i64 1)) fun t65 =>
       next20 (t65, ()) w29)
      (J1 (()) w21))
     (J1 (()) w20))
    ((.int .i64 0), ()) w15))
theorem errataref11_Read.pt_eq : errataref11_Read.pt = fun c0 known1 s2 w K => FN Tryz.prog Tryz.f33 (bodyOf Tryz.f33) [6, 7] (.node none .leaf (.node none .leaf (.node none .leaf (.node none .leaf (.node none .leaf (.node none .leaf (.node none .leaf (.node none .leaf (.node none .leaf (.node none .leaf (.node none .leaf (.node (some []) .leaf .leaf)))))))))))) [c0, known1, s2] w K := by kernel_rfl
theorem errataref11_Read.call {c0 known1 s2 : Value} {w : World} {K : Value → World → Prop} (h : errataref11_Read.pt c0 known1 s2 w K) : Calls Tryz.prog F_errataref11_Read #[c0, known1, s2] w (retK K) :=
  calls_FN (args := [c0, known1, s2]) Tryz.func33 (by kernel_rfl) (by rw [errataref11_Read.pt_eq] at h; exact h)
theorem errataref11_Read.up {c0 known1 s2 : Value} {w : World} {K : Value → World → Prop} (h : Calls Tryz.prog F_errataref11_Read #[c0, known1, s2] w (retK K)) : upK Tryz.prog (sCall F_errataref11_Read #[c0, known1, s2]) w K :=
  up_call (fn := Tryz.f33) Tryz.func33 (by kernel_rfl) (by kernel_rfl) h

end Go.Proofs.YtefinemhfgdpdaaGreatDoor
