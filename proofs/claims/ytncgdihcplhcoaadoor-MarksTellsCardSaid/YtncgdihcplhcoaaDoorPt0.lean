/-
  The reckoned conditions of the functions that this seat's statements reach, printed by program, each held against the translation by the kernel. No condition.
-/
import Derived.Test.YtncgdihcplhcoaaDoorNames
namespace Go.Proofs.YtncgdihcplhcoaaDoor
set_option linter.unusedVariables false
set_option maxRecDepth 100000

/-- errata/erratalaw35.MarksBack -/
def erratalaw35_MarksBack.pt (n0 l1 more2 text3 : Value) (w : World) (K : Value → World → Prop) : Prop :=
  upK Tryd.prog (sCall F_erratalaw35_small #[]) w fun t17 w1 =>
  upK Tryd.prog (sCall F_marks_New #[n0]) w1 fun t19 w2 =>
  pureK Tryd.prog (sBin .eql T_p_marks_Marks (.tmp 20) (.const (.pointer none)) t19 (.pointer none)) fun t21 =>
  ifB t21
  (ifB t17
   (pureK Tryd.prog (sBin .neq T_p_marks_Marks (.tmp 39) (.const (.pointer none)) t19 (.pointer none)) fun t40 =>
    K t40 w2)
   (K (.bool false) w2))
  (readK Tryd.prog (sBlt .len #[T_s_erratalaw35_Op] T_int #[false] #[l1]) w2 fun t24 =>
   pureK Tryd.prog (sBin .gtr T_int (.tmp 24) (.const (.int .i64 100)) t24 (.int .i64 100)) fun t25 =>
   ifB t25
   (ifB t17
    (pureK Tryd.prog (sBin .neq T_p_marks_Marks (.tmp 39) (.const (.pointer none)) t19 (.pointer none)) fun t40_1 =>
     K t40_1 w2)
    (K (.bool false) w2))
   (readK Tryd.prog (sBlt .len #[T_s_erratalaw35_Op] T_int #[false] #[more2]) w2 fun t29 =>
    pureK Tryd.prog (sBin .gtr T_int (.tmp 29) (.const (.int .i64 20)) t29 (.int .i64 20)) fun t30 =>
    ifB t30
    (ifB t17
     (pureK Tryd.prog (sBin .neq T_p_marks_Marks (.tmp 39) (.const (.pointer none)) t19 (.pointer none)) fun t40_2 =>
      K t40_2 w2)
     (K (.bool false) w2))
    (readK Tryd.prog (sBlt .len #[T_string] T_int #[false] #[text3]) w2 fun t34 =>
     pureK Tryd.prog (sBin .gtr T_int (.tmp 34) (.const (.int .i64 1000)) t34 (.int .i64 1000)) fun t35 =>
     ifB t35
     (ifB t17
      (pureK Tryd.prog (sBin .neq T_p_marks_Marks (.tmp 39) (.const (.pointer none)) t19 (.pointer none)) fun t40_3 =>
       K t40_3 w2)
      (K (.bool false) w2))
     (LOOP (X := Value × Unit) (fun lv3 w3 next3 =>
       readK Tryd.prog (sBlt .len #[T_s_erratalaw35_Op] T_int #[false] #[l1]) w3 fun t44 =>
       pureK Tryd.prog (sBin .lss T_int (.tmp 42) (.tmp 44) lv3.1 t44) fun t45 =>
       ifB t45
       (pureK Tryd.prog (sIdxAddr T_s_erratalaw35_Op l1 lv3.1) fun t51 =>
        readK Tryd.prog (sLoad T_erratalaw35_Op t51) w3 fun t52 =>
        upK Tryd.prog (sCall F_erratalaw35_do #[t19, t52]) w3 fun t53 w4 =>
        pureK Tryd.prog (sBin .add T_int (.tmp 46) (.const (.int .i64 1)) lv3.1 (.int .i64 1)) fun t47 =>
        next3 (t47, ()) w4)
       (upK Tryd.prog (sCall F_marks_Marks_Bytes #[t19]) w3 fun t56 w5 =>
        upK Tryd.prog (sCall F_marks_Read #[t56]) w5 fun t57 w6 =>
        pureK Tryd.prog (sExtract t57 0) fun t58 =>
        pureK Tryd.prog (sExtract t57 1) fun t59 =>
        pureK Tryd.prog (sUn .not t59) fun t61 =>
        ifB t61
        (K (.bool false) w6)
        (pureK Tryd.prog (sBin .eql T_p_marks_Marks (.tmp 63) (.const (.pointer none)) t58 (.pointer none)) fun t64 =>
         ifB t64
         (K (.bool false) w6)
         (LOOP (X := Value × Unit) (fun lv7 w7 next7 =>
           readK Tryd.prog (sBlt .len #[T_s_erratalaw35_Op] T_int #[false] #[more2]) w7 fun t68 =>
           pureK Tryd.prog (sBin .lss T_int (.tmp 66) (.tmp 68) lv7.1 t68) fun t69 =>
           ifB t69
           (pureK Tryd.prog (sIdxAddr T_s_erratalaw35_Op more2 lv7.1) fun t75 =>
            readK Tryd.prog (sLoad T_erratalaw35_Op t75) (tick w7) fun t76 =>
            pureK Tryd.prog (sIdxAddr T_s_erratalaw35_Op more2 lv7.1) fun t81 =>
            readK Tryd.prog (sLoad T_erratalaw35_Op t81) (tick w7) fun t82 =>
            upK Tryd.prog (sCall F_erratalaw35_do #[t19, t76]) (tick w7) fun t77 w8 =>
            Is Tryd.prog (sLoad T_erratalaw35_Op t81) t82 w8 ∧ upK Tryd.prog (sCall F_erratalaw35_do #[t58, t82]) w8 fun t83 w9 =>
            pureK Tryd.prog (sBin .neq T_api_Errno (.tmp 77) (.tmp 83) t77 t83) fun t84 =>
            ifB t84
            (K (.bool false) w9)
            (upK Tryd.prog (sCall F_marks_Marks_Mark #[t19]) w9 fun t87 w10 =>
             upK Tryd.prog (sCall F_marks_Marks_Mark #[t58]) w10 fun t89 w11 =>
             pureK Tryd.prog (sBin .neq T_int (.tmp 87) (.tmp 89) t87 t89) fun t90 =>
             ifB t90
             (K (.bool false) w11)
             (pureK Tryd.prog (sBin .add T_int (.tmp 70) (.const (.int .i64 1)) lv7.1 (.int .i64 1)) fun t71 =>
              next7 (t71, ()) w11)))
           (upK Tryd.prog (sCall F_marks_Read #[text3]) w7 fun t94 w12 =>
            pureK Tryd.prog (sExtract t94 0) fun t95 =>
            pureK Tryd.prog (sExtract t94 1) fun t96 =>
            LETJ (X := Unit) (fun jv1 w13 =>
             ifB t17
             (upK Tryd.prog (sCall F_marks_Marks_Bytes #[t19]) w13 fun t111 w14 =>
              upK Tryd.prog (sCall F_marks_Marks_Bytes #[t58]) w14 fun t113 w15 =>
              pureK Tryd.prog (sBin .eql T_string (.tmp 111) (.tmp 113) t111 t113) fun t114 =>
              K t114 w15)
             (K (.bool false) w13))
            (fun J1 =>
             ifB t96
             (pureK Tryd.prog (sBin .eql T_p_marks_Marks (.tmp 99) (.const (.pointer none)) t95 (.pointer none)) fun t100 =>
              ifB t100
              (K (.bool false) w12)
              (upK Tryd.prog (sCall F_marks_Marks_Bytes #[t95]) w12 fun t103 w16 =>
               pureK Tryd.prog (sBin .neq T_string (.tmp 103) (.tmp 104) t103 text3) fun t105 =>
               ifB t105
               (K (.bool false) w16)
               (J1 (()) w16)))
             (J1 (()) w12))))
          ((.int .i64 0), ()) w6))))
      ((.int .i64 0), ()) w2))))
theorem erratalaw35_MarksBack.pt_eq : erratalaw35_MarksBack.pt = fun n0 l1 more2 text3 w K => FN Tryd.prog Tryd.f3 (bodyOf Tryd.f3) [8] (.node none .leaf (.node none .leaf (.node none .leaf (.node none .leaf (.node none .leaf (.node none .leaf (.node none .leaf (.node none .leaf (.node none .leaf (.node (some []) .leaf .leaf)))))))))) [n0, l1, more2, text3] w K := by kernel_rfl
theorem erratalaw35_MarksBack.call {n0 l1 more2 text3 : Value} {w : World} {K : Value → World → Prop} (h : erratalaw35_MarksBack.pt n0 l1 more2 text3 w K) : Calls Tryd.prog F_erratalaw35_MarksBack #[n0, l1, more2, text3] w (retK K) :=
  calls_FN (args := [n0, l1, more2, text3]) Tryd.func3 (by kernel_rfl) (by rw [erratalaw35_MarksBack.pt_eq] at h; exact h)
theorem erratalaw35_MarksBack.up {n0 l1 more2 text3 : Value} {w : World} {K : Value → World → Prop} (h : Calls Tryd.prog F_erratalaw35_MarksBack #[n0, l1, more2, text3] w (retK K)) : upK Tryd.prog (sCall F_erratalaw35_MarksBack #[n0, l1, more2, text3]) w K :=
  up_call (fn := Tryd.f3) Tryd.func3 (by kernel_rfl) (by kernel_rfl) h

/-- errata/erratalaw35.MarksTells -/
def erratalaw35_MarksTells.pt (n0 l1 at2 text3 time4 now5 ahead6 : Value) (w : World) (K : Value → World → Prop) : Prop :=
  upK Tryd.prog (sCall F_erratalaw35_small #[]) w fun t27 w1 =>
  upK Tryd.prog (sCall F_marks_New #[n0]) w1 fun t29 w2 =>
  upK Tryd.prog (sCall F_errataref35_New #[n0]) w2 fun t31 w3 =>
  pureK Tryd.prog (sBin .eql T_p_marks_Marks (.tmp 32) (.const (.pointer none)) t29 (.pointer none)) fun t33 =>
  ifB t33
  (ifB t27
   (pureK Tryd.prog (sBin .neq T_p_marks_Marks (.tmp 46) (.const (.pointer none)) t29 (.pointer none)) fun t47 =>
    K t47 w3)
   (K (.bool false) w3))
  (readK Tryd.prog (sBlt .len #[T_s_erratalaw35_Op] T_int #[false] #[l1]) w3 fun t36 =>
   pureK Tryd.prog (sBin .gtr T_int (.tmp 36) (.const (.int .i64 100)) t36 (.int .i64 100)) fun t37 =>
   ifB t37
   (ifB t27
    (pureK Tryd.prog (sBin .neq T_p_marks_Marks (.tmp 46) (.const (.pointer none)) t29 (.pointer none)) fun t47_1 =>
     K t47_1 w3)
    (K (.bool false) w3))
   (readK Tryd.prog (sBlt .len #[T_string] T_int #[false] #[text3]) w3 fun t41 =>
    pureK Tryd.prog (sBin .gtr T_int (.tmp 41) (.const (.int .i64 1000)) t41 (.int .i64 1000)) fun t42 =>
    ifB t42
    (ifB t27
     (pureK Tryd.prog (sBin .neq T_p_marks_Marks (.tmp 46) (.const (.pointer none)) t29 (.pointer none)) fun t47_2 =>
      K t47_2 w3)
     (K (.bool false) w3))
    (upK Tryd.prog (sCall F_marks_Marks_Copy #[t29]) w3 fun t50 w4 =>
     upK Tryd.prog (sCall F_errataref35_Marks_Copy #[t31]) w4 fun t52 w5 =>
     LOOP (X := Value × Value × Value × Unit) (fun lv6 w6 next6 =>
      readK Tryd.prog (sBlt .len #[T_s_erratalaw35_Op] T_int #[false] #[l1]) w6 fun t55 =>
      pureK Tryd.prog (sBin .lss T_int (.tmp 53) (.tmp 55) lv6.2.2.1 t55) fun t56 =>
      ifB t56
      (LETJ (X := Value × Value × Unit) (fun jv1 w7 =>
        pureK Tryd.prog (sBin .add T_int (.tmp 57) (.const (.int .i64 1)) lv6.2.2.1 (.int .i64 1)) fun t58 =>
        next6 (jv1.1, jv1.2.1, t58, ()) w7)
       (fun J1 =>
        LETJ (X := Value × Value × Unit) (fun jv2 w8 =>
         pureK Tryd.prog (sIdxAddr T_s_erratalaw35_Op l1 lv6.2.2.1) fun t69 =>
         readK Tryd.prog (sLoad T_erratalaw35_Op t69) (tick w8) fun t70 =>
         pureK Tryd.prog (sIdxAddr T_s_erratalaw35_Op l1 lv6.2.2.1) fun t75 =>
         readK Tryd.prog (sLoad T_erratalaw35_Op t75) (tick w8) fun t76 =>
         upK Tryd.prog (sCall F_erratalaw35_do #[t29, t70]) (tick w8) fun t71 w9 =>
         Is Tryd.prog (sLoad T_erratalaw35_Op t75) t76 w9 ∧ upK Tryd.prog (sCall F_erratalaw35_tell #[t31, t76]) w9 fun t77 w10 =>
         pureK Tryd.prog (sBin .neq T_api_Errno (.tmp 71) (.tmp 77) t71 t77) fun t78 =>
         ifB t78
         (K (.bool false) w10)
         (pureK Tryd.prog (sNil t31) fun t83 =>
          pureK Tryd.prog (sFieldAddr T_errataref35_Marks t83 2) fun t84 =>
          readK Tryd.prog (sLoad T_int t84) w10 fun t85 =>
          upK Tryd.prog (sCall F_marks_Marks_Mark #[t29]) w10 fun t81 w11 =>
          Is Tryd.prog (sLoad T_int t84) t85 w11 ∧ pureK Tryd.prog (sBin .neq T_int (.tmp 81) (.tmp 85) t81 t85) fun t86 =>
          ifB t86
          (K (.bool false) w11)
          (upK Tryd.prog (sCall F_marks_Marks_Bytes #[t29]) w11 fun t90 w12 =>
           upK Tryd.prog (sCall F_errataref35_Marks_Bytes #[t31]) w12 fun t92 w13 =>
           pureK Tryd.prog (sBin .neq T_string (.tmp 90) (.tmp 92) t90 t92) fun t93 =>
           ifB t93
           (K (.bool false) w13)
           (pureK Tryd.prog (sIdxAddr T_s_erratalaw35_Op l1 lv6.2.2.1) fun t99 =>
            pureK Tryd.prog (sFieldAddr T_erratalaw35_Op t99 1) fun t100 =>
            readK Tryd.prog (sLoad T_int t100) w13 fun t101 =>
            upK Tryd.prog (sCall F_marks_Marks_Of #[t29, t101]) w13 fun t102 w14 =>
            pureK Tryd.prog (sExtract t102 0) fun t103 =>
            pureK Tryd.prog (sExtract t102 1) fun t104 =>
            pureK Tryd.prog (sIdxAddr T_s_erratalaw35_Op l1 lv6.2.2.1) fun t107 =>
            pureK Tryd.prog (sFieldAddr T_erratalaw35_Op t107 1) fun t108 =>
            readK Tryd.prog (sLoad T_int t108) (tick w14) fun t109 =>
            pureK Tryd.prog (sBin .lss T_int (.tmp 109) (.const (.int .i64 0)) t109 (.int .i64 0)) fun t110 =>
            ifB t110
            (pureK Tryd.prog (sBin .neq T_int (.tmp 124) (.const (.int .i64 (-1))) t103 (.int .i64 (-1))) fun t125 =>
             ifB t125
             (K (.bool false) (tick w14))
             (ifB t104
              (K (.bool false) (tick w14))
              (J1 (jv2.1, jv2.2.1, ()) (tick w14))))
            (pureK Tryd.prog (sIdxAddr T_s_erratalaw35_Op l1 lv6.2.2.1) fun t114 =>
             pureK Tryd.prog (sFieldAddr T_erratalaw35_Op t114 1) fun t115 =>
             readK Tryd.prog (sLoad T_int t115) (tick w14) fun t116 =>
             pureK Tryd.prog (sNil t31) fun t118 =>
             pureK Tryd.prog (sFieldAddr T_errataref35_Marks t118 0) fun t119 =>
             readK Tryd.prog (sLoad T_s_int t119) (tick w14) fun t120 =>
             readK Tryd.prog (sBlt .len #[T_s_int] T_int #[false] #[t120]) (tick w14) fun t121 =>
             pureK Tryd.prog (sBin .geq T_int (.tmp 116) (.tmp 121) t116 t121) fun t122 =>
             ifB t122
             (pureK Tryd.prog (sBin .neq T_int (.tmp 124) (.const (.int .i64 (-1))) t103 (.int .i64 (-1))) fun t125_1 =>
              ifB t125_1
              (K (.bool false) (tick w14))
              (ifB t104
               (K (.bool false) (tick w14))
               (J1 (jv2.1, jv2.2.1, ()) (tick w14))))
             (pureK Tryd.prog (sNil t31) fun t131 =>
              pureK Tryd.prog (sFieldAddr T_errataref35_Marks t131 0) fun t132 =>
              readK Tryd.prog (sLoad T_s_int t132) (tick (tick w14)) fun t133 =>
              pureK Tryd.prog (sIdxAddr T_s_erratalaw35_Op l1 lv6.2.2.1) fun t136 =>
              pureK Tryd.prog (sFieldAddr T_erratalaw35_Op t136 1) fun t137 =>
              readK Tryd.prog (sLoad T_int t137) (tick (tick w14)) fun t138 =>
              pureK Tryd.prog (sIdxAddr T_s_int t133 t138) fun t139 =>
              readK Tryd.prog (sLoad T_int t139) (tick (tick w14)) fun t140 =>
              pureK Tryd.prog (sBin .neq T_int (.tmp 129) (.tmp 140) t103 t140) fun t141 =>
              ifB t141
              (K (.bool false) (tick (tick w14)))
              (pureK Tryd.prog (sNil t31) fun t145 =>
               pureK Tryd.prog (sFieldAddr T_errataref35_Marks t145 1) fun t146 =>
               readK Tryd.prog (sLoad T_s_bool t146) (tick (tick w14)) fun t147 =>
               pureK Tryd.prog (sIdxAddr T_s_erratalaw35_Op l1 lv6.2.2.1) fun t150 =>
               pureK Tryd.prog (sFieldAddr T_erratalaw35_Op t150 1) fun t151 =>
               readK Tryd.prog (sLoad T_int t151) (tick (tick w14)) fun t152 =>
               pureK Tryd.prog (sIdxAddr T_s_bool t147 t152) fun t153 =>
               readK Tryd.prog (sLoad T_bool t153) (tick (tick w14)) fun t154 =>
               pureK Tryd.prog (sBin .neq T_bool (.tmp 143) (.tmp 154) t104 t154) fun t155 =>
               ifB t155
               (K (.bool false) (tick (tick w14)))
               (J1 (jv2.1, jv2.2.1, ()) (tick (tick w14))))))))))
        (fun J2 =>
         pureK Tryd.prog (sBin .eql T_int (.tmp 59) (.tmp 60) lv6.2.2.1 at2) fun t61 =>
         ifB t61
         (upK Tryd.prog (sCall F_marks_Marks_Copy #[t29]) w6 fun t63 w15 =>
          upK Tryd.prog (sCall F_errataref35_Marks_Copy #[t31]) w15 fun t65 w16 =>
          J2 (t63, t65, ()) w16)
         (J2 (lv6.1, lv6.2.1, ()) w6))))
      (pureK Tryd.prog (sBin .eql T_p_marks_Marks (.tmp 157) (.const (.pointer none)) lv6.1 (.pointer none)) fun t158 =>
       ifB t158
       (K (.bool false) (tick w6))
       (upK Tryd.prog (sCall F_marks_Marks_Bytes #[lv6.1]) (tick w6) fun t161 w17 =>
        upK Tryd.prog (sCall F_errataref35_Marks_Bytes #[lv6.2.1]) w17 fun t163 w18 =>
        pureK Tryd.prog (sBin .neq T_string (.tmp 161) (.tmp 163) t161 t163) fun t164 =>
        ifB t164
        (K (.bool false) w18)
        (pureK Tryd.prog (sNil t31) fun t170 =>
         pureK Tryd.prog (sFieldAddr T_errataref35_Marks t170 0) fun t171 =>
         readK Tryd.prog (sLoad T_s_int t171) w18 fun t172 =>
         readK Tryd.prog (sBlt .len #[T_s_int] T_int #[false] #[t172]) w18 fun t173 =>
         upK Tryd.prog (sCall F_marks_Marks_Count #[t29]) w18 fun t168 w19 =>
         Is Tryd.prog (sBlt .len #[T_s_int] T_int #[false] #[t172]) t173 w19 ∧ Is Tryd.prog (sLoad T_s_int t171) t172 w19 ∧ pureK Tryd.prog (sBin .neq T_int (.tmp 168) (.tmp 173) t168 t173) fun t174 =>
         ifB t174
         (K (.bool false) w19)
         (upK Tryd.prog (sCall F_marks_Read #[text3]) w19 fun t178 w20 =>
          pureK Tryd.prog (sExtract t178 0) fun t179 =>
          pureK Tryd.prog (sExtract t178 1) fun t180 =>
          upK Tryd.prog (sCall F_errataref35_Read #[text3]) w20 fun t183 w21 =>
          pureK Tryd.prog (sExtract t183 0) fun t184 =>
          pureK Tryd.prog (sExtract t183 1) fun t185 =>
          LETJ (X := Unit) (fun jv3 w22 =>
           ifB t27
           (upK Tryd.prog (sCall F_marks_Cut #[time4, now5, ahead6]) w22 fun t216 w23 =>
            upK Tryd.prog (sCall F_errataref35_Cut #[time4, now5, ahead6]) w23 fun t220 w24 =>
            pureK Tryd.prog (sBin .eql T_int (.tmp 216) (.tmp 220) t216 t220) fun t221 =>
            K t221 w24)
           (K (.bool false) w22))
          (fun J3 =>
           pureK Tryd.prog (sBin .neq T_bool (.tmp 186) (.tmp 187) t180 t185) fun t188 =>
           ifB t188
           (K (.bool false) w21)
           (ifB t180
            (pureK Tryd.prog (sBin .eql T_p_marks_Marks (.tmp 192) (.const (.pointer none)) t179 (.pointer none)) fun t193 =>
             ifB t193
             (K (.bool false) w21)
             (upK Tryd.prog (sCall F_marks_Marks_Bytes #[t179]) w21 fun t196 w25 =>
              upK Tryd.prog (sCall F_errataref35_Marks_Bytes #[t184]) w25 fun t198 w26 =>
              pureK Tryd.prog (sBin .neq T_string (.tmp 196) (.tmp 198) t196 t198) fun t199 =>
              ifB t199
              (K (.bool false) w26)
              (pureK Tryd.prog (sUn .not t180) fun t205 =>
               ifB t205
               (pureK Tryd.prog (sBin .neq T_p_marks_Marks (.tmp 207) (.const (.pointer none)) t179 (.pointer none)) fun t208 =>
                ifB t208
                (K (.bool false) w26)
                (J3 (()) w26))
               (J3 (()) w26))))
            (pureK Tryd.prog (sUn .not t180) fun t205_1 =>
             ifB t205_1
             (pureK Tryd.prog (sBin .neq T_p_marks_Marks (.tmp 207) (.const (.pointer none)) t179 (.pointer none)) fun t208_1 =>
              ifB t208_1
              (K (.bool false) w21)
              (J3 (()) w21))
             (J3 (()) w21)))))))))
     (t50, t52, (.int .i64 0), ()) w5)))
theorem erratalaw35_MarksTells.pt_eq : erratalaw35_MarksTells.pt = fun n0 l1 at2 text3 time4 now5 ahead6 w K => FN Tryd.prog Tryd.f4 (bodyOf Tryd.f4) [14] (.node none .leaf (.node none .leaf (.node none .leaf (.node none .leaf (.node none .leaf (.node none .leaf (.node none .leaf (.node none (.node none .leaf (.node none (.node none (.node none .leaf (.node (some [18, 19]) (.node none (.node (some [18, 19]) .leaf .leaf) .leaf) .leaf)) .leaf) .leaf)) (.node none .leaf (.node none .leaf (.node none .leaf (.node (some []) .leaf .leaf)))))))))))) [n0, l1, at2, text3, time4, now5, ahead6] w K := by kernel_rfl
theorem erratalaw35_MarksTells.call {n0 l1 at2 text3 time4 now5 ahead6 : Value} {w : World} {K : Value → World → Prop} (h : erratalaw35_MarksTells.pt n0 l1 at2 text3 time4 now5 ahead6 w K) : Calls Tryd.prog F_erratalaw35_MarksTells #[n0, l1, at2, text3, time4, now5, ahead6] w (retK K) :=
  calls_FN (args := [n0, l1, at2, text3, time4, now5, ahead6]) Tryd.func4 (by kernel_rfl) (by rw [erratalaw35_MarksTells.pt_eq] at h; exact h)
theorem erratalaw35_MarksTells.up {n0 l1 at2 text3 time4 now5 ahead6 : Value} {w : World} {K : Value → World → Prop} (h : Calls Tryd.prog F_erratalaw35_MarksTells #[n0, l1, at2, text3, time4, now5, ahead6] w (retK K)) : upK Tryd.prog (sCall F_erratalaw35_MarksTells #[n0, l1, at2, text3, time4, now5, ahead6]) w K :=
  up_call (fn := Tryd.f4) Tryd.func4 (by kernel_rfl) (by kernel_rfl) h

/-- errata/erratalaw35.small -/
def erratalaw35_small.pt (w : World) (K : Value → World → Prop) : Prop :=
  upK Tryd.prog (sCall F_marks_New #[(.int .i64 2)]) w fun t5 w1 =>
  pureK Tryd.prog (sBin .eql T_p_marks_Marks (.tmp 6) (.const (.pointer none)) t5 (.pointer none)) fun t7 =>
  ifB t7
  (K (.bool false) w1)
  (upK Tryd.prog (sCall F_marks_Marks_Note #[t5, (.int .i64 0), (.int .i64 5)]) w1 fun t9 w2 =>
   upK Tryd.prog (sCall F_marks_Marks_Mark #[t5]) w2 fun t11 w3 =>
   upK Tryd.prog (sCall F_marks_Marks_Note #[t5, (.int .i64 1), (.int .i64 3)]) w3 fun t13 w4 =>
   upK Tryd.prog (sCall F_marks_Marks_Mark #[t5]) w4 fun t15 w5 =>
   upK Tryd.prog (sCall F_marks_Marks_Idle #[t5, (.int .i64 1), (.bool true)]) w5 fun t17 w6 =>
   upK Tryd.prog (sCall F_marks_Marks_Mark #[t5]) w6 fun t19 w7 =>
   upK Tryd.prog (sCall F_marks_Marks_Note #[t5, (.int .i64 1), (.int .i64 4)]) w7 fun t21 w8 =>
   pureK Tryd.prog (sBin .eql T_int (.tmp 22) (.const (.int .i64 (-1))) t11 (.int .i64 (-1))) fun t23 =>
   ifB t23
   (pureK Tryd.prog (sBin .eql T_int (.tmp 25) (.const (.int .i64 3)) t15 (.int .i64 3)) fun t26 =>
    ifB t26
    (pureK Tryd.prog (sBin .eql T_int (.tmp 29) (.const (.int .i64 5)) t19 (.int .i64 5)) fun t30 =>
     ifB t30
     (upK Tryd.prog (sCall F_marks_Marks_Mark #[t5]) w8 fun t34 w9 =>
      pureK Tryd.prog (sBin .eql T_int (.tmp 34) (.const (.int .i64 5)) t34 (.int .i64 5)) fun t35 =>
      ifB t35
      (upK Tryd.prog (sCall F_marks_Cut #[(.int .i64 100), (.int .i64 40), (.int .i64 10)]) w9 fun t38 w10 =>
       pureK Tryd.prog (sBin .eql T_int (.tmp 38) (.const (.int .i64 50)) t38 (.int .i64 50)) fun t39 =>
       ifB t39
       (upK Tryd.prog (sCall F_marks_Cut #[(.int .i64 45), (.int .i64 40), (.int .i64 10)]) w10 fun t42 w11 =>
        pureK Tryd.prog (sBin .eql T_int (.tmp 42) (.const (.int .i64 45)) t42 (.int .i64 45)) fun t43 =>
        K t43 w11)
       (K (.bool false) w10))
      (K (.bool false) w9))
     (K (.bool false) w8))
    (K (.bool false) w8))
   (K (.bool false) w8))
theorem erratalaw35_small.pt_eq : erratalaw35_small.pt = fun  w K => FN Tryd.prog Tryd.f5 (bodyOf Tryd.f5) [0] .leaf [] w K := by kernel_rfl
theorem erratalaw35_small.call {w : World} {K : Value → World → Prop} (h : erratalaw35_small.pt  w K) : Calls Tryd.prog F_erratalaw35_small #[] w (retK K) :=
  calls_FN (args := []) Tryd.func5 (by kernel_rfl) (by rw [erratalaw35_small.pt_eq] at h; exact h)
theorem erratalaw35_small.up {w : World} {K : Value → World → Prop} (h : Calls Tryd.prog F_erratalaw35_small #[] w (retK K)) : upK Tryd.prog (sCall F_erratalaw35_small #[]) w K :=
  up_call (fn := Tryd.f5) Tryd.func5 (by kernel_rfl) (by kernel_rfl) h

/-- errata/marks.New -/
def marks_New.pt (n0 : Value) (w : World) (K : Value → World → Prop) : Prop :=
  pureK Tryd.prog (sBuild T_marks_input #[(0, (.int .i64 (-1)))]) fun t3 =>
  upK Tryd.prog (sBuildSlice T_s_marks_input 1 #[(0, t3)]) w fun t4 w1 =>
  pureK Tryd.prog (sBlt .max #[T_int, T_int] T_int #[false, true] #[n0, (.int .i64 0)]) fun t6 =>
  pureK Tryd.prog (sBlt .min #[T_int, T_int] T_int #[false, true] #[t6, (.int .i64 200)]) fun t7 =>
  upK Tryd.prog (sCall F_slices_Repeat_s_marks_input_marks_input #[t4, t7]) w1 fun t8 w2 =>
  pureK Tryd.prog (sBuild T_marks_Marks #[(0, t8), (1, (.int .i64 (-1)))]) fun t9 =>
  upK Tryd.prog (sBox T_marks_Marks t9) w2 fun t10 w3 =>
  K t10 w3
theorem marks_New.pt_eq : marks_New.pt = fun n0 w K => FN Tryd.prog Tryd.f6 (bodyOf Tryd.f6) [2] .leaf [n0] w K := by kernel_rfl
theorem marks_New.call {n0 : Value} {w : World} {K : Value → World → Prop} (h : marks_New.pt n0 w K) : Calls Tryd.prog F_marks_New #[n0] w (retK K) :=
  calls_FN (args := [n0]) Tryd.func6 (by kernel_rfl) (by rw [marks_New.pt_eq] at h; exact h)
theorem marks_New.up {n0 : Value} {w : World} {K : Value → World → Prop} (h : Calls Tryd.prog F_marks_New #[n0] w (retK K)) : upK Tryd.prog (sCall F_marks_New #[n0]) w K :=
  up_call (fn := Tryd.f6) Tryd.func6 (by kernel_rfl) (by kernel_rfl) h

/-- errata/erratalaw35.do -/
def erratalaw35_do.pt (m0 x1 : Value) (w : World) (K : Value → World → Prop) : Prop :=
  upK Tryd.prog (sBox T_erratalaw35_Op x1) w fun x3 w1 =>
  pureK Tryd.prog (sFieldAddr T_erratalaw35_Op x3 0) fun t5 =>
  readK Tryd.prog (sLoad T_int t5) w1 fun t6 =>
  pureK Tryd.prog (sBin .and T_int (.tmp 6) (.const (.int .i64 3)) t6 (.int .i64 3)) fun t7 =>
  pureK Tryd.prog (sBin .eql T_int (.tmp 7) (.const (.int .i64 2)) t7 (.int .i64 2)) fun t9 =>
  ifB t9
  (pureK Tryd.prog (sFieldAddr T_erratalaw35_Op x3 1) fun t11 =>
   readK Tryd.prog (sLoad T_int t11) w1 fun t12 =>
   upK Tryd.prog (sCall F_marks_Marks_Idle #[m0, t12, (.bool true)]) w1 fun t13 w2 =>
   K t13 w2)
  (pureK Tryd.prog (sBin .eql T_int (.tmp 7) (.const (.int .i64 3)) t7 (.int .i64 3)) fun t15 =>
   ifB t15
   (pureK Tryd.prog (sFieldAddr T_erratalaw35_Op x3 1) fun t17 =>
    readK Tryd.prog (sLoad T_int t17) w1 fun t18 =>
    upK Tryd.prog (sCall F_marks_Marks_Idle #[m0, t18, (.bool false)]) w1 fun t19 w3 =>
    K t19 w3)
   (pureK Tryd.prog (sFieldAddr T_erratalaw35_Op x3 1) fun t21 =>
    readK Tryd.prog (sLoad T_int t21) w1 fun t22 =>
    pureK Tryd.prog (sFieldAddr T_erratalaw35_Op x3 2) fun t23 =>
    readK Tryd.prog (sLoad T_int t23) w1 fun t24 =>
    upK Tryd.prog (sCall F_marks_Marks_Note #[m0, t22, t24]) w1 fun t25 w4 =>
    K t25 w4))
theorem erratalaw35_do.pt_eq : erratalaw35_do.pt = fun m0 x1 w K => FN Tryd.prog Tryd.f7 (bodyOf Tryd.f7) [4] .leaf [m0, x1] w K := by kernel_rfl
theorem erratalaw35_do.call {m0 x1 : Value} {w : World} {K : Value → World → Prop} (h : erratalaw35_do.pt m0 x1 w K) : Calls Tryd.prog F_erratalaw35_do #[m0, x1] w (retK K) :=
  calls_FN (args := [m0, x1]) Tryd.func7 (by kernel_rfl) (by rw [erratalaw35_do.pt_eq] at h; exact h)
theorem erratalaw35_do.up {m0 x1 : Value} {w : World} {K : Value → World → Prop} (h : Calls Tryd.prog F_erratalaw35_do #[m0, x1] w (retK K)) : upK Tryd.prog (sCall F_erratalaw35_do #[m0, x1]) w K :=
  up_call (fn := Tryd.f7) Tryd.func7 (by kernel_rfl) (by kernel_rfl) h

/-- errata/marks.Read -/
def marks_Read.pt (s0 : Value) (w : World) (K : Value → World → Prop) : Prop :=
  upK Tryd.prog (sCall F_wire_Open #[s0]) w fun t11 w1 =>
  upK Tryd.prog (sCall F_wire_Reader_Int #[t11]) w1 fun t13 w2 =>
  pureK Tryd.prog (sBuild T_marks_Marks #[(1, t13)]) fun t14 =>
  upK Tryd.prog (sBox T_marks_Marks t14) w2 fun t15 w3 =>
  upK Tryd.prog (sCall F_wire_Reader_Num #[t11]) w3 fun t17 w4 =>
  pureK Tryd.prog (sBin .gtr T_int (.tmp 18) (.const (.int .i64 200)) t17 (.int .i64 200)) fun t19 =>
  ifB t19
  (K (.tuple #[(.pointer none), (.bool false)]) w4)
  (LETJ (X := Value × Unit) (fun jv1 w5 =>
    LOOP (X := Value × Value × Unit) (fun lv6 w6 next6 =>
     pureK Tryd.prog (sBin .lss T_int (.tmp 33) (.tmp 32) lv6.2.1 t17) fun t34 =>
     ifB t34
     (upK Tryd.prog (sCall F_wire_Reader_Int #[t11]) w6 fun t36 w7 =>
      pureK Tryd.prog (sBuild T_marks_input #[(0, t36)]) fun t37 =>
      upK Tryd.prog (sAlloc T_marks_input) w7 fun x8 w8 =>
      upK Tryd.prog (sStore T_marks_input x8 t37) w8 fun tu w9 =>
      upK Tryd.prog (sCall F_wire_Reader_Int #[t11]) w9 fun t39 w10 =>
      pureK Tryd.prog (sBin .eql T_int (.tmp 40) (.const (.int .i64 1)) t39 (.int .i64 1)) fun t41 =>
      pureK Tryd.prog (sFieldAddr T_marks_input x8 1) fun t42 =>
      upK Tryd.prog (sStore T_bool t42 t41) w10 fun tu_1 w11 =>
      LETJ (X := Value × Unit) (fun jv2 w12 =>
       pureK Tryd.prog (sNil t15) fun t64 =>
       pureK Tryd.prog (sFieldAddr T_marks_Marks t64 0) fun t65 =>
       readK Tryd.prog (sLoad T_s_marks_input t65) (tick w12) fun t66 =>
       readK Tryd.prog (sLoad T_marks_input x8) (tick w12) fun t67 =>
       upK Tryd.prog (sBuildSlice T_s_marks_input 1 #[(0, t67)]) (tick w12) fun t68 w13 =>
       Is Tryd.prog (sLoad T_s_marks_input t65) t66 w13 ∧ upK Tryd.prog (sBlt .append #[T_s_marks_input, T_s_marks_input] T_s_marks_input #[false, false] #[t66, t68]) w13 fun t69 w14 =>
       pureK Tryd.prog (sNil t15) fun t70 =>
       pureK Tryd.prog (sFieldAddr T_marks_Marks t70 0) fun t71 =>
       upK Tryd.prog (sStore T_s_marks_input t71 t69) w14 fun tu_2 w15 =>
       pureK Tryd.prog (sBin .add T_int (.tmp 33) (.const (.int .i64 1)) lv6.2.1 (.int .i64 1)) fun t72 =>
       next6 (jv2.1, t72, ()) w15)
      (fun J2 =>
       ifB lv6.1
       (pureK Tryd.prog (sFieldAddr T_marks_input x8 0) fun t45 =>
        readK Tryd.prog (sLoad T_int t45) w11 fun t46 =>
        pureK Tryd.prog (sBin .geq T_int (.tmp 46) (.const (.int .i64 (-1))) t46 (.int .i64 (-1))) fun t47 =>
        ifB t47
        (pureK Tryd.prog (sFieldAddr T_marks_input x8 0) fun t50 =>
         readK Tryd.prog (sLoad T_int t50) w11 fun t51 =>
         pureK Tryd.prog (sBin .leq T_int (.tmp 51) (.const (.int .i64 1099511627776)) t51 (.int .i64 1099511627776)) fun t52 =>
         ifB t52
         (pureK Tryd.prog (sBin .eql T_int (.tmp 55) (.const (.int .i64 0)) t39 (.int .i64 0)) fun t56 =>
          ifB t56
          (J2 ((.bool true), ()) w11)
          (pureK Tryd.prog (sBin .eql T_int (.tmp 58) (.const (.int .i64 1)) t39 (.int .i64 1)) fun t59 =>
           J2 (t59, ()) w11))
         (J2 ((.bool false), ()) w11))
        (J2 ((.bool false), ()) w11))
       (J2 ((.bool false), ()) w11)))
     (LETJ (X := Value × Unit) (fun jv3 w16 =>
       ifB jv3.1
       (K (.tuple #[(.pointer none), (.bool false)]) w16)
       (K (.tuple #[t15, (.bool true)]) w16))
      (fun J3 =>
       pureK Tryd.prog (sUn .not lv6.1) fun t74 =>
       ifB t74
       (J3 ((.bool true), ()) (tick w6))
       (upK Tryd.prog (sCall F_wire_Reader_Done #[t11]) (tick w6) fun t77 w17 =>
        pureK Tryd.prog (sUn .not t77) fun t78 =>
        ifB t78
        (J3 ((.bool true), ()) w17)
        (pureK Tryd.prog (sNil t15) fun t84 =>
         pureK Tryd.prog (sFieldAddr T_marks_Marks t84 1) fun t85 =>
         readK Tryd.prog (sLoad T_int t85) w17 fun t86 =>
         upK Tryd.prog (sCall F_marks_Marks_settled #[t15]) w17 fun t82 w18 =>
         Is Tryd.prog (sLoad T_int t85) t86 w18 ∧ pureK Tryd.prog (sBin .neq T_int (.tmp 82) (.tmp 86) t82 t86) fun t87 =>
         J3 (t87, ()) w18)))))
    (jv1.1, (.int .i64 0), ()) w5)
   (fun J1 =>
    pureK Tryd.prog (sNil t15) fun t21 =>
    pureK Tryd.prog (sFieldAddr T_marks_Marks t21 1) fun t22 =>
    readK Tryd.prog (sLoad T_int t22) w4 fun t23 =>
    pureK Tryd.prog (sBin .geq T_int (.tmp 23) (.const (.int .i64 (-1))) t23 (.int .i64 (-1))) fun t24 =>
    ifB t24
    (pureK Tryd.prog (sNil t15) fun t27 =>
     pureK Tryd.prog (sFieldAddr T_marks_Marks t27 1) fun t28 =>
     readK Tryd.prog (sLoad T_int t28) w4 fun t29 =>
     pureK Tryd.prog (sBin .leq T_int (.tmp 29) (.const (.int .i64 1099511627776)) t29 (.int .i64 1099511627776)) fun t30 =>
     J1 (t30, ()) w4)
    (J1 ((.bool false), ()) w4)))
theorem marks_Read.pt_eq : marks_Read.pt = fun s0 w K => FN Tryd.prog Tryd.f8 (bodyOf Tryd.f8) [2, 3] (.node none .leaf (.node none .leaf (.node none .leaf (.node none .leaf (.node none .leaf (.node (some [7]) .leaf (.node none (.node none .leaf (.node none (.node none (.node none .leaf (.node none .leaf (.node none (.node none (.node none .leaf (.node none .leaf (.node none .leaf (.node (some [7]) .leaf .leaf)))) .leaf) .leaf))) .leaf) .leaf)) (.node none (.node (some [88]) .leaf .leaf) .leaf)))))))) [s0] w K := by kernel_rfl
theorem marks_Read.call {s0 : Value} {w : World} {K : Value → World → Prop} (h : marks_Read.pt s0 w K) : Calls Tryd.prog F_marks_Read #[s0] w (retK K) :=
  calls_FN (args := [s0]) Tryd.func8 (by kernel_rfl) (by rw [marks_Read.pt_eq] at h; exact h)
theorem marks_Read.up {s0 : Value} {w : World} {K : Value → World → Prop} (h : Calls Tryd.prog F_marks_Read #[s0] w (retK K)) : upK Tryd.prog (sCall F_marks_Read #[s0]) w K :=
  up_call (fn := Tryd.f8) Tryd.func8 (by kernel_rfl) (by kernel_rfl) h

/-- (*errata/marks.Marks).Bytes -/
def marks_Marks_Bytes.pt (m0 : Value) (w : World) (K : Value → World → Prop) : Prop :=
  upK Tryd.prog (sAlloc T_strings_Builder) w fun b3 w1 =>
  pureK Tryd.prog (sNil m0) fun t8 =>
  pureK Tryd.prog (sFieldAddr T_marks_Marks t8 1) fun t9 =>
  readK Tryd.prog (sLoad T_int t9) (tick w1) fun t10 =>
  pureK Tryd.prog (sNil m0) fun t13 =>
  pureK Tryd.prog (sFieldAddr T_marks_Marks t13 0) fun t14 =>
  readK Tryd.prog (sLoad T_s_marks_input t14) (tick w1) fun t15 =>
  readK Tryd.prog (sBlt .len #[T_s_marks_input] T_int #[false] #[t15]) (tick w1) fun t16 =>
  upK Tryd.prog (sCall F_wire_Int #[t10]) (tick w1) fun t11 w2 =>
  Is Tryd.prog (sBlt .len #[T_s_marks_input] T_int #[false] #[t15]) t16 w2 ∧ Is Tryd.prog (sLoad T_s_marks_input t14) t15 w2 ∧ upK Tryd.prog (sCall F_wire_Num #[t16]) w2 fun t17 w3 =>
  pureK Tryd.prog (sBin .add T_string (.tmp 11) (.tmp 17) t11 t17) fun t18 =>
  upK Tryd.prog (sCall F_strings_Builder_WriteString #[b3, t18]) w3 fun t19 w4 =>
  pureK Tryd.prog (sNil m0) fun t21 =>
  pureK Tryd.prog (sFieldAddr T_marks_Marks t21 0) fun t22 =>
  readK Tryd.prog (sLoad T_s_marks_input t22) w4 fun t23 =>
  readK Tryd.prog (sBlt .len #[T_s_marks_input] T_int #[false] #[t23]) w4 fun t24 =>
  LOOP (X := Value × Unit) (fun lv5 w5 next5 =>
   pureK Tryd.prog (sBin .lss T_int (.tmp 25) (.tmp 24) lv5.1 t24) fun t26 =>
   ifB t26
   (pureK Tryd.prog (sIdxAddr T_s_marks_input t23 lv5.1) fun t27 =>
    readK Tryd.prog (sLoad T_marks_input t27) w5 fun t28 =>
    upK Tryd.prog (sAlloc T_marks_input) w5 fun x5 w6 =>
    upK Tryd.prog (sStore T_marks_input x5 t28) w6 fun tu w7 =>
    LETJ (X := Value × Unit) (fun jv1 w8 =>
     pureK Tryd.prog (sFieldAddr T_marks_input x5 0) fun t31 =>
     readK Tryd.prog (sLoad T_int t31) w8 fun t32 =>
     upK Tryd.prog (sCall F_wire_Int #[t32]) w8 fun t33 w9 =>
     upK Tryd.prog (sCall F_wire_Int #[jv1.1]) w9 fun t35 w10 =>
     pureK Tryd.prog (sBin .add T_string (.tmp 33) (.tmp 35) t33 t35) fun t36 =>
     upK Tryd.prog (sCall F_strings_Builder_WriteString #[b3, t36]) w10 fun t37 w11 =>
     pureK Tryd.prog (sBin .add T_int (.tmp 25) (.const (.int .i64 1)) lv5.1 (.int .i64 1)) fun t38 =>
     next5 (t38, ()) w11)
    (fun J1 =>
     pureK Tryd.prog (sFieldAddr T_marks_input x5 1) fun t29 =>
     readK Tryd.prog (sLoad T_bool t29) w7 fun t30 =>
     ifB t30
     (J1 ((.int .i64 1), ()) w7)
     (J1 ((.int .i64 0), ()) w7)))
   (upK Tryd.prog (sCall F_strings_Builder_String #[b3]) w5 fun t39 w12 =>
    K t39 w12))
  ((.int .i64 0), ()) w4
theorem marks_Marks_Bytes.pt_eq : marks_Marks_Bytes.pt = fun m0 w K => FN Tryd.prog Tryd.f9 (bodyOf Tryd.f9) [2] (.node none .leaf (.node none .leaf (.node none .leaf (.node none (.node none .leaf (.node none (.node none (.node none .leaf (.node none .leaf (.node none (.node none (.node none .leaf (.node none .leaf (.node (some [6]) .leaf .leaf))) .leaf) .leaf))) .leaf) .leaf)) .leaf)))) [m0] w K := by kernel_rfl
theorem marks_Marks_Bytes.call {m0 : Value} {w : World} {K : Value → World → Prop} (h : marks_Marks_Bytes.pt m0 w K) : Calls Tryd.prog F_marks_Marks_Bytes #[m0] w (retK K) :=
  calls_FN (args := [m0]) Tryd.func9 (by kernel_rfl) (by rw [marks_Marks_Bytes.pt_eq] at h; exact h)
theorem marks_Marks_Bytes.up {m0 : Value} {w : World} {K : Value → World → Prop} (h : Calls Tryd.prog F_marks_Marks_Bytes #[m0] w (retK K)) : upK Tryd.prog (sCall F_marks_Marks_Bytes #[m0]) w K :=
  up_call (fn := Tryd.f9) Tryd.func9 (by kernel_rfl) (by kernel_rfl) h

/-- (*errata/marks.Marks).Mark -/
def marks_Marks_Mark.pt (m0 : Value) (w : World) (K : Value → World → Prop) : Prop :=
  pureK Tryd.prog (sNil m0) fun t4 =>
  pureK Tryd.prog (sFieldAddr T_marks_Marks t4 1) fun t5 =>
  readK Tryd.prog (sLoad T_int t5) w fun t6 =>
  K t6 w
theorem marks_Marks_Mark.pt_eq : marks_Marks_Mark.pt = fun m0 w K => FN Tryd.prog Tryd.f10 (bodyOf Tryd.f10) [2] .leaf [m0] w K := by kernel_rfl
theorem marks_Marks_Mark.call {m0 : Value} {w : World} {K : Value → World → Prop} (h : marks_Marks_Mark.pt m0 w K) : Calls Tryd.prog F_marks_Marks_Mark #[m0] w (retK K) :=
  calls_FN (args := [m0]) Tryd.func10 (by kernel_rfl) (by rw [marks_Marks_Mark.pt_eq] at h; exact h)
theorem marks_Marks_Mark.up {m0 : Value} {w : World} {K : Value → World → Prop} (h : Calls Tryd.prog F_marks_Marks_Mark #[m0] w (retK K)) : upK Tryd.prog (sCall F_marks_Marks_Mark #[m0]) w K :=
  up_call (fn := Tryd.f10) Tryd.func10 (by kernel_rfl) (by kernel_rfl) h

/-- errata/errataref35.New -/
def errataref35_New.pt (n0 : Value) (w : World) (K : Value → World → Prop) : Prop :=
  pureK Tryd.prog (sBuild T_errataref35_Marks #[(2, (.int .i64 (-1)))]) fun t5 =>
  upK Tryd.prog (sBox T_errataref35_Marks t5) w fun t6 w1 =>
  LETJ (X := Unit) (fun jv1 w2 =>
   K t6 w2)
  (fun J1 =>
   LOOP (X := Value × Unit) (fun lv3 w3 next3 =>
    pureK Tryd.prog (sBin .lss T_int (.tmp 7) (.tmp 8) lv3.1 n0) fun t9 =>
    ifB t9
    (pureK Tryd.prog (sBin .lss T_int (.tmp 11) (.const (.int .i64 200)) lv3.1 (.int .i64 200)) fun t12 =>
     ifB t12
     (pureK Tryd.prog (sNil t6) fun t18 =>
      pureK Tryd.prog (sFieldAddr T_errataref35_Marks t18 0) fun t19 =>
      readK Tryd.prog (sLoad T_s_int t19) w3 fun t20 =>
      upK Tryd.prog (sBuildSlice T_s_int 1 #[(0, (.int .i64 (-1)))]) w3 fun t21 w4 =>
      upK Tryd.prog (sBlt .append #[T_s_int, T_s_int] T_s_int #[false, false] #[t20, t21]) w4 fun t22 w5 =>
      pureK Tryd.prog (sNil t6) fun t23 =>
      pureK Tryd.prog (sFieldAddr T_errataref35_Marks t23 0) fun t24 =>
      upK Tryd.prog (sStore T_s_int t24 t22) w5 fun tu w6 =>
      pureK Tryd.prog (sNil t6) fun t27 =>
      pureK Tryd.prog (sFieldAddr T_errataref35_Marks t27 1) fun t28 =>
      readK Tryd.prog (sLoad T_s_bool t28) w6 fun t29 =>
      upK Tryd.prog (sBuildSlice T_s_bool 1 #[(0, (.bool false))]) w6 fun t30 w7 =>
      upK Tryd.prog (sBlt .append #[T_s_bool, T_s_bool] T_s_bool #[false, false] #[t29, t30]) w7 fun t31 w8 =>
      pureK Tryd.prog (sNil t6) fun t32 =>
      pureK Tryd.prog (sFieldAddr T_errataref35_Marks t32 1) fun t33 =>
      upK Tryd.prog (sStore T_s_bool t33 t31) w8 fun tu_1 w9 =>
      pureK Tryd.prog (sBin .add T_int (.tmp 14) (.const (.int .i64 1)) lv3.1 (.int .i64 1)) fun t15 =>
      next3 (t15, ()) w9)
     (J1 (()) w3))
    (J1 (()) w3))
   ((.int .i64 0), ()) w1)
theorem errataref35_New.pt_eq : errataref35_New.pt = fun n0 w K => FN Tryd.prog Tryd.f11 (bodyOf Tryd.f11) [2] (.node none .leaf (.node none .leaf (.node (some []) .leaf .leaf))) [n0] w K := by kernel_rfl
theorem errataref35_New.call {n0 : Value} {w : World} {K : Value → World → Prop} (h : errataref35_New.pt n0 w K) : Calls Tryd.prog F_errataref35_New #[n0] w (retK K) :=
  calls_FN (args := [n0]) Tryd.func11 (by kernel_rfl) (by rw [errataref35_New.pt_eq] at h; exact h)
theorem errataref35_New.up {n0 : Value} {w : World} {K : Value → World → Prop} (h : Calls Tryd.prog F_errataref35_New #[n0] w (retK K)) : upK Tryd.prog (sCall F_errataref35_New #[n0]) w K :=
  up_call (fn := Tryd.f11) Tryd.func11 (by kernel_rfl) (by kernel_rfl) h

/-- (*errata/marks.Marks).Copy -/
def marks_Marks_Copy.pt (m0 : Value) (w : World) (K : Value → World → Prop) : Prop :=
  pureK Tryd.prog (sNil m0) fun t4 =>
  pureK Tryd.prog (sFieldAddr T_marks_Marks t4 0) fun t5 =>
  readK Tryd.prog (sLoad T_s_marks_input t5) (tick w) fun t6 =>
  pureK Tryd.prog (sNil m0) fun t9 =>
  pureK Tryd.prog (sFieldAddr T_marks_Marks t9 1) fun t10 =>
  readK Tryd.prog (sLoad T_int t10) (tick w) fun t11 =>
  upK Tryd.prog (sCall F_slices_Clone_s_marks_input_marks_input #[t6]) (tick w) fun t7 w1 =>
  Is Tryd.prog (sLoad T_int t10) t11 w1 ∧ pureK Tryd.prog (sBuild T_marks_Marks #[(0, t7), (1, t11)]) fun t12 =>
  upK Tryd.prog (sBox T_marks_Marks t12) w1 fun t13 w2 =>
  K t13 w2
theorem marks_Marks_Copy.pt_eq : marks_Marks_Copy.pt = fun m0 w K => FN Tryd.prog Tryd.f12 (bodyOf Tryd.f12) [2] .leaf [m0] w K := by kernel_rfl
theorem marks_Marks_Copy.call {m0 : Value} {w : World} {K : Value → World → Prop} (h : marks_Marks_Copy.pt m0 w K) : Calls Tryd.prog F_marks_Marks_Copy #[m0] w (retK K) :=
  calls_FN (args := [m0]) Tryd.func12 (by kernel_rfl) (by rw [marks_Marks_Copy.pt_eq] at h; exact h)
theorem marks_Marks_Copy.up {m0 : Value} {w : World} {K : Value → World → Prop} (h : Calls Tryd.prog F_marks_Marks_Copy #[m0] w (retK K)) : upK Tryd.prog (sCall F_marks_Marks_Copy #[m0]) w K :=
  up_call (fn := Tryd.f12) Tryd.func12 (by kernel_rfl) (by kernel_rfl) h

/-- (*errata/errataref35.Marks).Copy -/
def errataref35_Marks_Copy.pt (m0 : Value) (w : World) (K : Value → World → Prop) : Prop :=
  pureK Tryd.prog (sNil m0) fun t5 =>
  pureK Tryd.prog (sFieldAddr T_errataref35_Marks t5 0) fun t6 =>
  readK Tryd.prog (sLoad T_s_int t6) (tick w) fun t7 =>
  pureK Tryd.prog (sNil m0) fun t11 =>
  pureK Tryd.prog (sFieldAddr T_errataref35_Marks t11 1) fun t12 =>
  readK Tryd.prog (sLoad T_s_bool t12) (tick w) fun t13 =>
  pureK Tryd.prog (sNil m0) fun t16 =>
  pureK Tryd.prog (sFieldAddr T_errataref35_Marks t16 2) fun t17 =>
  readK Tryd.prog (sLoad T_int t17) (tick w) fun t18 =>
  ((upK Tryd.prog (sBuildSlice T_s_int 0 #[]) (tick w) fun t3 w1 =>
    Is Tryd.prog (sLoad T_int t17) t18 w1 ∧ Is Tryd.prog (sLoad T_s_bool t12) t13 w1 ∧ Is Tryd.prog (sLoad T_s_int t6) t7 w1 ∧ ((upK Tryd.prog (sBlt .append #[T_s_int, T_s_int] T_s_int #[false, false] #[t3, t7]) w1 fun t8 w2 =>
      Is Tryd.prog (sLoad T_int t17) t18 w2 ∧ Is Tryd.prog (sLoad T_s_bool t12) t13 w2 ∧ upK Tryd.prog (sBuildSlice T_s_bool 0 #[]) w2 fun t9 w3 =>
      Is Tryd.prog (sLoad T_int t17) t18 w3 ∧ Is Tryd.prog (sLoad T_s_bool t12) t13 w3 ∧ Is Tryd.prog (sLoad T_s_int t6) t7 w3 ∧ upK Tryd.prog (sBlt .append #[T_s_bool, T_s_bool] T_s_bool #[false, false] #[t9, t13]) w3 fun t14 w4 =>
      Is Tryd.prog (sLoad T_int t17) t18 w4 ∧ pureK Tryd.prog (sBuild T_errataref35_Marks #[(0, t8), (1, t14), (2, t18)]) fun t19 =>
      upK Tryd.prog (sBox T_errataref35_Marks t19) w4 fun t20 w5 =>
      K t20 w5)
     ∧ (upK Tryd.prog (sBuildSlice T_s_bool 0 #[]) w1 fun t9_1 w6 =>
      Is Tryd.prog (sLoad T_int t17) t18 w6 ∧ Is Tryd.prog (sLoad T_s_bool t12) t13 w6 ∧ Is Tryd.prog (sLoad T_s_int t6) t7 w6 ∧ upK Tryd.prog (sBlt .append #[T_s_int, T_s_int] T_s_int #[false, false] #[t3, t7]) w6 fun t8_1 w7 =>
      Is Tryd.prog (sLoad T_int t17) t18 w7 ∧ Is Tryd.prog (sLoad T_s_bool t12) t13 w7 ∧ upK Tryd.prog (sBlt .append #[T_s_bool, T_s_bool] T_s_bool #[false, false] #[t9_1, t13]) w7 fun t14_1 w8 =>
      Is Tryd.prog (sLoad T_int t17) t18 w8 ∧ pureK Tryd.prog (sBuild T_errataref35_Marks #[(0, t8_1), (1, t14_1), (2, t18)]) fun t19_1 =>
      upK Tryd.prog (sBox T_errataref35_Marks t19_1) w8 fun t20_1 w9 =>
      K t20_1 w9)))
   ∧ (upK Tryd.prog (sBuildSlice T_s_bool 0 #[]) (tick w) fun t9_2 w10 =>
    Is Tryd.prog (sLoad T_int t17) t18 w10 ∧ Is Tryd.prog (sLoad T_s_bool t12) t13 w10 ∧ Is Tryd.prog (sLoad T_s_int t6) t7 w10 ∧ upK Tryd.prog (sBuildSlice T_s_int 0 #[]) w10 fun t3_1 w11 =>
    Is Tryd.prog (sLoad T_int t17) t18 w11 ∧ Is Tryd.prog (sLoad T_s_bool t12) t13 w11 ∧ Is Tryd.prog (sLoad T_s_int t6) t7 w11 ∧ upK Tryd.prog (sBlt .append #[T_s_int, T_s_int] T_s_int #[false, false] #[t3_1, t7]) w11 fun t8_2 w12 =>
    Is Tryd.prog (sLoad T_int t17) t18 w12 ∧ Is Tryd.prog (sLoad T_s_bool t12) t13 w12 ∧ upK Tryd.prog (sBlt .append #[T_s_bool, T_s_bool] T_s_bool #[false, false] #[t9_2, t13]) w12 fun t14_2 w13 =>
    Is Tryd.prog (sLoad T_int t17) t18 w13 ∧ pureK Tryd.prog (sBuild T_errataref35_Marks #[(0, t8_2), (1, t14_2), (2, t18)]) fun t19_2 =>
    upK Tryd.prog (sBox T_errataref35_Marks t19_2) w13 fun t20_2 w14 =>
    K t20_2 w14))
theorem errataref35_Marks_Copy.pt_eq : errataref35_Marks_Copy.pt = fun m0 w K => FN Tryd.prog Tryd.f13 (bodyOf Tryd.f13) [2] .leaf [m0] w K := by kernel_rfl
theorem errataref35_Marks_Copy.call {m0 : Value} {w : World} {K : Value → World → Prop} (h : errataref35_Marks_Copy.pt m0 w K) : Calls Tryd.prog F_errataref35_Marks_Copy #[m0] w (retK K) :=
  calls_FN (args := [m0]) Tryd.func13 (by kernel_rfl) (by rw [errataref35_Marks_Copy.pt_eq] at h; exact h)
theorem errataref35_Marks_Copy.up {m0 : Value} {w : World} {K : Value → World → Prop} (h : Calls Tryd.prog F_errataref35_Marks_Copy #[m0] w (retK K)) : upK Tryd.prog (sCall F_errataref35_Marks_Copy #[m0]) w K :=
  up_call (fn := Tryd.f13) Tryd.func13 (by kernel_rfl) (by kernel_rfl) h

/-- errata/erratalaw35.tell -/
def erratalaw35_tell.pt (m0 x1 : Value) (w : World) (K : Value → World → Prop) : Prop :=
  upK Tryd.prog (sBox T_erratalaw35_Op x1) w fun x3 w1 =>
  pureK Tryd.prog (sFieldAddr T_erratalaw35_Op x3 0) fun t5 =>
  readK Tryd.prog (sLoad T_int t5) w1 fun t6 =>
  pureK Tryd.prog (sBin .and T_int (.tmp 6) (.const (.int .i64 3)) t6 (.int .i64 3)) fun t7 =>
  pureK Tryd.prog (sBin .eql T_int (.tmp 7) (.const (.int .i64 2)) t7 (.int .i64 2)) fun t9 =>
  ifB t9
  (pureK Tryd.prog (sFieldAddr T_erratalaw35_Op x3 1) fun t11 =>
   readK Tryd.prog (sLoad T_int t11) w1 fun t12 =>
   upK Tryd.prog (sCall F_errataref35_Marks_Idle #[m0, t12, (.bool true)]) w1 fun t13 w2 =>
   K t13 w2)
  (pureK Tryd.prog (sBin .eql T_int (.tmp 7) (.const (.int .i64 3)) t7 (.int .i64 3)) fun t15 =>
   ifB t15
   (pureK Tryd.prog (sFieldAddr T_erratalaw35_Op x3 1) fun t17 =>
    readK Tryd.prog (sLoad T_int t17) w1 fun t18 =>
    upK Tryd.prog (sCall F_errataref35_Marks_Idle #[m0, t18, (.bool false)]) w1 fun t19 w3 =>
    K t19 w3)
   (pureK Tryd.prog (sFieldAddr T_erratalaw35_Op x3 1) fun t21 =>
    readK Tryd.prog (sLoad T_int t21) w1 fun t22 =>
    pureK Tryd.prog (sFieldAddr T_erratalaw35_Op x3 2) fun t23 =>
    readK Tryd.prog (sLoad T_int t23) w1 fun t24 =>
    upK Tryd.prog (sCall F_errataref35_Marks_Note #[m0, t22, t24]) w1 fun t25 w4 =>
    K t25 w4))
theorem erratalaw35_tell.pt_eq : erratalaw35_tell.pt = fun m0 x1 w K => FN Tryd.prog Tryd.f14 (bodyOf Tryd.f14) [4] .leaf [m0, x1] w K := by kernel_rfl
theorem erratalaw35_tell.call {m0 x1 : Value} {w : World} {K : Value → World → Prop} (h : erratalaw35_tell.pt m0 x1 w K) : Calls Tryd.prog F_erratalaw35_tell #[m0, x1] w (retK K) :=
  calls_FN (args := [m0, x1]) Tryd.func14 (by kernel_rfl) (by rw [erratalaw35_tell.pt_eq] at h; exact h)
theorem erratalaw35_tell.up {m0 x1 : Value} {w : World} {K : Value → World → Prop} (h : Calls Tryd.prog F_erratalaw35_tell #[m0, x1] w (retK K)) : upK Tryd.prog (sCall F_erratalaw35_tell #[m0, x1]) w K :=
  up_call (fn := Tryd.f14) Tryd.func14 (by kernel_rfl) (by kernel_rfl) h

/-- (*errata/errataref35.Marks).Bytes -/
def errataref35_Marks_Bytes.pt (m0 : Value) (w : World) (K : Value → World → Prop) : Prop :=
  pureK Tryd.prog (sNil m0) fun t6 =>
  pureK Tryd.prog (sFieldAddr T_errataref35_Marks t6 2) fun t7 =>
  readK Tryd.prog (sLoad T_int t7) (tick w) fun t8 =>
  pureK Tryd.prog (sNil m0) fun t11 =>
  pureK Tryd.prog (sFieldAddr T_errataref35_Marks t11 0) fun t12 =>
  readK Tryd.prog (sLoad T_s_int t12) (tick w) fun t13 =>
  readK Tryd.prog (sBlt .len #[T_s_int] T_int #[false] #[t13]) (tick w) fun t14 =>
  upK Tryd.prog (sCall F_errataref01_Int #[t8]) (tick w) fun t9 w1 =>
  Is Tryd.prog (sBlt .len #[T_s_int] T_int #[false] #[t13]) t14 w1 ∧ Is Tryd.prog (sLoad T_s_int t12) t13 w1 ∧ upK Tryd.prog (sCall F_errataref01_Num #[t14]) w1 fun t15 w2 =>
  pureK Tryd.prog (sBin .add T_string (.tmp 9) (.tmp 15) t9 t15) fun t16 =>
  LOOP (X := Value × Value × Unit) (fun lv3 w3 next3 =>
   pureK Tryd.prog (sNil m0) fun t19 =>
   pureK Tryd.prog (sFieldAddr T_errataref35_Marks t19 0) fun t20 =>
   readK Tryd.prog (sLoad T_s_int t20) w3 fun t21 =>
   readK Tryd.prog (sBlt .len #[T_s_int] T_int #[false] #[t21]) w3 fun t22 =>
   pureK Tryd.prog (sBin .lss T_int (.tmp 17) (.tmp 22) lv3.2.1 t22) fun t23 =>
   ifB t23
   (LETJ (X := Value × Unit) (fun jv1 w4 =>
     pureK Tryd.prog (sBin .add T_int (.tmp 24) (.const (.int .i64 1)) lv3.2.1 (.int .i64 1)) fun t25 =>
     next3 (jv1.1, t25, ()) w4)
    (fun J1 =>
     pureK Tryd.prog (sNil m0) fun t28 =>
     pureK Tryd.prog (sFieldAddr T_errataref35_Marks t28 0) fun t29 =>
     readK Tryd.prog (sLoad T_s_int t29) w3 fun t30 =>
     pureK Tryd.prog (sIdxAddr T_s_int t30 lv3.2.1) fun t32 =>
     readK Tryd.prog (sLoad T_int t32) w3 fun t33 =>
     upK Tryd.prog (sCall F_errataref01_Int #[t33]) w3 fun t34 w5 =>
     pureK Tryd.prog (sBin .add T_string (.tmp 26) (.tmp 34) lv3.1 t34) fun t35 =>
     pureK Tryd.prog (sNil m0) fun t37 =>
     pureK Tryd.prog (sFieldAddr T_errataref35_Marks t37 1) fun t38 =>
     readK Tryd.prog (sLoad T_s_bool t38) w5 fun t39 =>
     pureK Tryd.prog (sIdxAddr T_s_bool t39 lv3.2.1) fun t41 =>
     readK Tryd.prog (sLoad T_bool t41) w5 fun t42 =>
     ifB t42
     (upK Tryd.prog (sCall F_errataref01_Int #[(.int .i64 1)]) w5 fun t44 w6 =>
      pureK Tryd.prog (sBin .add T_string (.tmp 43) (.tmp 44) t35 t44) fun t45 =>
      J1 (t45, ()) w6)
     (upK Tryd.prog (sCall F_errataref01_Int #[(.int .i64 0)]) w5 fun t47 w7 =>
      pureK Tryd.prog (sBin .add T_string (.tmp 46) (.tmp 47) t35 t47) fun t48 =>
      J1 (t48, ()) w7)))
   (K lv3.1 w3))
  (t16, (.int .i64 0), ()) w2
theorem errataref35_Marks_Bytes.pt_eq : errataref35_Marks_Bytes.pt = fun m0 w K => FN Tryd.prog Tryd.f15 (bodyOf Tryd.f15) [2] (.node none .leaf (.node none .leaf (.node none (.node none .leaf (.node none (.node none (.node none .leaf (.node (some [3]) .leaf .leaf)) .leaf) .leaf)) .leaf))) [m0] w K := by kernel_rfl
theorem errataref35_Marks_Bytes.call {m0 : Value} {w : World} {K : Value → World → Prop} (h : errataref35_Marks_Bytes.pt m0 w K) : Calls Tryd.prog F_errataref35_Marks_Bytes #[m0] w (retK K) :=
  calls_FN (args := [m0]) Tryd.func15 (by kernel_rfl) (by rw [errataref35_Marks_Bytes.pt_eq] at h; exact h)
theorem errataref35_Marks_Bytes.up {m0 : Value} {w : World} {K : Value → World → Prop} (h : Calls Tryd.prog F_errataref35_Marks_Bytes #[m0] w (retK K)) : upK Tryd.prog (sCall F_errataref35_Marks_Bytes #[m0]) w K :=
  up_call (fn := Tryd.f15) Tryd.func15 (by kernel_rfl) (by kernel_rfl) h

/-- (*errata/marks.Marks).Of -/
def marks_Marks_Of.pt (m0 i1 : Value) (w : World) (K : Value → World → Prop) : Prop :=
  upK Tryd.prog (sCall F_marks_Marks_has #[m0, i1]) w fun t8 w1 =>
  pureK Tryd.prog (sUn .not t8) fun t9 =>
  ifB t9
  (K (.tuple #[(.int .i64 (-1)), (.bool false)]) w1)
  (pureK Tryd.prog (sNil m0) fun t11 =>
   pureK Tryd.prog (sFieldAddr T_marks_Marks t11 0) fun t12 =>
   readK Tryd.prog (sLoad T_s_marks_input t12) (tick w1) fun t13 =>
   pureK Tryd.prog (sIdxAddr T_s_marks_input t13 i1) fun t15 =>
   pureK Tryd.prog (sFieldAddr T_marks_input t15 0) fun t16 =>
   readK Tryd.prog (sLoad T_int t16) (tick w1) fun t17 =>
   pureK Tryd.prog (sNil m0) fun t19 =>
   pureK Tryd.prog (sFieldAddr T_marks_Marks t19 0) fun t20 =>
   readK Tryd.prog (sLoad T_s_marks_input t20) (tick w1) fun t21 =>
   pureK Tryd.prog (sIdxAddr T_s_marks_input t21 i1) fun t23 =>
   pureK Tryd.prog (sFieldAddr T_marks_input t23 1) fun t24 =>
   readK Tryd.prog (sLoad T_bool t24) (tick w1) fun t25 =>
   K (.tuple #[t17, t25]) (tick w1))
theorem marks_Marks_Of.pt_eq : marks_Marks_Of.pt = fun m0 i1 w K => FN Tryd.prog Tryd.f16 (bodyOf Tryd.f16) [4, 5] .leaf [m0, i1] w K := by kernel_rfl
theorem marks_Marks_Of.call {m0 i1 : Value} {w : World} {K : Value → World → Prop} (h : marks_Marks_Of.pt m0 i1 w K) : Calls Tryd.prog F_marks_Marks_Of #[m0, i1] w (retK K) :=
  calls_FN (args := [m0, i1]) Tryd.func16 (by kernel_rfl) (by rw [marks_Marks_Of.pt_eq] at h; exact h)
theorem marks_Marks_Of.up {m0 i1 : Value} {w : World} {K : Value → World → Prop} (h : Calls Tryd.prog F_marks_Marks_Of #[m0, i1] w (retK K)) : upK Tryd.prog (sCall F_marks_Marks_Of #[m0, i1]) w K :=
  up_call (fn := Tryd.f16) Tryd.func16 (by kernel_rfl) (by kernel_rfl) h

/-- (*errata/marks.Marks).Count -/
def marks_Marks_Count.pt (m0 : Value) (w : World) (K : Value → World → Prop) : Prop :=
  pureK Tryd.prog (sNil m0) fun t4 =>
  pureK Tryd.prog (sFieldAddr T_marks_Marks t4 0) fun t5 =>
  readK Tryd.prog (sLoad T_s_marks_input t5) w fun t6 =>
  readK Tryd.prog (sBlt .len #[T_s_marks_input] T_int #[false] #[t6]) w fun t7 =>
  K t7 w
theorem marks_Marks_Count.pt_eq : marks_Marks_Count.pt = fun m0 w K => FN Tryd.prog Tryd.f17 (bodyOf Tryd.f17) [2] .leaf [m0] w K := by kernel_rfl
theorem marks_Marks_Count.call {m0 : Value} {w : World} {K : Value → World → Prop} (h : marks_Marks_Count.pt m0 w K) : Calls Tryd.prog F_marks_Marks_Count #[m0] w (retK K) :=
  calls_FN (args := [m0]) Tryd.func17 (by kernel_rfl) (by rw [marks_Marks_Count.pt_eq] at h; exact h)
theorem marks_Marks_Count.up {m0 : Value} {w : World} {K : Value → World → Prop} (h : Calls Tryd.prog F_marks_Marks_Count #[m0] w (retK K)) : upK Tryd.prog (sCall F_marks_Marks_Count #[m0]) w K :=
  up_call (fn := Tryd.f17) Tryd.func17 (by kernel_rfl) (by kernel_rfl) h

/-- errata/errataref35.Read -/
def errataref35_Read.pt (s0 : Value) (w : World) (K : Value → World → Prop) : Prop :=
  upK Tryd.prog (sCall F_errataref01_Open #[s0]) w fun t12 w1 =>
  upK Tryd.prog (sCall F_errataref01_Reader_Int #[t12]) w1 fun t14 w2 =>
  pureK Tryd.prog (sBuild T_errataref35_Marks #[(2, t14)]) fun t15 =>
  upK Tryd.prog (sBox T_errataref35_Marks t15) w2 fun t16 w3 =>
  upK Tryd.prog (sCall F_errataref01_Reader_Num #[t12]) w3 fun t18 w4 =>
  LETJ (X := Value × Unit) (fun jv1 w5 =>
   LOOP (X := Value × Value × Unit) (fun lv6 w6 next6 =>
    LETJ (X := Value × Unit) (fun jv2 w7 =>
     ifB jv2.1
     (upK Tryd.prog (sCall F_errataref01_Reader_Int #[t12]) w7 fun t45 w8 =>
      upK Tryd.prog (sCall F_errataref01_Reader_Int #[t12]) w8 fun t47 w9 =>
      LETJ (X := Value × Unit) (fun jv3 w10 =>
       pureK Tryd.prog (sNil t16) fun t67 =>
       pureK Tryd.prog (sFieldAddr T_errataref35_Marks t67 0) fun t68 =>
       readK Tryd.prog (sLoad T_s_int t68) w10 fun t69 =>
       upK Tryd.prog (sBuildSlice T_s_int 1 #[(0, t45)]) w10 fun t71 w11 =>
       upK Tryd.prog (sBlt .append #[T_s_int, T_s_int] T_s_int #[false, false] #[t69, t71]) w11 fun t72 w12 =>
       pureK Tryd.prog (sNil t16) fun t73 =>
       pureK Tryd.prog (sFieldAddr T_errataref35_Marks t73 0) fun t74 =>
       upK Tryd.prog (sStore T_s_int t74 t72) w12 fun tu w13 =>
       pureK Tryd.prog (sNil t16) fun t77 =>
       pureK Tryd.prog (sFieldAddr T_errataref35_Marks t77 1) fun t78 =>
       readK Tryd.prog (sLoad T_s_bool t78) w13 fun t79 =>
       pureK Tryd.prog (sBin .eql T_int (.tmp 80) (.const (.int .i64 1)) t47 (.int .i64 1)) fun t81 =>
       upK Tryd.prog (sBuildSlice T_s_bool 1 #[(0, t81)]) w13 fun t82 w14 =>
       upK Tryd.prog (sBlt .append #[T_s_bool, T_s_bool] T_s_bool #[false, false] #[t79, t82]) w14 fun t83 w15 =>
       pureK Tryd.prog (sNil t16) fun t84 =>
       pureK Tryd.prog (sFieldAddr T_errataref35_Marks t84 1) fun t85 =>
       upK Tryd.prog (sStore T_s_bool t85 t83) w15 fun tu_1 w16 =>
       pureK Tryd.prog (sBin .add T_int (.tmp 42) (.const (.int .i64 1)) lv6.2.1 (.int .i64 1)) fun t43 =>
       next6 (jv3.1, t43, ()) w16)
      (fun J3 =>
       ifB lv6.1
       (pureK Tryd.prog (sBin .geq T_int (.tmp 50) (.const (.int .i64 (-1))) t45 (.int .i64 (-1))) fun t51 =>
        ifB t51
        (pureK Tryd.prog (sBin .leq T_int (.tmp 54) (.const (.int .i64 1099511627776)) t45 (.int .i64 1099511627776)) fun t55 =>
         ifB t55
         (pureK Tryd.prog (sBin .eql T_int (.tmp 58) (.const (.int .i64 0)) t47 (.int .i64 0)) fun t59 =>
          ifB t59
          (J3 ((.bool true), ()) w9)
          (pureK Tryd.prog (sBin .eql T_int (.tmp 61) (.const (.int .i64 1)) t47 (.int .i64 1)) fun t62 =>
           J3 (t62, ()) w9))
         (J3 ((.bool false), ()) w9))
        (J3 ((.bool false), ()) w9))
       (J3 ((.bool false), ()) w9)))
     (LETJ (X := Value × Unit) (fun jv4 w17 =>
       ifB jv4.1
       (K (.tuple #[(.pointer none), (.bool false)]) w17)
       (K (.tuple #[t16, (.bool true)]) w17))
      (fun J4 =>
       pureK Tryd.prog (sUn .not lv6.1) fun t87 =>
       ifB t87
       (J4 ((.bool true), ()) (tick w7))
       (upK Tryd.prog (sCall F_errataref01_Reader_Done #[t12]) (tick w7) fun t90 w18 =>
        pureK Tryd.prog (sUn .not t90) fun t91 =>
        ifB t91
        (J4 ((.bool true), ()) w18)
        (pureK Tryd.prog (sNil t16) fun t97 =>
         pureK Tryd.prog (sFieldAddr T_errataref35_Marks t97 2) fun t98 =>
         readK Tryd.prog (sLoad T_int t98) w18 fun t99 =>
         upK Tryd.prog (sCall F_errataref35_Marks_settled #[t16]) w18 fun t95 w19 =>
         Is Tryd.prog (sLoad T_int t98) t99 w19 ∧ pureK Tryd.prog (sBin .neq T_int (.tmp 95) (.tmp 99) t95 t99) fun t100 =>
         J4 (t100, ()) w19)))))
    (fun J2 =>
     pureK Tryd.prog (sBin .lss T_int (.tmp 35) (.tmp 36) lv6.2.1 t18) fun t37 =>
     ifB t37
     (pureK Tryd.prog (sBin .lss T_int (.tmp 39) (.const (.int .i64 200)) lv6.2.1 (.int .i64 200)) fun t40 =>
      J2 (t40, ()) w6)
     (J2 ((.bool false), ()) w6)))
   (jv1.1, (.int .i64 0), ()) w5)
  (fun J1 =>
   pureK Tryd.prog (sBin .leq T_int (.tmp 19) (.const (.int .i64 200)) t18 (.int .i64 200)) fun t20 =>
   ifB t20
   (pureK Tryd.prog (sNil t16) fun t23 =>
    pureK Tryd.prog (sFieldAddr T_errataref35_Marks t23 2) fun t24 =>
    readK Tryd.prog (sLoad T_int t24) w4 fun t25 =>
    pureK Tryd.prog (sBin .geq T_int (.tmp 25) (.const (.int .i64 (-1))) t25 (.int .i64 (-1))) fun t26 =>
    ifB t26
    (pureK Tryd.prog (sNil t16) fun t30 =>
     pureK Tryd.prog (sFieldAddr T_errataref35_Marks t30 2) fun t31 =>
     readK Tryd.prog (sLoad T_int t31) w4 fun t32 =>
     pureK Tryd.prog (sBin .leq T_int (.tmp 32) (.const (.int .i64 1099511627776)) t32 (.int .i64 1099511627776)) fun t33 =>
     J1 (t33, ()) w4)
    (J1 ((.bool false), ()) w4))
   (J1 ((.bool false), ()) w4))
theorem errataref35_Read.pt_eq : errataref35_Read.pt = fun s0 w K => FN Tryd.prog Tryd.f18 (bodyOf Tryd.f18) [2, 3] (.node none .leaf (.node none .leaf (.node none .leaf (.node none .leaf (.node (some [7]) .leaf (.node none (.node none .leaf (.node none (.node none (.node none (.node (some [41]) .leaf .leaf) (.node none (.node none (.node none .leaf (.node none .leaf (.node (some [7]) .leaf .leaf))) .leaf) .leaf)) .leaf) .leaf)) (.node none (.node (some [101]) .leaf .leaf) .leaf))))))) [s0] w K := by kernel_rfl
theorem errataref35_Read.call {s0 : Value} {w : World} {K : Value → World → Prop} (h : errataref35_Read.pt s0 w K) : Calls Tryd.prog F_errataref35_Read #[s0] w (retK K) :=
  calls_FN (args := [s0]) Tryd.func18 (by kernel_rfl) (by rw [errataref35_Read.pt_eq] at h; exact h)
theorem errataref35_Read.up {s0 : Value} {w : World} {K : Value → World → Prop} (h : Calls Tryd.prog F_errataref35_Read #[s0] w (retK K)) : upK Tryd.prog (sCall F_errataref35_Read #[s0]) w K :=
  up_call (fn := Tryd.f18) Tryd.func18 (by kernel_rfl) (by kernel_rfl) h

/-- errata/marks.Cut -/
def marks_Cut.pt (time0 now1 ahead2 : Value) (w : World) (K : Value → World → Prop) : Prop :=
  pureK Tryd.prog (sBin .add T_int (.tmp 8) (.tmp 9) now1 ahead2) fun t10 =>
  LETJ (X := Value × Unit) (fun jv1 w1 =>
   pureK Tryd.prog (sBlt .min #[T_int, T_int] T_int #[false, false] #[time0, jv1.1]) fun t35 =>
   K t35 w1)
  (fun J1 =>
   pureK Tryd.prog (sBin .gtr T_int (.tmp 12) (.const (.int .i64 0)) now1 (.int .i64 0)) fun t13 =>
   ifB t13
   (pureK Tryd.prog (sBin .gtr T_int (.tmp 15) (.const (.int .i64 0)) ahead2 (.int .i64 0)) fun t16 =>
    ifB t16
    (pureK Tryd.prog (sBin .lss T_int (.tmp 19) (.const (.int .i64 0)) t10 (.int .i64 0)) fun t20 =>
     ifB t20
     (J1 ((.int .i64 9223372036854775807), ()) w)
     (pureK Tryd.prog (sBin .lss T_int (.tmp 23) (.const (.int .i64 0)) now1 (.int .i64 0)) fun t24 =>
      ifB t24
      (pureK Tryd.prog (sBin .lss T_int (.tmp 26) (.const (.int .i64 0)) ahead2 (.int .i64 0)) fun t27 =>
       ifB t27
       (pureK Tryd.prog (sBin .geq T_int (.tmp 30) (.const (.int .i64 0)) t10 (.int .i64 0)) fun t31 =>
        ifB t31
        (J1 ((.int .i64 (-9223372036854775808)), ()) w)
        (J1 (t10, ()) w))
       (J1 (t10, ()) w))
      (J1 (t10, ()) w)))
    (pureK Tryd.prog (sBin .lss T_int (.tmp 23) (.const (.int .i64 0)) now1 (.int .i64 0)) fun t24_1 =>
     ifB t24_1
     (pureK Tryd.prog (sBin .lss T_int (.tmp 26) (.const (.int .i64 0)) ahead2 (.int .i64 0)) fun t27_1 =>
      ifB t27_1
      (pureK Tryd.prog (sBin .geq T_int (.tmp 30) (.const (.int .i64 0)) t10 (.int .i64 0)) fun t31_1 =>
       ifB t31_1
       (J1 ((.int .i64 (-9223372036854775808)), ()) w)
       (J1 (t10, ()) w))
      (J1 (t10, ()) w))
     (J1 (t10, ()) w)))
   (pureK Tryd.prog (sBin .lss T_int (.tmp 23) (.const (.int .i64 0)) now1 (.int .i64 0)) fun t24_2 =>
    ifB t24_2
    (pureK Tryd.prog (sBin .lss T_int (.tmp 26) (.const (.int .i64 0)) ahead2 (.int .i64 0)) fun t27_2 =>
     ifB t27_2
     (pureK Tryd.prog (sBin .geq T_int (.tmp 30) (.const (.int .i64 0)) t10 (.int .i64 0)) fun t31_2 =>
      ifB t31_2
      (J1 ((.int .i64 (-9223372036854775808)), ()) w)
      (J1 (t10, ()) w))
     (J1 (t10, ()) w))
    (J1 (t10, ()) w)))
theorem marks_Cut.pt_eq : marks_Cut.pt = fun time0 now1 ahead2 w K => FN Tryd.prog Tryd.f19 (bodyOf Tryd.f19) [6] (.node none .leaf (.node none .leaf (.node (some [7]) .leaf .leaf))) [time0, now1, ahead2] w K := by kernel_rfl
theorem marks_Cut.call {time0 now1 ahead2 : Value} {w : World} {K : Value → World → Prop} (h : marks_Cut.pt time0 now1 ahead2 w K) : Calls Tryd.prog F_marks_Cut #[time0, now1, ahead2] w (retK K) :=
  calls_FN (args := [time0, now1, ahead2]) Tryd.func19 (by kernel_rfl) (by rw [marks_Cut.pt_eq] at h; exact h)
theorem marks_Cut.up {time0 now1 ahead2 : Value} {w : World} {K : Value → World → Prop} (h : Calls Tryd.prog F_marks_Cut #[time0, now1, ahead2] w (retK K)) : upK Tryd.prog (sCall F_marks_Cut #[time0, now1, ahead2]) w K :=
  up_call (fn := Tryd.f19) Tryd.func19 (by kernel_rfl) (by kernel_rfl) h

/-- errata/errataref35.Cut -/
def errataref35_Cut.pt (time0 now1 ahead2 : Value) (w : World) (K : Value → World → Prop) : Prop :=
  LETJ (X := Unit) (fun jv1 w1 =>
   LETJ (X := Unit) (fun jv2 w2 =>
    pureK Tryd.prog (sBin .add T_int (.tmp 29) (.tmp 30) now1 ahead2) fun t31 =>
    pureK Tryd.prog (sBin .lss T_int (.tmp 31) (.tmp 32) t31 time0) fun t33 =>
    ifB t33
    (pureK Tryd.prog (sBin .add T_int (.tmp 34) (.tmp 35) now1 ahead2) fun t36 =>
     K t36 w2)
    (K time0 w2))
   (fun J2 =>
    pureK Tryd.prog (sBin .lss T_int (.tmp 19) (.const (.int .i64 0)) now1 (.int .i64 0)) fun t20 =>
    ifB t20
    (pureK Tryd.prog (sBin .sub T_int (.tmp 23) (.tmp 24) (.int .i64 (-9223372036854775808)) now1) fun t25 =>
     pureK Tryd.prog (sBin .lss T_int (.tmp 22) (.tmp 25) ahead2 t25) fun t26 =>
     ifB t26
     (K (.int .i64 (-9223372036854775808)) w1)
     (J2 (()) w1))
    (J2 (()) w1)))
  (fun J1 =>
   pureK Tryd.prog (sBin .gtr T_int (.tmp 9) (.const (.int .i64 0)) now1 (.int .i64 0)) fun t10 =>
   ifB t10
   (pureK Tryd.prog (sBin .sub T_int (.tmp 13) (.tmp 14) (.int .i64 9223372036854775807) now1) fun t15 =>
    pureK Tryd.prog (sBin .gtr T_int (.tmp 12) (.tmp 15) ahead2 t15) fun t16 =>
    ifB t16
    (K time0 w)
    (J1 (()) w))
   (J1 (()) w))
theorem errataref35_Cut.pt_eq : errataref35_Cut.pt = fun time0 now1 ahead2 w K => FN Tryd.prog Tryd.f20 (bodyOf Tryd.f20) [6] (.node none .leaf (.node none .leaf (.node none .leaf (.node (some []) .leaf (.node (some []) .leaf .leaf))))) [time0, now1, ahead2] w K := by kernel_rfl
theorem errataref35_Cut.call {time0 now1 ahead2 : Value} {w : World} {K : Value → World → Prop} (h : errataref35_Cut.pt time0 now1 ahead2 w K) : Calls Tryd.prog F_errataref35_Cut #[time0, now1, ahead2] w (retK K) :=
  calls_FN (args := [time0, now1, ahead2]) Tryd.func20 (by kernel_rfl) (by rw [errataref35_Cut.pt_eq] at h; exact h)
theorem errataref35_Cut.up {time0 now1 ahead2 : Value} {w : World} {K : Value → World → Prop} (h : Calls Tryd.prog F_errataref35_Cut #[time0, now1, ahead2] w (retK K)) : upK Tryd.prog (sCall F_errataref35_Cut #[time0, now1, ahead2]) w K :=
  up_call (fn := Tryd.f20) Tryd.func20 (by kernel_rfl) (by kernel_rfl) h

/-- (*errata/marks.Marks).Note -/
def marks_Marks_Note.pt (m0 i1 mark2 : Value) (w : World) (K : Value → World → Prop) : Prop :=
  upK Tryd.prog (sCall F_marks_Marks_has #[m0, i1]) w fun t10 w1 =>
  pureK Tryd.prog (sUn .not t10) fun t11 =>
  ifB t11
  (K (.int .i64 4) w1)
  (pureK Tryd.prog (sBin .lss T_int (.tmp 13) (.const (.int .i64 (-1))) mark2 (.int .i64 (-1))) fun t14 =>
   ifB t14
   (K (.int .i64 3) w1)
   (pureK Tryd.prog (sBin .gtr T_int (.tmp 16) (.const (.int .i64 1099511627776)) mark2 (.int .i64 1099511627776)) fun t17 =>
    ifB t17
    (K (.int .i64 3) w1)
    (pureK Tryd.prog (sNil m0) fun t20 =>
     pureK Tryd.prog (sFieldAddr T_marks_Marks t20 0) fun t21 =>
     readK Tryd.prog (sLoad T_s_marks_input t21) (tick w1) fun t22 =>
     pureK Tryd.prog (sNil m0) fun t26 =>
     pureK Tryd.prog (sFieldAddr T_marks_Marks t26 0) fun t27 =>
     readK Tryd.prog (sLoad T_s_marks_input t27) (tick w1) fun t28 =>
     pureK Tryd.prog (sIdxAddr T_s_marks_input t28 i1) fun t30 =>
     pureK Tryd.prog (sFieldAddr T_marks_input t30 0) fun t31 =>
     readK Tryd.prog (sLoad T_int t31) (tick w1) fun t32 =>
     pureK Tryd.prog (sBlt .max #[T_int, T_int] T_int #[false, false] #[mark2, t32]) fun t33 =>
     pureK Tryd.prog (sBuild T_marks_input #[(0, t33)]) fun t34 =>
     pureK Tryd.prog (sIdxAddr T_s_marks_input t22 i1) fun t35 =>
     upK Tryd.prog (sStore T_marks_input t35 t34) (tick w1) fun tu w2 =>
     upK Tryd.prog (sCall F_marks_Marks_settled #[m0]) w2 fun t38 w3 =>
     pureK Tryd.prog (sNil m0) fun t39 =>
     pureK Tryd.prog (sFieldAddr T_marks_Marks t39 1) fun t40 =>
     upK Tryd.prog (sStore T_int t40 t38) w3 fun tu_1 w4 =>
     K (.int .i64 0) w4)))
theorem marks_Marks_Note.pt_eq : marks_Marks_Note.pt = fun m0 i1 mark2 w K => FN Tryd.prog Tryd.f21 (bodyOf Tryd.f21) [6] .leaf [m0, i1, mark2] w K := by kernel_rfl
theorem marks_Marks_Note.call {m0 i1 mark2 : Value} {w : World} {K : Value → World → Prop} (h : marks_Marks_Note.pt m0 i1 mark2 w K) : Calls Tryd.prog F_marks_Marks_Note #[m0, i1, mark2] w (retK K) :=
  calls_FN (args := [m0, i1, mark2]) Tryd.func21 (by kernel_rfl) (by rw [marks_Marks_Note.pt_eq] at h; exact h)
theorem marks_Marks_Note.up {m0 i1 mark2 : Value} {w : World} {K : Value → World → Prop} (h : Calls Tryd.prog F_marks_Marks_Note #[m0, i1, mark2] w (retK K)) : upK Tryd.prog (sCall F_marks_Marks_Note #[m0, i1, mark2]) w K :=
  up_call (fn := Tryd.f21) Tryd.func21 (by kernel_rfl) (by kernel_rfl) h

/-- (*errata/marks.Marks).Idle -/
def marks_Marks_Idle.pt (m0 i1 on2 : Value) (w : World) (K : Value → World → Prop) : Prop :=
  upK Tryd.prog (sCall F_marks_Marks_has #[m0, i1]) w fun t9 w1 =>
  pureK Tryd.prog (sUn .not t9) fun t10 =>
  ifB t10
  (K (.int .i64 4) w1)
  (pureK Tryd.prog (sNil m0) fun t12 =>
   pureK Tryd.prog (sFieldAddr T_marks_Marks t12 0) fun t13 =>
   readK Tryd.prog (sLoad T_s_marks_input t13) w1 fun t14 =>
   pureK Tryd.prog (sIdxAddr T_s_marks_input t14 i1) fun t17 =>
   pureK Tryd.prog (sFieldAddr T_marks_input t17 1) fun t18 =>
   upK Tryd.prog (sStore T_bool t18 on2) w1 fun tu w2 =>
   upK Tryd.prog (sCall F_marks_Marks_settled #[m0]) w2 fun t21 w3 =>
   pureK Tryd.prog (sNil m0) fun t22 =>
   pureK Tryd.prog (sFieldAddr T_marks_Marks t22 1) fun t23 =>
   upK Tryd.prog (sStore T_int t23 t21) w3 fun tu_1 w4 =>
   K (.int .i64 0) w4)
theorem marks_Marks_Idle.pt_eq : marks_Marks_Idle.pt = fun m0 i1 on2 w K => FN Tryd.prog Tryd.f22 (bodyOf Tryd.f22) [6] .leaf [m0, i1, on2] w K := by kernel_rfl
theorem marks_Marks_Idle.call {m0 i1 on2 : Value} {w : World} {K : Value → World → Prop} (h : marks_Marks_Idle.pt m0 i1 on2 w K) : Calls Tryd.prog F_marks_Marks_Idle #[m0, i1, on2] w (retK K) :=
  calls_FN (args := [m0, i1, on2]) Tryd.func22 (by kernel_rfl) (by rw [marks_Marks_Idle.pt_eq] at h; exact h)
theorem marks_Marks_Idle.up {m0 i1 on2 : Value} {w : World} {K : Value → World → Prop} (h : Calls Tryd.prog F_marks_Marks_Idle #[m0, i1, on2] w (retK K)) : upK Tryd.prog (sCall F_marks_Marks_Idle #[m0, i1, on2]) w K :=
  up_call (fn := Tryd.f22) Tryd.func22 (by kernel_rfl) (by kernel_rfl) h

/-- slices.Repeat[[]errata/marks.input,errata/marks.input] -/
def slices_Repeat_s_marks_input_marks_input.pt (x0 count1 : Value) (w : World) (K : Value → World → Prop) : Prop :=
  pureK Tryd.prog (sBin .lss T_int (.tmp 9) (.const (.int .i64 0)) count1 (.int .i64 0)) fun t10 =>
  ifB t10
  (pureK Tryd.prog (sMkIface T_string (.string ⟨#[99, 97, 110, 110, 111, 116, 32, 98, 101, 32, 110, 101, 103, 97, 116, 105, 118, 101]⟩)) fun t11 =>
   False)
  (readK Tryd.prog (sBlt .len #[T_s_marks_input] T_int #[false] #[x0]) w fun t14 =>
   upK Tryd.prog (sConv T_int T_uint t14) w fun t15 w1 =>
   upK Tryd.prog (sConv T_int T_uint count1) w1 fun t17 w2 =>
   upK Tryd.prog (sCall F_math_bits_Mul #[t15, t17]) w2 fun t18 w3 =>
   pureK Tryd.prog (sExtract t18 0) fun t19 =>
   pureK Tryd.prog (sExtract t18 1) fun t20 =>
   pureK Tryd.prog (sBin .gtr T_uint (.tmp 21) (.const (.int .u64 0)) t19 (.int .u64 0)) fun t22 =>
   ifB t22
   (pureK Tryd.prog (sMkIface T_string (.string ⟨#[116, 104, 101, 32, 114, 101, 115, 117, 108, 116, 32, 111, 102, 32, 40, 108, 101, 110, 40, 120, 41, 32, 42, 32, 99, 111, 117, 110, 116, 41, 32, 111, 118, 101, 114, 102, 108, 111, 119, 115]⟩)) fun t27 =>
    False)
   (pureK Tryd.prog (sBin .gtr T_uint (.tmp 24) (.const (.int .u64 9223372036854775807)) t20 (.int .u64 9223372036854775807)) fun t25 =>
    ifB t25
    (pureK Tryd.prog (sMkIface T_string (.string ⟨#[116, 104, 101, 32, 114, 101, 115, 117, 108, 116, 32, 111, 102, 32, 40, 108, 101, 110, 40, 120, 41, 32, 42, 32, 99, 111, 117, 110, 116, 41, 32, 111, 118, 101, 114, 102, 108, 111, 119, 115]⟩)) fun t27_1 =>
     False)
    (upK Tryd.prog (sConv T_uint T_int t20) w3 fun t29 w4 =>
     upK Tryd.prog (sMkSlice T_s_marks_input t29 t29) w4 fun t30 w5 =>
     upK Tryd.prog (sBlt .copy #[T_s_marks_input, T_s_marks_input] T_int #[false, false] #[t30, x0]) w5 fun t33 w6 =>
     LETJ (X := Unit) (fun jv1 w7 =>
      K t30 w7)
     (fun J1 =>
      LOOP (X := Value × Unit) (fun lv8 w8 next8 =>
       readK Tryd.prog (sBlt .len #[T_s_marks_input] T_int #[false] #[t30]) w8 fun t36 =>
       pureK Tryd.prog (sBin .lss T_int (.tmp 34) (.tmp 36) lv8.1 t36) fun t37 =>
       ifB t37
       (pureK Tryd.prog (sSlice T_s_marks_input t30 (some lv8.1) none none) fun t41 =>
        pureK Tryd.prog (sSlice T_s_marks_input t30 none (some lv8.1) none) fun t44 =>
        upK Tryd.prog (sBlt .copy #[T_s_marks_input, T_s_marks_input] T_int #[false, false] #[t41, t44]) (tick w8) fun t45 w9 =>
        pureK Tryd.prog (sBin .add T_int (.tmp 38) (.tmp 45) lv8.1 t45) fun t46 =>
        next8 (t46, ()) w9)
       (J1 (()) w8))
      (t33, ()) w6))))
theorem slices_Repeat_s_marks_input_marks_input.pt_eq : slices_Repeat_s_marks_input_marks_input.pt = fun x0 count1 w K => FN Tryd.prog Tryd.f23 (bodyOf Tryd.f23) [4] (.node none .leaf (.node none .leaf (.node none .leaf (.node none .leaf (.node none .leaf (.node none .leaf (.node (some []) .leaf .leaf))))))) [x0, count1] w K := by kernel_rfl
theorem slices_Repeat_s_marks_input_marks_input.call {x0 count1 : Value} {w : World} {K : Value → World → Prop} (h : slices_Repeat_s_marks_input_marks_input.pt x0 count1 w K) : Calls Tryd.prog F_slices_Repeat_s_marks_input_marks_input #[x0, count1] w (retK K) :=
  calls_FN (args := [x0, count1]) Tryd.func23 (by kernel_rfl) (by rw [slices_Repeat_s_marks_input_marks_input.pt_eq] at h; exact h)
theorem slices_Repeat_s_marks_input_marks_input.up {x0 count1 : Value} {w : World} {K : Value → World → Prop} (h : Calls Tryd.prog F_slices_Repeat_s_marks_input_marks_input #[x0, count1] w (retK K)) : upK Tryd.prog (sCall F_slices_Repeat_s_marks_input_marks_input #[x0, count1]) w K :=
  up_call (fn := Tryd.f23) Tryd.func23 (by kernel_rfl) (by kernel_rfl) h

/-- errata/wire.Open -/
def wire_Open.pt (s0 : Value) (w : World) (K : Value → World → Prop) : Prop :=
  pureK Tryd.prog (sBuild T_wire_Reader #[(0, s0)]) fun t4 =>
  upK Tryd.prog (sBox T_wire_Reader t4) w fun t5 w1 =>
  K t5 w1
theorem wire_Open.pt_eq : wire_Open.pt = fun s0 w K => FN Tryd.prog Tryd.f24 (bodyOf Tryd.f24) [2] .leaf [s0] w K := by kernel_rfl
theorem wire_Open.call {s0 : Value} {w : World} {K : Value → World → Prop} (h : wire_Open.pt s0 w K) : Calls Tryd.prog F_wire_Open #[s0] w (retK K) :=
  calls_FN (args := [s0]) Tryd.func24 (by kernel_rfl) (by rw [wire_Open.pt_eq] at h; exact h)
theorem wire_Open.up {s0 : Value} {w : World} {K : Value → World → Prop} (h : Calls Tryd.prog F_wire_Open #[s0] w (retK K)) : upK Tryd.prog (sCall F_wire_Open #[s0]) w K :=
  up_call (fn := Tryd.f24) Tryd.func24 (by kernel_rfl) (by kernel_rfl) h

/-- (*errata/wire.Reader).Int -/
def wire_Reader_Int.pt (r0 : Value) (w : World) (K : Value → World → Prop) : Prop :=
  upK Tryd.prog (sCall F_wire_Reader_number #[r0, (.int .u8 59), (.int .i64 (-9223372036854775808))]) w fun t4 w1 =>
  K t4 w1
theorem wire_Reader_Int.pt_eq : wire_Reader_Int.pt = fun r0 w K => FN Tryd.prog Tryd.f25 (bodyOf Tryd.f25) [2] .leaf [r0] w K := by kernel_rfl
theorem wire_Reader_Int.call {r0 : Value} {w : World} {K : Value → World → Prop} (h : wire_Reader_Int.pt r0 w K) : Calls Tryd.prog F_wire_Reader_Int #[r0] w (retK K) :=
  calls_FN (args := [r0]) Tryd.func25 (by kernel_rfl) (by rw [wire_Reader_Int.pt_eq] at h; exact h)
theorem wire_Reader_Int.up {r0 : Value} {w : World} {K : Value → World → Prop} (h : Calls Tryd.prog F_wire_Reader_Int #[r0] w (retK K)) : upK Tryd.prog (sCall F_wire_Reader_Int #[r0]) w K :=
  up_call (fn := Tryd.f25) Tryd.func25 (by kernel_rfl) (by kernel_rfl) h

/-- (*errata/wire.Reader).Num -/
def wire_Reader_Num.pt (r0 : Value) (w : World) (K : Value → World → Prop) : Prop :=
  upK Tryd.prog (sCall F_wire_Reader_number #[r0, (.int .u8 59), (.int .i64 0)]) w fun t4 w1 =>
  K t4 w1
theorem wire_Reader_Num.pt_eq : wire_Reader_Num.pt = fun r0 w K => FN Tryd.prog Tryd.f26 (bodyOf Tryd.f26) [2] .leaf [r0] w K := by kernel_rfl
theorem wire_Reader_Num.call {r0 : Value} {w : World} {K : Value → World → Prop} (h : wire_Reader_Num.pt r0 w K) : Calls Tryd.prog F_wire_Reader_Num #[r0] w (retK K) :=
  calls_FN (args := [r0]) Tryd.func26 (by kernel_rfl) (by rw [wire_Reader_Num.pt_eq] at h; exact h)
theorem wire_Reader_Num.up {r0 : Value} {w : World} {K : Value → World → Prop} (h : Calls Tryd.prog F_wire_Reader_Num #[r0] w (retK K)) : upK Tryd.prog (sCall F_wire_Reader_Num #[r0]) w K :=
  up_call (fn := Tryd.f26) Tryd.func26 (by kernel_rfl) (by kernel_rfl) h

/-- (*errata/wire.Reader).Done -/
def wire_Reader_Done.pt (r0 : Value) (w : World) (K : Value → World → Prop) : Prop :=
  pureK Tryd.prog (sNil r0) fun t4 =>
  pureK Tryd.prog (sFieldAddr T_wire_Reader t4 1) fun t5 =>
  readK Tryd.prog (sLoad T_bool t5) w fun t6 =>
  pureK Tryd.prog (sUn .not t6) fun t7 =>
  ifB t7
  (pureK Tryd.prog (sNil r0) fun t10 =>
   pureK Tryd.prog (sFieldAddr T_wire_Reader t10 0) fun t11 =>
   readK Tryd.prog (sLoad T_string t11) w fun t12 =>
   pureK Tryd.prog (sBin .eql T_string (.tmp 12) (.const (.string ⟨#[]⟩)) t12 (.string ⟨#[]⟩)) fun t13 =>
   K t13 w)
  (K (.bool false) w)
theorem wire_Reader_Done.pt_eq : wire_Reader_Done.pt = fun r0 w K => FN Tryd.prog Tryd.f27 (bodyOf Tryd.f27) [2] .leaf [r0] w K := by kernel_rfl
theorem wire_Reader_Done.call {r0 : Value} {w : World} {K : Value → World → Prop} (h : wire_Reader_Done.pt r0 w K) : Calls Tryd.prog F_wire_Reader_Done #[r0] w (retK K) :=
  calls_FN (args := [r0]) Tryd.func27 (by kernel_rfl) (by rw [wire_Reader_Done.pt_eq] at h; exact h)
theorem wire_Reader_Done.up {r0 : Value} {w : World} {K : Value → World → Prop} (h : Calls Tryd.prog F_wire_Reader_Done #[r0] w (retK K)) : upK Tryd.prog (sCall F_wire_Reader_Done #[r0]) w K :=
  up_call (fn := Tryd.f27) Tryd.func27 (by kernel_rfl) (by kernel_rfl) h

/-- (*errata/marks.Marks).settled -/
def marks_Marks_settled.pt (m0 : Value) (w : World) (K : Value → World → Prop) : Prop :=
  pureK Tryd.prog (sNil m0) fun t9 =>
  pureK Tryd.prog (sFieldAddr T_marks_Marks t9 0) fun t10 =>
  readK Tryd.prog (sLoad T_s_marks_input t10) w fun t11 =>
  readK Tryd.prog (sBlt .len #[T_s_marks_input] T_int #[false] #[t11]) w fun t12 =>
  LOOP (X := Value × Value × Unit) (fun lv1 w1 next1 =>
   pureK Tryd.prog (sBin .lss T_int (.tmp 13) (.tmp 12) lv1.2.1 t12) fun t14 =>
   ifB t14
   (LETJ (X := Value × Unit) (fun jv1 w2 =>
     pureK Tryd.prog (sBin .add T_int (.tmp 13) (.const (.int .i64 1)) lv1.2.1 (.int .i64 1)) fun t25 =>
     next1 (jv1.1, t25, ()) w2)
    (fun J1 =>
     pureK Tryd.prog (sIdxAddr T_s_marks_input t11 lv1.2.1) fun t15 =>
     readK Tryd.prog (sLoad T_marks_input t15) w1 fun t16 =>
     upK Tryd.prog (sAlloc T_marks_input) w1 fun x5 w3 =>
     upK Tryd.prog (sStore T_marks_input x5 t16) w3 fun tu w4 =>
     pureK Tryd.prog (sFieldAddr T_marks_input x5 1) fun t17 =>
     readK Tryd.prog (sLoad T_bool t17) w4 fun t18 =>
     pureK Tryd.prog (sUn .not t18) fun t19 =>
     ifB t19
     (pureK Tryd.prog (sFieldAddr T_marks_input x5 0) fun t21 =>
      readK Tryd.prog (sLoad T_int t21) w4 fun t22 =>
      upK Tryd.prog (sBuildSlice T_s_int 1 #[(0, t22)]) w4 fun t23 w5 =>
      upK Tryd.prog (sBlt .append #[T_s_int, T_s_int] T_s_int #[false, false] #[lv1.1, t23]) w5 fun t24 w6 =>
      J1 (t24, ()) w6)
     (J1 (lv1.1, ()) w4)))
   (upK Tryd.prog (sCall F_marks_least_int #[lv1.1]) w1 fun t28 w7 =>
    pureK Tryd.prog (sExtract t28 0) fun t29 =>
    pureK Tryd.prog (sExtract t28 1) fun t30 =>
    pureK Tryd.prog (sUn .not t30) fun t32 =>
    ifB t32
    (pureK Tryd.prog (sNil m0) fun t34 =>
     pureK Tryd.prog (sFieldAddr T_marks_Marks t34 1) fun t35 =>
     readK Tryd.prog (sLoad T_int t35) w7 fun t36 =>
     K t36 w7)
    (pureK Tryd.prog (sNil m0) fun t39 =>
     pureK Tryd.prog (sFieldAddr T_marks_Marks t39 1) fun t40 =>
     readK Tryd.prog (sLoad T_int t40) w7 fun t41 =>
     pureK Tryd.prog (sBlt .max #[T_int, T_int] T_int #[false, false] #[t29, t41]) fun t42 =>
     K t42 w7)))
  ((.slice none 0 0), (.int .i64 0), ()) w
theorem marks_Marks_settled.pt_eq : marks_Marks_settled.pt = fun m0 w K => FN Tryd.prog Tryd.f28 (bodyOf Tryd.f28) [2] (.node none .leaf (.node none .leaf (.node none (.node none .leaf (.node none (.node none (.node none .leaf (.node none .leaf (.node (some [3]) .leaf .leaf))) .leaf) .leaf)) .leaf))) [m0] w K := by kernel_rfl
theorem marks_Marks_settled.call {m0 : Value} {w : World} {K : Value → World → Prop} (h : marks_Marks_settled.pt m0 w K) : Calls Tryd.prog F_marks_Marks_settled #[m0] w (retK K) :=
  calls_FN (args := [m0]) Tryd.func28 (by kernel_rfl) (by rw [marks_Marks_settled.pt_eq] at h; exact h)
theorem marks_Marks_settled.up {m0 : Value} {w : World} {K : Value → World → Prop} (h : Calls Tryd.prog F_marks_Marks_settled #[m0] w (retK K)) : upK Tryd.prog (sCall F_marks_Marks_settled #[m0]) w K :=
  up_call (fn := Tryd.f28) Tryd.func28 (by kernel_rfl) (by kernel_rfl) h

/-- (*strings.Builder).WriteString -/
def strings_Builder_WriteString.pt (b0 s1 : Value) (w : World) (K : Value → World → Prop) : Prop :=
  upK Tryd.prog (sCall F_strings_Builder_copyCheck #[b0]) w fun t7 w1 =>
  pureK Tryd.prog (sNil b0) fun t10 =>
  pureK Tryd.prog (sFieldAddr T_strings_Builder t10 1) fun t11 =>
  readK Tryd.prog (sLoad T_s_uint8 t11) w1 fun t12 =>
  upK Tryd.prog (sBlt .append #[T_s_uint8, T_string] T_s_uint8 #[false, false] #[t12, s1]) w1 fun t14 w2 =>
  pureK Tryd.prog (sNil b0) fun t15 =>
  pureK Tryd.prog (sFieldAddr T_strings_Builder t15 1) fun t16 =>
  upK Tryd.prog (sStore T_s_uint8 t16 t14) w2 fun tu w3 =>
  readK Tryd.prog (sBlt .len #[T_string] T_int #[false] #[s1]) w3 fun t18 =>
  K (.tuple #[t18, .nilIface]) w3
theorem strings_Builder_WriteString.pt_eq : strings_Builder_WriteString.pt = fun b0 s1 w K => FN Tryd.prog Tryd.f29 (bodyOf Tryd.f29) [4, 5] .leaf [b0, s1] w K := by kernel_rfl
theorem strings_Builder_WriteString.call {b0 s1 : Value} {w : World} {K : Value → World → Prop} (h : strings_Builder_WriteString.pt b0 s1 w K) : Calls Tryd.prog F_strings_Builder_WriteString #[b0, s1] w (retK K) :=
  calls_FN (args := [b0, s1]) Tryd.func29 (by kernel_rfl) (by rw [strings_Builder_WriteString.pt_eq] at h; exact h)
theorem strings_Builder_WriteString.up {b0 s1 : Value} {w : World} {K : Value → World → Prop} (h : Calls Tryd.prog F_strings_Builder_WriteString #[b0, s1] w (retK K)) : upK Tryd.prog (sCall F_strings_Builder_WriteString #[b0, s1]) w K :=
  up_call (fn := Tryd.f29) Tryd.func29 (by kernel_rfl) (by kernel_rfl) h

/-- errata/wire.Int -/
def wire_Int.pt (n0 : Value) (w : World) (K : Value → World → Prop) : Prop :=
  upK Tryd.prog (sCall F_strconv_Itoa #[n0]) w fun t4 w1 =>
  pureK Tryd.prog (sBin .add T_string (.tmp 4) (.const (.string ⟨#[59]⟩)) t4 (.string ⟨#[59]⟩)) fun t5 =>
  K t5 w1
theorem wire_Int.pt_eq : wire_Int.pt = fun n0 w K => FN Tryd.prog Tryd.f30 (bodyOf Tryd.f30) [2] .leaf [n0] w K := by kernel_rfl
theorem wire_Int.call {n0 : Value} {w : World} {K : Value → World → Prop} (h : wire_Int.pt n0 w K) : Calls Tryd.prog F_wire_Int #[n0] w (retK K) :=
  calls_FN (args := [n0]) Tryd.func30 (by kernel_rfl) (by rw [wire_Int.pt_eq] at h; exact h)
theorem wire_Int.up {n0 : Value} {w : World} {K : Value → World → Prop} (h : Calls Tryd.prog F_wire_Int #[n0] w (retK K)) : upK Tryd.prog (sCall F_wire_Int #[n0]) w K :=
  up_call (fn := Tryd.f30) Tryd.func30 (by kernel_rfl) (by kernel_rfl) h

/-- errata/wire.Num -/
def wire_Num.pt (n0 : Value) (w : World) (K : Value → World → Prop) : Prop :=
  pureK Tryd.prog (sBin .lss T_int (.tmp 3) (.const (.int .i64 0)) n0 (.int .i64 0)) fun t4 =>
  ifB t4
  (K (.string ⟨#[]⟩) w)
  (upK Tryd.prog (sCall F_wire_Int #[n0]) w fun t6 w1 =>
   K t6 w1)
theorem wire_Num.pt_eq : wire_Num.pt = fun n0 w K => FN Tryd.prog Tryd.f31 (bodyOf Tryd.f31) [2] .leaf [n0] w K := by kernel_rfl
theorem wire_Num.call {n0 : Value} {w : World} {K : Value → World → Prop} (h : wire_Num.pt n0 w K) : Calls Tryd.prog F_wire_Num #[n0] w (retK K) :=
  calls_FN (args := [n0]) Tryd.func31 (by kernel_rfl) (by rw [wire_Num.pt_eq] at h; exact h)
theorem wire_Num.up {n0 : Value} {w : World} {K : Value → World → Prop} (h : Calls Tryd.prog F_wire_Num #[n0] w (retK K)) : upK Tryd.prog (sCall F_wire_Num #[n0]) w K :=
  up_call (fn := Tryd.f31) Tryd.func31 (by kernel_rfl) (by kernel_rfl) h

/-- (*strings.Builder).String -/
theorem strings_Builder_String.up {p0 : Value} {w : World} {K : Value → World → Prop} (h : Calls Tryd.prog F_strings_Builder_String #[p0] w (retK K)) : upK Tryd.prog (sCall F_strings_Builder_String #[p0]) w K :=
  up_call (fn := Tryd.f32) Tryd.func32 (by kernel_rfl) (by kernel_rfl) h

/-- slices.Clone[[]errata/marks.input,errata/marks.input] -/
def slices_Clone_s_marks_input_marks_input.pt (s0 : Value) (w : World) (K : Value → World → Prop) : Prop :=
  pureK Tryd.prog (sBin .eql T_s_marks_input (.tmp 3) (.const (.slice none 0 0)) s0 (.slice none 0 0)) fun t4 =>
  ifB t4
  (K (.slice none 0 0) w)
  (upK Tryd.prog (sBuildSlice T_s_marks_input 0 #[]) w fun t5 w1 =>
   upK Tryd.prog (sBlt .append #[T_s_marks_input, T_s_marks_input] T_s_marks_input #[false, false] #[t5, s0]) w1 fun t7 w2 =>
   K t7 w2)
theorem slices_Clone_s_marks_input_marks_input.pt_eq : slices_Clone_s_marks_input_marks_input.pt = fun s0 w K => FN Tryd.prog Tryd.f33 (bodyOf Tryd.f33) [2] .leaf [s0] w K := by kernel_rfl
theorem slices_Clone_s_marks_input_marks_input.call {s0 : Value} {w : World} {K : Value → World → Prop} (h : slices_Clone_s_marks_input_marks_input.pt s0 w K) : Calls Tryd.prog F_slices_Clone_s_marks_input_marks_input #[s0] w (retK K) :=
  calls_FN (args := [s0]) Tryd.func33 (by kernel_rfl) (by rw [slices_Clone_s_marks_input_marks_input.pt_eq] at h; exact h)
theorem slices_Clone_s_marks_input_marks_input.up {s0 : Value} {w : World} {K : Value → World → Prop} (h : Calls Tryd.prog F_slices_Clone_s_marks_input_marks_input #[s0] w (retK K)) : upK Tryd.prog (sCall F_slices_Clone_s_marks_input_marks_input #[s0]) w K :=
  up_call (fn := Tryd.f33) Tryd.func33 (by kernel_rfl) (by kernel_rfl) h

/-- (*errata/errataref35.Marks).Idle -/
def errataref35_Marks_Idle.pt (m0 i1 on2 : Value) (w : World) (K : Value → World → Prop) : Prop :=
  pureK Tryd.prog (sBin .lss T_int (.tmp 7) (.const (.int .i64 0)) i1 (.int .i64 0)) fun t8 =>
  ifB t8
  (K (.int .i64 4) w)
  (pureK Tryd.prog (sNil m0) fun t12 =>
   pureK Tryd.prog (sFieldAddr T_errataref35_Marks t12 0) fun t13 =>
   readK Tryd.prog (sLoad T_s_int t13) w fun t14 =>
   readK Tryd.prog (sBlt .len #[T_s_int] T_int #[false] #[t14]) w fun t15 =>
   pureK Tryd.prog (sBin .geq T_int (.tmp 10) (.tmp 15) i1 t15) fun t16 =>
   ifB t16
   (K (.int .i64 4) w)
   (pureK Tryd.prog (sNil m0) fun t19 =>
    pureK Tryd.prog (sFieldAddr T_errataref35_Marks t19 1) fun t20 =>
    readK Tryd.prog (sLoad T_s_bool t20) w fun t21 =>
    pureK Tryd.prog (sIdxAddr T_s_bool t21 i1) fun t24 =>
    upK Tryd.prog (sStore T_bool t24 on2) w fun tu w1 =>
    upK Tryd.prog (sCall F_errataref35_Marks_settled #[m0]) w1 fun t27 w2 =>
    pureK Tryd.prog (sNil m0) fun t28 =>
    pureK Tryd.prog (sFieldAddr T_errataref35_Marks t28 2) fun t29 =>
    upK Tryd.prog (sStore T_int t29 t27) w2 fun tu_1 w3 =>
    K (.int .i64 0) w3))
theorem errataref35_Marks_Idle.pt_eq : errataref35_Marks_Idle.pt = fun m0 i1 on2 w K => FN Tryd.prog Tryd.f34 (bodyOf Tryd.f34) [6] .leaf [m0, i1, on2] w K := by kernel_rfl
theorem errataref35_Marks_Idle.call {m0 i1 on2 : Value} {w : World} {K : Value → World → Prop} (h : errataref35_Marks_Idle.pt m0 i1 on2 w K) : Calls Tryd.prog F_errataref35_Marks_Idle #[m0, i1, on2] w (retK K) :=
  calls_FN (args := [m0, i1, on2]) Tryd.func34 (by kernel_rfl) (by rw [errataref35_Marks_Idle.pt_eq] at h; exact h)
theorem errataref35_Marks_Idle.up {m0 i1 on2 : Value} {w : World} {K : Value → World → Prop} (h : Calls Tryd.prog F_errataref35_Marks_Idle #[m0, i1, on2] w (retK K)) : upK Tryd.prog (sCall F_errataref35_Marks_Idle #[m0, i1, on2]) w K :=
  up_call (fn := Tryd.f34) Tryd.func34 (by kernel_rfl) (by kernel_rfl) h

/-- (*errata/errataref35.Marks).Note -/
def errataref35_Marks_Note.pt (m0 i1 mark2 : Value) (w : World) (K : Value → World → Prop) : Prop :=
  pureK Tryd.prog (sBin .lss T_int (.tmp 7) (.const (.int .i64 0)) i1 (.int .i64 0)) fun t8 =>
  ifB t8
  (K (.int .i64 4) w)
  (pureK Tryd.prog (sNil m0) fun t12 =>
   pureK Tryd.prog (sFieldAddr T_errataref35_Marks t12 0) fun t13 =>
   readK Tryd.prog (sLoad T_s_int t13) w fun t14 =>
   readK Tryd.prog (sBlt .len #[T_s_int] T_int #[false] #[t14]) w fun t15 =>
   pureK Tryd.prog (sBin .geq T_int (.tmp 10) (.tmp 15) i1 t15) fun t16 =>
   ifB t16
   (K (.int .i64 4) w)
   (pureK Tryd.prog (sBin .lss T_int (.tmp 18) (.const (.int .i64 (-1))) mark2 (.int .i64 (-1))) fun t19 =>
    ifB t19
    (K (.int .i64 3) w)
    (pureK Tryd.prog (sBin .gtr T_int (.tmp 21) (.const (.int .i64 1099511627776)) mark2 (.int .i64 1099511627776)) fun t22 =>
     ifB t22
     (K (.int .i64 3) w)
     (LETJ (X := Unit) (fun jv1 w1 =>
       pureK Tryd.prog (sNil m0) fun t41 =>
       pureK Tryd.prog (sFieldAddr T_errataref35_Marks t41 1) fun t42 =>
       readK Tryd.prog (sLoad T_s_bool t42) w1 fun t43 =>
       pureK Tryd.prog (sIdxAddr T_s_bool t43 i1) fun t45 =>
       upK Tryd.prog (sStore T_bool t45 (.bool false)) w1 fun tu w2 =>
       upK Tryd.prog (sCall F_errataref35_Marks_settled #[m0]) w2 fun t48 w3 =>
       pureK Tryd.prog (sNil m0) fun t49 =>
       pureK Tryd.prog (sFieldAddr T_errataref35_Marks t49 2) fun t50 =>
       upK Tryd.prog (sStore T_int t50 t48) w3 fun tu_1 w4 =>
       K (.int .i64 0) w4)
      (fun J1 =>
       pureK Tryd.prog (sNil m0) fun t26 =>
       pureK Tryd.prog (sFieldAddr T_errataref35_Marks t26 0) fun t27 =>
       readK Tryd.prog (sLoad T_s_int t27) w fun t28 =>
       pureK Tryd.prog (sIdxAddr T_s_int t28 i1) fun t30 =>
       readK Tryd.prog (sLoad T_int t30) w fun t31 =>
       pureK Tryd.prog (sBin .gtr T_int (.tmp 24) (.tmp 31) mark2 t31) fun t32 =>
       ifB t32
       (pureK Tryd.prog (sNil m0) fun t34 =>
        pureK Tryd.prog (sFieldAddr T_errataref35_Marks t34 0) fun t35 =>
        readK Tryd.prog (sLoad T_s_int t35) w fun t36 =>
        pureK Tryd.prog (sIdxAddr T_s_int t36 i1) fun t39 =>
        upK Tryd.prog (sStore T_int t39 mark2) w fun tu_2 w5 =>
        J1 (()) w5)
       (J1 (()) w))))))
theorem errataref35_Marks_Note.pt_eq : errataref35_Marks_Note.pt = fun m0 i1 mark2 w K => FN Tryd.prog Tryd.f35 (bodyOf Tryd.f35) [6] (.node none .leaf (.node none .leaf (.node none .leaf (.node (some []) .leaf .leaf)))) [m0, i1, mark2] w K := by kernel_rfl
theorem errataref35_Marks_Note.call {m0 i1 mark2 : Value} {w : World} {K : Value → World → Prop} (h : errataref35_Marks_Note.pt m0 i1 mark2 w K) : Calls Tryd.prog F_errataref35_Marks_Note #[m0, i1, mark2] w (retK K) :=
  calls_FN (args := [m0, i1, mark2]) Tryd.func35 (by kernel_rfl) (by rw [errataref35_Marks_Note.pt_eq] at h; exact h)
theorem errataref35_Marks_Note.up {m0 i1 mark2 : Value} {w : World} {K : Value → World → Prop} (h : Calls Tryd.prog F_errataref35_Marks_Note #[m0, i1, mark2] w (retK K)) : upK Tryd.prog (sCall F_errataref35_Marks_Note #[m0, i1, mark2]) w K :=
  up_call (fn := Tryd.f35) Tryd.func35 (by kernel_rfl) (by kernel_rfl) h

/-- errata/errataref01.Int -/
def errataref01_Int.pt (n0 : Value) (w : World) (K : Value → World → Prop) : Prop :=
  pureK Tryd.prog (sBin .lss T_int (.tmp 3) (.const (.int .i64 0)) n0 (.int .i64 0)) fun t4 =>
  ifB t4
  (upK Tryd.prog (sCall F_errataref01_digits #[n0]) w fun t6 w1 =>
   pureK Tryd.prog (sBin .add T_string (.const (.string ⟨#[45]⟩)) (.tmp 6) (.string ⟨#[45]⟩) t6) fun t7 =>
   pureK Tryd.prog (sBin .add T_string (.tmp 7) (.const (.string ⟨#[59]⟩)) t7 (.string ⟨#[59]⟩)) fun t8 =>
   K t8 w1)
  (pureK Tryd.prog (sUn .neg n0) fun t10 =>
   upK Tryd.prog (sCall F_errataref01_digits #[t10]) w fun t11 w2 =>
   pureK Tryd.prog (sBin .add T_string (.tmp 11) (.const (.string ⟨#[59]⟩)) t11 (.string ⟨#[59]⟩)) fun t12 =>
   K t12 w2)
theorem errataref01_Int.pt_eq : errataref01_Int.pt = fun n0 w K => FN Tryd.prog Tryd.f36 (bodyOf Tryd.f36) [2] .leaf [n0] w K := by kernel_rfl
theorem errataref01_Int.call {n0 : Value} {w : World} {K : Value → World → Prop} (h : errataref01_Int.pt n0 w K) : Calls Tryd.prog F_errataref01_Int #[n0] w (retK K) :=
  calls_FN (args := [n0]) Tryd.func36 (by kernel_rfl) (by rw [errataref01_Int.pt_eq] at h; exact h)
theorem errataref01_Int.up {n0 : Value} {w : World} {K : Value → World → Prop} (h : Calls Tryd.prog F_errataref01_Int #[n0] w (retK K)) : upK Tryd.prog (sCall F_errataref01_Int #[n0]) w K :=
  up_call (fn := Tryd.f36) Tryd.func36 (by kernel_rfl) (by kernel_rfl) h

/-- errata/errataref01.Num -/
def errataref01_Num.pt (n0 : Value) (w : World) (K : Value → World → Prop) : Prop :=
  pureK Tryd.prog (sBin .lss T_int (.tmp 3) (.const (.int .i64 0)) n0 (.int .i64 0)) fun t4 =>
  ifB t4
  (K (.string ⟨#[]⟩) w)
  (upK Tryd.prog (sCall F_errataref01_Int #[n0]) w fun t6 w1 =>
   K t6 w1)
theorem errataref01_Num.pt_eq : errataref01_Num.pt = fun n0 w K => FN Tryd.prog Tryd.f37 (bodyOf Tryd.f37) [2] .leaf [n0] w K := by kernel_rfl
theorem errataref01_Num.call {n0 : Value} {w : World} {K : Value → World → Prop} (h : errataref01_Num.pt n0 w K) : Calls Tryd.prog F_errataref01_Num #[n0] w (retK K) :=
  calls_FN (args := [n0]) Tryd.func37 (by kernel_rfl) (by rw [errataref01_Num.pt_eq] at h; exact h)
theorem errataref01_Num.up {n0 : Value} {w : World} {K : Value → World → Prop} (h : Calls Tryd.prog F_errataref01_Num #[n0] w (retK K)) : upK Tryd.prog (sCall F_errataref01_Num #[n0]) w K :=
  up_call (fn := Tryd.f37) Tryd.func37 (by kernel_rfl) (by kernel_rfl) h

/-- (*errata/marks.Marks).has -/
def marks_Marks_has.pt (m0 i1 : Value) (w : World) (K : Value → World → Prop) : Prop :=
  pureK Tryd.prog (sBin .geq T_int (.tmp 5) (.const (.int .i64 0)) i1 (.int .i64 0)) fun t6 =>
  ifB t6
  (pureK Tryd.prog (sNil m0) fun t10 =>
   pureK Tryd.prog (sFieldAddr T_marks_Marks t10 0) fun t11 =>
   readK Tryd.prog (sLoad T_s_marks_input t11) w fun t12 =>
   readK Tryd.prog (sBlt .len #[T_s_marks_input] T_int #[false] #[t12]) w fun t13 =>
   pureK Tryd.prog (sBin .lss T_int (.tmp 8) (.tmp 13) i1 t13) fun t14 =>
   K t14 w)
  (K (.bool false) w)
theorem marks_Marks_has.pt_eq : marks_Marks_has.pt = fun m0 i1 w K => FN Tryd.prog Tryd.f38 (bodyOf Tryd.f38) [4] .leaf [m0, i1] w K := by kernel_rfl
theorem marks_Marks_has.call {m0 i1 : Value} {w : World} {K : Value → World → Prop} (h : marks_Marks_has.pt m0 i1 w K) : Calls Tryd.prog F_marks_Marks_has #[m0, i1] w (retK K) :=
  calls_FN (args := [m0, i1]) Tryd.func38 (by kernel_rfl) (by rw [marks_Marks_has.pt_eq] at h; exact h)
theorem marks_Marks_has.up {m0 i1 : Value} {w : World} {K : Value → World → Prop} (h : Calls Tryd.prog F_marks_Marks_has #[m0, i1] w (retK K)) : upK Tryd.prog (sCall F_marks_Marks_has #[m0, i1]) w K :=
  up_call (fn := Tryd.f38) Tryd.func38 (by kernel_rfl) (by kernel_rfl) h

/-- errata/errataref01.Open -/
def errataref01_Open.pt (s0 : Value) (w : World) (K : Value → World → Prop) : Prop :=
  pureK Tryd.prog (sBuild T_errataref01_Reader #[(0, s0)]) fun t4 =>
  upK Tryd.prog (sBox T_errataref01_Reader t4) w fun t5 w1 =>
  K t5 w1
theorem errataref01_Open.pt_eq : errataref01_Open.pt = fun s0 w K => FN Tryd.prog Tryd.f39 (bodyOf Tryd.f39) [2] .leaf [s0] w K := by kernel_rfl
theorem errataref01_Open.call {s0 : Value} {w : World} {K : Value → World → Prop} (h : errataref01_Open.pt s0 w K) : Calls Tryd.prog F_errataref01_Open #[s0] w (retK K) :=
  calls_FN (args := [s0]) Tryd.func39 (by kernel_rfl) (by rw [errataref01_Open.pt_eq] at h; exact h)
theorem errataref01_Open.up {s0 : Value} {w : World} {K : Value → World → Prop} (h : Calls Tryd.prog F_errataref01_Open #[s0] w (retK K)) : upK Tryd.prog (sCall F_errataref01_Open #[s0]) w K :=
  up_call (fn := Tryd.f39) Tryd.func39 (by kernel_rfl) (by kernel_rfl) h

/-- (*errata/errataref01.Reader).Int -/
def errataref01_Reader_Int.pt (r0 : Value) (w : World) (K : Value → World → Prop) : Prop :=
  upK Tryd.prog (sCall F_errataref01_Reader_ahead #[r0, (.int .u8 59)]) w fun t4 w1 =>
  K t4 w1
theorem errataref01_Reader_Int.pt_eq : errataref01_Reader_Int.pt = fun r0 w K => FN Tryd.prog Tryd.f40 (bodyOf Tryd.f40) [2] .leaf [r0] w K := by kernel_rfl
theorem errataref01_Reader_Int.call {r0 : Value} {w : World} {K : Value → World → Prop} (h : errataref01_Reader_Int.pt r0 w K) : Calls Tryd.prog F_errataref01_Reader_Int #[r0] w (retK K) :=
  calls_FN (args := [r0]) Tryd.func40 (by kernel_rfl) (by rw [errataref01_Reader_Int.pt_eq] at h; exact h)
theorem errataref01_Reader_Int.up {r0 : Value} {w : World} {K : Value → World → Prop} (h : Calls Tryd.prog F_errataref01_Reader_Int #[r0] w (retK K)) : upK Tryd.prog (sCall F_errataref01_Reader_Int #[r0]) w K :=
  up_call (fn := Tryd.f40) Tryd.func40 (by kernel_rfl) (by kernel_rfl) h

/-- (*errata/errataref01.Reader).Num -/
def errataref01_Reader_Num.pt (r0 : Value) (w : World) (K : Value → World → Prop) : Prop :=
  upK Tryd.prog (sCall F_errataref01_Reader_number #[r0, (.int .u8 59)]) w fun t4 w1 =>
  K t4 w1
theorem errataref01_Reader_Num.pt_eq : errataref01_Reader_Num.pt = fun r0 w K => FN Tryd.prog Tryd.f41 (bodyOf Tryd.f41) [2] .leaf [r0] w K := by kernel_rfl
theorem errataref01_Reader_Num.call {r0 : Value} {w : World} {K : Value → World → Prop} (h : errataref01_Reader_Num.pt r0 w K) : Calls Tryd.prog F_errataref01_Reader_Num #[r0] w (retK K) :=
  calls_FN (args := [r0]) Tryd.func41 (by kernel_rfl) (by rw [errataref01_Reader_Num.pt_eq] at h; exact h)
theorem errataref01_Reader_Num.up {r0 : Value} {w : World} {K : Value → World → Prop} (h : Calls Tryd.prog F_errataref01_Reader_Num #[r0] w (retK K)) : upK Tryd.prog (sCall F_errataref01_Reader_Num #[r0]) w K :=
  up_call (fn := Tryd.f41) Tryd.func41 (by kernel_rfl) (by kernel_rfl) h

/-- (*errata/errataref01.Reader).Done -/
def errataref01_Reader_Done.pt (r0 : Value) (w : World) (K : Value → World → Prop) : Prop :=
  pureK Tryd.prog (sNil r0) fun t4 =>
  pureK Tryd.prog (sFieldAddr T_errataref01_Reader t4 1) fun t5 =>
  readK Tryd.prog (sLoad T_bool t5) w fun t6 =>
  pureK Tryd.prog (sUn .not t6) fun t7 =>
  ifB t7
  (pureK Tryd.prog (sNil r0) fun t10 =>
   pureK Tryd.prog (sFieldAddr T_errataref01_Reader t10 0) fun t11 =>
   readK Tryd.prog (sLoad T_string t11) w fun t12 =>
   pureK Tryd.prog (sBin .eql T_string (.tmp 12) (.const (.string ⟨#[]⟩)) t12 (.string ⟨#[]⟩)) fun t13 =>
   K t13 w)
  (K (.bool false) w)
theorem errataref01_Reader_Done.pt_eq : errataref01_Reader_Done.pt = fun r0 w K => FN Tryd.prog Tryd.f42 (bodyOf Tryd.f42) [2] .leaf [r0] w K := by kernel_rfl
theorem errataref01_Reader_Done.call {r0 : Value} {w : World} {K : Value → World → Prop} (h : errataref01_Reader_Done.pt r0 w K) : Calls Tryd.prog F_errataref01_Reader_Done #[r0] w (retK K) :=
  calls_FN (args := [r0]) Tryd.func42 (by kernel_rfl) (by rw [errataref01_Reader_Done.pt_eq] at h; exact h)
theorem errataref01_Reader_Done.up {r0 : Value} {w : World} {K : Value → World → Prop} (h : Calls Tryd.prog F_errataref01_Reader_Done #[r0] w (retK K)) : upK Tryd.prog (sCall F_errataref01_Reader_Done #[r0]) w K :=
  up_call (fn := Tryd.f42) Tryd.func42 (by kernel_rfl) (by kernel_rfl) h

/-- (*errata/errataref35.Marks).settled -/
def errataref35_Marks_settled.pt (m0 : Value) (w : World) (K : Value → World → Prop) : Prop :=
  LOOP (X := Value × Value × Value × Unit) (fun lv1 w1 next1 =>
   pureK Tryd.prog (sNil m0) fun t8 =>
   pureK Tryd.prog (sFieldAddr T_errataref35_Marks t8 0) fun t9 =>
   readK Tryd.prog (sLoad T_s_int t9) w1 fun t10 =>
   readK Tryd.prog (sBlt .len #[T_s_int] T_int #[false] #[t10]) w1 fun t11 =>
   pureK Tryd.prog (sBin .lss T_int (.tmp 6) (.tmp 11) lv1.2.2.1 t11) fun t12 =>
   ifB t12
   (LETJ (X := Value × Value × Unit) (fun jv1 w2 =>
     pureK Tryd.prog (sBin .add T_int (.tmp 13) (.const (.int .i64 1)) lv1.2.2.1 (.int .i64 1)) fun t14 =>
     next1 (jv1.1, jv1.2.1, t14, ()) w2)
    (fun J1 =>
     pureK Tryd.prog (sNil m0) fun t16 =>
     pureK Tryd.prog (sFieldAddr T_errataref35_Marks t16 1) fun t17 =>
     readK Tryd.prog (sLoad T_s_bool t17) w1 fun t18 =>
     pureK Tryd.prog (sIdxAddr T_s_bool t18 lv1.2.2.1) fun t20 =>
     readK Tryd.prog (sLoad T_bool t20) w1 fun t21 =>
     pureK Tryd.prog (sUn .not t21) fun t22 =>
     ifB t22
     (pureK Tryd.prog (sUn .not lv1.2.1) fun t25 =>
      ifB t25
      (pureK Tryd.prog (sNil m0) fun t39 =>
       pureK Tryd.prog (sFieldAddr T_errataref35_Marks t39 0) fun t40 =>
       readK Tryd.prog (sLoad T_s_int t40) w1 fun t41 =>
       pureK Tryd.prog (sIdxAddr T_s_int t41 lv1.2.2.1) fun t43 =>
       readK Tryd.prog (sLoad T_int t43) w1 fun t44 =>
       J1 (t44, (.bool true), ()) w1)
      (pureK Tryd.prog (sNil m0) fun t28 =>
       pureK Tryd.prog (sFieldAddr T_errataref35_Marks t28 0) fun t29 =>
       readK Tryd.prog (sLoad T_s_int t29) w1 fun t30 =>
       pureK Tryd.prog (sIdxAddr T_s_int t30 lv1.2.2.1) fun t32 =>
       readK Tryd.prog (sLoad T_int t32) w1 fun t33 =>
       pureK Tryd.prog (sBin .lss T_int (.tmp 33) (.tmp 34) t33 lv1.1) fun t35 =>
       ifB t35
       (pureK Tryd.prog (sNil m0) fun t39_1 =>
        pureK Tryd.prog (sFieldAddr T_errataref35_Marks t39_1 0) fun t40_1 =>
        readK Tryd.prog (sLoad T_s_int t40_1) w1 fun t41_1 =>
        pureK Tryd.prog (sIdxAddr T_s_int t41_1 lv1.2.2.1) fun t43_1 =>
        readK Tryd.prog (sLoad T_int t43_1) w1 fun t44_1 =>
        J1 (t44_1, (.bool true), ()) w1)
       (J1 (lv1.1, lv1.2.1, ()) w1)))
     (J1 (lv1.1, lv1.2.1, ()) w1)))
   (LETJ (X := Unit) (fun jv2 w3 =>
     pureK Tryd.prog (sNil m0) fun t56 =>
     pureK Tryd.prog (sFieldAddr T_errataref35_Marks t56 2) fun t57 =>
     readK Tryd.prog (sLoad T_int t57) w3 fun t58 =>
     K t58 w3)
    (fun J2 =>
     ifB lv1.2.1
     (pureK Tryd.prog (sNil m0) fun t49 =>
      pureK Tryd.prog (sFieldAddr T_errataref35_Marks t49 2) fun t50 =>
      readK Tryd.prog (sLoad T_int t50) w1 fun t51 =>
      pureK Tryd.prog (sBin .gtr T_int (.tmp 47) (.tmp 51) lv1.1 t51) fun t52 =>
      ifB t52
      (K lv1.1 w1)
      (J2 (()) w1))
     (J2 (()) w1))))
  ((.int .i64 0), (.bool false), (.int .i64 0), ()) w
theorem errataref35_Marks_settled.pt_eq : errataref35_Marks_settled.pt = fun m0 w K => FN Tryd.prog Tryd.f43 (bodyOf Tryd.f43) [2] (.node none .leaf (.node none .leaf (.node none .leaf (.node none (.node none .leaf (.node none (.node none (.node none .leaf (.node (some [4, 3]) .leaf .leaf)) .leaf) .leaf)) (.node (some []) .leaf .leaf))))) [m0] w K := by kernel_rfl
theorem errataref35_Marks_settled.call {m0 : Value} {w : World} {K : Value → World → Prop} (h : errataref35_Marks_settled.pt m0 w K) : Calls Tryd.prog F_errataref35_Marks_settled #[m0] w (retK K) :=
  calls_FN (args := [m0]) Tryd.func43 (by kernel_rfl) (by rw [errataref35_Marks_settled.pt_eq] at h; exact h)
theorem errataref35_Marks_settled.up {m0 : Value} {w : World} {K : Value → World → Prop} (h : Calls Tryd.prog F_errataref35_Marks_settled #[m0] w (retK K)) : upK Tryd.prog (sCall F_errataref35_Marks_settled #[m0]) w K :=
  up_call (fn := Tryd.f43) Tryd.func43 (by kernel_rfl) (by kernel_rfl) h

/-- math/bits.Mul -/
theorem math_bits_Mul.up {p0 p1 : Value} {w : World} {K : Value → World → Prop} (h : Calls Tryd.prog F_math_bits_Mul #[p0, p1] w (retK K)) : upK Tryd.prog (sCall F_math_bits_Mul #[p0, p1]) w K :=
  up_call (fn := Tryd.f44) Tryd.func44 (by kernel_rfl) (by kernel_rfl) h

/-- (*errata/wire.Reader).number -/
def wire_Reader_number.pt (r0 end1 least2 : Value) (w : World) (K : Value → World → Prop) : Prop :=
  pureK Tryd.prog (sNil r0) fun t12 =>
  pureK Tryd.prog (sFieldAddr T_wire_Reader t12 0) fun t13 =>
  readK Tryd.prog (sLoad T_string t13) (tick w) fun t14 =>
  pureK Tryd.prog (sNil r0) fun t16 =>
  pureK Tryd.prog (sFieldAddr T_wire_Reader t16 0) fun t17 =>
  readK Tryd.prog (sLoad T_string t17) (tick w) fun t18 =>
  readK Tryd.prog (sBlt .len #[T_string] T_int #[false] #[t18]) (tick w) fun t19 =>
  pureK Tryd.prog (sBlt .min #[T_int, T_int] T_int #[false, true] #[t19, (.int .i64 21)]) fun t20 =>
  pureK Tryd.prog (sSlice T_string t14 none (some t20) none) fun t21 =>
  upK Tryd.prog (sCall F_strings_IndexByte #[t21, end1]) (tick w) fun t24 w1 =>
  pureK Tryd.prog (sBin .lss T_int (.tmp 25) (.const (.int .i64 0)) t24 (.int .i64 0)) fun t26 =>
  ifB t26
  (upK Tryd.prog (sCall F_wire_Reader_fail #[r0]) w1 fun t28 w2 =>
   K (.int .i64 0) w2)
  (pureK Tryd.prog (sSlice T_string t21 none (some t24) none) fun t32 =>
   upK Tryd.prog (sCall F_strconv_Atoi #[t32]) w1 fun t33 w3 =>
   pureK Tryd.prog (sExtract t33 0) fun t34 =>
   pureK Tryd.prog (sExtract t33 1) fun t35 =>
   pureK Tryd.prog (sBin .neq T_error (.tmp 36) (.const .nilIface) t35 .nilIface) fun t37 =>
   ifB t37
   (upK Tryd.prog (sCall F_wire_Reader_fail #[r0]) (tick w3) fun t52 w4 =>
    K (.int .i64 0) w4)
   (pureK Tryd.prog (sSlice T_string t21 none (some t24) none) fun t43 =>
    upK Tryd.prog (sCall F_strconv_Itoa #[t34]) (tick w3) fun t40 w5 =>
    pureK Tryd.prog (sBin .neq T_string (.tmp 40) (.tmp 43) t40 t43) fun t44 =>
    ifB t44
    (upK Tryd.prog (sCall F_wire_Reader_fail #[r0]) w5 fun t52_1 w6 =>
     K (.int .i64 0) w6)
    (pureK Tryd.prog (sBin .lss T_int (.tmp 47) (.tmp 48) t34 least2) fun t49 =>
     ifB t49
     (upK Tryd.prog (sCall F_wire_Reader_fail #[r0]) w5 fun t52_2 w7 =>
      K (.int .i64 0) w7)
     (pureK Tryd.prog (sNil r0) fun t55 =>
      pureK Tryd.prog (sFieldAddr T_wire_Reader t55 0) fun t56 =>
      readK Tryd.prog (sLoad T_string t56) w5 fun t57 =>
      pureK Tryd.prog (sBin .add T_int (.tmp 58) (.const (.int .i64 1)) t24 (.int .i64 1)) fun t59 =>
      pureK Tryd.prog (sSlice T_string t57 (some t59) none none) fun t60 =>
      pureK Tryd.prog (sNil r0) fun t61 =>
      pureK Tryd.prog (sFieldAddr T_wire_Reader t61 0) fun t62 =>
      upK Tryd.prog (sStore T_string t62 t60) w5 fun tu w8 =>
      K t34 w8))))
theorem wire_Reader_number.pt_eq : wire_Reader_number.pt = fun r0 end1 least2 w K => FN Tryd.prog Tryd.f45 (bodyOf Tryd.f45) [6] .leaf [r0, end1, least2] w K := by kernel_rfl
theorem wire_Reader_number.call {r0 end1 least2 : Value} {w : World} {K : Value → World → Prop} (h : wire_Reader_number.pt r0 end1 least2 w K) : Calls Tryd.prog F_wire_Reader_number #[r0, end1, least2] w (retK K) :=
  calls_FN (args := [r0, end1, least2]) Tryd.func45 (by kernel_rfl) (by rw [wire_Reader_number.pt_eq] at h; exact h)
theorem wire_Reader_number.up {r0 end1 least2 : Value} {w : World} {K : Value → World → Prop} (h : Calls Tryd.prog F_wire_Reader_number #[r0, end1, least2] w (retK K)) : upK Tryd.prog (sCall F_wire_Reader_number #[r0, end1, least2]) w K :=
  up_call (fn := Tryd.f45) Tryd.func45 (by kernel_rfl) (by kernel_rfl) h

/-- errata/marks.least[int] -/
def marks_least_int.pt (l0 : Value) (w : World) (K : Value → World → Prop) : Prop :=
  readK Tryd.prog (sBlt .len #[T_s_int] T_int #[false] #[l0]) w fun t5 =>
  pureK Tryd.prog (sBin .eql T_int (.tmp 5) (.const (.int .i64 0)) t5 (.int .i64 0)) fun t6 =>
  ifB t6
  (K (.tuple #[(.int .i64 0), (.bool false)]) w)
  (upK Tryd.prog (sCall F_slices_Min_s_int_int #[l0]) w fun t8 w1 =>
   K (.tuple #[t8, (.bool true)]) w1)
theorem marks_least_int.pt_eq : marks_least_int.pt = fun l0 w K => FN Tryd.prog Tryd.f46 (bodyOf Tryd.f46) [2, 3] .leaf [l0] w K := by kernel_rfl
theorem marks_least_int.call {l0 : Value} {w : World} {K : Value → World → Prop} (h : marks_least_int.pt l0 w K) : Calls Tryd.prog F_marks_least_int #[l0] w (retK K) :=
  calls_FN (args := [l0]) Tryd.func46 (by kernel_rfl) (by rw [marks_least_int.pt_eq] at h; exact h)
theorem marks_least_int.up {l0 : Value} {w : World} {K : Value → World → Prop} (h : Calls Tryd.prog F_marks_least_int #[l0] w (retK K)) : upK Tryd.prog (sCall F_marks_least_int #[l0]) w K :=
  up_call (fn := Tryd.f46) Tryd.func46 (by kernel_rfl) (by kernel_rfl) h

/-- (*strings.Builder).copyCheck -/
def strings_Builder_copyCheck.pt (b0 : Value) (w : World) (K : Value → World → Prop) : Prop :=
  pureK Tryd.prog (sNil b0) fun t3 =>
  pureK Tryd.prog (sFieldAddr T_strings_Builder t3 0) fun t4 =>
  readK Tryd.prog (sLoad T_p_strings_Builder t4) w fun t5 =>
  pureK Tryd.prog (sBin .eql T_p_strings_Builder (.tmp 5) (.const (.pointer none)) t5 (.pointer none)) fun t6 =>
  ifB t6
  (upK Tryd.prog (sConv T_p_strings_Builder T_unsafe_Pointer b0) w fun t9 w1 =>
   upK Tryd.prog (sCall F_internal_abi_NoEscape #[t9]) w1 fun t10 w2 =>
   upK Tryd.prog (sConv T_unsafe_Pointer T_p_strings_Builder t10) w2 fun t11 w3 =>
   pureK Tryd.prog (sNil b0) fun t12 =>
   pureK Tryd.prog (sFieldAddr T_strings_Builder t12 0) fun t13 =>
   upK Tryd.prog (sStore T_p_strings_Builder t13 t11) w3 fun tu w4 =>
   K (.tuple #[]) w4)
  (pureK Tryd.prog (sNil b0) fun t15 =>
   pureK Tryd.prog (sFieldAddr T_strings_Builder t15 0) fun t16 =>
   readK Tryd.prog (sLoad T_p_strings_Builder t16) w fun t17 =>
   pureK Tryd.prog (sBin .neq T_p_strings_Builder (.tmp 17) (.tmp 18) t17 b0) fun t19 =>
   ifB t19
   (False)
   (K (.tuple #[]) w))
theorem strings_Builder_copyCheck.pt_eq : strings_Builder_copyCheck.pt = fun b0 w K => FN Tryd.prog Tryd.f47 (bodyOf Tryd.f47) [] .leaf [b0] w K := by kernel_rfl
theorem strings_Builder_copyCheck.call {b0 : Value} {w : World} {K : Value → World → Prop} (h : strings_Builder_copyCheck.pt b0 w K) : Calls Tryd.prog F_strings_Builder_copyCheck #[b0] w (retK K) :=
  calls_FN (args := [b0]) Tryd.func47 (by kernel_rfl) (by rw [strings_Builder_copyCheck.pt_eq] at h; exact h)
theorem strings_Builder_copyCheck.up {b0 : Value} {w : World} {K : Value → World → Prop} (h : Calls Tryd.prog F_strings_Builder_copyCheck #[b0] w (retK K)) : upK Tryd.prog (sCall F_strings_Builder_copyCheck #[b0]) w K :=
  up_call (fn := Tryd.f47) Tryd.func47 (by kernel_rfl) (by kernel_rfl) h

/-- strconv.Itoa -/
theorem strconv_Itoa.up {p0 : Value} {w : World} {K : Value → World → Prop} (h : Calls Tryd.prog F_strconv_Itoa #[p0] w (retK K)) : upK Tryd.prog (sCall F_strconv_Itoa #[p0]) w K :=
  up_call (fn := Tryd.f48) Tryd.func48 (by kernel_rfl) (by kernel_rfl) h

/-- errata/errataref01.digits -/
def errataref01_digits.pt (n0 : Value) (w : World) (K : Value → World → Prop) : Prop :=
  pureK Tryd.prog (sBin .rem T_int (.tmp 4) (.const (.int .i64 10)) n0 (.int .i64 10)) fun t5 =>
  pureK Tryd.prog (sBin .sub T_int (.const (.int .i64 48)) (.tmp 5) (.int .i64 48) t5) fun t6 =>
  upK Tryd.prog (sConv T_int T_uint8 t6) w fun t7 w1 =>
  upK Tryd.prog (sBuildSlice T_s_uint8 1 #[(0, t7)]) w1 fun t8 w2 =>
  upK Tryd.prog (sConv T_s_uint8 T_string t8) w2 fun t9 w3 =>
  pureK Tryd.prog (sBin .gtr T_int (.tmp 10) (.const (.int .i64 (-10))) n0 (.int .i64 (-10))) fun t11 =>
  ifB t11
  (K t9 w3)
  (pureK Tryd.prog (sBin .quo T_int (.tmp 13) (.const (.int .i64 10)) n0 (.int .i64 10)) fun t14 =>
   upK Tryd.prog (sCall F_errataref01_digits #[t14]) w3 fun t15 w4 =>
   pureK Tryd.prog (sBin .add T_string (.tmp 15) (.tmp 16) t15 t9) fun t17 =>
   K t17 w4)
theorem errataref01_digits.pt_eq : errataref01_digits.pt = fun n0 w K => FN Tryd.prog Tryd.f49 (bodyOf Tryd.f49) [2] .leaf [n0] w K := by kernel_rfl
theorem errataref01_digits.call {n0 : Value} {w : World} {K : Value → World → Prop} (h : errataref01_digits.pt n0 w K) : Calls Tryd.prog F_errataref01_digits #[n0] w (retK K) :=
  calls_FN (args := [n0]) Tryd.func49 (by kernel_rfl) (by rw [errataref01_digits.pt_eq] at h; exact h)
theorem errataref01_digits.up {n0 : Value} {w : World} {K : Value → World → Prop} (h : Calls Tryd.prog F_errataref01_digits #[n0] w (retK K)) : upK Tryd.prog (sCall F_errataref01_digits #[n0]) w K :=
  up_call (fn := Tryd.f49) Tryd.func49 (by kernel_rfl) (by kernel_rfl) h

/-- (*errata/errataref01.Reader).ahead -/
def errataref01_Reader_ahead.pt (r0 end1 : Value) (w : World) (K : Value → World → Prop) : Prop :=
  LETJ (X := Value × Unit) (fun jv1 w1 =>
   pureK Tryd.prog (sNil r0) fun t33 =>
   pureK Tryd.prog (sFieldAddr T_errataref01_Reader t33 0) fun t34 =>
   readK Tryd.prog (sLoad T_string t34) w1 fun t35 =>
   readK Tryd.prog (sBlt .len #[T_string] T_int #[false] #[t35]) w1 fun t36 =>
   pureK Tryd.prog (sBin .geq T_int (.tmp 31) (.tmp 36) jv1.1 t36) fun t37 =>
   ifB t37
   (upK Tryd.prog (sCall F_errataref01_Reader_fail #[r0]) w1 fun t39 w2 =>
    K t39 w2)
   (pureK Tryd.prog (sNil r0) fun t41 =>
    pureK Tryd.prog (sFieldAddr T_errataref01_Reader t41 0) fun t42 =>
    readK Tryd.prog (sLoad T_string t42) w1 fun t43 =>
    pureK Tryd.prog (sIdx T_string t43 jv1.1) fun t45 =>
    pureK Tryd.prog (sBin .neq T_uint8 (.tmp 45) (.tmp 46) t45 end1) fun t47 =>
    ifB t47
    (upK Tryd.prog (sCall F_errataref01_Reader_fail #[r0]) w1 fun t49 w3 =>
     K t49 w3)
    (pureK Tryd.prog (sNil r0) fun t52 =>
     pureK Tryd.prog (sFieldAddr T_errataref01_Reader t52 0) fun t53 =>
     readK Tryd.prog (sLoad T_string t53) w1 fun t54 =>
     pureK Tryd.prog (sSlice T_string t54 none (some jv1.1) none) fun t56 =>
     upK Tryd.prog (sCall F_errataref01_Back #[t56]) w1 fun t57 w4 =>
     pureK Tryd.prog (sExtract t57 0) fun t58 =>
     pureK Tryd.prog (sExtract t57 1) fun t59 =>
     pureK Tryd.prog (sUn .not t59) fun t61 =>
     ifB t61
     (upK Tryd.prog (sCall F_errataref01_Reader_fail #[r0]) w4 fun t63 w5 =>
      K t63 w5)
     (pureK Tryd.prog (sNil r0) fun t66 =>
      pureK Tryd.prog (sFieldAddr T_errataref01_Reader t66 0) fun t67 =>
      readK Tryd.prog (sLoad T_string t67) w4 fun t68 =>
      pureK Tryd.prog (sBin .add T_int (.tmp 69) (.const (.int .i64 1)) jv1.1 (.int .i64 1)) fun t70 =>
      pureK Tryd.prog (sSlice T_string t68 (some t70) none none) fun t71 =>
      pureK Tryd.prog (sNil r0) fun t72 =>
      pureK Tryd.prog (sFieldAddr T_errataref01_Reader t72 0) fun t73 =>
      upK Tryd.prog (sStore T_string t73 t71) w4 fun tu w6 =>
      K t58 w6))))
  (fun J1 =>
   LOOP (X := Value × Unit) (fun lv7 w7 next7 =>
    pureK Tryd.prog (sNil r0) fun t10 =>
    pureK Tryd.prog (sFieldAddr T_errataref01_Reader t10 0) fun t11 =>
    readK Tryd.prog (sLoad T_string t11) w7 fun t12 =>
    readK Tryd.prog (sBlt .len #[T_string] T_int #[false] #[t12]) w7 fun t13 =>
    pureK Tryd.prog (sBin .lss T_int (.tmp 8) (.tmp 13) lv7.1 t13) fun t14 =>
    ifB t14
    (pureK Tryd.prog (sBin .lss T_int (.tmp 16) (.const (.int .i64 21)) lv7.1 (.int .i64 21)) fun t17 =>
     ifB t17
     (pureK Tryd.prog (sNil r0) fun t21 =>
      pureK Tryd.prog (sFieldAddr T_errataref01_Reader t21 0) fun t22 =>
      readK Tryd.prog (sLoad T_string t22) w7 fun t23 =>
      pureK Tryd.prog (sIdx T_string t23 lv7.1) fun t25 =>
      pureK Tryd.prog (sBin .neq T_uint8 (.tmp 25) (.tmp 26) t25 end1) fun t27 =>
      ifB t27
      (pureK Tryd.prog (sBin .add T_int (.tmp 29) (.const (.int .i64 1)) lv7.1 (.int .i64 1)) fun t30 =>
       next7 (t30, ()) w7)
      (J1 (lv7.1, ()) w7))
     (J1 (lv7.1, ()) w7))
    (J1 (lv7.1, ()) w7))
   ((.int .i64 0), ()) w)
theorem errataref01_Reader_ahead.pt_eq : errataref01_Reader_ahead.pt = fun r0 end1 w K => FN Tryd.prog Tryd.f50 (bodyOf Tryd.f50) [4] (.node none .leaf (.node none .leaf (.node (some [5]) .leaf .leaf))) [r0, end1] w K := by kernel_rfl
theorem errataref01_Reader_ahead.call {r0 end1 : Value} {w : World} {K : Value → World → Prop} (h : errataref01_Reader_ahead.pt r0 end1 w K) : Calls Tryd.prog F_errataref01_Reader_ahead #[r0, end1] w (retK K) :=
  calls_FN (args := [r0, end1]) Tryd.func50 (by kernel_rfl) (by rw [errataref01_Reader_ahead.pt_eq] at h; exact h)
theorem errataref01_Reader_ahead.up {r0 end1 : Value} {w : World} {K : Value → World → Prop} (h : Calls Tryd.prog F_errataref01_Reader_ahead #[r0, end1] w (retK K)) : upK Tryd.prog (sCall F_errataref01_Reader_ahead #[r0, end1]) w K :=
  up_call (fn := Tryd.f50) Tryd.func50 (by kernel_rfl) (by kernel_rfl) h

/-- (*errata/errataref01.Reader).number -/
def errataref01_Reader_number.pt (r0 end1 : Value) (w : World) (K : Value → World → Prop) : Prop :=
  upK Tryd.prog (sCall F_errataref01_Reader_ahead #[r0, end1]) w fun t8 w1 =>
  pureK Tryd.prog (sBin .lss T_int (.tmp 9) (.const (.int .i64 0)) t8 (.int .i64 0)) fun t10 =>
  ifB t10
  (upK Tryd.prog (sCall F_errataref01_Reader_fail #[r0]) w1 fun t12 w2 =>
   K t12 w2)
  (K t8 w1)
theorem errataref01_Reader_number.pt_eq : errataref01_Reader_number.pt = fun r0 end1 w K => FN Tryd.prog Tryd.f51 (bodyOf Tryd.f51) [4] .leaf [r0, end1] w K := by kernel_rfl
theorem errataref01_Reader_number.call {r0 end1 : Value} {w : World} {K : Value → World → Prop} (h : errataref01_Reader_number.pt r0 end1 w K) : Calls Tryd.prog F_errataref01_Reader_number #[r0, end1] w (retK K) :=
  calls_FN (args := [r0, end1]) Tryd.func51 (by kernel_rfl) (by rw [errataref01_Reader_number.pt_eq] at h; exact h)
theorem errataref01_Reader_number.up {r0 end1 : Value} {w : World} {K : Value → World → Prop} (h : Calls Tryd.prog F_errataref01_Reader_number #[r0, end1] w (retK K)) : upK Tryd.prog (sCall F_errataref01_Reader_number #[r0, end1]) w K :=
  up_call (fn := Tryd.f51) Tryd.func51 (by kernel_rfl) (by kernel_rfl) h

/-- math/bits.Mul32 -/
theorem math_bits_Mul32.up {p0 p1 : Value} {w : World} {K : Value → World → Prop} (h : Calls Tryd.prog F_math_bits_Mul32 #[p0, p1] w (retK K)) : upK Tryd.prog (sCall F_math_bits_Mul32 #[p0, p1]) w K :=
  up_call (fn := Tryd.f52) Tryd.func52 (by kernel_rfl) (by kernel_rfl) h

/-- math/bits.Mul64 -/
theorem math_bits_Mul64.up {p0 p1 : Value} {w : World} {K : Value → World → Prop} (h : Calls Tryd.prog F_math_bits_Mul64 #[p0, p1] w (retK K)) : upK Tryd.prog (sCall F_math_bits_Mul64 #[p0, p1]) w K :=
  up_call (fn := Tryd.f53) Tryd.func53 (by kernel_rfl) (by kernel_rfl) h

/-- strings.IndexByte -/
theorem strings_IndexByte.up {p0 p1 : Value} {w : World} {K : Value → World → Prop} (h : Calls Tryd.prog F_strings_IndexByte #[p0, p1] w (retK K)) : upK Tryd.prog (sCall F_strings_IndexByte #[p0, p1]) w K :=
  up_call (fn := Tryd.f54) Tryd.func54 (by kernel_rfl) (by kernel_rfl) h

/-- (*errata/wire.Reader).fail -/
def wire_Reader_fail.pt (r0 : Value) (w : World) (K : Value → World → Prop) : Prop :=
  pureK Tryd.prog (sNil r0) fun t4 =>
  pureK Tryd.prog (sFieldAddr T_wire_Reader t4 0) fun t5 =>
  upK Tryd.prog (sStore T_string t5 (.string ⟨#[]⟩)) w fun tu w1 =>
  pureK Tryd.prog (sNil r0) fun t6 =>
  pureK Tryd.prog (sFieldAddr T_wire_Reader t6 1) fun t7 =>
  upK Tryd.prog (sStore T_bool t7 (.bool true)) w1 fun tu_1 w2 =>
  K (.tuple #[]) w2
theorem wire_Reader_fail.pt_eq : wire_Reader_fail.pt = fun r0 w K => FN Tryd.prog Tryd.f55 (bodyOf Tryd.f55) [] .leaf [r0] w K := by kernel_rfl
theorem wire_Reader_fail.call {r0 : Value} {w : World} {K : Value → World → Prop} (h : wire_Reader_fail.pt r0 w K) : Calls Tryd.prog F_wire_Reader_fail #[r0] w (retK K) :=
  calls_FN (args := [r0]) Tryd.func55 (by kernel_rfl) (by rw [wire_Reader_fail.pt_eq] at h; exact h)
theorem wire_Reader_fail.up {r0 : Value} {w : World} {K : Value → World → Prop} (h : Calls Tryd.prog F_wire_Reader_fail #[r0] w (retK K)) : upK Tryd.prog (sCall F_wire_Reader_fail #[r0]) w K :=
  up_call (fn := Tryd.f55) Tryd.func55 (by kernel_rfl) (by kernel_rfl) h

/-- strconv.Atoi -/
theorem strconv_Atoi.up {p0 : Value} {w : World} {K : Value → World → Prop} (h : Calls Tryd.prog F_strconv_Atoi #[p0] w (retK K)) : upK Tryd.prog (sCall F_strconv_Atoi #[p0]) w K :=
  up_call (fn := Tryd.f56) Tryd.func56 (by kernel_rfl) (by kernel_rfl) h

/-- slices.Min[[]int,int] -/
def slices_Min_s_int_int.pt (x0 : Value) (w : World) (K : Value → World → Prop) : Prop :=
  readK Tryd.prog (sBlt .len #[T_s_int] T_int #[false] #[x0]) w fun t6 =>
  pureK Tryd.prog (sBin .lss T_int (.tmp 6) (.const (.int .i64 1)) t6 (.int .i64 1)) fun t7 =>
  ifB t7
  (pureK Tryd.prog (sMkIface T_string (.string ⟨#[115, 108, 105, 99, 101, 115, 46, 77, 105, 110, 58, 32, 101, 109, 112, 116, 121, 32, 108, 105, 115, 116]⟩)) fun t8 =>
   False)
  (pureK Tryd.prog (sIdxAddr T_s_int x0 (.int .i64 0)) fun t10 =>
   readK Tryd.prog (sLoad T_int t10) w fun t11 =>
   LOOP (X := Value × Value × Unit) (fun lv1 w1 next1 =>
    readK Tryd.prog (sBlt .len #[T_s_int] T_int #[false] #[x0]) w1 fun t14 =>
    pureK Tryd.prog (sBin .lss T_int (.tmp 12) (.tmp 14) lv1.2.1 t14) fun t15 =>
    ifB t15
    (pureK Tryd.prog (sIdxAddr T_s_int x0 lv1.2.1) fun t21 =>
     readK Tryd.prog (sLoad T_int t21) w1 fun t22 =>
     pureK Tryd.prog (sBlt .min #[T_int, T_int] T_int #[false, false] #[lv1.1, t22]) fun t23 =>
     pureK Tryd.prog (sBin .add T_int (.tmp 16) (.const (.int .i64 1)) lv1.2.1 (.int .i64 1)) fun t17 =>
     next1 (t23, t17, ()) w1)
    (K lv1.1 w1))
   (t11, (.int .i64 1), ()) w)
theorem slices_Min_s_int_int.pt_eq : slices_Min_s_int_int.pt = fun x0 w K => FN Tryd.prog Tryd.f57 (bodyOf Tryd.f57) [2] .leaf [x0] w K := by kernel_rfl
theorem slices_Min_s_int_int.call {x0 : Value} {w : World} {K : Value → World → Prop} (h : slices_Min_s_int_int.pt x0 w K) : Calls Tryd.prog F_slices_Min_s_int_int #[x0] w (retK K) :=
  calls_FN (args := [x0]) Tryd.func57 (by kernel_rfl) (by rw [slices_Min_s_int_int.pt_eq] at h; exact h)
theorem slices_Min_s_int_int.up {x0 : Value} {w : World} {K : Value → World → Prop} (h : Calls Tryd.prog F_slices_Min_s_int_int #[x0] w (retK K)) : upK Tryd.prog (sCall F_slices_Min_s_int_int #[x0]) w K :=
  up_call (fn := Tryd.f57) Tryd.func57 (by kernel_rfl) (by kernel_rfl) h

/-- internal/strconv.Itoa -/
theorem internal_strconv_Itoa.up {p0 : Value} {w : World} {K : Value → World → Prop} (h : Calls Tryd.prog F_internal_strconv_Itoa #[p0] w (retK K)) : upK Tryd.prog (sCall F_internal_strconv_Itoa #[p0]) w K :=
  up_call (fn := Tryd.f59) Tryd.func59 (by kernel_rfl) (by kernel_rfl) h

/-- (*errata/errataref01.Reader).fail -/
def errataref01_Reader_fail.pt (r0 : Value) (w : World) (K : Value → World → Prop) : Prop :=
  pureK Tryd.prog (sNil r0) fun t4 =>
  pureK Tryd.prog (sFieldAddr T_errataref01_Reader t4 0) fun t5 =>
  upK Tryd.prog (sStore T_string t5 (.string ⟨#[]⟩)) w fun tu w1 =>
  pureK Tryd.prog (sNil r0) fun t7 =>
  pureK Tryd.prog (sFieldAddr T_errataref01_Reader t7 1) fun t8 =>
  upK Tryd.prog (sStore T_bool t8 (.bool true)) w1 fun tu_1 w2 =>
  K (.int .i64 0) w2
theorem errataref01_Reader_fail.pt_eq : errataref01_Reader_fail.pt = fun r0 w K => FN Tryd.prog Tryd.f60 (bodyOf Tryd.f60) [2] .leaf [r0] w K := by kernel_rfl
theorem errataref01_Reader_fail.call {r0 : Value} {w : World} {K : Value → World → Prop} (h : errataref01_Reader_fail.pt r0 w K) : Calls Tryd.prog F_errataref01_Reader_fail #[r0] w (retK K) :=
  calls_FN (args := [r0]) Tryd.func60 (by kernel_rfl) (by rw [errataref01_Reader_fail.pt_eq] at h; exact h)
theorem errataref01_Reader_fail.up {r0 : Value} {w : World} {K : Value → World → Prop} (h : Calls Tryd.prog F_errataref01_Reader_fail #[r0] w (retK K)) : upK Tryd.prog (sCall F_errataref01_Reader_fail #[r0]) w K :=
  up_call (fn := Tryd.f60) Tryd.func60 (by kernel_rfl) (by kernel_rfl) h

end Go.Proofs.YtncgdihcplhcoaaDoor
