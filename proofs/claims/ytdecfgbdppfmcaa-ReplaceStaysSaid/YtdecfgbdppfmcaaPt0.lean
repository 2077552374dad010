/-
  The reckoned conditions of the functions that this seat's statements reach, printed by program, each held against the translation by the kernel. No condition.
-/
import Derived.Test.YtdecfgbdppfmcaaNames
namespace Go.Proofs.Ytdecfgbdppfmcaa
set_option linter.unusedVariables false

/-- errata/erratalaw47.ReplaceAsks -/
def erratalaw47_ReplaceAsks.pt (l0 from1 version2 back3 horizon4 raise5 : Value) (w : World) (K : Value → World → Prop) : Prop :=
  upK Try.prog (sCall F_erratalaw47_small #[]) w fun t23 w1 =>
  readK Try.prog (sBlt .len #[T_s_erratalaw47_Op] T_int #[false] #[l0]) w1 fun t25 =>
  pureK Try.prog (sBin .gtr T_int (.tmp 25) (.const (.int .i64 30)) t25 (.int .i64 30)) fun t26 =>
  ifB t26
  (K t23 w1)
  (pureK Try.prog (sBuild T_api_Seg #[(1, (.int .i64 1))]) fun t28 =>
   upK Try.prog (sBuildSlice T_s_api_Seg 1 #[(0, t28)]) w1 fun t29 w2 =>
   pureK Try.prog (sBuild T_erratalaw47_state #[(1, t29)]) fun t30 =>
   upK Try.prog (sBox T_erratalaw47_state t30) w2 fun t31 w3 =>
   LOOP (X := Value × Unit) (fun x4 w4 next4 =>
    readK Try.prog (sBlt .len #[T_s_erratalaw47_Op] T_int #[false] #[l0]) w4 fun t34 =>
    pureK Try.prog (sBin .lss T_int (.tmp 32) (.tmp 34) x4.1 t34) fun t35 =>
    ifB t35
    (pureK Try.prog (sIdxAddr T_s_erratalaw47_Op l0 x4.1) fun t41 =>
     readK Try.prog (sLoad T_erratalaw47_Op t41) w4 fun t42 =>
     upK Try.prog (sCall F_erratalaw47_state_step #[t31, t42]) w4 fun t43 w5 =>
     pureK Try.prog (sBin .add T_int (.tmp 36) (.const (.int .i64 1)) x4.1 (.int .i64 1)) fun t37 =>
     next4 (t37, ()) w5)
    (pureK Try.prog (sNil t31) fun t46 =>
     pureK Try.prog (sFieldAddr T_erratalaw47_state t46 0) fun t47 =>
     readK Try.prog (sLoad T_s_api_Replacement t47) w4 fun t48 =>
     upK Try.prog (sCall F_replace_Ask #[t48, from1, version2, back3, horizon4, raise5]) w4 fun t54 w6 =>
     pureK Try.prog (sExtract t54 0) fun t55 =>
     pureK Try.prog (sExtract t54 1) fun t56 =>
     pureK Try.prog (sExtract t54 2) fun t57 =>
     pureK Try.prog (sBin .eql T_api_Errno (.tmp 58) (.const (.int .i64 23)) t57 (.int .i64 23)) fun t59 =>
     ifB t59
     (pureK Try.prog (sNil t31) fun t62 =>
      pureK Try.prog (sFieldAddr T_erratalaw47_state t62 0) fun t63 =>
      readK Try.prog (sLoad T_s_api_Replacement t63) w6 fun t64 =>
      upK Try.prog (sCall F_replace_Ask #[t64, t56, version2, back3, horizon4, (.bool false)]) w6 fun t69 w7 =>
      pureK Try.prog (sExtract t69 0) fun t70 =>
      pureK Try.prog (sExtract t69 1) fun t71 =>
      pureK Try.prog (sExtract t69 2) fun t72 =>
      ifB t23
      (pureK Try.prog (sBin .gtr T_int (.tmp 75) (.tmp 76) t56 from1) fun t77 =>
       ifB t77
       (pureK Try.prog (sBin .add T_int (.tmp 81) (.tmp 82) horizon4 back3) fun t83 =>
        pureK Try.prog (sBin .eql T_int (.tmp 80) (.tmp 83) t56 t83) fun t84 =>
        ifB t84
        (pureK Try.prog (sBin .neq T_api_Errno (.tmp 87) (.const (.int .i64 23)) t72 (.int .i64 23)) fun t88 =>
         K t88 w7)
        (K (.bool false) w7))
       (K (.bool false) w7))
      (K (.bool false) w7))
     (pureK Try.prog (sBin .neq T_api_Errno (.tmp 90) (.const (.int .i64 0)) t57 (.int .i64 0)) fun t91 =>
      ifB t91
      (ifB t23
       (pureK Try.prog (sBin .eql T_int (.tmp 94) (.const (.int .i64 0)) t56 (.int .i64 0)) fun t95 =>
        ifB t95
        (readK Try.prog (sBlt .len #[T_s_api_Replacement] T_int #[false] #[t55]) w6 fun t99 =>
         pureK Try.prog (sBin .eql T_int (.tmp 99) (.const (.int .i64 0)) t99 (.int .i64 0)) fun t100 =>
         K t100 w6)
        (K (.bool false) w6))
       (K (.bool false) w6))
      (readK Try.prog (sBlt .len #[T_s_api_Replacement] T_int #[false] #[t55]) w6 fun t103 =>
       pureK Try.prog (sBin .eql T_int (.tmp 103) (.const (.int .i64 0)) t103 (.int .i64 0)) fun t104 =>
       ifB t104
       (K (.bool false) w6)
       (readK Try.prog (sBlt .len #[T_s_api_Replacement] T_int #[false] #[t55]) w6 fun t107 =>
        pureK Try.prog (sBin .sub T_int (.tmp 107) (.const (.int .i64 1)) t107 (.int .i64 1)) fun t108 =>
        pureK Try.prog (sIdxAddr T_s_api_Replacement t55 t108) fun t109 =>
        readK Try.prog (sLoad T_api_Replacement t109) w6 fun t110 =>
        upK Try.prog (sAlloc T_api_Replacement) w6 fun r22 w8 =>
        upK Try.prog (sStore T_api_Replacement r22 t110) w8 fun tu w9 =>
        ifB t23
        (pureK Try.prog (sFieldAddr T_api_Replacement r22 1) fun t113 =>
         readK Try.prog (sLoad T_int t113) w9 fun t114 =>
         pureK Try.prog (sBin .eql T_int (.tmp 114) (.tmp 115) t114 t56) fun t116 =>
         ifB t116
         (pureK Try.prog (sFieldAddr T_api_Replacement r22 3) fun t119 =>
          readK Try.prog (sLoad T_int t119) w9 fun t120 =>
          pureK Try.prog (sBin .sub T_int (.tmp 121) (.tmp 122) t56 back3) fun t123 =>
          pureK Try.prog (sBlt .max #[T_int, T_int] T_int #[true, false] #[(.int .i64 0), t123]) fun t124 =>
          pureK Try.prog (sBin .eql T_int (.tmp 120) (.tmp 124) t120 t124) fun t125 =>
          ifB t125
          (pureK Try.prog (sBin .eql T_int (.tmp 128) (.tmp 129) t56 from1) fun t130 =>
           ifB t130
           (pureK Try.prog (sBin .eql T_int (.tmp 148) (.const (.int .i64 0)) horizon4 (.int .i64 0)) fun t149 =>
            ifB t149
            (pureK Try.prog (sFieldAddr T_api_Replacement r22 4) fun t158 =>
             readK Try.prog (sLoad T_int t158) w9 fun t159 =>
             pureK Try.prog (sBin .eql T_int (.tmp 159) (.const (.int .i64 0)) t159 (.int .i64 0)) fun t160 =>
             ifB t160
             (pureK Try.prog (sFieldAddr T_api_Replacement r22 2) fun t163 =>
              readK Try.prog (sLoad T_int t163) w9 fun t164 =>
              pureK Try.prog (sBin .eql T_int (.tmp 164) (.tmp 165) t164 version2) fun t166 =>
              K t166 w9)
             (K (.bool false) w9))
            (pureK Try.prog (sFieldAddr T_api_Replacement r22 3) fun t151 =>
             readK Try.prog (sLoad T_int t151) w9 fun t152 =>
             pureK Try.prog (sBin .geq T_int (.tmp 152) (.tmp 153) t152 horizon4) fun t154 =>
             ifB t154
             (pureK Try.prog (sFieldAddr T_api_Replacement r22 4) fun t158_1 =>
              readK Try.prog (sLoad T_int t158_1) w9 fun t159_1 =>
              pureK Try.prog (sBin .eql T_int (.tmp 159) (.const (.int .i64 0)) t159_1 (.int .i64 0)) fun t160_1 =>
              ifB t160_1
              (pureK Try.prog (sFieldAddr T_api_Replacement r22 2) fun t163_1 =>
               readK Try.prog (sLoad T_int t163_1) w9 fun t164_1 =>
               pureK Try.prog (sBin .eql T_int (.tmp 164) (.tmp 165) t164_1 version2) fun t166_1 =>
               K t166_1 w9)
              (K (.bool false) w9))
             (K (.bool false) w9)))
           (ifB raise5
            (pureK Try.prog (sBin .add T_int (.tmp 135) (.tmp 136) horizon4 back3) fun t137 =>
             pureK Try.prog (sBin .eql T_int (.tmp 134) (.tmp 137) t56 t137) fun t138 =>
             ifB t138
             (pureK Try.prog (sBin .lss T_int (.tmp 141) (.tmp 142) from1 t56) fun t143 =>
              ifB t143
              (pureK Try.prog (sBin .eql T_int (.tmp 148) (.const (.int .i64 0)) horizon4 (.int .i64 0)) fun t149_1 =>
               ifB t149_1
               (pureK Try.prog (sFieldAddr T_api_Replacement r22 4) fun t158_2 =>
                readK Try.prog (sLoad T_int t158_2) w9 fun t159_2 =>
                pureK Try.prog (sBin .eql T_int (.tmp 159) (.const (.int .i64 0)) t159_2 (.int .i64 0)) fun t160_2 =>
                ifB t160_2
                (pureK Try.prog (sFieldAddr T_api_Replacement r22 2) fun t163_2 =>
                 readK Try.prog (sLoad T_int t163_2) w9 fun t164_2 =>
                 pureK Try.prog (sBin .eql T_int (.tmp 164) (.tmp 165) t164_2 version2) fun t166_2 =>
                 K t166_2 w9)
                (K (.bool false) w9))
               (pureK Try.prog (sFieldAddr T_api_Replacement r22 3) fun t151_1 =>
                readK Try.prog (sLoad T_int t151_1) w9 fun t152_1 =>
                pureK Try.prog (sBin .geq T_int (.tmp 152) (.tmp 153) t152_1 horizon4) fun t154_1 =>
                ifB t154_1
                (pureK Try.prog (sFieldAddr T_api_Replacement r22 4) fun t158_3 =>
                 readK Try.prog (sLoad T_int t158_3) w9 fun t159_3 =>
                 pureK Try.prog (sBin .eql T_int (.tmp 159) (.const (.int .i64 0)) t159_3 (.int .i64 0)) fun t160_3 =>
                 ifB t160_3
                 (pureK Try.prog (sFieldAddr T_api_Replacement r22 2) fun t163_3 =>
                  readK Try.prog (sLoad T_int t163_3) w9 fun t164_3 =>
                  pureK Try.prog (sBin .eql T_int (.tmp 164) (.tmp 165) t164_3 version2) fun t166_3 =>
                  K t166_3 w9)
                 (K (.bool false) w9))
                (K (.bool false) w9)))
              (K (.bool false) w9))
             (K (.bool false) w9))
            (K (.bool false) w9)))
          (K (.bool false) w9))
         (K (.bool false) w9))
        (K (.bool false) w9))))))
   ((.int .i64 0), ()) w3)
theorem erratalaw47_ReplaceAsks.pt_eq : erratalaw47_ReplaceAsks.pt = fun l0 from1 version2 back3 horizon4 raise5 w K => FN Try.prog Try.f3 (bodyOf Try.f3) [12] .leaf [l0, from1, version2, back3, horizon4, raise5] w K := by kernel_rfl
theorem erratalaw47_ReplaceAsks.call {l0 from1 version2 back3 horizon4 raise5 : Value} {w : World} {K : Value → World → Prop} (h : erratalaw47_ReplaceAsks.pt l0 from1 version2 back3 horizon4 raise5 w K) : Calls Try.prog F_erratalaw47_ReplaceAsks #[l0, from1, version2, back3, horizon4, raise5] w (retK K) :=
  calls_FN (args := [l0, from1, version2, back3, horizon4, raise5]) Try.func3 (by kernel_rfl) (by rw [erratalaw47_ReplaceAsks.pt_eq] at h; exact h)
theorem erratalaw47_ReplaceAsks.up {l0 from1 version2 back3 horizon4 raise5 : Value} {w : World} {K : Value → World → Prop} (h : Calls Try.prog F_erratalaw47_ReplaceAsks #[l0, from1, version2, back3, horizon4, raise5] w (retK K)) : upK Try.prog (sCall F_erratalaw47_ReplaceAsks #[l0, from1, version2, back3, horizon4, raise5]) w K :=
  up_call (fn := Try.f3) Try.func3 (by kernel_rfl) (by kernel_rfl) h

/-- errata/erratalaw47.ReplaceSides -/
def erratalaw47_ReplaceSides.pt (l0 time1 : Value) (w : World) (K : Value → World → Prop) : Prop :=
  upK Try.prog (sCall F_erratalaw47_small #[]) w fun t20 w1 =>
  readK Try.prog (sBlt .len #[T_s_erratalaw47_Op] T_int #[false] #[l0]) w1 fun t22 =>
  pureK Try.prog (sBin .gtr T_int (.tmp 22) (.const (.int .i64 80)) t22 (.int .i64 80)) fun t23 =>
  ifB t23
  (K t20 w1)
  (pureK Try.prog (sBin .lss T_int (.tmp 25) (.const (.int .i64 0)) time1 (.int .i64 0)) fun t26 =>
   ifB t26
   (K t20 w1)
   (pureK Try.prog (sBuild T_api_Seg #[(1, (.int .i64 1))]) fun t29 =>
    upK Try.prog (sBuildSlice T_s_api_Seg 1 #[(0, t29)]) w1 fun t30 w2 =>
    pureK Try.prog (sBuild T_erratalaw47_state #[(1, t30)]) fun t31 =>
    upK Try.prog (sBox T_erratalaw47_state t31) w2 fun t32 w3 =>
    LOOP (X := Value × Unit) (fun x4 w4 next4 =>
     readK Try.prog (sBlt .len #[T_s_erratalaw47_Op] T_int #[false] #[l0]) w4 fun t35 =>
     pureK Try.prog (sBin .lss T_int (.tmp 33) (.tmp 35) x4.1 t35) fun t36 =>
     ifB t36
     (LETJ (X := Unit) (fun y1 w5 =>
       pureK Try.prog (sBin .add T_int (.tmp 37) (.const (.int .i64 1)) x4.1 (.int .i64 1)) fun t38 =>
       next4 (t38, ()) w5)
      (fun J1 =>
       upK Try.prog (sMkSlice T_s_int (.int .i64 16) (.int .i64 16)) w4 fun t39 w6 =>
       LOOP (X := Value × Unit) (fun x7 w7 next7 =>
        pureK Try.prog (sBin .lss T_int (.tmp 40) (.const (.int .i64 16)) x7.1 (.int .i64 16)) fun t41 =>
        ifB t41
        (pureK Try.prog (sNil t32) fun t47 =>
         pureK Try.prog (sFieldAddr T_erratalaw47_state t47 0) fun t48 =>
         readK Try.prog (sLoad T_s_api_Replacement t48) (tick w7) fun t49 =>
         pureK Try.prog (sNil t32) fun t51 =>
         pureK Try.prog (sFieldAddr T_erratalaw47_state t51 1) fun t52 =>
         readK Try.prog (sLoad T_s_api_Seg t52) (tick w7) fun t53 =>
         upK Try.prog (sCall F_replace_Side #[t49, t53, time1, x7.1]) (tick w7) fun t56 w8 =>
         pureK Try.prog (sIdxAddr T_s_int t39 x7.1) fun t57 =>
         upK Try.prog (sStore T_int t57 t56) w8 fun tu w9 =>
         pureK Try.prog (sBin .add T_int (.tmp 42) (.const (.int .i64 1)) x7.1 (.int .i64 1)) fun t43 =>
         next7 (t43, ()) w9)
        (pureK Try.prog (sNil t32) fun t59 =>
         pureK Try.prog (sFieldAddr T_erratalaw47_state t59 0) fun t60 =>
         readK Try.prog (sLoad T_s_api_Replacement t60) w7 fun t61 =>
         pureK Try.prog (sIdxAddr T_s_erratalaw47_Op l0 x4.1) fun t66 =>
         readK Try.prog (sLoad T_erratalaw47_Op t66) w7 fun t67 =>
         upK Try.prog (sCall F_erratalaw47_state_step #[t32, t67]) w7 fun t68 w10 =>
         pureK Try.prog (sExtract t68 0) fun t69 =>
         pureK Try.prog (sExtract t68 1) fun t70 =>
         LETJ (X := Value × Value × Unit) (fun y2 w11 =>
          LOOP (X := Value × Value × Unit) (fun x12 w12 next12 =>
           pureK Try.prog (sNil t32) fun t119 =>
           pureK Try.prog (sFieldAddr T_erratalaw47_state t119 0) fun t120 =>
           readK Try.prog (sLoad T_s_api_Replacement t120) w12 fun t121 =>
           readK Try.prog (sBlt .len #[T_s_api_Replacement] T_int #[false] #[t121]) w12 fun t122 =>
           pureK Try.prog (sBin .lss T_int (.tmp 117) (.tmp 122) x12.2.1 t122) fun t123 =>
           ifB t123
           (LETJ (X := Value × Unit) (fun y3 w13 =>
             pureK Try.prog (sBin .add T_int (.tmp 124) (.const (.int .i64 1)) x12.2.1 (.int .i64 1)) fun t125 =>
             next12 (y3.1, t125, ()) w13)
            (fun J3 =>
             ifB x12.1
             (J3 ((.bool true), ()) w12)
             (pureK Try.prog (sNil t32) fun t129 =>
              pureK Try.prog (sFieldAddr T_erratalaw47_state t129 0) fun t130 =>
              readK Try.prog (sLoad T_s_api_Replacement t130) w12 fun t131 =>
              pureK Try.prog (sIdxAddr T_s_api_Replacement t131 x12.2.1) fun t133 =>
              pureK Try.prog (sFieldAddr T_api_Replacement t133 4) fun t134 =>
              readK Try.prog (sLoad T_int t134) w12 fun t135 =>
              pureK Try.prog (sBin .eql T_int (.tmp 135) (.const (.int .i64 2)) t135 (.int .i64 2)) fun t136 =>
              J3 (t136, ()) w12)))
           (LOOP (X := Value × Unit) (fun x14 w14 next14 =>
             pureK Try.prog (sBin .lss T_int (.tmp 138) (.const (.int .i64 16)) x14.1 (.int .i64 16)) fun t139 =>
             ifB t139
             (LETJ (X := Unit) (fun y4 w15 =>
               pureK Try.prog (sBin .add T_int (.tmp 140) (.const (.int .i64 1)) x14.1 (.int .i64 1)) fun t141 =>
               next14 (t141, ()) w15)
              (fun J4 =>
               pureK Try.prog (sNil t32) fun t143 =>
               pureK Try.prog (sFieldAddr T_erratalaw47_state t143 0) fun t144 =>
               readK Try.prog (sLoad T_s_api_Replacement t144) (tick w14) fun t145 =>
               pureK Try.prog (sNil t32) fun t147 =>
               pureK Try.prog (sFieldAddr T_erratalaw47_state t147 1) fun t148 =>
               readK Try.prog (sLoad T_s_api_Seg t148) (tick w14) fun t149 =>
               upK Try.prog (sCall F_replace_Side #[t145, t149, time1, x14.1]) (tick w14) fun t152 w16 =>
               pureK Try.prog (sBin .eql T_int (.tmp 153) (.tmp 154) x14.1 y2.1) fun t155 =>
               ifB t155
               (pureK Try.prog (sBin .neq T_int (.tmp 157) (.tmp 158) t152 y2.2.1) fun t159 =>
                ifB t159
                (K (.bool false) w16)
                (pureK Try.prog (sBin .neq T_int (.tmp 162) (.tmp 163) x14.1 y2.1) fun t164 =>
                 ifB t164
                 (pureK Try.prog (sIdxAddr T_s_int t39 x14.1) fun t169 =>
                  readK Try.prog (sLoad T_int t169) w16 fun t170 =>
                  pureK Try.prog (sBin .neq T_int (.tmp 166) (.tmp 170) t152 t170) fun t171 =>
                  ifB t171
                  (K (.bool false) w16)
                  (pureK Try.prog (sUn .not x12.1) fun t176 =>
                   ifB t176
                   (pureK Try.prog (sNil t32) fun t180 =>
                    pureK Try.prog (sFieldAddr T_erratalaw47_state t180 1) fun t181 =>
                    readK Try.prog (sLoad T_s_api_Seg t181) w16 fun t182 =>
                    upK Try.prog (sCall F_timeline_At #[t182, time1]) w16 fun t184 w17 =>
                    pureK Try.prog (sBin .neq T_int (.tmp 178) (.tmp 184) t152 t184) fun t185 =>
                    ifB t185
                    (K (.bool false) w17)
                    (J4 (()) w17))
                   (J4 (()) w16)))
                 (pureK Try.prog (sUn .not x12.1) fun t176_1 =>
                  ifB t176_1
                  (pureK Try.prog (sNil t32) fun t180_1 =>
                   pureK Try.prog (sFieldAddr T_erratalaw47_state t180_1 1) fun t181_1 =>
                   readK Try.prog (sLoad T_s_api_Seg t181_1) w16 fun t182_1 =>
                   upK Try.prog (sCall F_timeline_At #[t182_1, time1]) w16 fun t184_1 w18 =>
                   pureK Try.prog (sBin .neq T_int (.tmp 178) (.tmp 184) t152 t184_1) fun t185_1 =>
                   ifB t185_1
                   (K (.bool false) w18)
                   (J4 (()) w18))
                  (J4 (()) w16))))
               (pureK Try.prog (sBin .neq T_int (.tmp 162) (.tmp 163) x14.1 y2.1) fun t164_1 =>
                ifB t164_1
                (pureK Try.prog (sIdxAddr T_s_int t39 x14.1) fun t169_1 =>
                 readK Try.prog (sLoad T_int t169_1) w16 fun t170_1 =>
                 pureK Try.prog (sBin .neq T_int (.tmp 166) (.tmp 170) t152 t170_1) fun t171_1 =>
                 ifB t171_1
                 (K (.bool false) w16)
                 (pureK Try.prog (sUn .not x12.1) fun t176_2 =>
                  ifB t176_2
                  (pureK Try.prog (sNil t32) fun t180_2 =>
                   pureK Try.prog (sFieldAddr T_erratalaw47_state t180_2 1) fun t181_2 =>
                   readK Try.prog (sLoad T_s_api_Seg t181_2) w16 fun t182_2 =>
                   upK Try.prog (sCall F_timeline_At #[t182_2, time1]) w16 fun t184_2 w19 =>
                   pureK Try.prog (sBin .neq T_int (.tmp 178) (.tmp 184) t152 t184_2) fun t185_2 =>
                   ifB t185_2
                   (K (.bool false) w19)
                   (J4 (()) w19))
                  (J4 (()) w16)))
                (pureK Try.prog (sUn .not x12.1) fun t176_3 =>
                 ifB t176_3
                 (pureK Try.prog (sNil t32) fun t180_3 =>
                  pureK Try.prog (sFieldAddr T_erratalaw47_state t180_3 1) fun t181_3 =>
                  readK Try.prog (sLoad T_s_api_Seg t181_3) w16 fun t182_3 =>
                  upK Try.prog (sCall F_timeline_At #[t182_3, time1]) w16 fun t184_3 w20 =>
                  pureK Try.prog (sBin .neq T_int (.tmp 178) (.tmp 184) t152 t184_3) fun t185_3 =>
                  ifB t185_3
                  (K (.bool false) w20)
                  (J4 (()) w20))
                 (J4 (()) w16)))))
             (J1 (()) w14))
            ((.int .i64 0), ()) w12))
          ((.bool false), (.int .i64 0), ()) w11)
         (fun J2 =>
          pureK Try.prog (sBin .eql T_api_Errno (.tmp 71) (.const (.int .i64 0)) t70 (.int .i64 0)) fun t72 =>
          ifB t72
          (pureK Try.prog (sIdxAddr T_s_erratalaw47_Op l0 x4.1) fun t76 =>
           pureK Try.prog (sFieldAddr T_erratalaw47_Op t76 0) fun t77 =>
           readK Try.prog (sLoad T_int t77) w10 fun t78 =>
           pureK Try.prog (sBin .and T_int (.tmp 78) (.const (.int .i64 7)) t78 (.int .i64 7)) fun t79 =>
           pureK Try.prog (sBin .geq T_int (.tmp 79) (.const (.int .i64 4)) t79 (.int .i64 4)) fun t80 =>
           ifB t80
           (pureK Try.prog (sIdxAddr T_s_erratalaw47_Op l0 x4.1) fun t85 =>
            pureK Try.prog (sFieldAddr T_erratalaw47_Op t85 1) fun t86 =>
            readK Try.prog (sLoad T_int t86) w10 fun t87 =>
            pureK Try.prog (sBin .geq T_int (.tmp 87) (.const (.int .i64 1)) t87 (.int .i64 1)) fun t88 =>
            ifB t88
            (pureK Try.prog (sIdxAddr T_s_erratalaw47_Op l0 x4.1) fun t93 =>
             pureK Try.prog (sFieldAddr T_erratalaw47_Op t93 1) fun t94 =>
             readK Try.prog (sLoad T_int t94) w10 fun t95 =>
             readK Try.prog (sBlt .len #[T_s_api_Replacement] T_int #[false] #[t61]) w10 fun t97 =>
             pureK Try.prog (sBin .leq T_int (.tmp 95) (.tmp 97) t95 t97) fun t98 =>
             ifB t98
             (pureK Try.prog (sIdxAddr T_s_erratalaw47_Op l0 x4.1) fun t103 =>
              pureK Try.prog (sFieldAddr T_erratalaw47_Op t103 1) fun t104 =>
              readK Try.prog (sLoad T_int t104) w10 fun t105 =>
              pureK Try.prog (sBin .sub T_int (.tmp 105) (.const (.int .i64 1)) t105 (.int .i64 1)) fun t106 =>
              pureK Try.prog (sIdxAddr T_s_api_Replacement t61 t106) fun t107 =>
              readK Try.prog (sLoad T_api_Replacement t107) w10 fun t108 =>
              upK Try.prog (sAlloc T_api_Replacement) w10 fun r15 w21 =>
              upK Try.prog (sStore T_api_Replacement r15 t108) w21 fun tu_1 w22 =>
              pureK Try.prog (sFieldAddr T_api_Replacement r15 1) fun t110 =>
              readK Try.prog (sLoad T_int t110) w22 fun t111 =>
              pureK Try.prog (sBin .geq T_int (.tmp 109) (.tmp 111) time1 t111) fun t112 =>
              ifB t112
              (pureK Try.prog (sFieldAddr T_api_Replacement r15 5) fun t113 =>
               readK Try.prog (sLoad T_int t113) w22 fun t114 =>
               pureK Try.prog (sFieldAddr T_api_Replacement r15 2) fun t115 =>
               readK Try.prog (sLoad T_int t115) w22 fun t116 =>
               J2 (t114, t116, ()) w22)
              (J2 ((.int .i64 (-1)), (.int .i64 0), ()) w22))
             (J2 ((.int .i64 (-1)), (.int .i64 0), ()) w10))
            (J2 ((.int .i64 (-1)), (.int .i64 0), ()) w10))
           (J2 ((.int .i64 (-1)), (.int .i64 0), ()) w10))
          (J2 ((.int .i64 (-1)), (.int .i64 0), ()) w10))))
       ((.int .i64 0), ()) w6))
     (K t20 w4))
    ((.int .i64 0), ()) w3))
theorem erratalaw47_ReplaceSides.pt_eq : erratalaw47_ReplaceSides.pt = fun l0 time1 w K => FN Try.prog Try.f4 (bodyOf Try.f4) [4] (.node none .leaf (.node none .leaf (.node none .leaf (.node none .leaf (.node none (.node none .leaf (.node none (.node none (.node none .leaf (.node (some []) (.node none (.node none .leaf (.node none .leaf (.node none .leaf (.node none .leaf (.node none .leaf (.node none .leaf (.node (some [13, 14]) .leaf (.node none .leaf (.node none (.node none .leaf (.node none (.node none (.node none .leaf (.node (some [16]) .leaf .leaf)) .leaf) .leaf)) (.node none .leaf (.node none (.node none (.node none .leaf (.node (some []) .leaf .leaf)) .leaf) .leaf))))))))))) .leaf) .leaf)) .leaf) .leaf)) .leaf))))) [l0, time1] w K := by kernel_rfl
theorem erratalaw47_ReplaceSides.call {l0 time1 : Value} {w : World} {K : Value → World → Prop} (h : erratalaw47_ReplaceSides.pt l0 time1 w K) : Calls Try.prog F_erratalaw47_ReplaceSides #[l0, time1] w (retK K) :=
  calls_FN (args := [l0, time1]) Try.func4 (by kernel_rfl) (by rw [erratalaw47_ReplaceSides.pt_eq] at h; exact h)
theorem erratalaw47_ReplaceSides.up {l0 time1 : Value} {w : World} {K : Value → World → Prop} (h : Calls Try.prog F_erratalaw47_ReplaceSides #[l0, time1] w (retK K)) : upK Try.prog (sCall F_erratalaw47_ReplaceSides #[l0, time1]) w K :=
  up_call (fn := Try.f4) Try.func4 (by kernel_rfl) (by kernel_rfl) h

/-- errata/erratalaw47.ReplaceTimeline -/
def erratalaw47_ReplaceTimeline.pt (l0 times1 : Value) (w : World) (K : Value → World → Prop) : Prop :=
  upK Try.prog (sCall F_erratalaw47_small #[]) w fun t11 w1 =>
  readK Try.prog (sBlt .len #[T_s_erratalaw47_Op] T_int #[false] #[l0]) w1 fun t13 =>
  pureK Try.prog (sBin .gtr T_int (.tmp 13) (.const (.int .i64 80)) t13 (.int .i64 80)) fun t14 =>
  ifB t14
  (K t11 w1)
  (readK Try.prog (sBlt .len #[T_s_int] T_int #[false] #[times1]) w1 fun t17 =>
   pureK Try.prog (sBin .gtr T_int (.tmp 17) (.const (.int .i64 20)) t17 (.int .i64 20)) fun t18 =>
   ifB t18
   (K t11 w1)
   (pureK Try.prog (sBuild T_api_Seg #[(1, (.int .i64 1))]) fun t21 =>
    upK Try.prog (sBuildSlice T_s_api_Seg 1 #[(0, t21)]) w1 fun t22 w2 =>
    pureK Try.prog (sBuild T_erratalaw47_state #[(1, t22)]) fun t23 =>
    upK Try.prog (sBox T_erratalaw47_state t23) w2 fun t24 w3 =>
    LOOP (X := Value × Unit) (fun x4 w4 next4 =>
     readK Try.prog (sBlt .len #[T_s_erratalaw47_Op] T_int #[false] #[l0]) w4 fun t27 =>
     pureK Try.prog (sBin .lss T_int (.tmp 25) (.tmp 27) x4.1 t27) fun t28 =>
     ifB t28
     (LETJ (X := Unit) (fun y1 w5 =>
       pureK Try.prog (sBin .add T_int (.tmp 29) (.const (.int .i64 1)) x4.1 (.int .i64 1)) fun t30 =>
       next4 (t30, ()) w5)
      (fun J1 =>
       pureK Try.prog (sIdxAddr T_s_erratalaw47_Op l0 x4.1) fun t34 =>
       readK Try.prog (sLoad T_erratalaw47_Op t34) w4 fun t35 =>
       upK Try.prog (sCall F_erratalaw47_state_step #[t24, t35]) w4 fun t36 w6 =>
       pureK Try.prog (sNil t24) fun t38 =>
       pureK Try.prog (sFieldAddr T_erratalaw47_state t38 0) fun t39 =>
       readK Try.prog (sLoad T_s_api_Replacement t39) w6 fun t40 =>
       upK Try.prog (sCall F_replace_Right #[t40]) w6 fun t41 w7 =>
       pureK Try.prog (sUn .not t41) fun t42 =>
       ifB t42
       (K (.bool false) w7)
       (pureK Try.prog (sNil t24) fun t45 =>
        pureK Try.prog (sFieldAddr T_erratalaw47_state t45 1) fun t46 =>
        readK Try.prog (sLoad T_s_api_Seg t46) w7 fun t47 =>
        upK Try.prog (sCall F_timeline_Right #[t47]) w7 fun t48 w8 =>
        pureK Try.prog (sUn .not t48) fun t49 =>
        ifB t49
        (K (.bool false) w8)
        (LOOP (X := Value × Unit) (fun x9 w9 next9 =>
          readK Try.prog (sBlt .len #[T_s_int] T_int #[false] #[times1]) w9 fun t53 =>
          pureK Try.prog (sBin .lss T_int (.tmp 51) (.tmp 53) x9.1 t53) fun t54 =>
          ifB t54
          (LETJ (X := Unit) (fun y2 w10 =>
            pureK Try.prog (sBin .add T_int (.tmp 55) (.const (.int .i64 1)) x9.1 (.int .i64 1)) fun t56 =>
            next9 (t56, ()) w10)
           (fun J2 =>
            LOOP (X := Value × Value × Unit) (fun x11 w11 next11 =>
             pureK Try.prog (sNil t24) fun t59 =>
             pureK Try.prog (sFieldAddr T_erratalaw47_state t59 0) fun t60 =>
             readK Try.prog (sLoad T_s_api_Replacement t60) w11 fun t61 =>
             readK Try.prog (sBlt .len #[T_s_api_Replacement] T_int #[false] #[t61]) w11 fun t62 =>
             pureK Try.prog (sBin .lss T_int (.tmp 57) (.tmp 62) x11.2.1 t62) fun t63 =>
             ifB t63
             (LETJ (X := Value × Unit) (fun y3 w12 =>
               pureK Try.prog (sBin .add T_int (.tmp 64) (.const (.int .i64 1)) x11.2.1 (.int .i64 1)) fun t65 =>
               next11 (y3.1, t65, ()) w12)
              (fun J3 =>
               pureK Try.prog (sNil t24) fun t67 =>
               pureK Try.prog (sFieldAddr T_erratalaw47_state t67 0) fun t68 =>
               readK Try.prog (sLoad T_s_api_Replacement t68) (tick w11) fun t69 =>
               pureK Try.prog (sIdxAddr T_s_api_Replacement t69 x11.2.1) fun t71 =>
               pureK Try.prog (sFieldAddr T_api_Replacement t71 4) fun t72 =>
               readK Try.prog (sLoad T_int t72) (tick w11) fun t73 =>
               pureK Try.prog (sBin .eql T_int (.tmp 73) (.const (.int .i64 3)) t73 (.int .i64 3)) fun t74 =>
               ifB t74
               (pureK Try.prog (sNil t24) fun t77 =>
                pureK Try.prog (sFieldAddr T_erratalaw47_state t77 0) fun t78 =>
                readK Try.prog (sLoad T_s_api_Replacement t78) (tick w11) fun t79 =>
                pureK Try.prog (sIdxAddr T_s_api_Replacement t79 x11.2.1) fun t81 =>
                pureK Try.prog (sFieldAddr T_api_Replacement t81 1) fun t82 =>
                readK Try.prog (sLoad T_int t82) (tick w11) fun t83 =>
                pureK Try.prog (sIdxAddr T_s_int times1 x9.1) fun t86 =>
                readK Try.prog (sLoad T_int t86) (tick w11) fun t87 =>
                pureK Try.prog (sBlt .max #[T_int, T_int] T_int #[false, true] #[t87, (.int .i64 0)]) fun t88 =>
                pureK Try.prog (sBin .leq T_int (.tmp 83) (.tmp 88) t83 t88) fun t89 =>
                ifB t89
                (pureK Try.prog (sNil t24) fun t92 =>
                 pureK Try.prog (sFieldAddr T_erratalaw47_state t92 0) fun t93 =>
                 readK Try.prog (sLoad T_s_api_Replacement t93) (tick w11) fun t94 =>
                 pureK Try.prog (sIdxAddr T_s_api_Replacement t94 x11.2.1) fun t96 =>
                 pureK Try.prog (sFieldAddr T_api_Replacement t96 2) fun t97 =>
                 readK Try.prog (sLoad T_int t97) (tick w11) fun t98 =>
                 J3 (t98, ()) (tick w11))
                (J3 (x11.1, ()) (tick w11)))
               (J3 (x11.1, ()) (tick w11))))
             (pureK Try.prog (sNil t24) fun t100 =>
              pureK Try.prog (sFieldAddr T_erratalaw47_state t100 1) fun t101 =>
              readK Try.prog (sLoad T_s_api_Seg t101) (tick w11) fun t102 =>
              pureK Try.prog (sIdxAddr T_s_int times1 x9.1) fun t105 =>
              readK Try.prog (sLoad T_int t105) (tick w11) fun t106 =>
              upK Try.prog (sCall F_timeline_At #[t102, t106]) (tick w11) fun t107 w13 =>
              pureK Try.prog (sBin .neq T_int (.tmp 107) (.tmp 108) t107 x11.1) fun t109 =>
              ifB t109
              (K (.bool false) w13)
              (J2 (()) w13)))
            ((.int .i64 1), (.int .i64 0), ()) w9))
          (J1 (()) w9))
         ((.int .i64 0), ()) w8))))
     (K t11 w4))
    ((.int .i64 0), ()) w3))
theorem erratalaw47_ReplaceTimeline.pt_eq : erratalaw47_ReplaceTimeline.pt = fun l0 times1 w K => FN Try.prog Try.f5 (bodyOf Try.f5) [4] (.node none .leaf (.node none .leaf (.node none .leaf (.node none .leaf (.node none (.node none .leaf (.node none (.node none (.node none .leaf (.node (some []) (.node none (.node none .leaf (.node none .leaf (.node none .leaf (.node none (.node none (.node none .leaf (.node (some []) (.node none (.node none .leaf (.node none (.node none .leaf (.node none (.node none (.node none .leaf (.node (some [9]) .leaf .leaf)) .leaf) .leaf)) .leaf)) .leaf) .leaf)) .leaf) .leaf)))) .leaf) .leaf)) .leaf) .leaf)) .leaf))))) [l0, times1] w K := by kernel_rfl
theorem erratalaw47_ReplaceTimeline.call {l0 times1 : Value} {w : World} {K : Value → World → Prop} (h : erratalaw47_ReplaceTimeline.pt l0 times1 w K) : Calls Try.prog F_erratalaw47_ReplaceTimeline #[l0, times1] w (retK K) :=
  calls_FN (args := [l0, times1]) Try.func5 (by kernel_rfl) (by rw [erratalaw47_ReplaceTimeline.pt_eq] at h; exact h)
theorem erratalaw47_ReplaceTimeline.up {l0 times1 : Value} {w : World} {K : Value → World → Prop} (h : Calls Try.prog F_erratalaw47_ReplaceTimeline #[l0, times1] w (retK K)) : upK Try.prog (sCall F_erratalaw47_ReplaceTimeline #[l0, times1]) w K :=
  up_call (fn := Try.f5) Try.func5 (by kernel_rfl) (by kernel_rfl) h

/-- errata/erratalaw47.ReplaceStays -/
def erratalaw47_ReplaceStays.pt (l0 closed1 : Value) (w : World) (K : Value → World → Prop) : Prop :=
  upK Try.prog (sCall F_erratalaw47_small #[]) w fun t17 w1 =>
  readK Try.prog (sBlt .len #[T_s_erratalaw47_Op] T_int #[false] #[l0]) w1 fun t19 =>
  pureK Try.prog (sBin .gtr T_int (.tmp 19) (.const (.int .i64 80)) t19 (.int .i64 80)) fun t20 =>
  ifB t20
  (K t17 w1)
  (pureK Try.prog (sBuild T_api_Seg #[(1, (.int .i64 1))]) fun t22 =>
   upK Try.prog (sBuildSlice T_s_api_Seg 1 #[(0, t22)]) w1 fun t23 w2 =>
   pureK Try.prog (sBuild T_erratalaw47_state #[(1, t23)]) fun t24 =>
   upK Try.prog (sBox T_erratalaw47_state t24) w2 fun t25 w3 =>
   LOOP (X := Value × Unit) (fun x4 w4 next4 =>
    readK Try.prog (sBlt .len #[T_s_erratalaw47_Op] T_int #[false] #[l0]) w4 fun t28 =>
    pureK Try.prog (sBin .lss T_int (.tmp 26) (.tmp 28) x4.1 t28) fun t29 =>
    ifB t29
    (LETJ (X := Unit) (fun y1 w5 =>
      pureK Try.prog (sBin .add T_int (.tmp 30) (.const (.int .i64 1)) x4.1 (.int .i64 1)) fun t31 =>
      next4 (t31, ()) w5)
     (fun J1 =>
      pureK Try.prog (sNil t25) fun t33 =>
      pureK Try.prog (sFieldAddr T_erratalaw47_state t33 0) fun t34 =>
      readK Try.prog (sLoad T_s_api_Replacement t34) w4 fun t35 =>
      pureK Try.prog (sIdxAddr T_s_erratalaw47_Op l0 x4.1) fun t39 =>
      readK Try.prog (sLoad T_erratalaw47_Op t39) w4 fun t40 =>
      upK Try.prog (sCall F_erratalaw47_state_step #[t25, t40]) w4 fun t41 w6 =>
      pureK Try.prog (sNil t25) fun t43 =>
      pureK Try.prog (sFieldAddr T_erratalaw47_state t43 0) fun t44 =>
      readK Try.prog (sLoad T_s_api_Replacement t44) w6 fun t45 =>
      readK Try.prog (sBlt .len #[T_s_api_Replacement] T_int #[false] #[t45]) w6 fun t46 =>
      readK Try.prog (sBlt .len #[T_s_api_Replacement] T_int #[false] #[t35]) w6 fun t48 =>
      pureK Try.prog (sBin .lss T_int (.tmp 46) (.tmp 48) t46 t48) fun t49 =>
      ifB t49
      (K (.bool false) w6)
      (pureK Try.prog (sNil t25) fun t52 =>
       pureK Try.prog (sFieldAddr T_erratalaw47_state t52 0) fun t53 =>
       readK Try.prog (sLoad T_s_api_Replacement t53) w6 fun t54 =>
       readK Try.prog (sBlt .len #[T_s_api_Replacement] T_int #[false] #[t54]) w6 fun t55 =>
       readK Try.prog (sBlt .len #[T_s_api_Replacement] T_int #[false] #[t35]) w6 fun t57 =>
       pureK Try.prog (sBin .add T_int (.tmp 57) (.const (.int .i64 1)) t57 (.int .i64 1)) fun t58 =>
       pureK Try.prog (sBin .gtr T_int (.tmp 55) (.tmp 58) t55 t58) fun t59 =>
       ifB t59
       (K (.bool false) w6)
       (LOOP (X := Value × Value × Unit) (fun x7 w7 next7 =>
         readK Try.prog (sBlt .len #[T_s_api_Replacement] T_int #[false] #[t35]) w7 fun t63 =>
         pureK Try.prog (sBin .lss T_int (.tmp 61) (.tmp 63) x7.2.1 t63) fun t64 =>
         ifB t64
         (LETJ (X := Value × Unit) (fun y2 w8 =>
           pureK Try.prog (sBin .add T_int (.tmp 65) (.const (.int .i64 1)) x7.2.1 (.int .i64 1)) fun t66 =>
           next7 (y2.1, t66, ()) w8)
          (fun J2 =>
           pureK Try.prog (sIdxAddr T_s_api_Replacement t35 x7.2.1) fun t69 =>
           readK Try.prog (sLoad T_api_Replacement t69) w7 fun t70 =>
           upK Try.prog (sAlloc T_api_Replacement) w7 fun a11 w9 =>
           upK Try.prog (sStore T_api_Replacement a11 t70) w9 fun tu w10 =>
           pureK Try.prog (sNil t25) fun t72 =>
           pureK Try.prog (sFieldAddr T_erratalaw47_state t72 0) fun t73 =>
           readK Try.prog (sLoad T_s_api_Replacement t73) w10 fun t74 =>
           pureK Try.prog (sIdxAddr T_s_api_Replacement t74 x7.2.1) fun t76 =>
           readK Try.prog (sLoad T_api_Replacement t76) w10 fun t77 =>
           upK Try.prog (sAlloc T_api_Replacement) w10 fun b12 w11 =>
           upK Try.prog (sStore T_api_Replacement b12 t77) w11 fun tu_1 w12 =>
           LETJ (X := Unit) (fun y3 w13 =>
            LETJ (X := Unit) (fun y4 w14 =>
             ifB x7.1
             (pureK Try.prog (sFieldAddr T_api_Replacement a11 4) fun t142 =>
              readK Try.prog (sLoad T_int t142) w14 fun t143 =>
              pureK Try.prog (sBin .geq T_int (.tmp 143) (.const (.int .i64 3)) t143 (.int .i64 3)) fun t144 =>
              J2 (t144, ()) w14)
             (J2 ((.bool false), ()) w14))
            (fun J4 =>
             pureK Try.prog (sFieldAddr T_api_Replacement b12 5) fun t121 =>
             readK Try.prog (sLoad T_int t121) w13 fun t122 =>
             pureK Try.prog (sFieldAddr T_api_Replacement a11 5) fun t123 =>
             readK Try.prog (sLoad T_int t123) w13 fun t124 =>
             pureK Try.prog (sBin .gtr T_int (.tmp 122) (.tmp 124) t122 t124) fun t125 =>
             ifB t125
             (pureK Try.prog (sUn .not x7.1) fun t128 =>
              ifB t128
              (K (.bool false) w13)
              (pureK Try.prog (sFieldAddr T_api_Replacement a11 4) fun t130 =>
               readK Try.prog (sLoad T_int t130) w13 fun t131 =>
               pureK Try.prog (sBin .neq T_int (.tmp 131) (.const (.int .i64 1)) t131 (.int .i64 1)) fun t132 =>
               ifB t132
               (pureK Try.prog (sFieldAddr T_api_Replacement a11 4) fun t134 =>
                readK Try.prog (sLoad T_int t134) w13 fun t135 =>
                pureK Try.prog (sBin .neq T_int (.tmp 135) (.const (.int .i64 2)) t135 (.int .i64 2)) fun t136 =>
                ifB t136
                (K (.bool false) w13)
                (J4 (()) w13))
               (J4 (()) w13)))
             (J4 (()) w13)))
           (fun J3 =>
            pureK Try.prog (sFieldAddr T_api_Replacement a11 0) fun t78 =>
            readK Try.prog (sLoad T_int t78) w12 fun t79 =>
            pureK Try.prog (sFieldAddr T_api_Replacement b12 0) fun t80 =>
            readK Try.prog (sLoad T_int t80) w12 fun t81 =>
            pureK Try.prog (sBin .neq T_int (.tmp 79) (.tmp 81) t79 t81) fun t82 =>
            ifB t82
            (K (.bool false) w12)
            (pureK Try.prog (sFieldAddr T_api_Replacement a11 1) fun t84 =>
             readK Try.prog (sLoad T_int t84) w12 fun t85 =>
             pureK Try.prog (sFieldAddr T_api_Replacement b12 1) fun t86 =>
             readK Try.prog (sLoad T_int t86) w12 fun t87 =>
             pureK Try.prog (sBin .neq T_int (.tmp 85) (.tmp 87) t85 t87) fun t88 =>
             ifB t88
             (K (.bool false) w12)
             (pureK Try.prog (sFieldAddr T_api_Replacement a11 2) fun t91 =>
              readK Try.prog (sLoad T_int t91) w12 fun t92 =>
              pureK Try.prog (sFieldAddr T_api_Replacement b12 2) fun t93 =>
              readK Try.prog (sLoad T_int t93) w12 fun t94 =>
              pureK Try.prog (sBin .neq T_int (.tmp 92) (.tmp 94) t92 t94) fun t95 =>
              ifB t95
              (K (.bool false) w12)
              (pureK Try.prog (sFieldAddr T_api_Replacement a11 3) fun t98 =>
               readK Try.prog (sLoad T_int t98) w12 fun t99 =>
               pureK Try.prog (sFieldAddr T_api_Replacement b12 3) fun t100 =>
               readK Try.prog (sLoad T_int t100) w12 fun t101 =>
               pureK Try.prog (sBin .neq T_int (.tmp 99) (.tmp 101) t99 t101) fun t102 =>
               ifB t102
               (K (.bool false) w12)
               (pureK Try.prog (sFieldAddr T_api_Replacement b12 5) fun t105 =>
                readK Try.prog (sLoad T_int t105) w12 fun t106 =>
                pureK Try.prog (sFieldAddr T_api_Replacement a11 5) fun t107 =>
                readK Try.prog (sLoad T_int t107) w12 fun t108 =>
                pureK Try.prog (sBin .lss T_int (.tmp 106) (.tmp 108) t106 t108) fun t109 =>
                ifB t109
                (K (.bool false) w12)
                (pureK Try.prog (sFieldAddr T_api_Replacement a11 4) fun t112 =>
                 readK Try.prog (sLoad T_int t112) w12 fun t113 =>
                 pureK Try.prog (sBin .geq T_int (.tmp 113) (.const (.int .i64 3)) t113 (.int .i64 3)) fun t114 =>
                 ifB t114
                 (readK Try.prog (sLoad T_api_Replacement a11) w12 fun t116 =>
                  readK Try.prog (sLoad T_api_Replacement b12) w12 fun t117 =>
                  pureK Try.prog (sBin .neq T_api_Replacement (.tmp 116) (.tmp 117) t116 t117) fun t118 =>
                  ifB t118
                  (K (.bool false) w12)
                  (J3 (()) w12))
                 (J3 (()) w12)))))))))
         (pureK Try.prog (sNil t25) fun t147 =>
          pureK Try.prog (sFieldAddr T_erratalaw47_state t147 0) fun t148 =>
          readK Try.prog (sLoad T_s_api_Replacement t148) (tick w7) fun t149 =>
          pureK Try.prog (sNil t25) fun t151 =>
          pureK Try.prog (sFieldAddr T_erratalaw47_state t151 1) fun t152 =>
          readK Try.prog (sLoad T_s_api_Seg t152) (tick w7) fun t153 =>
          upK Try.prog (sCall F_replace_Needed #[t149, t153, closed1]) (tick w7) fun t155 w15 =>
          LOOP (X := Value × Unit) (fun x16 w16 next16 =>
           pureK Try.prog (sNil t25) fun t158 =>
           pureK Try.prog (sFieldAddr T_erratalaw47_state t158 0) fun t159 =>
           readK Try.prog (sLoad T_s_api_Replacement t159) w16 fun t160 =>
           readK Try.prog (sBlt .len #[T_s_api_Replacement] T_int #[false] #[t160]) w16 fun t161 =>
           pureK Try.prog (sBin .lss T_int (.tmp 156) (.tmp 161) x16.1 t161) fun t162 =>
           ifB t162
           (LETJ (X := Unit) (fun y5 w17 =>
             pureK Try.prog (sBin .add T_int (.tmp 163) (.const (.int .i64 1)) x16.1 (.int .i64 1)) fun t164 =>
             next16 (t164, ()) w17)
            (fun J5 =>
             pureK Try.prog (sNil t25) fun t166 =>
             pureK Try.prog (sFieldAddr T_erratalaw47_state t166 0) fun t167 =>
             readK Try.prog (sLoad T_s_api_Replacement t167) w16 fun t168 =>
             pureK Try.prog (sIdxAddr T_s_api_Replacement t168 x16.1) fun t170 =>
             pureK Try.prog (sFieldAddr T_api_Replacement t170 4) fun t171 =>
             readK Try.prog (sLoad T_int t171) w16 fun t172 =>
             pureK Try.prog (sBin .geq T_int (.tmp 172) (.const (.int .i64 3)) t172 (.int .i64 3)) fun t173 =>
             LOOP (X := Value × Value × Unit) (fun x18 w18 next18 =>
              readK Try.prog (sBlt .len #[T_s_int] T_int #[false] #[t155]) w18 fun t176 =>
              pureK Try.prog (sBin .lss T_int (.tmp 174) (.tmp 176) x18.2.1 t176) fun t177 =>
              ifB t177
              (LETJ (X := Value × Unit) (fun y6 w19 =>
                pureK Try.prog (sBin .add T_int (.tmp 178) (.const (.int .i64 1)) x18.2.1 (.int .i64 1)) fun t179 =>
                next18 (y6.1, t179, ()) w19)
               (fun J6 =>
                ifB x18.1
                (J6 ((.bool true), ()) (tick w18))
                (pureK Try.prog (sIdxAddr T_s_int t155 x18.2.1) fun t184 =>
                 readK Try.prog (sLoad T_int t184) (tick w18) fun t185 =>
                 pureK Try.prog (sNil t25) fun t187 =>
                 pureK Try.prog (sFieldAddr T_erratalaw47_state t187 0) fun t188 =>
                 readK Try.prog (sLoad T_s_api_Replacement t188) (tick w18) fun t189 =>
                 pureK Try.prog (sIdxAddr T_s_api_Replacement t189 x16.1) fun t191 =>
                 pureK Try.prog (sFieldAddr T_api_Replacement t191 2) fun t192 =>
                 readK Try.prog (sLoad T_int t192) (tick w18) fun t193 =>
                 pureK Try.prog (sBin .eql T_int (.tmp 185) (.tmp 193) t185 t193) fun t194 =>
                 J6 (t194, ()) (tick w18))))
              (pureK Try.prog (sUn .not x18.1) fun t197 =>
               ifB t197
               (K (.bool false) w18)
               (J5 (()) w18)))
             (t173, (.int .i64 0), ()) w16))
           (J1 (()) w16))
          ((.int .i64 0), ()) w15))
        ((.bool true), (.int .i64 0), ()) w6))))
    (K t17 w4))
   ((.int .i64 0), ()) w3)
theorem erratalaw47_ReplaceStays.pt_eq : erratalaw47_ReplaceStays.pt = fun l0 closed1 w K => FN Try.prog Try.f6 (bodyOf Try.f6) [4] (.node none .leaf (.node none .leaf (.node none .leaf (.node none .leaf (.node none (.node none .leaf (.node none (.node none (.node none .leaf (.node (some []) (.node none (.node none .leaf (.node none .leaf (.node none .leaf (.node none .leaf (.node none (.node none .leaf (.node none (.node none (.node none .leaf (.node (some [9]) (.node none (.node none .leaf (.node none .leaf (.node (some []) .leaf (.node (some []) .leaf .leaf)))) .leaf) .leaf)) .leaf) .leaf)) (.node none .leaf (.node none .leaf (.node none (.node none (.node none .leaf (.node (some []) (.node none (.node none .leaf (.node none (.node none .leaf (.node none (.node none (.node none .leaf (.node (some [15]) .leaf .leaf)) .leaf) .leaf)) .leaf)) .leaf) .leaf)) .leaf) .leaf)))))))) .leaf) .leaf)) .leaf) .leaf)) .leaf))))) [l0, closed1] w K := by kernel_rfl
theorem erratalaw47_ReplaceStays.call {l0 closed1 : Value} {w : World} {K : Value → World → Prop} (h : erratalaw47_ReplaceStays.pt l0 closed1 w K) : Calls Try.prog F_erratalaw47_ReplaceStays #[l0, closed1] w (retK K) :=
  calls_FN (args := [l0, closed1]) Try.func6 (by kernel_rfl) (by rw [erratalaw47_ReplaceStays.pt_eq] at h; exact h)
theorem erratalaw47_ReplaceStays.up {l0 closed1 : Value} {w : World} {K : Value → World → Prop} (h : Calls Try.prog F_erratalaw47_ReplaceStays #[l0, closed1] w (retK K)) : upK Try.prog (sCall F_erratalaw47_ReplaceStays #[l0, closed1]) w K :=
  up_call (fn := Try.f6) Try.func6 (by kernel_rfl) (by kernel_rfl) h

/-- errata/erratalaw47.small -/
def erratalaw47_small.pt (w : World) (K : Value → World → Prop) : Prop :=
  pureK Try.prog (sBuild T_api_Seg #[(1, (.int .i64 1))]) fun t19 =>
  upK Try.prog (sBuildSlice T_s_api_Seg 1 #[(0, t19)]) w fun t20 w1 =>
  upK Try.prog (sCall F_replace_Ask #[(.slice none 0 0), (.int .i64 100), (.int .i64 2), (.int .i64 10), (.int .i64 0), (.bool false)]) w1 fun t22 w2 =>
  pureK Try.prog (sExtract t22 0) fun t23 =>
  pureK Try.prog (sExtract t22 1) fun t24 =>
  pureK Try.prog (sExtract t22 2) fun t25 =>
  upK Try.prog (sCall F_replace_Ask #[t23, (.int .i64 200), (.int .i64 3), (.int .i64 0), (.int .i64 0), (.bool false)]) w2 fun t28 w3 =>
  pureK Try.prog (sExtract t28 0) fun t29 =>
  pureK Try.prog (sExtract t28 1) fun t30 =>
  pureK Try.prog (sExtract t28 2) fun t31 =>
  pureK Try.prog (sBin .neq T_api_Errno (.tmp 32) (.const (.int .i64 0)) t25 (.int .i64 0)) fun t33 =>
  ifB t33
  (K (.bool false) w3)
  (pureK Try.prog (sBin .neq T_api_Errno (.tmp 35) (.const (.int .i64 0)) t31 (.int .i64 0)) fun t36 =>
   ifB t36
   (K (.bool false) w3)
   (readK Try.prog (sBlt .len #[T_s_api_Replacement] T_int #[false] #[t23]) w3 fun t40 =>
    pureK Try.prog (sBin .neq T_int (.tmp 40) (.const (.int .i64 1)) t40 (.int .i64 1)) fun t41 =>
    ifB t41
    (K (.bool false) w3)
    (readK Try.prog (sBlt .len #[T_s_api_Replacement] T_int #[false] #[t29]) w3 fun t45 =>
     pureK Try.prog (sBin .neq T_int (.tmp 45) (.const (.int .i64 2)) t45 (.int .i64 2)) fun t46 =>
     ifB t46
     (K (.bool false) w3)
     (upK Try.prog (sCall F_replace_Caught #[t29, (.int .i64 2), (.bool true)]) w3 fun t50 w4 =>
      pureK Try.prog (sExtract t50 0) fun t51 =>
      pureK Try.prog (sExtract t50 1) fun t52 =>
      upK Try.prog (sCall F_replace_Cut #[t51, t20, (.int .i64 2)]) w4 fun t56 w5 =>
      pureK Try.prog (sExtract t56 0) fun t57 =>
      pureK Try.prog (sExtract t56 1) fun t58 =>
      pureK Try.prog (sExtract t56 2) fun t59 =>
      upK Try.prog (sCall F_replace_Ask #[t29, (.int .i64 50), (.int .i64 4), (.int .i64 0), (.int .i64 0), (.bool false)]) w5 fun t62 w6 =>
      pureK Try.prog (sExtract t62 0) fun t63 =>
      pureK Try.prog (sExtract t62 1) fun t64 =>
      pureK Try.prog (sExtract t62 2) fun t65 =>
      upK Try.prog (sCall F_replace_Ask #[(.slice none 0 0), (.int .i64 50), (.int .i64 4), (.int .i64 10), (.int .i64 45), (.bool false)]) w6 fun t67 w7 =>
      pureK Try.prog (sExtract t67 0) fun t68 =>
      pureK Try.prog (sExtract t67 1) fun t69 =>
      pureK Try.prog (sExtract t67 2) fun t70 =>
      readK Try.prog (sBlt .len #[T_s_api_Replacement] T_int #[false] #[t63]) w7 fun t72 =>
      pureK Try.prog (sBin .neq T_int (.tmp 72) (.const (.int .i64 3)) t72 (.int .i64 3)) fun t73 =>
      ifB t73
      (K (.bool false) w7)
      (pureK Try.prog (sBin .eql T_int (.tmp 74) (.const (.int .i64 100)) t24 (.int .i64 100)) fun t75 =>
       ifB t75
       (pureK Try.prog (sIdxAddr T_s_api_Replacement t23 (.int .i64 0)) fun t78 =>
        pureK Try.prog (sFieldAddr T_api_Replacement t78 3) fun t79 =>
        readK Try.prog (sLoad T_int t79) w7 fun t80 =>
        pureK Try.prog (sBin .eql T_int (.tmp 80) (.const (.int .i64 90)) t80 (.int .i64 90)) fun t81 =>
        ifB t81
        (pureK Try.prog (sBin .eql T_api_Errno (.tmp 84) (.const (.int .i64 25)) t59 (.int .i64 25)) fun t85 =>
         ifB t85
         (pureK Try.prog (sIdxAddr T_s_api_Replacement t63 (.int .i64 0)) fun t89 =>
          pureK Try.prog (sFieldAddr T_api_Replacement t89 4) fun t90 =>
          readK Try.prog (sLoad T_int t90) w7 fun t91 =>
          pureK Try.prog (sBin .eql T_int (.tmp 91) (.const (.int .i64 5)) t91 (.int .i64 5)) fun t92 =>
          ifB t92
          (pureK Try.prog (sIdxAddr T_s_api_Replacement t63 (.int .i64 1)) fun t96 =>
           pureK Try.prog (sFieldAddr T_api_Replacement t96 4) fun t97 =>
           readK Try.prog (sLoad T_int t97) w7 fun t98 =>
           pureK Try.prog (sBin .eql T_int (.tmp 98) (.const (.int .i64 5)) t98 (.int .i64 5)) fun t99 =>
           ifB t99
           (pureK Try.prog (sIdxAddr T_s_api_Replacement t63 (.int .i64 2)) fun t103 =>
            pureK Try.prog (sFieldAddr T_api_Replacement t103 4) fun t104 =>
            readK Try.prog (sLoad T_int t104) w7 fun t105 =>
            pureK Try.prog (sBin .eql T_int (.tmp 105) (.const (.int .i64 0)) t105 (.int .i64 0)) fun t106 =>
            ifB t106
            (pureK Try.prog (sBin .eql T_api_Errno (.tmp 109) (.const (.int .i64 23)) t70 (.int .i64 23)) fun t110 =>
             ifB t110
             (pureK Try.prog (sBin .eql T_int (.tmp 113) (.const (.int .i64 55)) t69 (.int .i64 55)) fun t114 =>
              K t114 w7)
             (K (.bool false) w7))
            (K (.bool false) w7))
           (K (.bool false) w7))
          (K (.bool false) w7))
         (K (.bool false) w7))
        (K (.bool false) w7))
       (K (.bool false) w7))))))
theorem erratalaw47_small.pt_eq : erratalaw47_small.pt = fun  w K => FN Try.prog Try.f7 (bodyOf Try.f7) [0] .leaf [] w K := by kernel_rfl
theorem erratalaw47_small.call {w : World} {K : Value → World → Prop} (h : erratalaw47_small.pt  w K) : Calls Try.prog F_erratalaw47_small #[] w (retK K) :=
  calls_FN (args := []) Try.func7 (by kernel_rfl) (by rw [erratalaw47_small.pt_eq] at h; exact h)
theorem erratalaw47_small.up {w : World} {K : Value → World → Prop} (h : Calls Try.prog F_erratalaw47_small #[] w (retK K)) : upK Try.prog (sCall F_erratalaw47_small #[]) w K :=
  up_call (fn := Try.f7) Try.func7 (by kernel_rfl) (by kernel_rfl) h

/-- (*errata/erratalaw47.state).step -/
def erratalaw47_state_step.pt (s0 o1 : Value) (w : World) (K : Value → World → Prop) : Prop :=
  upK Try.prog (sBox T_erratalaw47_Op o1) w fun o3 w1 =>
  pureK Try.prog (sNil s0) fun t11 =>
  pureK Try.prog (sFieldAddr T_erratalaw47_state t11 0) fun t12 =>
  readK Try.prog (sLoad T_s_api_Replacement t12) w1 fun t13 =>
  pureK Try.prog (sNil s0) fun t15 =>
  pureK Try.prog (sFieldAddr T_erratalaw47_state t15 1) fun t16 =>
  readK Try.prog (sLoad T_s_api_Seg t16) w1 fun t17 =>
  LETJ (X := Value × Value × Value × Value × Unit) (fun y1 w2 =>
   LETJ (X := Unit) (fun y2 w3 =>
    K (.tuple #[y1.2.1, y1.2.2.1]) w3)
   (fun J2 =>
    pureK Try.prog (sBin .eql T_api_Errno (.tmp 84) (.const (.int .i64 0)) y1.2.2.1 (.int .i64 0)) fun t85 =>
    ifB t85
    (pureK Try.prog (sNil s0) fun t88 =>
     pureK Try.prog (sFieldAddr T_erratalaw47_state t88 0) fun t89 =>
     upK Try.prog (sStore T_s_api_Replacement t89 y1.1) w2 fun tu w4 =>
     pureK Try.prog (sNil s0) fun t92 =>
     pureK Try.prog (sFieldAddr T_erratalaw47_state t92 1) fun t93 =>
     upK Try.prog (sStore T_s_api_Seg t93 y1.2.2.2.1) w4 fun tu_1 w5 =>
     J2 (()) w5)
    (J2 (()) w2)))
  (fun J1 =>
   pureK Try.prog (sFieldAddr T_erratalaw47_Op o3 0) fun t18 =>
   readK Try.prog (sLoad T_int t18) w1 fun t19 =>
   pureK Try.prog (sBin .and T_int (.tmp 19) (.const (.int .i64 7)) t19 (.int .i64 7)) fun t20 =>
   LETJ (X := Value × Unit) (fun y3 w6 =>
    ifB y3.1
    (pureK Try.prog (sNil s0) fun t41 =>
     pureK Try.prog (sFieldAddr T_erratalaw47_state t41 0) fun t42 =>
     readK Try.prog (sLoad T_s_api_Replacement t42) (tick w6) fun t43 =>
     pureK Try.prog (sFieldAddr T_erratalaw47_Op o3 2) fun t44 =>
     readK Try.prog (sLoad T_int t44) (tick w6) fun t45 =>
     pureK Try.prog (sFieldAddr T_erratalaw47_Op o3 3) fun t46 =>
     readK Try.prog (sLoad T_int t46) (tick w6) fun t47 =>
     pureK Try.prog (sFieldAddr T_erratalaw47_Op o3 4) fun t48 =>
     readK Try.prog (sLoad T_int t48) (tick w6) fun t49 =>
     pureK Try.prog (sFieldAddr T_erratalaw47_Op o3 5) fun t50 =>
     readK Try.prog (sLoad T_int t50) (tick w6) fun t51 =>
     pureK Try.prog (sFieldAddr T_erratalaw47_Op o3 6) fun t52 =>
     readK Try.prog (sLoad T_bool t52) (tick w6) fun t53 =>
     upK Try.prog (sCall F_replace_Ask #[t43, t45, t47, t49, t51, t53]) (tick w6) fun t54 w7 =>
     pureK Try.prog (sExtract t54 0) fun t55 =>
     pureK Try.prog (sExtract t54 1) fun t56 =>
     pureK Try.prog (sExtract t54 2) fun t57 =>
     J1 (t55, t56, t57, t17, ()) w7)
    (pureK Try.prog (sBin .eql T_int (.tmp 20) (.const (.int .i64 2)) t20 (.int .i64 2)) fun t59 =>
     ifB t59
     (pureK Try.prog (sNil s0) fun t62 =>
      pureK Try.prog (sFieldAddr T_erratalaw47_state t62 0) fun t63 =>
      readK Try.prog (sLoad T_s_api_Replacement t63) (tick w6) fun t64 =>
      pureK Try.prog (sFieldAddr T_erratalaw47_Op o3 1) fun t65 =>
      readK Try.prog (sLoad T_int t65) (tick w6) fun t66 =>
      upK Try.prog (sCall F_replace_Abandon #[t64, t66]) (tick w6) fun t67 w8 =>
      pureK Try.prog (sExtract t67 0) fun t68 =>
      pureK Try.prog (sExtract t67 1) fun t69 =>
      J1 (t68, (.int .i64 0), t69, t17, ()) w8)
     (pureK Try.prog (sBin .eql T_int (.tmp 20) (.const (.int .i64 3)) t20 (.int .i64 3)) fun t71 =>
      ifB t71
      (pureK Try.prog (sNil s0) fun t74 =>
       pureK Try.prog (sFieldAddr T_erratalaw47_state t74 0) fun t75 =>
       readK Try.prog (sLoad T_s_api_Replacement t75) (tick w6) fun t76 =>
       pureK Try.prog (sFieldAddr T_erratalaw47_Op o3 1) fun t77 =>
       readK Try.prog (sLoad T_int t77) (tick w6) fun t78 =>
       pureK Try.prog (sFieldAddr T_erratalaw47_Op o3 6) fun t79 =>
       readK Try.prog (sLoad T_bool t79) (tick w6) fun t80 =>
       upK Try.prog (sCall F_replace_Caught #[t76, t78, t80]) (tick w6) fun t81 w9 =>
       pureK Try.prog (sExtract t81 0) fun t82 =>
       pureK Try.prog (sExtract t81 1) fun t83 =>
       J1 (t82, (.int .i64 0), t83, t17, ()) w9)
      (pureK Try.prog (sNil s0) fun t23 =>
       pureK Try.prog (sFieldAddr T_erratalaw47_state t23 0) fun t24 =>
       readK Try.prog (sLoad T_s_api_Replacement t24) (tick w6) fun t25 =>
       pureK Try.prog (sNil s0) fun t27 =>
       pureK Try.prog (sFieldAddr T_erratalaw47_state t27 1) fun t28 =>
       readK Try.prog (sLoad T_s_api_Seg t28) (tick w6) fun t29 =>
       pureK Try.prog (sFieldAddr T_erratalaw47_Op o3 1) fun t30 =>
       readK Try.prog (sLoad T_int t30) (tick w6) fun t31 =>
       upK Try.prog (sCall F_replace_Cut #[t25, t29, t31]) (tick w6) fun t32 w10 =>
       pureK Try.prog (sExtract t32 0) fun t33 =>
       pureK Try.prog (sExtract t32 1) fun t34 =>
       pureK Try.prog (sExtract t32 2) fun t35 =>
       J1 (t33, (.int .i64 0), t35, t34, ()) w10))))
   (fun J3 =>
    pureK Try.prog (sBin .eql T_int (.tmp 20) (.const (.int .i64 0)) t20 (.int .i64 0)) fun t37 =>
    ifB t37
    (J3 (t37, ()) w1)
    (pureK Try.prog (sBin .eql T_int (.tmp 20) (.const (.int .i64 1)) t20 (.int .i64 1)) fun t38 =>
     J3 (t38, ()) w1)))
theorem erratalaw47_state_step.pt_eq : erratalaw47_state_step.pt = fun s0 o1 w K => FN Try.prog Try.f8 (bodyOf Try.f8) [4, 5] (.node none .leaf (.node none .leaf (.node none .leaf (.node none .leaf (.node none .leaf (.node (some [8, 6, 7, 9]) (.node none .leaf (.node none (.node (some [36]) .leaf .leaf) .leaf)) (.node (some []) .leaf .leaf))))))) [s0, o1] w K := by kernel_rfl
theorem erratalaw47_state_step.call {s0 o1 : Value} {w : World} {K : Value → World → Prop} (h : erratalaw47_state_step.pt s0 o1 w K) : Calls Try.prog F_erratalaw47_state_step #[s0, o1] w (retK K) :=
  calls_FN (args := [s0, o1]) Try.func8 (by kernel_rfl) (by rw [erratalaw47_state_step.pt_eq] at h; exact h)
theorem erratalaw47_state_step.up {s0 o1 : Value} {w : World} {K : Value → World → Prop} (h : Calls Try.prog F_erratalaw47_state_step #[s0, o1] w (retK K)) : upK Try.prog (sCall F_erratalaw47_state_step #[s0, o1]) w K :=
  up_call (fn := Try.f8) Try.func8 (by kernel_rfl) (by kernel_rfl) h

/-- errata/replace.Ask -/
def replace_Ask.pt (l0 from1 version2 back3 horizon4 raise5 : Value) (w : World) (K : Value → World → Prop) : Prop :=
  upK Try.prog (sCall F_replace_within #[from1, (.int .i64 0), (.int .i64 1099511627776)]) w fun t22 w1 =>
  pureK Try.prog (sUn .not t22) fun t23 =>
  ifB t23
  (K (.tuple #[(.slice none 0 0), (.int .i64 0), (.int .i64 3)]) w1)
  (upK Try.prog (sCall F_replace_within #[version2, (.int .i64 1), (.int .i64 50)]) w1 fun t26 w2 =>
   pureK Try.prog (sUn .not t26) fun t27 =>
   ifB t27
   (K (.tuple #[(.slice none 0 0), (.int .i64 0), (.int .i64 3)]) w2)
   (upK Try.prog (sCall F_replace_within #[back3, (.int .i64 0), (.int .i64 1099511627776)]) w2 fun t31 w3 =>
    pureK Try.prog (sUn .not t31) fun t32 =>
    ifB t32
    (K (.tuple #[(.slice none 0 0), (.int .i64 0), (.int .i64 3)]) w3)
    (upK Try.prog (sCall F_replace_within #[horizon4, (.int .i64 0), (.int .i64 1099511627776)]) w3 fun t36 w4 =>
     pureK Try.prog (sUn .not t36) fun t37 =>
     ifB t37
     (K (.tuple #[(.slice none 0 0), (.int .i64 0), (.int .i64 3)]) w4)
     (LETJ (X := Unit) (fun y1 w5 =>
       LETJ (X := Value × Unit) (fun y2 w6 =>
        upK Try.prog (sCall F_slices_Clone_s_api_Replacement_api_Replacement #[l0]) w6 fun t69 w7 =>
        readK Try.prog (sBlt .len #[T_s_api_Replacement] T_int #[false] #[t69]) w7 fun t71 =>
        LOOP (X := Value × Unit) (fun x8 w8 next8 =>
         pureK Try.prog (sBin .lss T_int (.tmp 72) (.tmp 71) x8.1 t71) fun t73 =>
         ifB t73
         (LETJ (X := Unit) (fun y3 w9 =>
           pureK Try.prog (sBin .add T_int (.tmp 72) (.const (.int .i64 1)) x8.1 (.int .i64 1)) fun t89 =>
           next8 (t89, ()) w9)
          (fun J3 =>
           pureK Try.prog (sIdxAddr T_s_api_Replacement t69 x8.1) fun t75 =>
           readK Try.prog (sLoad T_api_Replacement t75) w8 fun t76 =>
           upK Try.prog (sAlloc T_api_Replacement) w8 fun r20 w10 =>
           upK Try.prog (sStore T_api_Replacement r20 t76) w10 fun tu w11 =>
           readK Try.prog (sLoad T_api_Replacement r20) w11 fun t77 =>
           upK Try.prog (sCall F_replace_open #[t77]) w11 fun t78 w12 =>
           ifB t78
           (pureK Try.prog (sFieldAddr T_api_Replacement r20 1) fun t80 =>
            readK Try.prog (sLoad T_int t80) w12 fun t81 =>
            pureK Try.prog (sBin .geq T_int (.tmp 81) (.tmp 82) t81 y2.1) fun t83 =>
            ifB t83
            (pureK Try.prog (sIdxAddr T_s_api_Replacement t69 x8.1) fun t87 =>
             pureK Try.prog (sFieldAddr T_api_Replacement t87 4) fun t88 =>
             upK Try.prog (sStore T_int t88 (.int .i64 5)) w12 fun tu_1 w13 =>
             J3 (()) w13)
            (J3 (()) w12))
           (J3 (()) w12)))
         (upK Try.prog (sCall F_replace_Open #[t69]) w8 fun t91 w14 =>
          readK Try.prog (sBlt .len #[T_s_api_Replacement] T_int #[false] #[t91]) w14 fun t92 =>
          pureK Try.prog (sBin .geq T_int (.tmp 92) (.const (.int .i64 3)) t92 (.int .i64 3)) fun t93 =>
          ifB t93
          (K (.tuple #[(.slice none 0 0), (.int .i64 0), (.int .i64 6)]) w14)
          (readK Try.prog (sBlt .len #[T_s_api_Replacement] T_int #[false] #[l0]) w14 fun t96 =>
           pureK Try.prog (sBin .add T_int (.tmp 96) (.const (.int .i64 1)) t96 (.int .i64 1)) fun t97 =>
           pureK Try.prog (sBin .sub T_int (.tmp 100) (.tmp 101) y2.1 back3) fun t102 =>
           pureK Try.prog (sBlt .max #[T_int, T_int] T_int #[true, false] #[(.int .i64 0), t102]) fun t103 =>
           pureK Try.prog (sBuild T_api_Replacement #[(0, t97), (1, y2.1), (2, version2), (3, t103)]) fun t104 =>
           upK Try.prog (sBuildSlice T_s_api_Replacement 1 #[(0, t104)]) w14 fun t105 w15 =>
           upK Try.prog (sBlt .append #[T_s_api_Replacement, T_s_api_Replacement] T_s_api_Replacement #[false, false] #[t69, t105]) w15 fun t106 w16 =>
           K (.tuple #[t106, y2.1, (.int .i64 0)]) w16)))
        ((.int .i64 0), ()) w7)
       (fun J2 =>
        pureK Try.prog (sBin .add T_int (.tmp 50) (.tmp 51) horizon4 back3) fun t52 =>
        pureK Try.prog (sBin .gtr T_int (.tmp 53) (.const (.int .i64 0)) horizon4 (.int .i64 0)) fun t54 =>
        ifB t54
        (pureK Try.prog (sBin .lss T_int (.tmp 56) (.tmp 57) from1 t52) fun t58 =>
         ifB t58
         (pureK Try.prog (sUn .not raise5) fun t61 =>
          ifB t61
          (K (.tuple #[(.slice none 0 0), t52, (.int .i64 23)]) w5)
          (pureK Try.prog (sBin .gtr T_int (.tmp 63) (.const (.int .i64 1099511627776)) t52 (.int .i64 1099511627776)) fun t64 =>
           ifB t64
           (K (.tuple #[(.slice none 0 0), t52, (.int .i64 23)]) w5)
           (J2 (t52, ()) w5)))
         (J2 (from1, ()) w5))
        (J2 (from1, ()) w5)))
      (fun J1 =>
       upK Try.prog (sCall F_replace_first #[l0]) w4 fun t41 w17 =>
       pureK Try.prog (sExtract t41 0) fun t42 =>
       pureK Try.prog (sExtract t41 1) fun t43 =>
       upK Try.prog (sAlloc T_api_Replacement) w17 fun r15 w18 =>
       upK Try.prog (sStore T_api_Replacement r15 t42) w18 fun tu_2 w19 =>
       ifB t43
       (pureK Try.prog (sFieldAddr T_api_Replacement r15 4) fun t46 =>
        readK Try.prog (sLoad T_int t46) w19 fun t47 =>
        pureK Try.prog (sBin .eql T_int (.tmp 47) (.const (.int .i64 2)) t47 (.int .i64 2)) fun t48 =>
        ifB t48
        (K (.tuple #[(.slice none 0 0), (.int .i64 0), (.int .i64 8)]) w19)
        (J1 (()) w19))
       (J1 (()) w19))))))
theorem replace_Ask.pt_eq : replace_Ask.pt = fun l0 from1 version2 back3 horizon4 raise5 w K => FN Try.prog Try.f9 (bodyOf Try.f9) [12, 13, 14] (.node none .leaf (.node none .leaf (.node (some []) .leaf (.node (some [1]) .leaf (.node none .leaf (.node none (.node none .leaf (.node none (.node none (.node none .leaf (.node none .leaf (.node (some []) .leaf .leaf))) .leaf) .leaf)) .leaf)))))) [l0, from1, version2, back3, horizon4, raise5] w K := by kernel_rfl
theorem replace_Ask.call {l0 from1 version2 back3 horizon4 raise5 : Value} {w : World} {K : Value → World → Prop} (h : replace_Ask.pt l0 from1 version2 back3 horizon4 raise5 w K) : Calls Try.prog F_replace_Ask #[l0, from1, version2, back3, horizon4, raise5] w (retK K) :=
  calls_FN (args := [l0, from1, version2, back3, horizon4, raise5]) Try.func9 (by kernel_rfl) (by rw [replace_Ask.pt_eq] at h; exact h)
theorem replace_Ask.up {l0 from1 version2 back3 horizon4 raise5 : Value} {w : World} {K : Value → World → Prop} (h : Calls Try.prog F_replace_Ask #[l0, from1, version2, back3, horizon4, raise5] w (retK K)) : upK Try.prog (sCall F_replace_Ask #[l0, from1, version2, back3, horizon4, raise5]) w K :=
  up_call (fn := Try.f9) Try.func9 (by kernel_rfl) (by kernel_rfl) h

/-- errata/replace.Side -/
def replace_Side.pt (l0 t1 time2 bucket3 : Value) (w : World) (K : Value → World → Prop) : Prop :=
  LETJ (X := Unit) (fun y1 w1 =>
   upK Try.prog (sCall F_timeline_At #[t1, time2]) w1 fun t38 w2 =>
   K t38 w2)
  (fun J1 =>
   upK Try.prog (sCall F_replace_first #[l0]) w fun t13 w3 =>
   pureK Try.prog (sExtract t13 0) fun t14 =>
   pureK Try.prog (sExtract t13 1) fun t15 =>
   upK Try.prog (sAlloc T_api_Replacement) w3 fun r9 w4 =>
   upK Try.prog (sStore T_api_Replacement r9 t14) w4 fun tu w5 =>
   ifB t15
   (pureK Try.prog (sFieldAddr T_api_Replacement r9 4) fun t18 =>
    readK Try.prog (sLoad T_int t18) w5 fun t19 =>
    pureK Try.prog (sBin .eql T_int (.tmp 19) (.const (.int .i64 2)) t19 (.int .i64 2)) fun t20 =>
    ifB t20
    (pureK Try.prog (sFieldAddr T_api_Replacement r9 1) fun t24 =>
     readK Try.prog (sLoad T_int t24) w5 fun t25 =>
     pureK Try.prog (sBin .geq T_int (.tmp 23) (.tmp 25) time2 t25) fun t26 =>
     ifB t26
     (pureK Try.prog (sFieldAddr T_api_Replacement r9 5) fun t30 =>
      readK Try.prog (sLoad T_int t30) w5 fun t31 =>
      pureK Try.prog (sBin .lss T_int (.tmp 29) (.tmp 31) bucket3 t31) fun t32 =>
      ifB t32
      (pureK Try.prog (sFieldAddr T_api_Replacement r9 2) fun t34 =>
       readK Try.prog (sLoad T_int t34) w5 fun t35 =>
       K t35 w5)
      (J1 (()) w5))
     (J1 (()) w5))
    (J1 (()) w5))
   (J1 (()) w5))
theorem replace_Side.pt_eq : replace_Side.pt = fun l0 t1 time2 bucket3 w K => FN Try.prog Try.f10 (bodyOf Try.f10) [8] (.node none .leaf (.node (some []) .leaf .leaf)) [l0, t1, time2, bucket3] w K := by kernel_rfl
theorem replace_Side.call {l0 t1 time2 bucket3 : Value} {w : World} {K : Value → World → Prop} (h : replace_Side.pt l0 t1 time2 bucket3 w K) : Calls Try.prog F_replace_Side #[l0, t1, time2, bucket3] w (retK K) :=
  calls_FN (args := [l0, t1, time2, bucket3]) Try.func10 (by kernel_rfl) (by rw [replace_Side.pt_eq] at h; exact h)
theorem replace_Side.up {l0 t1 time2 bucket3 : Value} {w : World} {K : Value → World → Prop} (h : Calls Try.prog F_replace_Side #[l0, t1, time2, bucket3] w (retK K)) : upK Try.prog (sCall F_replace_Side #[l0, t1, time2, bucket3]) w K :=
  up_call (fn := Try.f10) Try.func10 (by kernel_rfl) (by kernel_rfl) h

/-- errata/timeline.At -/
def timeline_At.pt (l0 time1 : Value) (w : World) (K : Value → World → Prop) : Prop :=
  upK Try.prog (sCall F_timeline_behind #[l0, time1]) w fun t8 w1 =>
  pureK Try.prog (sBlt .max #[T_int, T_int] T_int #[false, true] #[t8, (.int .i64 1)]) fun t9 =>
  pureK Try.prog (sBin .sub T_int (.tmp 9) (.const (.int .i64 1)) t9 (.int .i64 1)) fun t10 =>
  pureK Try.prog (sIdxAddr T_s_api_Seg l0 t10) fun t11 =>
  pureK Try.prog (sFieldAddr T_api_Seg t11 1) fun t12 =>
  readK Try.prog (sLoad T_int t12) w1 fun t13 =>
  K t13 w1
theorem timeline_At.pt_eq : timeline_At.pt = fun l0 time1 w K => FN Try.prog Try.f11 (bodyOf Try.f11) [4] .leaf [l0, time1] w K := by kernel_rfl
theorem timeline_At.call {l0 time1 : Value} {w : World} {K : Value → World → Prop} (h : timeline_At.pt l0 time1 w K) : Calls Try.prog F_timeline_At #[l0, time1] w (retK K) :=
  calls_FN (args := [l0, time1]) Try.func11 (by kernel_rfl) (by rw [timeline_At.pt_eq] at h; exact h)
theorem timeline_At.up {l0 time1 : Value} {w : World} {K : Value → World → Prop} (h : Calls Try.prog F_timeline_At #[l0, time1] w (retK K)) : upK Try.prog (sCall F_timeline_At #[l0, time1]) w K :=
  up_call (fn := Try.f11) Try.func11 (by kernel_rfl) (by kernel_rfl) h

/-- errata/replace.Right -/
def replace_Right.pt (l0 : Value) (w : World) (K : Value → World → Prop) : Prop :=
  readK Try.prog (sBlt .len #[T_s_api_Replacement] T_int #[false] #[l0]) w fun t8 =>
  LOOP (X := Value × Unit) (fun x1 w1 next1 =>
   pureK Try.prog (sBin .lss T_int (.tmp 9) (.tmp 8) x1.1 t8) fun t10 =>
   ifB t10
   (pureK Try.prog (sIdxAddr T_s_api_Replacement l0 x1.1) fun t12 =>
    readK Try.prog (sLoad T_api_Replacement t12) w1 fun t13 =>
    upK Try.prog (sAlloc T_api_Replacement) w1 fun r4 w2 =>
    upK Try.prog (sStore T_api_Replacement r4 t13) w2 fun tu w3 =>
    pureK Try.prog (sFieldAddr T_api_Replacement r4 0) fun t14 =>
    readK Try.prog (sLoad T_int t14) w3 fun t15 =>
    pureK Try.prog (sBin .add T_int (.tmp 16) (.const (.int .i64 1)) x1.1 (.int .i64 1)) fun t17 =>
    pureK Try.prog (sBin .neq T_int (.tmp 15) (.tmp 17) t15 t17) fun t18 =>
    ifB t18
    (K (.bool false) w3)
    (readK Try.prog (sLoad T_api_Replacement r4) w3 fun t20 =>
     upK Try.prog (sCall F_replace_right #[t20]) w3 fun t21 w4 =>
     pureK Try.prog (sUn .not t21) fun t22 =>
     ifB t22
     (K (.bool false) w4)
     (pureK Try.prog (sBin .add T_int (.tmp 9) (.const (.int .i64 1)) x1.1 (.int .i64 1)) fun t24 =>
      next1 (t24, ()) w4)))
   (upK Try.prog (sCall F_replace_Open #[l0]) w1 fun t26 w5 =>
    LOOP (X := Value × Unit) (fun x6 w6 next6 =>
     readK Try.prog (sBlt .len #[T_s_api_Replacement] T_int #[false] #[t26]) w6 fun t29 =>
     pureK Try.prog (sBin .lss T_int (.tmp 27) (.tmp 29) x6.1 t29) fun t30 =>
     ifB t30
     (pureK Try.prog (sIdxAddr T_s_api_Replacement t26 x6.1) fun t35 =>
      pureK Try.prog (sFieldAddr T_api_Replacement t35 4) fun t36 =>
      readK Try.prog (sLoad T_int t36) (tick w6) fun t37 =>
      pureK Try.prog (sBin .eql T_int (.tmp 37) (.const (.int .i64 2)) t37 (.int .i64 2)) fun t38 =>
      ifB t38
      (K (.bool false) (tick w6))
      (pureK Try.prog (sIdxAddr T_s_api_Replacement t26 x6.1) fun t42 =>
       pureK Try.prog (sFieldAddr T_api_Replacement t42 1) fun t43 =>
       readK Try.prog (sLoad T_int t43) (tick w6) fun t44 =>
       pureK Try.prog (sBin .sub T_int (.tmp 46) (.const (.int .i64 1)) x6.1 (.int .i64 1)) fun t47 =>
       pureK Try.prog (sIdxAddr T_s_api_Replacement t26 t47) fun t48 =>
       pureK Try.prog (sFieldAddr T_api_Replacement t48 1) fun t49 =>
       readK Try.prog (sLoad T_int t49) (tick w6) fun t50 =>
       pureK Try.prog (sBin .leq T_int (.tmp 44) (.tmp 50) t44 t50) fun t51 =>
       ifB t51
       (K (.bool false) (tick w6))
       (pureK Try.prog (sBin .add T_int (.tmp 31) (.const (.int .i64 1)) x6.1 (.int .i64 1)) fun t32 =>
        next6 (t32, ()) (tick w6))))
     (readK Try.prog (sBlt .len #[T_s_api_Replacement] T_int #[false] #[t26]) w6 fun t54 =>
      pureK Try.prog (sBin .leq T_int (.tmp 54) (.const (.int .i64 3)) t54 (.int .i64 3)) fun t55 =>
      K t55 w6))
    ((.int .i64 1), ()) w5))
  ((.int .i64 0), ()) w
theorem replace_Right.pt_eq : replace_Right.pt = fun l0 w K => FN Try.prog Try.f12 (bodyOf Try.f12) [2] .leaf [l0] w K := by kernel_rfl
theorem replace_Right.call {l0 : Value} {w : World} {K : Value → World → Prop} (h : replace_Right.pt l0 w K) : Calls Try.prog F_replace_Right #[l0] w (retK K) :=
  calls_FN (args := [l0]) Try.func12 (by kernel_rfl) (by rw [replace_Right.pt_eq] at h; exact h)
theorem replace_Right.up {l0 : Value} {w : World} {K : Value → World → Prop} (h : Calls Try.prog F_replace_Right #[l0] w (retK K)) : upK Try.prog (sCall F_replace_Right #[l0]) w K :=
  up_call (fn := Try.f12) Try.func12 (by kernel_rfl) (by kernel_rfl) h

/-- errata/timeline.Right -/
def timeline_Right.pt (l0 : Value) (w : World) (K : Value → World → Prop) : Prop :=
  readK Try.prog (sBlt .len #[T_s_api_Seg] T_int #[false] #[l0]) w fun t6 =>
  pureK Try.prog (sBin .eql T_int (.tmp 6) (.const (.int .i64 0)) t6 (.int .i64 0)) fun t7 =>
  ifB t7
  (K (.bool false) w)
  (pureK Try.prog (sIdxAddr T_s_api_Seg l0 (.int .i64 0)) fun t10 =>
   pureK Try.prog (sFieldAddr T_api_Seg t10 0) fun t11 =>
   readK Try.prog (sLoad T_int t11) w fun t12 =>
   pureK Try.prog (sBin .neq T_int (.tmp 12) (.const (.int .i64 0)) t12 (.int .i64 0)) fun t13 =>
   ifB t13
   (K (.bool false) w)
   (readK Try.prog (sBlt .len #[T_s_api_Seg] T_int #[false] #[l0]) w fun t16 =>
    LOOP (X := Value × Unit) (fun x1 w1 next1 =>
     pureK Try.prog (sBin .lss T_int (.tmp 17) (.tmp 16) x1.1 t16) fun t18 =>
     ifB t18
     (LETJ (X := Unit) (fun y1 w2 =>
       pureK Try.prog (sBin .add T_int (.tmp 17) (.const (.int .i64 1)) x1.1 (.int .i64 1)) fun t59 =>
       next1 (t59, ()) w2)
      (fun J1 =>
       pureK Try.prog (sIdxAddr T_s_api_Seg l0 x1.1) fun t20 =>
       readK Try.prog (sLoad T_api_Seg t20) w1 fun t21 =>
       upK Try.prog (sAlloc T_api_Seg) w1 fun s4 w3 =>
       upK Try.prog (sStore T_api_Seg s4 t21) w3 fun tu w4 =>
       pureK Try.prog (sFieldAddr T_api_Seg s4 0) fun t22 =>
       readK Try.prog (sLoad T_int t22) w4 fun t23 =>
       pureK Try.prog (sBin .gtr T_int (.tmp 23) (.const (.int .i64 1099511627776)) t23 (.int .i64 1099511627776)) fun t24 =>
       ifB t24
       (K (.bool false) w4)
       (pureK Try.prog (sFieldAddr T_api_Seg s4 1) fun t26 =>
        readK Try.prog (sLoad T_int t26) w4 fun t27 =>
        pureK Try.prog (sBin .lss T_int (.tmp 27) (.const (.int .i64 1)) t27 (.int .i64 1)) fun t28 =>
        ifB t28
        (K (.bool false) w4)
        (pureK Try.prog (sFieldAddr T_api_Seg s4 1) fun t31 =>
         readK Try.prog (sLoad T_int t31) w4 fun t32 =>
         pureK Try.prog (sBin .gtr T_int (.tmp 32) (.const (.int .i64 50)) t32 (.int .i64 50)) fun t33 =>
         ifB t33
         (K (.bool false) w4)
         (pureK Try.prog (sBin .gtr T_int (.tmp 35) (.const (.int .i64 0)) x1.1 (.int .i64 0)) fun t36 =>
          ifB t36
          (pureK Try.prog (sFieldAddr T_api_Seg s4 0) fun t38 =>
           readK Try.prog (sLoad T_int t38) (tick w4) fun t39 =>
           pureK Try.prog (sBin .sub T_int (.tmp 41) (.const (.int .i64 1)) x1.1 (.int .i64 1)) fun t42 =>
           pureK Try.prog (sIdxAddr T_s_api_Seg l0 t42) fun t43 =>
           pureK Try.prog (sFieldAddr T_api_Seg t43 0) fun t44 =>
           readK Try.prog (sLoad T_int t44) (tick w4) fun t45 =>
           pureK Try.prog (sBin .leq T_int (.tmp 39) (.tmp 45) t39 t45) fun t46 =>
           ifB t46
           (K (.bool false) (tick w4))
           (pureK Try.prog (sFieldAddr T_api_Seg s4 1) fun t48 =>
            readK Try.prog (sLoad T_int t48) (tick w4) fun t49 =>
            pureK Try.prog (sBin .sub T_int (.tmp 51) (.const (.int .i64 1)) x1.1 (.int .i64 1)) fun t52 =>
            pureK Try.prog (sIdxAddr T_s_api_Seg l0 t52) fun t53 =>
            pureK Try.prog (sFieldAddr T_api_Seg t53 1) fun t54 =>
            readK Try.prog (sLoad T_int t54) (tick w4) fun t55 =>
            pureK Try.prog (sBin .eql T_int (.tmp 49) (.tmp 55) t49 t55) fun t56 =>
            ifB t56
            (K (.bool false) (tick w4))
            (J1 (()) (tick w4))))
          (J1 (()) (tick w4)))))))
     (K (.bool true) w1))
    ((.int .i64 0), ()) w))
theorem timeline_Right.pt_eq : timeline_Right.pt = fun l0 w K => FN Try.prog Try.f13 (bodyOf Try.f13) [2] (.node none .leaf (.node none .leaf (.node none (.node none .leaf (.node none (.node none (.node none .leaf (.node none .leaf (.node (some []) .leaf .leaf))) .leaf) .leaf)) .leaf))) [l0] w K := by kernel_rfl
theorem timeline_Right.call {l0 : Value} {w : World} {K : Value → World → Prop} (h : timeline_Right.pt l0 w K) : Calls Try.prog F_timeline_Right #[l0] w (retK K) :=
  calls_FN (args := [l0]) Try.func13 (by kernel_rfl) (by rw [timeline_Right.pt_eq] at h; exact h)
theorem timeline_Right.up {l0 : Value} {w : World} {K : Value → World → Prop} (h : Calls Try.prog F_timeline_Right #[l0] w (retK K)) : upK Try.prog (sCall F_timeline_Right #[l0]) w K :=
  up_call (fn := Try.f13) Try.func13 (by kernel_rfl) (by kernel_rfl) h

/-- errata/replace.Needed -/
def replace_Needed.pt (l0 t1 closed2 : Value) (w : World) (K : Value → World → Prop) : Prop :=
  upK Try.prog (sCall F_timeline_Open #[t1, closed2]) w fun t12 w1 =>
  upK Try.prog (sCall F_replace_Open #[l0]) w1 fun t14 w2 =>
  readK Try.prog (sBlt .len #[T_s_api_Replacement] T_int #[false] #[t14]) w2 fun t15 =>
  LOOP (X := Value × Value × Unit) (fun x3 w3 next3 =>
   pureK Try.prog (sBin .lss T_int (.tmp 16) (.tmp 15) x3.2.1 t15) fun t17 =>
   ifB t17
   (pureK Try.prog (sIdxAddr T_s_api_Replacement t14 x3.2.1) fun t18 =>
    readK Try.prog (sLoad T_api_Replacement t18) w3 fun t19 =>
    upK Try.prog (sAlloc T_api_Replacement) w3 fun r9 w4 =>
    upK Try.prog (sStore T_api_Replacement r9 t19) w4 fun tu w5 =>
    pureK Try.prog (sFieldAddr T_api_Replacement r9 2) fun t21 =>
    readK Try.prog (sLoad T_int t21) w5 fun t22 =>
    upK Try.prog (sBuildSlice T_s_int 1 #[(0, t22)]) w5 fun t23 w6 =>
    upK Try.prog (sBlt .append #[T_s_int, T_s_int] T_s_int #[false, false] #[x3.1, t23]) w6 fun t24 w7 =>
    pureK Try.prog (sBin .add T_int (.tmp 16) (.const (.int .i64 1)) x3.2.1 (.int .i64 1)) fun t25 =>
    next3 (t24, t25, ()) w7)
   (upK Try.prog (sCall F_slices_Sort_s_int_int #[x3.1]) w3 fun t27 w8 =>
    upK Try.prog (sCall F_slices_Compact_s_int_int #[x3.1]) w8 fun t29 w9 =>
    K t29 w9))
  (t12, (.int .i64 0), ()) w2
theorem replace_Needed.pt_eq : replace_Needed.pt = fun l0 t1 closed2 w K => FN Try.prog Try.f14 (bodyOf Try.f14) [6] .leaf [l0, t1, closed2] w K := by kernel_rfl
theorem replace_Needed.call {l0 t1 closed2 : Value} {w : World} {K : Value → World → Prop} (h : replace_Needed.pt l0 t1 closed2 w K) : Calls Try.prog F_replace_Needed #[l0, t1, closed2] w (retK K) :=
  calls_FN (args := [l0, t1, closed2]) Try.func14 (by kernel_rfl) (by rw [replace_Needed.pt_eq] at h; exact h)
theorem replace_Needed.up {l0 t1 closed2 : Value} {w : World} {K : Value → World → Prop} (h : Calls Try.prog F_replace_Needed #[l0, t1, closed2] w (retK K)) : upK Try.prog (sCall F_replace_Needed #[l0, t1, closed2]) w K :=
  up_call (fn := Try.f14) Try.func14 (by kernel_rfl) (by kernel_rfl) h

/-- errata/replace.Caught -/
def replace_Caught.pt (l0 no1 yes2 : Value) (w : World) (K : Value → World → Prop) : Prop :=
  ifB yes2
  (upK Try.prog (sCall F_replace_set #[l0, no1, (.int .i64 1)]) w fun t11 w1 =>
   pureK Try.prog (sExtract t11 0) fun t12 =>
   pureK Try.prog (sExtract t11 1) fun t13 =>
   K (.tuple #[t12, t13]) w1)
  (upK Try.prog (sCall F_replace_set #[l0, no1, (.int .i64 0)]) w fun t16 w2 =>
   pureK Try.prog (sExtract t16 0) fun t17 =>
   pureK Try.prog (sExtract t16 1) fun t18 =>
   K (.tuple #[t17, t18]) w2)
theorem replace_Caught.pt_eq : replace_Caught.pt = fun l0 no1 yes2 w K => FN Try.prog Try.f15 (bodyOf Try.f15) [6, 7] .leaf [l0, no1, yes2] w K := by kernel_rfl
theorem replace_Caught.call {l0 no1 yes2 : Value} {w : World} {K : Value → World → Prop} (h : replace_Caught.pt l0 no1 yes2 w K) : Calls Try.prog F_replace_Caught #[l0, no1, yes2] w (retK K) :=
  calls_FN (args := [l0, no1, yes2]) Try.func15 (by kernel_rfl) (by rw [replace_Caught.pt_eq] at h; exact h)
theorem replace_Caught.up {l0 no1 yes2 : Value} {w : World} {K : Value → World → Prop} (h : Calls Try.prog F_replace_Caught #[l0, no1, yes2] w (retK K)) : upK Try.prog (sCall F_replace_Caught #[l0, no1, yes2]) w K :=
  up_call (fn := Try.f15) Try.func15 (by kernel_rfl) (by kernel_rfl) h

/-- errata/replace.Cut -/
def replace_Cut.pt (l0 t1 no2 : Value) (w : World) (K : Value → World → Prop) : Prop :=
  readK Try.prog (sBlt .len #[T_s_api_Replacement] T_int #[false] #[l0]) w fun t16 =>
  upK Try.prog (sCall F_replace_within #[no2, (.int .i64 1), t16]) w fun t17 w1 =>
  pureK Try.prog (sUn .not t17) fun t18 =>
  ifB t18
  (K (.tuple #[(.slice none 0 0), (.slice none 0 0), (.int .i64 4)]) w1)
  (pureK Try.prog (sBin .sub T_int (.tmp 20) (.const (.int .i64 1)) no2 (.int .i64 1)) fun t21 =>
   pureK Try.prog (sIdxAddr T_s_api_Replacement l0 t21) fun t22 =>
   readK Try.prog (sLoad T_api_Replacement t22) w1 fun t23 =>
   upK Try.prog (sAlloc T_api_Replacement) w1 fun r9 w2 =>
   upK Try.prog (sStore T_api_Replacement r9 t23) w2 fun tu w3 =>
   LETJ (X := Unit) (fun y1 w4 =>
    upK Try.prog (sCall F_replace_first #[l0]) w4 fun t34 w5 =>
    pureK Try.prog (sExtract t34 0) fun t35 =>
    pureK Try.prog (sExtract t34 1) fun t36 =>
    upK Try.prog (sAlloc T_api_Replacement) w5 fun f10 w6 =>
    upK Try.prog (sStore T_api_Replacement f10 t35) w6 fun tu_1 w7 =>
    pureK Try.prog (sFieldAddr T_api_Replacement f10 0) fun t37 =>
    readK Try.prog (sLoad T_int t37) w7 fun t38 =>
    pureK Try.prog (sBin .neq T_int (.tmp 38) (.tmp 39) t38 no2) fun t40 =>
    ifB t40
    (K (.tuple #[(.slice none 0 0), (.slice none 0 0), (.int .i64 25)]) w7)
    (upK Try.prog (sCall F_slices_Clone_s_api_Seg_api_Seg #[t1]) w7 fun t42 w8 =>
     pureK Try.prog (sFieldAddr T_api_Replacement r9 5) fun t43 =>
     readK Try.prog (sLoad T_int t43) w8 fun t44 =>
     pureK Try.prog (sBin .add T_int (.tmp 44) (.const (.int .i64 1)) t44 (.int .i64 1)) fun t45 =>
     pureK Try.prog (sFieldAddr T_api_Replacement r9 5) fun t46 =>
     upK Try.prog (sStore T_int t46 t45) w8 fun tu_2 w9 =>
     pureK Try.prog (sFieldAddr T_api_Replacement r9 4) fun t47 =>
     upK Try.prog (sStore T_int t47 (.int .i64 2)) w9 fun tu_3 w10 =>
     LETJ (X := Value × Unit) (fun y2 w11 =>
      upK Try.prog (sCall F_slices_Clone_s_api_Replacement_api_Replacement #[l0]) w11 fun t62 w12 =>
      pureK Try.prog (sBin .sub T_int (.tmp 64) (.const (.int .i64 1)) no2 (.int .i64 1)) fun t65 =>
      readK Try.prog (sLoad T_api_Replacement r9) w12 fun t66 =>
      pureK Try.prog (sIdxAddr T_s_api_Replacement t62 t65) fun t67 =>
      upK Try.prog (sStore T_api_Replacement t67 t66) w12 fun tu_4 w13 =>
      K (.tuple #[t62, y2.1, (.int .i64 0)]) w13)
     (fun J2 =>
      pureK Try.prog (sFieldAddr T_api_Replacement r9 5) fun t48 =>
      readK Try.prog (sLoad T_int t48) w10 fun t49 =>
      pureK Try.prog (sBin .eql T_int (.tmp 49) (.const (.int .i64 16)) t49 (.int .i64 16)) fun t50 =>
      ifB t50
      (pureK Try.prog (sFieldAddr T_api_Replacement r9 4) fun t51 =>
       upK Try.prog (sStore T_int t51 (.int .i64 3)) w10 fun tu_5 w14 =>
       pureK Try.prog (sFieldAddr T_api_Replacement r9 1) fun t54 =>
       readK Try.prog (sLoad T_int t54) w14 fun t55 =>
       pureK Try.prog (sFieldAddr T_api_Replacement r9 2) fun t56 =>
       readK Try.prog (sLoad T_int t56) w14 fun t57 =>
       upK Try.prog (sCall F_timeline_Replace #[t1, t55, t57]) w14 fun t58 w15 =>
       pureK Try.prog (sExtract t58 0) fun t59 =>
       pureK Try.prog (sExtract t58 1) fun t60 =>
       J2 (t59, ()) w15)
      (J2 (t42, ()) w10))))
   (fun J1 =>
    pureK Try.prog (sFieldAddr T_api_Replacement r9 4) fun t24 =>
    readK Try.prog (sLoad T_int t24) w3 fun t25 =>
    pureK Try.prog (sBin .neq T_int (.tmp 25) (.const (.int .i64 1)) t25 (.int .i64 1)) fun t26 =>
    ifB t26
    (pureK Try.prog (sFieldAddr T_api_Replacement r9 4) fun t28 =>
     readK Try.prog (sLoad T_int t28) w3 fun t29 =>
     pureK Try.prog (sBin .neq T_int (.tmp 29) (.const (.int .i64 2)) t29 (.int .i64 2)) fun t30 =>
     ifB t30
     (K (.tuple #[(.slice none 0 0), (.slice none 0 0), (.int .i64 7)]) w3)
     (J1 (()) w3))
    (J1 (()) w3)))
theorem replace_Cut.pt_eq : replace_Cut.pt = fun l0 t1 no2 w K => FN Try.prog Try.f16 (bodyOf Try.f16) [6, 7, 8] (.node none .leaf (.node none .leaf (.node none .leaf (.node (some []) .leaf (.node none .leaf (.node none .leaf (.node none .leaf (.node none .leaf (.node (some [12]) .leaf .leaf))))))))) [l0, t1, no2] w K := by kernel_rfl
theorem replace_Cut.call {l0 t1 no2 : Value} {w : World} {K : Value → World → Prop} (h : replace_Cut.pt l0 t1 no2 w K) : Calls Try.prog F_replace_Cut #[l0, t1, no2] w (retK K) :=
  calls_FN (args := [l0, t1, no2]) Try.func16 (by kernel_rfl) (by rw [replace_Cut.pt_eq] at h; exact h)
theorem replace_Cut.up {l0 t1 no2 : Value} {w : World} {K : Value → World → Prop} (h : Calls Try.prog F_replace_Cut #[l0, t1, no2] w (retK K)) : upK Try.prog (sCall F_replace_Cut #[l0, t1, no2]) w K :=
  up_call (fn := Try.f16) Try.func16 (by kernel_rfl) (by kernel_rfl) h

/-- errata/replace.Abandon -/
def replace_Abandon.pt (l0 no1 : Value) (w : World) (K : Value → World → Prop) : Prop :=
  upK Try.prog (sCall F_replace_set #[l0, no1, (.int .i64 4)]) w fun t8 w1 =>
  pureK Try.prog (sExtract t8 0) fun t9 =>
  pureK Try.prog (sExtract t8 1) fun t10 =>
  K (.tuple #[t9, t10]) w1
theorem replace_Abandon.pt_eq : replace_Abandon.pt = fun l0 no1 w K => FN Try.prog Try.f17 (bodyOf Try.f17) [4, 5] .leaf [l0, no1] w K := by kernel_rfl
theorem replace_Abandon.call {l0 no1 : Value} {w : World} {K : Value → World → Prop} (h : replace_Abandon.pt l0 no1 w K) : Calls Try.prog F_replace_Abandon #[l0, no1] w (retK K) :=
  calls_FN (args := [l0, no1]) Try.func17 (by kernel_rfl) (by rw [replace_Abandon.pt_eq] at h; exact h)
theorem replace_Abandon.up {l0 no1 : Value} {w : World} {K : Value → World → Prop} (h : Calls Try.prog F_replace_Abandon #[l0, no1] w (retK K)) : upK Try.prog (sCall F_replace_Abandon #[l0, no1]) w K :=
  up_call (fn := Try.f17) Try.func17 (by kernel_rfl) (by kernel_rfl) h

/-- errata/replace.within -/
def replace_within.pt (n0 from1 to2 : Value) (w : World) (K : Value → World → Prop) : Prop :=
  pureK Try.prog (sBin .geq T_int (.tmp 7) (.tmp 8) n0 from1) fun t9 =>
  ifB t9
  (pureK Try.prog (sBin .leq T_int (.tmp 11) (.tmp 12) n0 to2) fun t13 =>
   K t13 w)
  (K (.bool false) w)
theorem replace_within.pt_eq : replace_within.pt = fun n0 from1 to2 w K => FN Try.prog Try.f18 (bodyOf Try.f18) [6] .leaf [n0, from1, to2] w K := by kernel_rfl
theorem replace_within.call {n0 from1 to2 : Value} {w : World} {K : Value → World → Prop} (h : replace_within.pt n0 from1 to2 w K) : Calls Try.prog F_replace_within #[n0, from1, to2] w (retK K) :=
  calls_FN (args := [n0, from1, to2]) Try.func18 (by kernel_rfl) (by rw [replace_within.pt_eq] at h; exact h)
theorem replace_within.up {n0 from1 to2 : Value} {w : World} {K : Value → World → Prop} (h : Calls Try.prog F_replace_within #[n0, from1, to2] w (retK K)) : upK Try.prog (sCall F_replace_within #[n0, from1, to2]) w K :=
  up_call (fn := Try.f18) Try.func18 (by kernel_rfl) (by kernel_rfl) h

/-- errata/replace.first -/
def replace_first.pt (l0 : Value) (w : World) (K : Value → World → Prop) : Prop :=
  upK Try.prog (sAlloc T_api_Replacement) w fun t2 w1 =>
  upK Try.prog (sCall F_slices_IndexFunc_s_api_Replacement_api_Replacement #[l0, (.func (.func 21) #[] #[])]) w1 fun t6 w2 =>
  pureK Try.prog (sBin .lss T_int (.tmp 7) (.const (.int .i64 0)) t6 (.int .i64 0)) fun t8 =>
  ifB t8
  (pureK Try.prog (sBuild T_api_Replacement #[]) fun t9 =>
   upK Try.prog (sStore T_api_Replacement t2 t9) w2 fun tu w3 =>
   readV Try.prog (do loadVar T_api_Replacement (← asAddr t2)) w3 fun t2_1 =>
   K (.tuple #[t2_1, (.bool false)]) w3)
  (pureK Try.prog (sIdxAddr T_s_api_Replacement l0 t6) fun t12 =>
   readK Try.prog (sLoad T_api_Replacement t12) w2 fun t13 =>
   upK Try.prog (sStore T_api_Replacement t2 t13) w2 fun tu_1 w4 =>
   readV Try.prog (do loadVar T_api_Replacement (← asAddr t2)) w4 fun t2_2 =>
   K (.tuple #[t2_2, (.bool true)]) w4)
theorem replace_first.pt_eq : replace_first.pt = fun l0 w K => FN Try.prog Try.f19 (bodyOf Try.f19) [3] .leaf [l0] w K := by kernel_rfl
theorem replace_first.call {l0 : Value} {w : World} {K : Value → World → Prop} (h : replace_first.pt l0 w K) : Calls Try.prog F_replace_first #[l0] w (retK K) :=
  calls_FN (args := [l0]) Try.func19 (by kernel_rfl) (by rw [replace_first.pt_eq] at h; exact h)
theorem replace_first.up {l0 : Value} {w : World} {K : Value → World → Prop} (h : Calls Try.prog F_replace_first #[l0] w (retK K)) : upK Try.prog (sCall F_replace_first #[l0]) w K :=
  up_call (fn := Try.f19) Try.func19 (by kernel_rfl) (by kernel_rfl) h

/-- slices.Clone[[]errata/api.Replacement,errata/api.Replacement] -/
def slices_Clone_s_api_Replacement_api_Replacement.pt (s0 : Value) (w : World) (K : Value → World → Prop) : Prop :=
  pureK Try.prog (sBin .eql T_s_api_Replacement (.tmp 3) (.const (.slice none 0 0)) s0 (.slice none 0 0)) fun t4 =>
  ifB t4
  (K (.slice none 0 0) w)
  (upK Try.prog (sBuildSlice T_s_api_Replacement 0 #[]) w fun t5 w1 =>
   upK Try.prog (sBlt .append #[T_s_api_Replacement, T_s_api_Replacement] T_s_api_Replacement #[false, false] #[t5, s0]) w1 fun t7 w2 =>
   K t7 w2)
theorem slices_Clone_s_api_Replacement_api_Replacement.pt_eq : slices_Clone_s_api_Replacement_api_Replacement.pt = fun s0 w K => FN Try.prog Try.f20 (bodyOf Try.f20) [2] .leaf [s0] w K := by kernel_rfl
theorem slices_Clone_s_api_Replacement_api_Replacement.call {s0 : Value} {w : World} {K : Value → World → Prop} (h : slices_Clone_s_api_Replacement_api_Replacement.pt s0 w K) : Calls Try.prog F_slices_Clone_s_api_Replacement_api_Replacement #[s0] w (retK K) :=
  calls_FN (args := [s0]) Try.func20 (by kernel_rfl) (by rw [slices_Clone_s_api_Replacement_api_Replacement.pt_eq] at h; exact h)
theorem slices_Clone_s_api_Replacement_api_Replacement.up {s0 : Value} {w : World} {K : Value → World → Prop} (h : Calls Try.prog F_slices_Clone_s_api_Replacement_api_Replacement #[s0] w (retK K)) : upK Try.prog (sCall F_slices_Clone_s_api_Replacement_api_Replacement #[s0]) w K :=
  up_call (fn := Try.f20) Try.func20 (by kernel_rfl) (by kernel_rfl) h

/-- errata/replace.open -/
def replace_open.pt (r0 : Value) (w : World) (K : Value → World → Prop) : Prop :=
  upK Try.prog (sBox T_api_Replacement r0) w fun r1 w1 =>
  pureK Try.prog (sFieldAddr T_api_Replacement r1 4) fun t3 =>
  readK Try.prog (sLoad T_int t3) w1 fun t4 =>
  pureK Try.prog (sBin .eql T_int (.tmp 4) (.const (.int .i64 0)) t4 (.int .i64 0)) fun t5 =>
  ifB t5
  (K (.bool true) w1)
  (pureK Try.prog (sFieldAddr T_api_Replacement r1 4) fun t7 =>
   readK Try.prog (sLoad T_int t7) w1 fun t8 =>
   pureK Try.prog (sBin .eql T_int (.tmp 8) (.const (.int .i64 1)) t8 (.int .i64 1)) fun t9 =>
   ifB t9
   (K (.bool true) w1)
   (pureK Try.prog (sFieldAddr T_api_Replacement r1 4) fun t12 =>
    readK Try.prog (sLoad T_int t12) w1 fun t13 =>
    pureK Try.prog (sBin .eql T_int (.tmp 13) (.const (.int .i64 2)) t13 (.int .i64 2)) fun t14 =>
    K t14 w1))
theorem replace_open.pt_eq : replace_open.pt = fun r0 w K => FN Try.prog Try.f21 (bodyOf Try.f21) [2] .leaf [r0] w K := by kernel_rfl
theorem replace_open.call {r0 : Value} {w : World} {K : Value → World → Prop} (h : replace_open.pt r0 w K) : Calls Try.prog F_replace_open #[r0] w (retK K) :=
  calls_FN (args := [r0]) Try.func21 (by kernel_rfl) (by rw [replace_open.pt_eq] at h; exact h)
theorem replace_open.up {r0 : Value} {w : World} {K : Value → World → Prop} (h : Calls Try.prog F_replace_open #[r0] w (retK K)) : upK Try.prog (sCall F_replace_open #[r0]) w K :=
  up_call (fn := Try.f21) Try.func21 (by kernel_rfl) (by kernel_rfl) h

/-- errata/replace.Open -/
def replace_Open.pt (l0 : Value) (w : World) (K : Value → World → Prop) : Prop :=
  upK Try.prog (sCall F_slices_Clone_s_api_Replacement_api_Replacement #[l0]) w fun t4 w1 =>
  upK Try.prog (sCall F_slices_DeleteFunc_s_api_Replacement_api_Replacement #[t4, (.func (.func 33) #[] #[])]) w1 fun t5 w2 =>
  K t5 w2
theorem replace_Open.pt_eq : replace_Open.pt = fun l0 w K => FN Try.prog Try.f22 (bodyOf Try.f22) [2] .leaf [l0] w K := by kernel_rfl
theorem replace_Open.call {l0 : Value} {w : World} {K : Value → World → Prop} (h : replace_Open.pt l0 w K) : Calls Try.prog F_replace_Open #[l0] w (retK K) :=
  calls_FN (args := [l0]) Try.func22 (by kernel_rfl) (by rw [replace_Open.pt_eq] at h; exact h)
theorem replace_Open.up {l0 : Value} {w : World} {K : Value → World → Prop} (h : Calls Try.prog F_replace_Open #[l0] w (retK K)) : upK Try.prog (sCall F_replace_Open #[l0]) w K :=
  up_call (fn := Try.f22) Try.func22 (by kernel_rfl) (by kernel_rfl) h

/-- errata/timeline.behind -/
def timeline_behind.pt (l0 time1 : Value) (w : World) (K : Value → World → Prop) : Prop :=
  upK Try.prog (sBox T_s_api_Seg l0) w fun l2 w1 =>
  upK Try.prog (sBox T_int time1) w1 fun time3 w2 =>
  readK Try.prog (sLoad T_s_api_Seg l2) w2 fun t5 =>
  readK Try.prog (sBlt .len #[T_s_api_Seg] T_int #[false] #[t5]) w2 fun t6 =>
  pureK Try.prog (sMkFunc (.func F_timeline_behind_1) #[] #[l2, time3]) fun t7 =>
  upK Try.prog (sCall F_sort_Search #[t6, t7]) w2 fun t8 w3 =>
  K t8 w3
theorem timeline_behind.pt_eq : timeline_behind.pt = fun l0 time1 w K => FN Try.prog Try.f23 (bodyOf Try.f23) [4] .leaf [l0, time1] w K := by kernel_rfl
theorem timeline_behind.call {l0 time1 : Value} {w : World} {K : Value → World → Prop} (h : timeline_behind.pt l0 time1 w K) : Calls Try.prog F_timeline_behind #[l0, time1] w (retK K) :=
  calls_FN (args := [l0, time1]) Try.func23 (by kernel_rfl) (by rw [timeline_behind.pt_eq] at h; exact h)
theorem timeline_behind.up {l0 time1 : Value} {w : World} {K : Value → World → Prop} (h : Calls Try.prog F_timeline_behind #[l0, time1] w (retK K)) : upK Try.prog (sCall F_timeline_behind #[l0, time1]) w K :=
  up_call (fn := Try.f23) Try.func23 (by kernel_rfl) (by kernel_rfl) h

/-- errata/replace.right -/
def replace_right.pt (r0 : Value) (w : World) (K : Value → World → Prop) : Prop :=
  upK Try.prog (sBox T_api_Replacement r0) w fun r1 w1 =>
  LETJ (X := Value × Value × Unit) (fun y1 w2 =>
   pureK Try.prog (sFieldAddr T_api_Replacement r1 1) fun t11 =>
   readK Try.prog (sLoad T_int t11) w2 fun t12 =>
   upK Try.prog (sCall F_replace_within #[t12, (.int .i64 0), (.int .i64 1099511627776)]) w2 fun t13 w3 =>
   ifB t13
   (pureK Try.prog (sFieldAddr T_api_Replacement r1 2) fun t15 =>
    readK Try.prog (sLoad T_int t15) w3 fun t16 =>
    upK Try.prog (sCall F_replace_within #[t16, (.int .i64 1), (.int .i64 50)]) w3 fun t17 w4 =>
    ifB t17
    (pureK Try.prog (sFieldAddr T_api_Replacement r1 3) fun t20 =>
     readK Try.prog (sLoad T_int t20) w4 fun t21 =>
     pureK Try.prog (sFieldAddr T_api_Replacement r1 1) fun t22 =>
     readK Try.prog (sLoad T_int t22) w4 fun t23 =>
     upK Try.prog (sCall F_replace_within #[t21, (.int .i64 0), t23]) w4 fun t24 w5 =>
     ifB t24
     (pureK Try.prog (sFieldAddr T_api_Replacement r1 4) fun t27 =>
      readK Try.prog (sLoad T_int t27) w5 fun t28 =>
      upK Try.prog (sCall F_replace_within #[t28, (.int .i64 0), (.int .i64 5)]) w5 fun t29 w6 =>
      ifB t29
      (pureK Try.prog (sFieldAddr T_api_Replacement r1 5) fun t32 =>
       readK Try.prog (sLoad T_int t32) w6 fun t33 =>
       upK Try.prog (sCall F_replace_within #[t33, y1.1, y1.2.1]) w6 fun t36 w7 =>
       K t36 w7)
      (K (.bool false) w6))
     (K (.bool false) w5))
    (K (.bool false) w4))
   (K (.bool false) w3))
  (fun J1 =>
   pureK Try.prog (sFieldAddr T_api_Replacement r1 4) fun t5 =>
   readK Try.prog (sLoad T_int t5) w1 fun t6 =>
   pureK Try.prog (sBin .eql T_int (.tmp 6) (.const (.int .i64 2)) t6 (.int .i64 2)) fun t8 =>
   ifB t8
   (J1 ((.int .i64 1), (.int .i64 15), ()) w1)
   (pureK Try.prog (sBin .eql T_int (.tmp 6) (.const (.int .i64 3)) t6 (.int .i64 3)) fun t10 =>
    ifB t10
    (J1 ((.int .i64 16), (.int .i64 16), ()) w1)
    (J1 ((.int .i64 0), (.int .i64 0), ()) w1)))
theorem replace_right.pt_eq : replace_right.pt = fun r0 w K => FN Try.prog Try.f24 (bodyOf Try.f24) [2] (.node none .leaf (.node none .leaf (.node (some [3, 4]) .leaf .leaf))) [r0] w K := by kernel_rfl
theorem replace_right.call {r0 : Value} {w : World} {K : Value → World → Prop} (h : replace_right.pt r0 w K) : Calls Try.prog F_replace_right #[r0] w (retK K) :=
  calls_FN (args := [r0]) Try.func24 (by kernel_rfl) (by rw [replace_right.pt_eq] at h; exact h)
theorem replace_right.up {r0 : Value} {w : World} {K : Value → World → Prop} (h : Calls Try.prog F_replace_right #[r0] w (retK K)) : upK Try.prog (sCall F_replace_right #[r0]) w K :=
  up_call (fn := Try.f24) Try.func24 (by kernel_rfl) (by kernel_rfl) h

/-- errata/timeline.Open -/
def timeline_Open.pt (l0 closed1 : Value) (w : World) (K : Value → World → Prop) : Prop :=
  pureK Try.prog (sBlt .min #[T_int, T_int] T_int #[false, true] #[closed1, (.int .i64 1099511627776)]) fun t6 =>
  pureK Try.prog (sBin .add T_int (.tmp 9) (.const (.int .i64 1)) t6 (.int .i64 1)) fun t10 =>
  upK Try.prog (sCall F_timeline_behind #[l0, t10]) w fun t11 w1 =>
  pureK Try.prog (sBlt .max #[T_int, T_int] T_int #[false, true] #[t11, (.int .i64 1)]) fun t12 =>
  pureK Try.prog (sBin .sub T_int (.tmp 12) (.const (.int .i64 1)) t12 (.int .i64 1)) fun t13 =>
  pureK Try.prog (sSlice T_s_api_Seg l0 (some t13) none none) fun t14 =>
  upK Try.prog (sCall F_timeline_versions #[t14]) w1 fun t15 w2 =>
  K t15 w2
theorem timeline_Open.pt_eq : timeline_Open.pt = fun l0 closed1 w K => FN Try.prog Try.f25 (bodyOf Try.f25) [4] .leaf [l0, closed1] w K := by kernel_rfl
theorem timeline_Open.call {l0 closed1 : Value} {w : World} {K : Value → World → Prop} (h : timeline_Open.pt l0 closed1 w K) : Calls Try.prog F_timeline_Open #[l0, closed1] w (retK K) :=
  calls_FN (args := [l0, closed1]) Try.func25 (by kernel_rfl) (by rw [timeline_Open.pt_eq] at h; exact h)
theorem timeline_Open.up {l0 closed1 : Value} {w : World} {K : Value → World → Prop} (h : Calls Try.prog F_timeline_Open #[l0, closed1] w (retK K)) : upK Try.prog (sCall F_timeline_Open #[l0, closed1]) w K :=
  up_call (fn := Try.f25) Try.func25 (by kernel_rfl) (by kernel_rfl) h

/-- slices.Sort[[]int,int] -/
def slices_Sort_s_int_int.pt (x0 : Value) (w : World) (K : Value → World → Prop) : Prop :=
  readK Try.prog (sBlt .len #[T_s_int] T_int #[false] #[x0]) w fun t4 =>
  upK Try.prog (sConv T_int T_uint t4) w fun t8 w1 =>
  upK Try.prog (sCall F_math_bits_Len #[t8]) w1 fun t9 w2 =>
  upK Try.prog (sCall F_slices_pdqsortOrdered_int #[x0, (.int .i64 0), t4, t9]) w2 fun t10 w3 =>
  K (.tuple #[]) w3
theorem slices_Sort_s_int_int.pt_eq : slices_Sort_s_int_int.pt = fun x0 w K => FN Try.prog Try.f26 (bodyOf Try.f26) [] .leaf [x0] w K := by kernel_rfl
theorem slices_Sort_s_int_int.call {x0 : Value} {w : World} {K : Value → World → Prop} (h : slices_Sort_s_int_int.pt x0 w K) : Calls Try.prog F_slices_Sort_s_int_int #[x0] w (retK K) :=
  calls_FN (args := [x0]) Try.func26 (by kernel_rfl) (by rw [slices_Sort_s_int_int.pt_eq] at h; exact h)
theorem slices_Sort_s_int_int.up {x0 : Value} {w : World} {K : Value → World → Prop} (h : Calls Try.prog F_slices_Sort_s_int_int #[x0] w (retK K)) : upK Try.prog (sCall F_slices_Sort_s_int_int #[x0]) w K :=
  up_call (fn := Try.f26) Try.func26 (by kernel_rfl) (by kernel_rfl) h

/-- slices.Compact[[]int,int] -/
def slices_Compact_s_int_int.pt (s0 : Value) (w : World) (K : Value → World → Prop) : Prop :=
  readK Try.prog (sBlt .len #[T_s_int] T_int #[false] #[s0]) w fun t7 =>
  pureK Try.prog (sBin .lss T_int (.tmp 7) (.const (.int .i64 2)) t7 (.int .i64 2)) fun t8 =>
  ifB t8
  (K s0 w)
  (LOOP (X := Value × Unit) (fun x1 w1 next1 =>
    readK Try.prog (sBlt .len #[T_s_int] T_int #[false] #[s0]) w1 fun t12 =>
    pureK Try.prog (sBin .lss T_int (.tmp 10) (.tmp 12) x1.1 t12) fun t13 =>
    ifB t13
    (LETJ (X := Value × Unit) (fun y1 w2 =>
      pureK Try.prog (sBin .add T_int (.tmp 14) (.const (.int .i64 1)) y1.1 (.int .i64 1)) fun t15 =>
      next1 (t15, ()) w2)
     (fun J1 =>
      pureK Try.prog (sIdxAddr T_s_int s0 x1.1) fun t18 =>
      readK Try.prog (sLoad T_int t18) (tick w1) fun t19 =>
      pureK Try.prog (sBin .sub T_int (.tmp 21) (.const (.int .i64 1)) x1.1 (.int .i64 1)) fun t22 =>
      pureK Try.prog (sIdxAddr T_s_int s0 t22) fun t23 =>
      readK Try.prog (sLoad T_int t23) (tick w1) fun t24 =>
      pureK Try.prog (sBin .eql T_int (.tmp 19) (.tmp 24) t19 t24) fun t25 =>
      ifB t25
      (pureK Try.prog (sSlice T_s_int s0 (some x1.1) none none) fun t28 =>
       LOOP (X := Value × Value × Unit) (fun x3 w3 next3 =>
        readK Try.prog (sBlt .len #[T_s_int] T_int #[false] #[t28]) w3 fun t31 =>
        pureK Try.prog (sBin .lss T_int (.tmp 29) (.tmp 31) x3.2.1 t31) fun t32 =>
        ifB t32
        (LETJ (X := Value × Unit) (fun y2 w4 =>
          pureK Try.prog (sBin .add T_int (.tmp 33) (.const (.int .i64 1)) x3.2.1 (.int .i64 1)) fun t34 =>
          next3 (y2.1, t34, ()) w4)
         (fun J2 =>
          pureK Try.prog (sIdxAddr T_s_int t28 x3.2.1) fun t37 =>
          readK Try.prog (sLoad T_int t37) (tick w3) fun t38 =>
          pureK Try.prog (sBin .sub T_int (.tmp 40) (.const (.int .i64 1)) x3.2.1 (.int .i64 1)) fun t41 =>
          pureK Try.prog (sIdxAddr T_s_int t28 t41) fun t42 =>
          readK Try.prog (sLoad T_int t42) (tick w3) fun t43 =>
          pureK Try.prog (sBin .neq T_int (.tmp 38) (.tmp 43) t38 t43) fun t44 =>
          ifB t44
          (pureK Try.prog (sIdxAddr T_s_int t28 x3.2.1) fun t49 =>
           readK Try.prog (sLoad T_int t49) (tick w3) fun t50 =>
           pureK Try.prog (sIdxAddr T_s_int s0 x3.1) fun t51 =>
           upK Try.prog (sStore T_int t51 t50) (tick w3) fun tu w5 =>
           pureK Try.prog (sBin .add T_int (.tmp 52) (.const (.int .i64 1)) x3.1 (.int .i64 1)) fun t53 =>
           J2 (t53, ()) w5)
          (J2 (x3.1, ()) (tick w3))))
        (pureK Try.prog (sSlice T_s_int s0 (some x3.1) none none) fun t56 =>
         upK Try.prog (sBlt .clear #[T_s_int] T_ #[false] #[t56]) w3 fun tu_1 w6 =>
         pureK Try.prog (sSlice T_s_int s0 none (some x3.1) none) fun t59 =>
         K t59 w6))
       (x1.1, (.int .i64 1), ()) (tick w1))
      (J1 (x1.1, ()) (tick w1))))
    (K s0 w1))
   ((.int .i64 1), ()) w)
theorem slices_Compact_s_int_int.pt_eq : slices_Compact_s_int_int.pt = fun s0 w K => FN Try.prog Try.f27 (bodyOf Try.f27) [2] (.node none .leaf (.node none .leaf (.node none (.node none .leaf (.node none (.node none (.node none .leaf (.node (some [3]) (.node none (.node none .leaf (.node none (.node none .leaf (.node none (.node none .leaf (.node none (.node none (.node none .leaf (.node (some [3]) .leaf .leaf)) .leaf) .leaf)) .leaf)) .leaf)) .leaf) .leaf)) .leaf) .leaf)) .leaf))) [s0] w K := by kernel_rfl
theorem slices_Compact_s_int_int.call {s0 : Value} {w : World} {K : Value → World → Prop} (h : slices_Compact_s_int_int.pt s0 w K) : Calls Try.prog F_slices_Compact_s_int_int #[s0] w (retK K) :=
  calls_FN (args := [s0]) Try.func27 (by kernel_rfl) (by rw [slices_Compact_s_int_int.pt_eq] at h; exact h)
theorem slices_Compact_s_int_int.up {s0 : Value} {w : World} {K : Value → World → Prop} (h : Calls Try.prog F_slices_Compact_s_int_int #[s0] w (retK K)) : upK Try.prog (sCall F_slices_Compact_s_int_int #[s0]) w K :=
  up_call (fn := Try.f27) Try.func27 (by kernel_rfl) (by kernel_rfl) h

/-- errata/replace.set -/
def replace_set.pt (l0 no1 state2 : Value) (w : World) (K : Value → World → Prop) : Prop :=
  readK Try.prog (sBlt .len #[T_s_api_Replacement] T_int #[false] #[l0]) w fun t12 =>
  upK Try.prog (sCall F_replace_within #[no1, (.int .i64 1), t12]) w fun t13 w1 =>
  pureK Try.prog (sUn .not t13) fun t14 =>
  ifB t14
  (K (.tuple #[(.slice none 0 0), (.int .i64 4)]) w1)
  (LETJ (X := Unit) (fun y1 w2 =>
    upK Try.prog (sCall F_slices_Clone_s_api_Replacement_api_Replacement #[l0]) w2 fun t28 w3 =>
    pureK Try.prog (sBin .sub T_int (.tmp 30) (.const (.int .i64 1)) no1 (.int .i64 1)) fun t31 =>
    pureK Try.prog (sIdxAddr T_s_api_Replacement t28 t31) fun t33 =>
    pureK Try.prog (sFieldAddr T_api_Replacement t33 4) fun t34 =>
    upK Try.prog (sStore T_int t34 state2) w3 fun tu w4 =>
    K (.tuple #[t28, (.int .i64 0)]) w4)
   (fun J1 =>
    pureK Try.prog (sBin .sub T_int (.tmp 16) (.const (.int .i64 1)) no1 (.int .i64 1)) fun t17 =>
    pureK Try.prog (sIdxAddr T_s_api_Replacement l0 t17) fun t18 =>
    pureK Try.prog (sFieldAddr T_api_Replacement t18 4) fun t19 =>
    readK Try.prog (sLoad T_int t19) w1 fun t20 =>
    pureK Try.prog (sBin .neq T_int (.tmp 21) (.const (.int .i64 0)) t20 (.int .i64 0)) fun t22 =>
    ifB t22
    (pureK Try.prog (sBin .neq T_int (.tmp 24) (.const (.int .i64 1)) t20 (.int .i64 1)) fun t25 =>
     ifB t25
     (K (.tuple #[(.slice none 0 0), (.int .i64 7)]) w1)
     (J1 (()) w1))
    (J1 (()) w1)))
theorem replace_set.pt_eq : replace_set.pt = fun l0 no1 state2 w K => FN Try.prog Try.f28 (bodyOf Try.f28) [6, 7] (.node none .leaf (.node none .leaf (.node (some []) .leaf .leaf))) [l0, no1, state2] w K := by kernel_rfl
theorem replace_set.call {l0 no1 state2 : Value} {w : World} {K : Value → World → Prop} (h : replace_set.pt l0 no1 state2 w K) : Calls Try.prog F_replace_set #[l0, no1, state2] w (retK K) :=
  calls_FN (args := [l0, no1, state2]) Try.func28 (by kernel_rfl) (by rw [replace_set.pt_eq] at h; exact h)
theorem replace_set.up {l0 no1 state2 : Value} {w : World} {K : Value → World → Prop} (h : Calls Try.prog F_replace_set #[l0, no1, state2] w (retK K)) : upK Try.prog (sCall F_replace_set #[l0, no1, state2]) w K :=
  up_call (fn := Try.f28) Try.func28 (by kernel_rfl) (by kernel_rfl) h

/-- slices.Clone[[]errata/api.Seg,errata/api.Seg] -/
def slices_Clone_s_api_Seg_api_Seg.pt (s0 : Value) (w : World) (K : Value → World → Prop) : Prop :=
  pureK Try.prog (sBin .eql T_s_api_Seg (.tmp 3) (.const (.slice none 0 0)) s0 (.slice none 0 0)) fun t4 =>
  ifB t4
  (K (.slice none 0 0) w)
  (upK Try.prog (sBuildSlice T_s_api_Seg 0 #[]) w fun t5 w1 =>
   upK Try.prog (sBlt .append #[T_s_api_Seg, T_s_api_Seg] T_s_api_Seg #[false, false] #[t5, s0]) w1 fun t7 w2 =>
   K t7 w2)
theorem slices_Clone_s_api_Seg_api_Seg.pt_eq : slices_Clone_s_api_Seg_api_Seg.pt = fun s0 w K => FN Try.prog Try.f29 (bodyOf Try.f29) [2] .leaf [s0] w K := by kernel_rfl
theorem slices_Clone_s_api_Seg_api_Seg.call {s0 : Value} {w : World} {K : Value → World → Prop} (h : slices_Clone_s_api_Seg_api_Seg.pt s0 w K) : Calls Try.prog F_slices_Clone_s_api_Seg_api_Seg #[s0] w (retK K) :=
  calls_FN (args := [s0]) Try.func29 (by kernel_rfl) (by rw [slices_Clone_s_api_Seg_api_Seg.pt_eq] at h; exact h)
theorem slices_Clone_s_api_Seg_api_Seg.up {s0 : Value} {w : World} {K : Value → World → Prop} (h : Calls Try.prog F_slices_Clone_s_api_Seg_api_Seg #[s0] w (retK K)) : upK Try.prog (sCall F_slices_Clone_s_api_Seg_api_Seg #[s0]) w K :=
  up_call (fn := Try.f29) Try.func29 (by kernel_rfl) (by kernel_rfl) h

/-- errata/timeline.Replace -/
def timeline_Replace.pt (l0 from1 version2 : Value) (w : World) (K : Value → World → Prop) : Prop :=
  pureK Try.prog (sBin .lss T_int (.tmp 9) (.const (.int .i64 0)) from1 (.int .i64 0)) fun t10 =>
  ifB t10
  (K (.tuple #[(.slice none 0 0), (.int .i64 3)]) w)
  (pureK Try.prog (sBin .gtr T_int (.tmp 12) (.const (.int .i64 1099511627776)) from1 (.int .i64 1099511627776)) fun t13 =>
   ifB t13
   (K (.tuple #[(.slice none 0 0), (.int .i64 3)]) w)
   (pureK Try.prog (sBin .lss T_int (.tmp 16) (.const (.int .i64 1)) version2 (.int .i64 1)) fun t17 =>
    ifB t17
    (K (.tuple #[(.slice none 0 0), (.int .i64 3)]) w)
    (pureK Try.prog (sBin .gtr T_int (.tmp 20) (.const (.int .i64 50)) version2 (.int .i64 50)) fun t21 =>
     ifB t21
     (K (.tuple #[(.slice none 0 0), (.int .i64 3)]) w)
     (pureK Try.prog (sBin .sub T_int (.tmp 25) (.const (.int .i64 1)) from1 (.int .i64 1)) fun t26 =>
      upK Try.prog (sCall F_timeline_behind #[l0, t26]) w fun t27 w1 =>
      pureK Try.prog (sSlice T_s_api_Seg l0 none (some t27) none) fun t28 =>
      upK Try.prog (sCall F_slices_Clone_s_api_Seg_api_Seg #[t28]) w1 fun t29 w2 =>
      LETJ (X := Value × Unit) (fun y1 w3 =>
       K (.tuple #[y1.1, (.int .i64 0)]) w3)
      (fun J1 =>
       readK Try.prog (sBlt .len #[T_s_api_Seg] T_int #[false] #[t29]) w2 fun t31 =>
       pureK Try.prog (sBin .eql T_int (.tmp 31) (.const (.int .i64 0)) t31 (.int .i64 0)) fun t32 =>
       ifB t32
       (pureK Try.prog (sBuild T_api_Seg #[(0, from1), (1, version2)]) fun t47 =>
        upK Try.prog (sBuildSlice T_s_api_Seg 1 #[(0, t47)]) w2 fun t48 w4 =>
        upK Try.prog (sBlt .append #[T_s_api_Seg, T_s_api_Seg] T_s_api_Seg #[false, false] #[t29, t48]) w4 fun t49 w5 =>
        J1 (t49, ()) w5)
       (readK Try.prog (sBlt .len #[T_s_api_Seg] T_int #[false] #[t29]) w2 fun t36 =>
        pureK Try.prog (sBin .sub T_int (.tmp 36) (.const (.int .i64 1)) t36 (.int .i64 1)) fun t37 =>
        pureK Try.prog (sIdxAddr T_s_api_Seg t29 t37) fun t38 =>
        pureK Try.prog (sFieldAddr T_api_Seg t38 1) fun t39 =>
        readK Try.prog (sLoad T_int t39) w2 fun t40 =>
        pureK Try.prog (sBin .neq T_int (.tmp 40) (.tmp 41) t40 version2) fun t42 =>
        ifB t42
        (pureK Try.prog (sBuild T_api_Seg #[(0, from1), (1, version2)]) fun t47_1 =>
         upK Try.prog (sBuildSlice T_s_api_Seg 1 #[(0, t47_1)]) w2 fun t48_1 w6 =>
         upK Try.prog (sBlt .append #[T_s_api_Seg, T_s_api_Seg] T_s_api_Seg #[false, false] #[t29, t48_1]) w6 fun t49_1 w7 =>
         J1 (t49_1, ()) w7)
        (J1 (t29, ()) w2)))))))
theorem timeline_Replace.pt_eq : timeline_Replace.pt = fun l0 from1 version2 w K => FN Try.prog Try.f30 (bodyOf Try.f30) [6, 7] (.node none .leaf (.node none .leaf (.node none .leaf (.node (some [8]) .leaf .leaf)))) [l0, from1, version2] w K := by kernel_rfl
theorem timeline_Replace.call {l0 from1 version2 : Value} {w : World} {K : Value → World → Prop} (h : timeline_Replace.pt l0 from1 version2 w K) : Calls Try.prog F_timeline_Replace #[l0, from1, version2] w (retK K) :=
  calls_FN (args := [l0, from1, version2]) Try.func30 (by kernel_rfl) (by rw [timeline_Replace.pt_eq] at h; exact h)
theorem timeline_Replace.up {l0 from1 version2 : Value} {w : World} {K : Value → World → Prop} (h : Calls Try.prog F_timeline_Replace #[l0, from1, version2] w (retK K)) : upK Try.prog (sCall F_timeline_Replace #[l0, from1, version2]) w K :=
  up_call (fn := Try.f30) Try.func30 (by kernel_rfl) (by kernel_rfl) h

/-- slices.IndexFunc[[]errata/api.Replacement,errata/api.Replacement] -/
def slices_IndexFunc_s_api_Replacement_api_Replacement.pt (s0 f1 : Value) (w : World) (K : Value → World → Prop) : Prop :=
  readK Try.prog (sBlt .len #[T_s_api_Replacement] T_int #[false] #[s0]) w fun t7 =>
  LOOP (X := Value × Unit) (fun x1 w1 next1 =>
   pureK Try.prog (sBin .lss T_int (.tmp 8) (.tmp 7) x1.1 t7) fun t9 =>
   ifB t9
   (pureK Try.prog (sIdxAddr T_s_api_Replacement s0 x1.1) fun t14 =>
    readK Try.prog (sLoad T_api_Replacement t14) w1 fun t15 =>
    upK Try.prog (sCallV f1 #[t15]) w1 fun t16 w2 =>
    ifB t16
    (K x1.1 w2)
    (pureK Try.prog (sBin .add T_int (.tmp 8) (.const (.int .i64 1)) x1.1 (.int .i64 1)) fun t18 =>
     next1 (t18, ()) w2))
   (K (.int .i64 (-1)) w1))
  ((.int .i64 0), ()) w
theorem slices_IndexFunc_s_api_Replacement_api_Replacement.pt_eq : slices_IndexFunc_s_api_Replacement_api_Replacement.pt = fun s0 f1 w K => FN Try.prog Try.f31 (bodyOf Try.f31) [4] .leaf [s0, f1] w K := by kernel_rfl
theorem slices_IndexFunc_s_api_Replacement_api_Replacement.call {s0 f1 : Value} {w : World} {K : Value → World → Prop} (h : slices_IndexFunc_s_api_Replacement_api_Replacement.pt s0 f1 w K) : Calls Try.prog F_slices_IndexFunc_s_api_Replacement_api_Replacement #[s0, f1] w (retK K) :=
  calls_FN (args := [s0, f1]) Try.func31 (by kernel_rfl) (by rw [slices_IndexFunc_s_api_Replacement_api_Replacement.pt_eq] at h; exact h)
theorem slices_IndexFunc_s_api_Replacement_api_Replacement.up {s0 f1 : Value} {w : World} {K : Value → World → Prop} (h : Calls Try.prog F_slices_IndexFunc_s_api_Replacement_api_Replacement #[s0, f1] w (retK K)) : upK Try.prog (sCall F_slices_IndexFunc_s_api_Replacement_api_Replacement #[s0, f1]) w K :=
  up_call (fn := Try.f31) Try.func31 (by kernel_rfl) (by kernel_rfl) h

/-- slices.DeleteFunc[[]errata/api.Replacement,errata/api.Replacement] -/
def slices_DeleteFunc_s_api_Replacement_api_Replacement.pt (s0 del1 : Value) (w : World) (K : Value → World → Prop) : Prop :=
  upK Try.prog (sCall F_slices_IndexFunc_s_api_Replacement_api_Replacement #[s0, del1]) w fun t10 w1 =>
  pureK Try.prog (sBin .eql T_int (.tmp 11) (.const (.int .i64 (-1))) t10 (.int .i64 (-1))) fun t12 =>
  ifB t12
  (K s0 w1)
  (pureK Try.prog (sBin .add T_int (.tmp 14) (.const (.int .i64 1)) t10 (.int .i64 1)) fun t15 =>
   LOOP (X := Value × Value × Unit) (fun x2 w2 next2 =>
    readK Try.prog (sBlt .len #[T_s_api_Replacement] T_int #[false] #[s0]) w2 fun t18 =>
    pureK Try.prog (sBin .lss T_int (.tmp 16) (.tmp 18) x2.2.1 t18) fun t19 =>
    ifB t19
    (LETJ (X := Value × Unit) (fun y1 w3 =>
      pureK Try.prog (sBin .add T_int (.tmp 20) (.const (.int .i64 1)) x2.2.1 (.int .i64 1)) fun t21 =>
      next2 (y1.1, t21, ()) w3)
     (fun J1 =>
      pureK Try.prog (sIdxAddr T_s_api_Replacement s0 x2.2.1) fun t24 =>
      readK Try.prog (sLoad T_api_Replacement t24) w2 fun t25 =>
      upK Try.prog (sAlloc T_api_Replacement) w2 fun v7 w4 =>
      upK Try.prog (sStore T_api_Replacement v7 t25) w4 fun tu w5 =>
      readK Try.prog (sLoad T_api_Replacement v7) w5 fun t27 =>
      upK Try.prog (sCallV del1 #[t27]) w5 fun t28 w6 =>
      pureK Try.prog (sUn .not t28) fun t29 =>
      ifB t29
      (readK Try.prog (sLoad T_api_Replacement v7) w6 fun t32 =>
       pureK Try.prog (sIdxAddr T_s_api_Replacement s0 x2.1) fun t33 =>
       upK Try.prog (sStore T_api_Replacement t33 t32) w6 fun tu_1 w7 =>
       pureK Try.prog (sBin .add T_int (.tmp 34) (.const (.int .i64 1)) x2.1 (.int .i64 1)) fun t35 =>
       J1 (t35, ()) w7)
      (J1 (x2.1, ()) w6)))
    (pureK Try.prog (sSlice T_s_api_Replacement s0 (some x2.1) none none) fun t38 =>
     upK Try.prog (sBlt .clear #[T_s_api_Replacement] T_ #[false] #[t38]) w2 fun tu_2 w8 =>
     pureK Try.prog (sSlice T_s_api_Replacement s0 none (some x2.1) none) fun t41 =>
     K t41 w8))
   (t10, t15, ()) w1)
theorem slices_DeleteFunc_s_api_Replacement_api_Replacement.pt_eq : slices_DeleteFunc_s_api_Replacement_api_Replacement.pt = fun s0 del1 w K => FN Try.prog Try.f32 (bodyOf Try.f32) [4] (.node none .leaf (.node none .leaf (.node none .leaf (.node none (.node none .leaf (.node none (.node none (.node none .leaf (.node (some [5]) .leaf .leaf)) .leaf) .leaf)) .leaf)))) [s0, del1] w K := by kernel_rfl
theorem slices_DeleteFunc_s_api_Replacement_api_Replacement.call {s0 del1 : Value} {w : World} {K : Value → World → Prop} (h : slices_DeleteFunc_s_api_Replacement_api_Replacement.pt s0 del1 w K) : Calls Try.prog F_slices_DeleteFunc_s_api_Replacement_api_Replacement #[s0, del1] w (retK K) :=
  calls_FN (args := [s0, del1]) Try.func32 (by kernel_rfl) (by rw [slices_DeleteFunc_s_api_Replacement_api_Replacement.pt_eq] at h; exact h)
theorem slices_DeleteFunc_s_api_Replacement_api_Replacement.up {s0 del1 : Value} {w : World} {K : Value → World → Prop} (h : Calls Try.prog F_slices_DeleteFunc_s_api_Replacement_api_Replacement #[s0, del1] w (retK K)) : upK Try.prog (sCall F_slices_DeleteFunc_s_api_Replacement_api_Replacement #[s0, del1]) w K :=
  up_call (fn := Try.f32) Try.func32 (by kernel_rfl) (by kernel_rfl) h

/-- errata/replace.Open$1 -/
def replace_Open_1.pt (r0 : Value) (w : World) (K : Value → World → Prop) : Prop :=
  upK Try.prog (sBox T_api_Replacement r0) w fun r1 w1 =>
  readK Try.prog (sLoad T_api_Replacement r1) w1 fun t3 =>
  upK Try.prog (sCall F_replace_open #[t3]) w1 fun t4 w2 =>
  pureK Try.prog (sUn .not t4) fun t5 =>
  K t5 w2
theorem replace_Open_1.pt_eq : replace_Open_1.pt = fun r0 w K => FN Try.prog Try.f33 (bodyOf Try.f33) [2] .leaf [r0] w K := by kernel_rfl
theorem replace_Open_1.call {r0 : Value} {w : World} {K : Value → World → Prop} (h : replace_Open_1.pt r0 w K) : Calls Try.prog F_replace_Open_1 #[r0] w (retK K) :=
  calls_FN (args := [r0]) Try.func33 (by kernel_rfl) (by rw [replace_Open_1.pt_eq] at h; exact h)
theorem replace_Open_1.up {r0 : Value} {w : World} {K : Value → World → Prop} (h : Calls Try.prog F_replace_Open_1 #[r0] w (retK K)) : upK Try.prog (sCall F_replace_Open_1 #[r0]) w K :=
  up_call (fn := Try.f33) Try.func33 (by kernel_rfl) (by kernel_rfl) h

/-- sort.Search -/
def sort_Search.pt (n0 f1 : Value) (w : World) (K : Value → World → Prop) : Prop :=
  LETJ (X := Value × Unit) (fun y1 w1 =>
   K y1.1 w1)
  (fun J1 =>
   LOOP (X := Value × Value × Unit) (fun x2 w2 next2 =>
    pureK Try.prog (sBin .lss T_int (.tmp 9) (.tmp 10) x2.1 x2.2.1) fun t11 =>
    ifB t11
    (pureK Try.prog (sBin .add T_int (.tmp 12) (.tmp 13) x2.1 x2.2.1) fun t14 =>
     upK Try.prog (sConv T_int T_uint t14) w2 fun t15 w3 =>
     pureK Try.prog (sBin .shr T_uint (.tmp 15) (.const (.int .u64 1)) t15 (.int .u64 1)) fun t16 =>
     upK Try.prog (sConv T_uint T_int t16) w3 fun t17 w4 =>
     upK Try.prog (sCallV f1 #[t17]) w4 fun t20 w5 =>
     pureK Try.prog (sUn .not t20) fun t21 =>
     ifB t21
     (pureK Try.prog (sBin .add T_int (.tmp 22) (.const (.int .i64 1)) t17 (.int .i64 1)) fun t23 =>
      next2 (t23, x2.2.1, ()) w5)
     (next2 (x2.1, t17, ()) w5))
    (J1 (x2.1, ()) w2))
   ((.int .i64 0), n0, ()) w)
theorem sort_Search.pt_eq : sort_Search.pt = fun n0 f1 w K => FN Try.prog Try.f34 (bodyOf Try.f34) [4] (.node none .leaf (.node none .leaf (.node (some [5]) .leaf .leaf))) [n0, f1] w K := by kernel_rfl
theorem sort_Search.call {n0 f1 : Value} {w : World} {K : Value → World → Prop} (h : sort_Search.pt n0 f1 w K) : Calls Try.prog F_sort_Search #[n0, f1] w (retK K) :=
  calls_FN (args := [n0, f1]) Try.func34 (by kernel_rfl) (by rw [sort_Search.pt_eq] at h; exact h)
theorem sort_Search.up {n0 f1 : Value} {w : World} {K : Value → World → Prop} (h : Calls Try.prog F_sort_Search #[n0, f1] w (retK K)) : upK Try.prog (sCall F_sort_Search #[n0, f1]) w K :=
  up_call (fn := Try.f34) Try.func34 (by kernel_rfl) (by kernel_rfl) h

/-- errata/timeline.behind$1 -/
def timeline_behind_1.pt (i0 t1 t2 : Value) (w : World) (K : Value → World → Prop) : Prop :=
  readK Try.prog (sLoad T_s_api_Seg t1) (tick w) fun t5 =>
  pureK Try.prog (sIdxAddr T_s_api_Seg t5 i0) fun t7 =>
  pureK Try.prog (sFieldAddr T_api_Seg t7 0) fun t8 =>
  readK Try.prog (sLoad T_int t8) (tick w) fun t9 =>
  readK Try.prog (sLoad T_int t2) (tick w) fun t10 =>
  pureK Try.prog (sBin .gtr T_int (.tmp 9) (.tmp 10) t9 t10) fun t11 =>
  K t11 (tick w)
theorem timeline_behind_1.pt_eq : timeline_behind_1.pt = fun i0 t1 t2 w K => FN Try.prog Try.f35 (bodyOf Try.f35) [4] .leaf [i0, t1, t2] w K := by kernel_rfl
theorem timeline_behind_1.call {i0 t1 t2 : Value} {w : World} {K : Value → World → Prop} (h : timeline_behind_1.pt i0 t1 t2 w K) : Calls Try.prog F_timeline_behind_1 #[i0, t1, t2] w (retK K) :=
  calls_FN (args := [i0, t1, t2]) Try.func35 (by kernel_rfl) (by rw [timeline_behind_1.pt_eq] at h; exact h)
theorem timeline_behind_1.up {i0 t1 t2 : Value} {w : World} {K : Value → World → Prop} (h : Calls Try.prog F_timeline_behind_1 #[i0, t1, t2] w (retK K)) : upK Try.prog (sCall F_timeline_behind_1 #[i0, t1, t2]) w K :=
  up_call (fn := Try.f35) Try.func35 (by kernel_rfl) (by kernel_rfl) h

/-- errata/timeline.versions -/
def timeline_versions.pt (l0 : Value) (w : World) (K : Value → World → Prop) : Prop :=
  readK Try.prog (sBlt .len #[T_s_api_Seg] T_int #[false] #[l0]) w fun t7 =>
  LOOP (X := Value × Value × Unit) (fun x1 w1 next1 =>
   pureK Try.prog (sBin .lss T_int (.tmp 8) (.tmp 7) x1.2.1 t7) fun t9 =>
   ifB t9
   (pureK Try.prog (sIdxAddr T_s_api_Seg l0 x1.2.1) fun t10 =>
    readK Try.prog (sLoad T_api_Seg t10) w1 fun t11 =>
    upK Try.prog (sAlloc T_api_Seg) w1 fun s5 w2 =>
    upK Try.prog (sStore T_api_Seg s5 t11) w2 fun tu w3 =>
    pureK Try.prog (sFieldAddr T_api_Seg s5 1) fun t13 =>
    readK Try.prog (sLoad T_int t13) w3 fun t14 =>
    upK Try.prog (sBuildSlice T_s_int 1 #[(0, t14)]) w3 fun t15 w4 =>
    upK Try.prog (sBlt .append #[T_s_int, T_s_int] T_s_int #[false, false] #[x1.1, t15]) w4 fun t16 w5 =>
    pureK Try.prog (sBin .add T_int (.tmp 8) (.const (.int .i64 1)) x1.2.1 (.int .i64 1)) fun t17 =>
    next1 (t16, t17, ()) w5)
   (upK Try.prog (sCall F_slices_Sort_s_int_int #[x1.1]) w1 fun t19 w6 =>
    upK Try.prog (sCall F_slices_Compact_s_int_int #[x1.1]) w6 fun t21 w7 =>
    K t21 w7))
  ((.slice none 0 0), (.int .i64 0), ()) w
theorem timeline_versions.pt_eq : timeline_versions.pt = fun l0 w K => FN Try.prog Try.f36 (bodyOf Try.f36) [2] .leaf [l0] w K := by kernel_rfl
theorem timeline_versions.call {l0 : Value} {w : World} {K : Value → World → Prop} (h : timeline_versions.pt l0 w K) : Calls Try.prog F_timeline_versions #[l0] w (retK K) :=
  calls_FN (args := [l0]) Try.func36 (by kernel_rfl) (by rw [timeline_versions.pt_eq] at h; exact h)
theorem timeline_versions.up {l0 : Value} {w : World} {K : Value → World → Prop} (h : Calls Try.prog F_timeline_versions #[l0] w (retK K)) : upK Try.prog (sCall F_timeline_versions #[l0]) w K :=
  up_call (fn := Try.f36) Try.func36 (by kernel_rfl) (by kernel_rfl) h

end Go.Proofs.Ytdecfgbdppfmcaa
