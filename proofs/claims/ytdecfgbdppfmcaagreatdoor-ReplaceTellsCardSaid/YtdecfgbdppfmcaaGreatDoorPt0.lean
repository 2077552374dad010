/-
  The reckoned conditions of the functions that this seat's statements reach, printed by program, each held against the translation by the kernel. No condition.
-/
import Derived.Test.YtdecfgbdppfmcaaGreatDoorNames
namespace Go.Proofs.YtdecfgbdppfmcaaGreatDoor
set_option linter.unusedVariables false
set_option maxRecDepth 100000

/-- errata/erratalaw47.ReplaceTells -/
def erratalaw47_ReplaceTells.pt (m0 text1 b2 n3 l4 time5 bucket6 : Value) (w : World) (K : Value → World → Prop) : Prop :=
  upK Tryz.prog (sBox T_api_Budget b2) w fun b9 w1 =>
  upK Tryz.prog (sCall F_erratalaw47_small #[]) w1 fun t31 w2 =>
  LETJ (X := Value × Unit) (fun jv1 w3 =>
   ifB jv1.1
   (K t31 w3)
   (upK Tryz.prog (sCall F_replace_Read #[text1]) w3 fun t80 w4 =>
    pureK Tryz.prog (sExtract t80 0) fun t81 =>
    pureK Tryz.prog (sExtract t80 1) fun t82 =>
    upK Tryz.prog (sCall F_errataref47_Read #[text1]) w4 fun t85 w5 =>
    pureK Tryz.prog (sExtract t85 0) fun t86 =>
    pureK Tryz.prog (sExtract t85 1) fun t87 =>
    readK Tryz.prog (sLoad T_api_Budget b9) w5 fun t89 =>
    upK Tryz.prog (sCall F_replace_Spend #[t89, n3]) w5 fun t91 w6 =>
    pureK Tryz.prog (sExtract t91 0) fun t92 =>
    pureK Tryz.prog (sExtract t91 1) fun t93 =>
    upK Tryz.prog (sAlloc T_api_Budget) w6 fun c20 w7 =>
    upK Tryz.prog (sStore T_api_Budget c20 t92) w7 fun tu w8 =>
    readK Tryz.prog (sLoad T_api_Budget b9) w8 fun t95 =>
    upK Tryz.prog (sCall F_errataref47_Spend #[t95, n3]) w8 fun t97 w9 =>
    pureK Tryz.prog (sExtract t97 0) fun t98 =>
    pureK Tryz.prog (sExtract t97 1) fun t99 =>
    upK Tryz.prog (sAlloc T_api_Budget) w9 fun d22 w10 =>
    upK Tryz.prog (sStore T_api_Budget d22 t98) w10 fun tu_1 w11 =>
    LETJ (X := Value × Unit) (fun jv2 w12 =>
     ifB jv2.1
     (K (.bool false) w12)
     (pureK Tryz.prog (sBuild T_api_Seg #[(1, (.int .i64 1))]) fun t139 =>
      upK Tryz.prog (sBuildSlice T_s_api_Seg 1 #[(0, t139)]) w12 fun t140 w13 =>
      pureK Tryz.prog (sBuild T_erratalaw47_state #[(1, t140)]) fun t141 =>
      upK Tryz.prog (sBox T_erratalaw47_state t141) w13 fun t142 w14 =>
      pureK Tryz.prog (sBuild T_api_Seg #[(1, (.int .i64 1))]) fun t143 =>
      upK Tryz.prog (sBuildSlice T_s_api_Seg 1 #[(0, t143)]) w14 fun t144 w15 =>
      pureK Tryz.prog (sBuild T_erratalaw47_state #[(1, t144)]) fun t145 =>
      upK Tryz.prog (sBox T_erratalaw47_state t145) w15 fun t146 w16 =>
      LOOP (X := Value × Unit) (fun lv17 w17 next17 =>
       readK Tryz.prog (sBlt .len #[T_s_erratalaw47_Op] T_int #[false] #[l4]) w17 fun t149 =>
       pureK Tryz.prog (sBin .lss T_int (.tmp 147) (.tmp 149) lv17.1 t149) fun t150 =>
       ifB t150
       (pureK Tryz.prog (sIdxAddr T_s_erratalaw47_Op l4 lv17.1) fun t157 =>
        readK Tryz.prog (sLoad T_erratalaw47_Op t157) w17 fun t158 =>
        upK Tryz.prog (sCall F_erratalaw47_state_step #[t142, t158]) w17 fun t159 w18 =>
        pureK Tryz.prog (sExtract t159 0) fun t160 =>
        pureK Tryz.prog (sExtract t159 1) fun t161 =>
        pureK Tryz.prog (sIdxAddr T_s_erratalaw47_Op l4 lv17.1) fun t166 =>
        readK Tryz.prog (sLoad T_erratalaw47_Op t166) w18 fun t167 =>
        upK Tryz.prog (sCall F_erratalaw47_state_model #[t146, t167]) w18 fun t168 w19 =>
        pureK Tryz.prog (sExtract t168 0) fun t169 =>
        pureK Tryz.prog (sExtract t168 1) fun t170 =>
        LETJ (X := Value × Unit) (fun jv3 w20 =>
         ifB jv3.1
         (K (.bool false) w20)
         (LETJ (X := Value × Unit) (fun jv4 w21 =>
           ifB jv4.1
           (K (.bool false) w21)
           (pureK Tryz.prog (sBin .add T_int (.tmp 151) (.const (.int .i64 1)) lv17.1 (.int .i64 1)) fun t152 =>
            next17 (t152, ()) w21))
          (fun J4 =>
           pureK Tryz.prog (sNil t142) fun t218 =>
           pureK Tryz.prog (sFieldAddr T_erratalaw47_state t218 0) fun t219 =>
           readK Tryz.prog (sLoad T_s_api_Replacement t219) (tick w20) fun t220 =>
           pureK Tryz.prog (sNil t142) fun t222 =>
           pureK Tryz.prog (sFieldAddr T_erratalaw47_state t222 1) fun t223 =>
           readK Tryz.prog (sLoad T_s_api_Seg t223) (tick w20) fun t224 =>
           pureK Tryz.prog (sNil t146) fun t229 =>
           pureK Tryz.prog (sFieldAddr T_erratalaw47_state t229 0) fun t230 =>
           readK Tryz.prog (sLoad T_s_api_Replacement t230) (tick w20) fun t231 =>
           pureK Tryz.prog (sNil t146) fun t233 =>
           pureK Tryz.prog (sFieldAddr T_erratalaw47_state t233 1) fun t234 =>
           readK Tryz.prog (sLoad T_s_api_Seg t234) (tick w20) fun t235 =>
           upK Tryz.prog (sCall F_replace_Side #[t220, t224, time5, bucket6]) (tick w20) fun t227 w22 =>
           Is Tryz.prog (sLoad T_s_api_Seg t234) t235 w22 ∧ Is Tryz.prog (sLoad T_s_api_Replacement t230) t231 w22 ∧ upK Tryz.prog (sCall F_errataref47_Side #[t231, t235, time5, bucket6]) w22 fun t238 w23 =>
           pureK Tryz.prog (sBin .neq T_int (.tmp 227) (.tmp 238) t227 t238) fun t239 =>
           ifB t239
           (J4 ((.bool true), ()) w23)
           (pureK Tryz.prog (sNil t142) fun t242 =>
            pureK Tryz.prog (sFieldAddr T_erratalaw47_state t242 0) fun t243 =>
            readK Tryz.prog (sLoad T_s_api_Replacement t243) w23 fun t244 =>
            pureK Tryz.prog (sNil t142) fun t246 =>
            pureK Tryz.prog (sFieldAddr T_erratalaw47_state t246 1) fun t247 =>
            readK Tryz.prog (sLoad T_s_api_Seg t247) w23 fun t248 =>
            pureK Tryz.prog (sNil t146) fun t252 =>
            pureK Tryz.prog (sFieldAddr T_erratalaw47_state t252 0) fun t253 =>
            readK Tryz.prog (sLoad T_s_api_Replacement t253) w23 fun t254 =>
            pureK Tryz.prog (sNil t146) fun t256 =>
            pureK Tryz.prog (sFieldAddr T_erratalaw47_state t256 1) fun t257 =>
            readK Tryz.prog (sLoad T_s_api_Seg t257) w23 fun t258 =>
            upK Tryz.prog (sCall F_replace_Needed #[t244, t248, time5]) w23 fun t250 w24 =>
            Is Tryz.prog (sLoad T_s_api_Seg t257) t258 w24 ∧ Is Tryz.prog (sLoad T_s_api_Replacement t253) t254 w24 ∧ upK Tryz.prog (sCall F_errataref47_Needed #[t254, t258, time5]) w24 fun t260 w25 =>
            upK Tryz.prog (sCall F_erratalaw47_ints #[t250, t260]) w25 fun t261 w26 =>
            pureK Tryz.prog (sUn .not t261) fun t262 =>
            J4 (t262, ()) w26))))
        (fun J3 =>
         pureK Tryz.prog (sBin .neq T_int (.tmp 171) (.tmp 172) t160 t169) fun t173 =>
         ifB t173
         (J3 ((.bool true), ()) (tick w19))
         (pureK Tryz.prog (sBin .neq T_api_Errno (.tmp 175) (.tmp 176) t161 t170) fun t177 =>
          ifB t177
          (J3 ((.bool true), ()) (tick w19))
          (pureK Tryz.prog (sNil t142) fun t181 =>
           pureK Tryz.prog (sFieldAddr T_erratalaw47_state t181 0) fun t182 =>
           readK Tryz.prog (sLoad T_s_api_Replacement t182) (tick w19) fun t183 =>
           pureK Tryz.prog (sNil t146) fun t185 =>
           pureK Tryz.prog (sFieldAddr T_erratalaw47_state t185 0) fun t186 =>
           readK Tryz.prog (sLoad T_s_api_Replacement t186) (tick w19) fun t187 =>
           upK Tryz.prog (sCall F_errataref47_Same #[t183, t187]) (tick w19) fun t188 w27 =>
           pureK Tryz.prog (sUn .not t188) fun t189 =>
           ifB t189
           (J3 ((.bool true), ()) w27)
           (pureK Tryz.prog (sNil t142) fun t193 =>
            pureK Tryz.prog (sFieldAddr T_erratalaw47_state t193 1) fun t194 =>
            readK Tryz.prog (sLoad T_s_api_Seg t194) w27 fun t195 =>
            pureK Tryz.prog (sNil t146) fun t197 =>
            pureK Tryz.prog (sFieldAddr T_erratalaw47_state t197 1) fun t198 =>
            readK Tryz.prog (sLoad T_s_api_Seg t198) w27 fun t199 =>
            upK Tryz.prog (sCall F_errataref45_Same #[t195, t199]) w27 fun t200 w28 =>
            pureK Tryz.prog (sUn .not t200) fun t201 =>
            ifB t201
            (J3 ((.bool true), ()) w28)
            (pureK Tryz.prog (sNil t142) fun t205 =>
             pureK Tryz.prog (sFieldAddr T_erratalaw47_state t205 0) fun t206 =>
             readK Tryz.prog (sLoad T_s_api_Replacement t206) w28 fun t207 =>
             pureK Tryz.prog (sNil t146) fun t210 =>
             pureK Tryz.prog (sFieldAddr T_erratalaw47_state t210 0) fun t211 =>
             readK Tryz.prog (sLoad T_s_api_Replacement t211) w28 fun t212 =>
             upK Tryz.prog (sCall F_replace_Open #[t207]) w28 fun t208 w29 =>
             Is Tryz.prog (sLoad T_s_api_Replacement t211) t212 w29 ∧ upK Tryz.prog (sCall F_errataref47_Open #[t212]) w29 fun t213 w30 =>
             upK Tryz.prog (sCall F_errataref47_Same #[t208, t213]) w30 fun t214 w31 =>
             pureK Tryz.prog (sUn .not t214) fun t215 =>
             J3 (t215, ()) w31))))))
       (ifB t31
        (pureK Tryz.prog (sNil t142) fun t267 =>
         pureK Tryz.prog (sFieldAddr T_erratalaw47_state t267 0) fun t268 =>
         readK Tryz.prog (sLoad T_s_api_Replacement t268) (tick w17) fun t269 =>
         pureK Tryz.prog (sNil t146) fun t272 =>
         pureK Tryz.prog (sFieldAddr T_erratalaw47_state t272 0) fun t273 =>
         readK Tryz.prog (sLoad T_s_api_Replacement t273) (tick w17) fun t274 =>
         upK Tryz.prog (sCall F_replace_Bytes #[t269]) (tick w17) fun t270 w32 =>
         Is Tryz.prog (sLoad T_s_api_Replacement t273) t274 w32 ∧ upK Tryz.prog (sCall F_errataref47_Bytes #[t274]) w32 fun t275 w33 =>
         pureK Tryz.prog (sBin .eql T_string (.tmp 270) (.tmp 275) t270 t275) fun t276 =>
         K t276 w33)
        (K (.bool false) (tick w17))))
      ((.int .i64 0), ()) w16))
    (fun J2 =>
     upK Tryz.prog (sCall F_replace_Right #[m0]) (tick w11) fun t101 w34 =>
     upK Tryz.prog (sCall F_errataref47_Right #[m0]) w34 fun t103 w35 =>
     pureK Tryz.prog (sBin .neq T_bool (.tmp 101) (.tmp 103) t101 t103) fun t104 =>
     ifB t104
     (J2 ((.bool true), ()) w35)
     (upK Tryz.prog (sCall F_replace_Same #[m0, m0]) w35 fun t108 w36 =>
      pureK Tryz.prog (sUn .not t108) fun t109 =>
      ifB t109
      (J2 ((.bool true), ()) w36)
      (pureK Tryz.prog (sBin .neq T_bool (.tmp 112) (.tmp 113) t82 t87) fun t114 =>
       ifB t114
       (J2 ((.bool true), ()) w36)
       (upK Tryz.prog (sCall F_errataref47_Same #[t81, t86]) w36 fun t119 w37 =>
        pureK Tryz.prog (sUn .not t119) fun t120 =>
        ifB t120
        (J2 ((.bool true), ()) w37)
        (readK Tryz.prog (sLoad T_api_Budget c20) w37 fun t123 =>
         readK Tryz.prog (sLoad T_api_Budget d22) w37 fun t124 =>
         pureK Tryz.prog (sBin .neq T_api_Budget (.tmp 123) (.tmp 124) t123 t124) fun t125 =>
         ifB t125
         (J2 ((.bool true), ()) w37)
         (pureK Tryz.prog (sBin .neq T_bool (.tmp 128) (.tmp 129) t93 t99) fun t130 =>
          ifB t130
          (J2 ((.bool true), ()) w37)
          (readK Tryz.prog (sLoad T_api_Budget b9) w37 fun t133 =>
           readK Tryz.prog (sLoad T_api_Budget b9) w37 fun t135 =>
           upK Tryz.prog (sCall F_replace_Earn #[t133]) w37 fun t134 w38 =>
           Is Tryz.prog (sLoad T_api_Budget b9) t135 w38 ∧ upK Tryz.prog (sCall F_errataref47_Earn #[t135]) w38 fun t136 w39 =>
           pureK Tryz.prog (sBin .neq T_api_Budget (.tmp 134) (.tmp 136) t134 t136) fun t137 =>
           J2 (t137, ()) w39)))))))))
  (fun J1 =>
   readK Tryz.prog (sBlt .len #[T_s_api_Replacement] T_int #[false] #[m0]) w2 fun t33 =>
   pureK Tryz.prog (sBin .gtr T_int (.tmp 33) (.const (.int .i64 40)) t33 (.int .i64 40)) fun t34 =>
   ifB t34
   (J1 ((.bool true), ()) w2)
   (readK Tryz.prog (sBlt .len #[T_string] T_int #[false] #[text1]) w2 fun t37 =>
    pureK Tryz.prog (sBin .gtr T_int (.tmp 37) (.const (.int .i64 1000)) t37 (.int .i64 1000)) fun t38 =>
    ifB t38
    (J1 ((.bool true), ()) w2)
    (readK Tryz.prog (sBlt .len #[T_s_erratalaw47_Op] T_int #[false] #[l4]) w2 fun t42 =>
     pureK Tryz.prog (sBin .gtr T_int (.tmp 42) (.const (.int .i64 60)) t42 (.int .i64 60)) fun t43 =>
     ifB t43
     (J1 ((.bool true), ()) w2)
     (pureK Tryz.prog (sFieldAddr T_api_Budget b9 0) fun t46 =>
      readK Tryz.prog (sLoad T_int t46) w2 fun t47 =>
      pureK Tryz.prog (sBin .lss T_int (.tmp 47) (.const (.int .i64 0)) t47 (.int .i64 0)) fun t48 =>
      ifB t48
      (J1 ((.bool true), ()) w2)
      (pureK Tryz.prog (sFieldAddr T_api_Budget b9 0) fun t51 =>
       readK Tryz.prog (sLoad T_int t51) w2 fun t52 =>
       pureK Tryz.prog (sBin .gtr T_int (.tmp 52) (.const (.int .i64 1099511627776)) t52 (.int .i64 1099511627776)) fun t53 =>
       ifB t53
       (J1 ((.bool true), ()) w2)
       (pureK Tryz.prog (sFieldAddr T_api_Budget b9 1) fun t56 =>
        readK Tryz.prog (sLoad T_int t56) w2 fun t57 =>
        pureK Tryz.prog (sBin .lss T_int (.tmp 57) (.const (.int .i64 0)) t57 (.int .i64 0)) fun t58 =>
        ifB t58
        (J1 ((.bool true), ()) w2)
        (pureK Tryz.prog (sFieldAddr T_api_Budget b9 1) fun t61 =>
         readK Tryz.prog (sLoad T_int t61) w2 fun t62 =>
         pureK Tryz.prog (sBin .gtr T_int (.tmp 62) (.const (.int .i64 1099511627776)) t62 (.int .i64 1099511627776)) fun t63 =>
         ifB t63
         (J1 ((.bool true), ()) w2)
         (pureK Tryz.prog (sFieldAddr T_api_Budget b9 2) fun t66 =>
          readK Tryz.prog (sLoad T_int t66) w2 fun t67 =>
          pureK Tryz.prog (sBin .lss T_int (.tmp 67) (.const (.int .i64 0)) t67 (.int .i64 0)) fun t68 =>
          ifB t68
          (J1 ((.bool true), ()) w2)
          (pureK Tryz.prog (sFieldAddr T_api_Budget b9 2) fun t71 =>
           readK Tryz.prog (sLoad T_int t71) w2 fun t72 =>
           pureK Tryz.prog (sFieldAddr T_api_Budget b9 1) fun t73 =>
           readK Tryz.prog (sLoad T_int t73) w2 fun t74 =>
           pureK Tryz.prog (sBin .gtr T_int (.tmp 72) (.tmp 74) t72 t74) fun t75 =>
           J1 (t75, ()) w2)))))))))
theorem erratalaw47_ReplaceTells.pt_eq : erratalaw47_ReplaceTells.pt = fun m0 text1 b2 n3 l4 time5 bucket6 w K => FN Tryz.prog Tryz.f3 (bodyOf Tryz.f3) [14] (.node none .leaf (.node none .leaf (.node none (.node (some [76]) .leaf .leaf) (.node none .leaf (.node none .leaf (.node none .leaf (.node none .leaf (.node none (.node (some [138]) .leaf .leaf) (.node none .leaf (.node none .leaf (.node none (.node none .leaf (.node none (.node none (.node none .leaf (.node none (.node none (.node none .leaf (.node none .leaf (.node none (.node (some [216]) .leaf .leaf) (.node (some [263]) .leaf .leaf)))) .leaf) .leaf)) .leaf) .leaf)) .leaf))))))))))) [m0, text1, b2, n3, l4, time5, bucket6] w K := by kernel_rfl
theorem erratalaw47_ReplaceTells.call {m0 text1 b2 n3 l4 time5 bucket6 : Value} {w : World} {K : Value → World → Prop} (h : erratalaw47_ReplaceTells.pt m0 text1 b2 n3 l4 time5 bucket6 w K) : Calls Tryz.prog F_erratalaw47_ReplaceTells #[m0, text1, b2, n3, l4, time5, bucket6] w (retK K) :=
  calls_FN (args := [m0, text1, b2, n3, l4, time5, bucket6]) Tryz.func3 (by kernel_rfl) (by rw [erratalaw47_ReplaceTells.pt_eq] at h; exact h)
theorem erratalaw47_ReplaceTells.up {m0 text1 b2 n3 l4 time5 bucket6 : Value} {w : World} {K : Value → World → Prop} (h : Calls Tryz.prog F_erratalaw47_ReplaceTells #[m0, text1, b2, n3, l4, time5, bucket6] w (retK K)) : upK Tryz.prog (sCall F_erratalaw47_ReplaceTells #[m0, text1, b2, n3, l4, time5, bucket6]) w K :=
  up_call (fn := Tryz.f3) Tryz.func3 (by kernel_rfl) (by kernel_rfl) h

/-- errata/erratalaw47.small -/
def erratalaw47_small.pt (w : World) (K : Value → World → Prop) : Prop :=
  pureK Tryz.prog (sBuild T_api_Seg #[(1, (.int .i64 1))]) fun t19 =>
  upK Tryz.prog (sBuildSlice T_s_api_Seg 1 #[(0, t19)]) w fun t20 w1 =>
  upK Tryz.prog (sCall F_replace_Ask #[(.slice none 0 0), (.int .i64 100), (.int .i64 2), (.int .i64 10), (.int .i64 0), (.bool false)]) w1 fun t22 w2 =>
  pureK Tryz.prog (sExtract t22 0) fun t23 =>
  pureK Tryz.prog (sExtract t22 1) fun t24 =>
  pureK Tryz.prog (sExtract t22 2) fun t25 =>
  upK Tryz.prog (sCall F_replace_Ask #[t23, (.int .i64 200), (.int .i64 3), (.int .i64 0), (.int .i64 0), (.bool false)]) w2 fun t28 w3 =>
  pureK Tryz.prog (sExtract t28 0) fun t29 =>
  pureK Tryz.prog (sExtract t28 1) fun t30 =>
  pureK Tryz.prog (sExtract t28 2) fun t31 =>
  pureK Tryz.prog (sBin .neq T_api_Errno (.tmp 32) (.const (.int .i64 0)) t25 (.int .i64 0)) fun t33 =>
  ifB t33
  (K (.bool false) w3)
  (pureK Tryz.prog (sBin .neq T_api_Errno (.tmp 35) (.const (.int .i64 0)) t31 (.int .i64 0)) fun t36 =>
   ifB t36
   (K (.bool false) w3)
   (readK Tryz.prog (sBlt .len #[T_s_api_Replacement] T_int #[false] #[t23]) w3 fun t40 =>
    pureK Tryz.prog (sBin .neq T_int (.tmp 40) (.const (.int .i64 1)) t40 (.int .i64 1)) fun t41 =>
    ifB t41
    (K (.bool false) w3)
    (readK Tryz.prog (sBlt .len #[T_s_api_Replacement] T_int #[false] #[t29]) w3 fun t45 =>
     pureK Tryz.prog (sBin .neq T_int (.tmp 45) (.const (.int .i64 2)) t45 (.int .i64 2)) fun t46 =>
     ifB t46
     (K (.bool false) w3)
     (upK Tryz.prog (sCall F_replace_Caught #[t29, (.int .i64 2), (.bool true)]) w3 fun t50 w4 =>
      pureK Tryz.prog (sExtract t50 0) fun t51 =>
      pureK Tryz.prog (sExtract t50 1) fun t52 =>
      upK Tryz.prog (sCall F_replace_Cut #[t51, t20, (.int .i64 2)]) w4 fun t56 w5 =>
      pureK Tryz.prog (sExtract t56 0) fun t57 =>
      pureK Tryz.prog (sExtract t56 1) fun t58 =>
      pureK Tryz.prog (sExtract t56 2) fun t59 =>
      upK Tryz.prog (sCall F_replace_Ask #[t29, (.int .i64 50), (.int .i64 4), (.int .i64 0), (.int .i64 0), (.bool false)]) w5 fun t62 w6 =>
      pureK Tryz.prog (sExtract t62 0) fun t63 =>
      pureK Tryz.prog (sExtract t62 1) fun t64 =>
      pureK Tryz.prog (sExtract t62 2) fun t65 =>
      upK Tryz.prog (sCall F_replace_Ask #[(.slice none 0 0), (.int .i64 50), (.int .i64 4), (.int .i64 10), (.int .i64 45), (.bool false)]) w6 fun t67 w7 =>
      pureK Tryz.prog (sExtract t67 0) fun t68 =>
      pureK Tryz.prog (sExtract t67 1) fun t69 =>
      pureK Tryz.prog (sExtract t67 2) fun t70 =>
      readK Tryz.prog (sBlt .len #[T_s_api_Replacement] T_int #[false] #[t63]) w7 fun t72 =>
      pureK Tryz.prog (sBin .neq T_int (.tmp 72) (.const (.int .i64 3)) t72 (.int .i64 3)) fun t73 =>
      ifB t73
      (K (.bool false) w7)
      (pureK Tryz.prog (sBin .eql T_int (.tmp 74) (.const (.int .i64 100)) t24 (.int .i64 100)) fun t75 =>
       ifB t75
       (pureK Tryz.prog (sIdxAddr T_s_api_Replacement t23 (.int .i64 0)) fun t78 =>
        pureK Tryz.prog (sFieldAddr T_api_Replacement t78 3) fun t79 =>
        readK Tryz.prog (sLoad T_int t79) w7 fun t80 =>
        pureK Tryz.prog (sBin .eql T_int (.tmp 80) (.const (.int .i64 90)) t80 (.int .i64 90)) fun t81 =>
        ifB t81
        (pureK Tryz.prog (sBin .eql T_api_Errno (.tmp 84) (.const (.int .i64 25)) t59 (.int .i64 25)) fun t85 =>
         ifB t85
         (pureK Tryz.prog (sIdxAddr T_s_api_Replacement t63 (.int .i64 0)) fun t89 =>
          pureK Tryz.prog (sFieldAddr T_api_Replacement t89 4) fun t90 =>
          readK Tryz.prog (sLoad T_int t90) w7 fun t91 =>
          pureK Tryz.prog (sBin .eql T_int (.tmp 91) (.const (.int .i64 5)) t91 (.int .i64 5)) fun t92 =>
          ifB t92
          (pureK Tryz.prog (sIdxAddr T_s_api_Replacement t63 (.int .i64 1)) fun t96 =>
           pureK Tryz.prog (sFieldAddr T_api_Replacement t96 4) fun t97 =>
           readK Tryz.prog (sLoad T_int t97) w7 fun t98 =>
           pureK Tryz.prog (sBin .eql T_int (.tmp 98) (.const (.int .i64 5)) t98 (.int .i64 5)) fun t99 =>
           ifB t99
           (pureK Tryz.prog (sIdxAddr T_s_api_Replacement t63 (.int .i64 2)) fun t103 =>
            pureK Tryz.prog (sFieldAddr T_api_Replacement t103 4) fun t104 =>
            readK Tryz.prog (sLoad T_int t104) w7 fun t105 =>
            pureK Tryz.prog (sBin .eql T_int (.tmp 105) (.const (.int .i64 0)) t105 (.int .i64 0)) fun t106 =>
            ifB t106
            (pureK Tryz.prog (sBin .eql T_api_Errno (.tmp 109) (.const (.int .i64 23)) t70 (.int .i64 23)) fun t110 =>
             ifB t110
             (pureK Tryz.prog (sBin .eql T_int (.tmp 113) (.const (.int .i64 55)) t69 (.int .i64 55)) fun t114 =>
              K t114 w7)
             (K (.bool false) w7))
            (K (.bool false) w7))
           (K (.bool false) w7))
          (K (.bool false) w7))
         (K (.bool false) w7))
        (K (.bool false) w7))
       (K (.bool false) w7))))))
theorem erratalaw47_small.pt_eq : erratalaw47_small.pt = fun  w K => FN Tryz.prog Tryz.f4 (bodyOf Tryz.f4) [0] .leaf [] w K := by kernel_rfl
theorem erratalaw47_small.call {w : World} {K : Value → World → Prop} (h : erratalaw47_small.pt  w K) : Calls Tryz.prog F_erratalaw47_small #[] w (retK K) :=
  calls_FN (args := []) Tryz.func4 (by kernel_rfl) (by rw [erratalaw47_small.pt_eq] at h; exact h)
theorem erratalaw47_small.up {w : World} {K : Value → World → Prop} (h : Calls Tryz.prog F_erratalaw47_small #[] w (retK K)) : upK Tryz.prog (sCall F_erratalaw47_small #[]) w K :=
  up_call (fn := Tryz.f4) Tryz.func4 (by kernel_rfl) (by kernel_rfl) h

/-- errata/replace.Read -/
def replace_Read.pt (s0 : Value) (w : World) (K : Value → World → Prop) : Prop :=
  upK Tryz.prog (sCall F_wire_Open #[s0]) w fun t8 w1 =>
  upK Tryz.prog (sCall F_wire_Reader_Num #[t8]) w1 fun t10 w2 =>
  readK Tryz.prog (sBlt .len #[T_string] T_int #[false] #[s0]) w2 fun t12 =>
  pureK Tryz.prog (sBlt .min #[T_int, T_int] T_int #[false, false] #[t10, t12]) fun t13 =>
  LOOP (X := Value × Value × Unit) (fun lv3 w3 next3 =>
   pureK Tryz.prog (sBin .lss T_int (.tmp 14) (.tmp 13) lv3.2.1 t13) fun t15 =>
   ifB t15
   (pureK Tryz.prog (sBin .add T_int (.tmp 18) (.const (.int .i64 1)) lv3.2.1 (.int .i64 1)) fun t19 =>
    upK Tryz.prog (sCall F_wire_Reader_Int #[t8]) w3 fun t21 w4 =>
    upK Tryz.prog (sCall F_wire_Reader_Int #[t8]) w4 fun t23 w5 =>
    upK Tryz.prog (sCall F_wire_Reader_Int #[t8]) w5 fun t25 w6 =>
    upK Tryz.prog (sCall F_wire_Reader_Int #[t8]) w6 fun t27 w7 =>
    upK Tryz.prog (sCall F_wire_Reader_Int #[t8]) w7 fun t29 w8 =>
    pureK Tryz.prog (sBuild T_api_Replacement #[(0, t19), (1, t21), (2, t23), (3, t25), (4, t27), (5, t29)]) fun t30 =>
    upK Tryz.prog (sBuildSlice T_s_api_Replacement 1 #[(0, t30)]) w8 fun t31 w9 =>
    upK Tryz.prog (sBlt .append #[T_s_api_Replacement, T_s_api_Replacement] T_s_api_Replacement #[false, false] #[lv3.1, t31]) w9 fun t32 w10 =>
    pureK Tryz.prog (sBin .add T_int (.tmp 14) (.const (.int .i64 1)) lv3.2.1 (.int .i64 1)) fun t33 =>
    next3 (t32, t33, ()) w10)
   (upK Tryz.prog (sCall F_replace_Bytes #[lv3.1]) w3 fun t35 w11 =>
    pureK Tryz.prog (sBin .neq T_string (.tmp 35) (.tmp 36) t35 s0) fun t37 =>
    ifB t37
    (K (.tuple #[(.slice none 0 0), (.bool false)]) w11)
    (upK Tryz.prog (sCall F_replace_Right #[lv3.1]) w11 fun t40 w12 =>
     pureK Tryz.prog (sUn .not t40) fun t41 =>
     ifB t41
     (K (.tuple #[(.slice none 0 0), (.bool false)]) w12)
     (K (.tuple #[lv3.1, (.bool true)]) w12))))
  ((.slice none 0 0), (.int .i64 0), ()) w2
theorem replace_Read.pt_eq : replace_Read.pt = fun s0 w K => FN Tryz.prog Tryz.f5 (bodyOf Tryz.f5) [2, 3] .leaf [s0] w K := by kernel_rfl
theorem replace_Read.call {s0 : Value} {w : World} {K : Value → World → Prop} (h : replace_Read.pt s0 w K) : Calls Tryz.prog F_replace_Read #[s0] w (retK K) :=
  calls_FN (args := [s0]) Tryz.func5 (by kernel_rfl) (by rw [replace_Read.pt_eq] at h; exact h)
theorem replace_Read.up {s0 : Value} {w : World} {K : Value → World → Prop} (h : Calls Tryz.prog F_replace_Read #[s0] w (retK K)) : upK Tryz.prog (sCall F_replace_Read #[s0]) w K :=
  up_call (fn := Tryz.f5) Tryz.func5 (by kernel_rfl) (by kernel_rfl) h

/-- errata/errataref47.Read -/
def errataref47_Read.pt (s0 : Value) (w : World) (K : Value → World → Prop) : Prop :=
  upK Tryz.prog (sCall F_errataref01_Open #[s0]) w fun t10 w1 =>
  upK Tryz.prog (sCall F_errataref01_Reader_Num #[t10]) w1 fun t12 w2 =>
  LETJ (X := Value × Unit) (fun jv1 w3 =>
   upK Tryz.prog (sCall F_errataref47_Bytes #[jv1.1]) w3 fun t46 w4 =>
   pureK Tryz.prog (sBin .neq T_string (.tmp 46) (.tmp 47) t46 s0) fun t48 =>
   ifB t48
   (K (.tuple #[(.slice none 0 0), (.bool false)]) w4)
   (upK Tryz.prog (sCall F_errataref47_Right #[jv1.1]) w4 fun t51 w5 =>
    pureK Tryz.prog (sUn .not t51) fun t52 =>
    ifB t52
    (K (.tuple #[(.slice none 0 0), (.bool false)]) w5)
    (K (.tuple #[jv1.1, (.bool true)]) w5)))
  (fun J1 =>
   LOOP (X := Value × Value × Unit) (fun lv6 w6 next6 =>
    pureK Tryz.prog (sBin .lss T_int (.tmp 13) (.tmp 14) lv6.2.1 t12) fun t15 =>
    ifB t15
    (readK Tryz.prog (sBlt .len #[T_string] T_int #[false] #[s0]) w6 fun t19 =>
     pureK Tryz.prog (sBin .leq T_int (.tmp 17) (.tmp 19) lv6.2.1 t19) fun t20 =>
     ifB t20
     (pureK Tryz.prog (sBin .add T_int (.tmp 24) (.const (.int .i64 1)) lv6.2.1 (.int .i64 1)) fun t25 =>
      upK Tryz.prog (sCall F_errataref01_Reader_Int #[t10]) w6 fun t27 w7 =>
      pureK Tryz.prog (sBuild T_api_Replacement #[(0, t25), (1, t27)]) fun t28 =>
      upK Tryz.prog (sAlloc T_api_Replacement) w7 fun x8 w8 =>
      upK Tryz.prog (sStore T_api_Replacement x8 t28) w8 fun tu w9 =>
      upK Tryz.prog (sCall F_errataref01_Reader_Int #[t10]) w9 fun t30 w10 =>
      pureK Tryz.prog (sFieldAddr T_api_Replacement x8 2) fun t31 =>
      upK Tryz.prog (sStore T_int t31 t30) w10 fun tu_1 w11 =>
      upK Tryz.prog (sCall F_errataref01_Reader_Int #[t10]) w11 fun t33 w12 =>
      pureK Tryz.prog (sFieldAddr T_api_Replacement x8 3) fun t34 =>
      upK Tryz.prog (sStore T_int t34 t33) w12 fun tu_2 w13 =>
      upK Tryz.prog (sCall F_errataref01_Reader_Int #[t10]) w13 fun t36 w14 =>
      pureK Tryz.prog (sFieldAddr T_api_Replacement x8 4) fun t37 =>
      upK Tryz.prog (sStore T_int t37 t36) w14 fun tu_3 w15 =>
      upK Tryz.prog (sCall F_errataref01_Reader_Int #[t10]) w15 fun t39 w16 =>
      pureK Tryz.prog (sFieldAddr T_api_Replacement x8 5) fun t40 =>
      upK Tryz.prog (sStore T_int t40 t39) w16 fun tu_4 w17 =>
      readK Tryz.prog (sLoad T_api_Replacement x8) w17 fun t42 =>
      upK Tryz.prog (sBuildSlice T_s_api_Replacement 1 #[(0, t42)]) w17 fun t43 w18 =>
      upK Tryz.prog (sBlt .append #[T_s_api_Replacement, T_s_api_Replacement] T_s_api_Replacement #[false, false] #[lv6.1, t43]) w18 fun t44 w19 =>
      pureK Tryz.prog (sBin .add T_int (.tmp 22) (.const (.int .i64 1)) lv6.2.1 (.int .i64 1)) fun t23 =>
      next6 (t44, t23, ()) w19)
     (J1 (lv6.1, ()) w6))
    (J1 (lv6.1, ()) w6))
   ((.slice none 0 0), (.int .i64 0), ()) w2)
theorem errataref47_Read.pt_eq : errataref47_Read.pt = fun s0 w K => FN Tryz.prog Tryz.f6 (bodyOf Tryz.f6) [2, 3] (.node none .leaf (.node none .leaf (.node none .leaf (.node none .leaf (.node (some [6]) .leaf .leaf))))) [s0] w K := by kernel_rfl
theorem errataref47_Read.call {s0 : Value} {w : World} {K : Value → World → Prop} (h : errataref47_Read.pt s0 w K) : Calls Tryz.prog F_errataref47_Read #[s0] w (retK K) :=
  calls_FN (args := [s0]) Tryz.func6 (by kernel_rfl) (by rw [errataref47_Read.pt_eq] at h; exact h)
theorem errataref47_Read.up {s0 : Value} {w : World} {K : Value → World → Prop} (h : Calls Tryz.prog F_errataref47_Read #[s0] w (retK K)) : upK Tryz.prog (sCall F_errataref47_Read #[s0]) w K :=
  up_call (fn := Tryz.f6) Tryz.func6 (by kernel_rfl) (by kernel_rfl) h

/-- errata/replace.Spend -/
def replace_Spend.pt (b0 n1 : Value) (w : World) (K : Value → World → Prop) : Prop :=
  upK Tryz.prog (sBox T_api_Budget b0) w fun b2 w1 =>
  upK Tryz.prog (sAlloc T_api_Budget) w1 fun t4 w2 =>
  pureK Tryz.prog (sFieldAddr T_api_Budget b2 2) fun t7 =>
  readK Tryz.prog (sLoad T_int t7) w2 fun t8 =>
  upK Tryz.prog (sCall F_replace_within #[n1, (.int .i64 0), t8]) w2 fun t9 w3 =>
  pureK Tryz.prog (sUn .not t9) fun t10 =>
  ifB t10
  (readK Tryz.prog (sLoad T_api_Budget b2) w3 fun t11 =>
   upK Tryz.prog (sStore T_api_Budget t4 t11) w3 fun tu w4 =>
   readV Tryz.prog (do loadVar T_api_Budget (← asAddr t4)) w4 fun t4_1 =>
   K (.tuple #[t4_1, (.bool false)]) w4)
  (pureK Tryz.prog (sFieldAddr T_api_Budget b2 2) fun t12 =>
   readK Tryz.prog (sLoad T_int t12) w3 fun t13 =>
   pureK Tryz.prog (sBin .sub T_int (.tmp 13) (.tmp 14) t13 n1) fun t15 =>
   pureK Tryz.prog (sFieldAddr T_api_Budget b2 2) fun t16 =>
   upK Tryz.prog (sStore T_int t16 t15) w3 fun tu_1 w5 =>
   readK Tryz.prog (sLoad T_api_Budget b2) w5 fun t17 =>
   upK Tryz.prog (sStore T_api_Budget t4 t17) w5 fun tu_2 w6 =>
   readV Tryz.prog (do loadVar T_api_Budget (← asAddr t4)) w6 fun t4_2 =>
   K (.tuple #[t4_2, (.bool true)]) w6)
theorem replace_Spend.pt_eq : replace_Spend.pt = fun b0 n1 w K => FN Tryz.prog Tryz.f7 (bodyOf Tryz.f7) [5] .leaf [b0, n1] w K := by kernel_rfl
theorem replace_Spend.call {b0 n1 : Value} {w : World} {K : Value → World → Prop} (h : replace_Spend.pt b0 n1 w K) : Calls Tryz.prog F_replace_Spend #[b0, n1] w (retK K) :=
  calls_FN (args := [b0, n1]) Tryz.func7 (by kernel_rfl) (by rw [replace_Spend.pt_eq] at h; exact h)
theorem replace_Spend.up {b0 n1 : Value} {w : World} {K : Value → World → Prop} (h : Calls Tryz.prog F_replace_Spend #[b0, n1] w (retK K)) : upK Tryz.prog (sCall F_replace_Spend #[b0, n1]) w K :=
  up_call (fn := Tryz.f7) Tryz.func7 (by kernel_rfl) (by kernel_rfl) h

/-- errata/errataref47.Spend -/
def errataref47_Spend.pt (b0 n1 : Value) (w : World) (K : Value → World → Prop) : Prop :=
  upK Tryz.prog (sBox T_api_Budget b0) w fun b2 w1 =>
  upK Tryz.prog (sAlloc T_api_Budget) w1 fun t4 w2 =>
  pureK Tryz.prog (sBin .lss T_int (.tmp 6) (.const (.int .i64 0)) n1 (.int .i64 0)) fun t7 =>
  ifB t7
  (readK Tryz.prog (sLoad T_api_Budget b2) w2 fun t14 =>
   upK Tryz.prog (sStore T_api_Budget t4 t14) w2 fun tu w3 =>
   readV Tryz.prog (do loadVar T_api_Budget (← asAddr t4)) w3 fun t4_1 =>
   K (.tuple #[t4_1, (.bool false)]) w3)
  (pureK Tryz.prog (sFieldAddr T_api_Budget b2 2) fun t10 =>
   readK Tryz.prog (sLoad T_int t10) w2 fun t11 =>
   pureK Tryz.prog (sBin .gtr T_int (.tmp 9) (.tmp 11) n1 t11) fun t12 =>
   ifB t12
   (readK Tryz.prog (sLoad T_api_Budget b2) w2 fun t14_1 =>
    upK Tryz.prog (sStore T_api_Budget t4 t14_1) w2 fun tu_1 w4 =>
    readV Tryz.prog (do loadVar T_api_Budget (← asAddr t4)) w4 fun t4_2 =>
    K (.tuple #[t4_2, (.bool false)]) w4)
   (pureK Tryz.prog (sFieldAddr T_api_Budget b2 2) fun t15 =>
    readK Tryz.prog (sLoad T_int t15) w2 fun t16 =>
    pureK Tryz.prog (sBin .sub T_int (.tmp 16) (.tmp 17) t16 n1) fun t18 =>
    pureK Tryz.prog (sFieldAddr T_api_Budget b2 2) fun t19 =>
    upK Tryz.prog (sStore T_int t19 t18) w2 fun tu_2 w5 =>
    readK Tryz.prog (sLoad T_api_Budget b2) w5 fun t20 =>
    upK Tryz.prog (sStore T_api_Budget t4 t20) w5 fun tu_3 w6 =>
    readV Tryz.prog (do loadVar T_api_Budget (← asAddr t4)) w6 fun t4_3 =>
    K (.tuple #[t4_3, (.bool true)]) w6))
theorem errataref47_Spend.pt_eq : errataref47_Spend.pt = fun b0 n1 w K => FN Tryz.prog Tryz.f8 (bodyOf Tryz.f8) [5] .leaf [b0, n1] w K := by kernel_rfl
theorem errataref47_Spend.call {b0 n1 : Value} {w : World} {K : Value → World → Prop} (h : errataref47_Spend.pt b0 n1 w K) : Calls Tryz.prog F_errataref47_Spend #[b0, n1] w (retK K) :=
  calls_FN (args := [b0, n1]) Tryz.func8 (by kernel_rfl) (by rw [errataref47_Spend.pt_eq] at h; exact h)
theorem errataref47_Spend.up {b0 n1 : Value} {w : World} {K : Value → World → Prop} (h : Calls Tryz.prog F_errataref47_Spend #[b0, n1] w (retK K)) : upK Tryz.prog (sCall F_errataref47_Spend #[b0, n1]) w K :=
  up_call (fn := Tryz.f8) Tryz.func8 (by kernel_rfl) (by kernel_rfl) h

/-- errata/replace.Right -/
def replace_Right.pt (l0 : Value) (w : World) (K : Value → World → Prop) : Prop :=
  readK Tryz.prog (sBlt .len #[T_s_api_Replacement] T_int #[false] #[l0]) w fun t8 =>
  LOOP (X := Value × Unit) (fun lv1 w1 next1 =>
   pureK Tryz.prog (sBin .lss T_int (.tmp 9) (.tmp 8) lv1.1 t8) fun t10 =>
   ifB t10
   (pureK Tryz.prog (sIdxAddr T_s_api_Replacement l0 lv1.1) fun t12 =>
    readK Tryz.prog (sLoad T_api_Replacement t12) w1 fun t13 =>
    upK Tryz.prog (sAlloc T_api_Replacement) w1 fun r4 w2 =>
    upK Tryz.prog (sStore T_api_Replacement r4 t13) w2 fun tu w3 =>
    pureK Tryz.prog (sFieldAddr T_api_Replacement r4 0) fun t14 =>
    readK Tryz.prog (sLoad T_int t14) w3 fun t15 =>
    pureK Tryz.prog (sBin .add T_int (.tmp 16) (.const (.int .i64 1)) lv1.1 (.int .i64 1)) fun t17 =>
    pureK Tryz.prog (sBin .neq T_int (.tmp 15) (.tmp 17) t15 t17) fun t18 =>
    ifB t18
    (K (.bool false) w3)
    (readK Tryz.prog (sLoad T_api_Replacement r4) w3 fun t20 =>
     upK Tryz.prog (sCall F_replace_right #[t20]) w3 fun t21 w4 =>
     pureK Tryz.prog (sUn .not t21) fun t22 =>
     ifB t22
     (K (.bool false) w4)
     (pureK Tryz.prog (sBin .add T_int (.tmp 9) (.const (.int .i64 1)) lv1.1 (.int .i64 1)) fun t24 =>
      next1 (t24, ()) w4)))
   (upK Tryz.prog (sCall F_replace_Open #[l0]) w1 fun t26 w5 =>
    LOOP (X := Value × Unit) (fun lv6 w6 next6 =>
     readK Tryz.prog (sBlt .len #[T_s_api_Replacement] T_int #[false] #[t26]) w6 fun t29 =>
     pureK Tryz.prog (sBin .lss T_int (.tmp 27) (.tmp 29) lv6.1 t29) fun t30 =>
     ifB t30
     (pureK Tryz.prog (sIdxAddr T_s_api_Replacement t26 lv6.1) fun t35 =>
      pureK Tryz.prog (sFieldAddr T_api_Replacement t35 4) fun t36 =>
      readK Tryz.prog (sLoad T_int t36) (tick w6) fun t37 =>
      pureK Tryz.prog (sBin .eql T_int (.tmp 37) (.const (.int .i64 2)) t37 (.int .i64 2)) fun t38 =>
      ifB t38
      (K (.bool false) (tick w6))
      (pureK Tryz.prog (sIdxAddr T_s_api_Replacement t26 lv6.1) fun t42 =>
       pureK Tryz.prog (sFieldAddr T_api_Replacement t42 1) fun t43 =>
       readK Tryz.prog (sLoad T_int t43) (tick w6) fun t44 =>
       pureK Tryz.prog (sBin .sub T_int (.tmp 46) (.const (.int .i64 1)) lv6.1 (.int .i64 1)) fun t47 =>
       pureK Tryz.prog (sIdxAddr T_s_api_Replacement t26 t47) fun t48 =>
       pureK Tryz.prog (sFieldAddr T_api_Replacement t48 1) fun t49 =>
       readK Tryz.prog (sLoad T_int t49) (tick w6) fun t50 =>
       pureK Tryz.prog (sBin .leq T_int (.tmp 44) (.tmp 50) t44 t50) fun t51 =>
       ifB t51
       (K (.bool false) (tick w6))
       (pureK Tryz.prog (sBin .add T_int (.tmp 31) (.const (.int .i64 1)) lv6.1 (.int .i64 1)) fun t32 =>
        next6 (t32, ()) (tick w6))))
     (readK Tryz.prog (sBlt .len #[T_s_api_Replacement] T_int #[false] #[t26]) w6 fun t54 =>
      pureK Tryz.prog (sBin .leq T_int (.tmp 54) (.const (.int .i64 3)) t54 (.int .i64 3)) fun t55 =>
      K t55 w6))
    ((.int .i64 1), ()) w5))
  ((.int .i64 0), ()) w
theorem replace_Right.pt_eq : replace_Right.pt = fun l0 w K => FN Tryz.prog Tryz.f9 (bodyOf Tryz.f9) [2] .leaf [l0] w K := by kernel_rfl
theorem replace_Right.call {l0 : Value} {w : World} {K : Value → World → Prop} (h : replace_Right.pt l0 w K) : Calls Tryz.prog F_replace_Right #[l0] w (retK K) :=
  calls_FN (args := [l0]) Tryz.func9 (by kernel_rfl) (by rw [replace_Right.pt_eq] at h; exact h)
theorem replace_Right.up {l0 : Value} {w : World} {K : Value → World → Prop} (h : Calls Tryz.prog F_replace_Right #[l0] w (retK K)) : upK Tryz.prog (sCall F_replace_Right #[l0]) w K :=
  up_call (fn := Tryz.f9) Tryz.func9 (by kernel_rfl) (by kernel_rfl) h

/-- errata/errataref47.Right -/
def errataref47_Right.pt (l0 : Value) (w : World) (K : Value → World → Prop) : Prop :=
  LOOP (X := Value × Unit) (fun lv1 w1 next1 =>
   readK Tryz.prog (sBlt .len #[T_s_api_Replacement] T_int #[false] #[l0]) w1 fun t9 =>
   pureK Tryz.prog (sBin .lss T_int (.tmp 7) (.tmp 9) lv1.1 t9) fun t10 =>
   ifB t10
   (pureK Tryz.prog (sIdxAddr T_s_api_Replacement l0 lv1.1) fun t15 =>
    readK Tryz.prog (sLoad T_api_Replacement t15) w1 fun t16 =>
    upK Tryz.prog (sAlloc T_api_Replacement) w1 fun r4 w2 =>
    upK Tryz.prog (sStore T_api_Replacement r4 t16) w2 fun tu w3 =>
    pureK Tryz.prog (sFieldAddr T_api_Replacement r4 0) fun t17 =>
    readK Tryz.prog (sLoad T_int t17) w3 fun t18 =>
    pureK Tryz.prog (sBin .add T_int (.tmp 19) (.const (.int .i64 1)) lv1.1 (.int .i64 1)) fun t20 =>
    pureK Tryz.prog (sBin .neq T_int (.tmp 18) (.tmp 20) t18 t20) fun t21 =>
    ifB t21
    (K (.bool false) w3)
    (pureK Tryz.prog (sFieldAddr T_api_Replacement r4 1) fun t23 =>
     readK Tryz.prog (sLoad T_int t23) w3 fun t24 =>
     pureK Tryz.prog (sBin .lss T_int (.tmp 24) (.const (.int .i64 0)) t24 (.int .i64 0)) fun t25 =>
     ifB t25
     (K (.bool false) w3)
     (pureK Tryz.prog (sFieldAddr T_api_Replacement r4 1) fun t28 =>
      readK Tryz.prog (sLoad T_int t28) w3 fun t29 =>
      pureK Tryz.prog (sBin .gtr T_int (.tmp 29) (.const (.int .i64 1099511627776)) t29 (.int .i64 1099511627776)) fun t30 =>
      ifB t30
      (K (.bool false) w3)
      (pureK Tryz.prog (sFieldAddr T_api_Replacement r4 2) fun t33 =>
       readK Tryz.prog (sLoad T_int t33) w3 fun t34 =>
       pureK Tryz.prog (sBin .lss T_int (.tmp 34) (.const (.int .i64 1)) t34 (.int .i64 1)) fun t35 =>
       ifB t35
       (K (.bool false) w3)
       (pureK Tryz.prog (sFieldAddr T_api_Replacement r4 2) fun t38 =>
        readK Tryz.prog (sLoad T_int t38) w3 fun t39 =>
        pureK Tryz.prog (sBin .gtr T_int (.tmp 39) (.const (.int .i64 50)) t39 (.int .i64 50)) fun t40 =>
        ifB t40
        (K (.bool false) w3)
        (pureK Tryz.prog (sFieldAddr T_api_Replacement r4 3) fun t43 =>
         readK Tryz.prog (sLoad T_int t43) w3 fun t44 =>
         pureK Tryz.prog (sBin .lss T_int (.tmp 44) (.const (.int .i64 0)) t44 (.int .i64 0)) fun t45 =>
         ifB t45
         (K (.bool false) w3)
         (pureK Tryz.prog (sFieldAddr T_api_Replacement r4 3) fun t48 =>
          readK Tryz.prog (sLoad T_int t48) w3 fun t49 =>
          pureK Tryz.prog (sFieldAddr T_api_Replacement r4 1) fun t50 =>
          readK Tryz.prog (sLoad T_int t50) w3 fun t51 =>
          pureK Tryz.prog (sBin .gtr T_int (.tmp 49) (.tmp 51) t49 t51) fun t52 =>
          ifB t52
          (K (.bool false) w3)
          (pureK Tryz.prog (sFieldAddr T_api_Replacement r4 4) fun t55 =>
           readK Tryz.prog (sLoad T_int t55) w3 fun t56 =>
           pureK Tryz.prog (sBin .lss T_int (.tmp 56) (.const (.int .i64 0)) t56 (.int .i64 0)) fun t57 =>
           ifB t57
           (K (.bool false) w3)
           (pureK Tryz.prog (sFieldAddr T_api_Replacement r4 4) fun t60 =>
            readK Tryz.prog (sLoad T_int t60) w3 fun t61 =>
            pureK Tryz.prog (sBin .geq T_int (.tmp 61) (.const (.int .i64 6)) t61 (.int .i64 6)) fun t62 =>
            ifB t62
            (K (.bool false) w3)
            (readK Tryz.prog (sLoad T_api_Replacement r4) w3 fun t65 =>
             upK Tryz.prog (sCall F_errataref47_cut #[t65]) w3 fun t66 w4 =>
             pureK Tryz.prog (sUn .not t66) fun t67 =>
             ifB t67
             (K (.bool false) w4)
             (pureK Tryz.prog (sBin .add T_int (.tmp 11) (.const (.int .i64 1)) lv1.1 (.int .i64 1)) fun t12 =>
              next1 (t12, ()) w4)))))))))))
   (upK Tryz.prog (sCall F_errataref47_Open #[l0]) w1 fun t70 w5 =>
    LOOP (X := Value × Unit) (fun lv6 w6 next6 =>
     readK Tryz.prog (sBlt .len #[T_s_api_Replacement] T_int #[false] #[t70]) w6 fun t73 =>
     pureK Tryz.prog (sBin .lss T_int (.tmp 71) (.tmp 73) lv6.1 t73) fun t74 =>
     ifB t74
     (pureK Tryz.prog (sIdxAddr T_s_api_Replacement t70 lv6.1) fun t79 =>
      pureK Tryz.prog (sFieldAddr T_api_Replacement t79 4) fun t80 =>
      readK Tryz.prog (sLoad T_int t80) (tick w6) fun t81 =>
      pureK Tryz.prog (sBin .eql T_int (.tmp 81) (.const (.int .i64 2)) t81 (.int .i64 2)) fun t82 =>
      ifB t82
      (K (.bool false) (tick w6))
      (pureK Tryz.prog (sIdxAddr T_s_api_Replacement t70 lv6.1) fun t86 =>
       pureK Tryz.prog (sFieldAddr T_api_Replacement t86 1) fun t87 =>
       readK Tryz.prog (sLoad T_int t87) (tick w6) fun t88 =>
       pureK Tryz.prog (sBin .sub T_int (.tmp 90) (.const (.int .i64 1)) lv6.1 (.int .i64 1)) fun t91 =>
       pureK Tryz.prog (sIdxAddr T_s_api_Replacement t70 t91) fun t92 =>
       pureK Tryz.prog (sFieldAddr T_api_Replacement t92 1) fun t93 =>
       readK Tryz.prog (sLoad T_int t93) (tick w6) fun t94 =>
       pureK Tryz.prog (sBin .leq T_int (.tmp 88) (.tmp 94) t88 t94) fun t95 =>
       ifB t95
       (K (.bool false) (tick w6))
       (pureK Tryz.prog (sBin .add T_int (.tmp 75) (.const (.int .i64 1)) lv6.1 (.int .i64 1)) fun t76 =>
        next6 (t76, ()) (tick w6))))
     (readK Tryz.prog (sBlt .len #[T_s_api_Replacement] T_int #[false] #[t70]) w6 fun t98 =>
      pureK Tryz.prog (sBin .leq T_int (.tmp 98) (.const (.int .i64 3)) t98 (.int .i64 3)) fun t99 =>
      K t99 w6))
    ((.int .i64 1), ()) w5))
  ((.int .i64 0), ()) w
theorem errataref47_Right.pt_eq : errataref47_Right.pt = fun l0 w K => FN Tryz.prog Tryz.f10 (bodyOf Tryz.f10) [2] .leaf [l0] w K := by kernel_rfl
theorem errataref47_Right.call {l0 : Value} {w : World} {K : Value → World → Prop} (h : errataref47_Right.pt l0 w K) : Calls Tryz.prog F_errataref47_Right #[l0] w (retK K) :=
  calls_FN (args := [l0]) Tryz.func10 (by kernel_rfl) (by rw [errataref47_Right.pt_eq] at h; exact h)
theorem errataref47_Right.up {l0 : Value} {w : World} {K : Value → World → Prop} (h : Calls Tryz.prog F_errataref47_Right #[l0] w (retK K)) : upK Tryz.prog (sCall F_errataref47_Right #[l0]) w K :=
  up_call (fn := Tryz.f10) Tryz.func10 (by kernel_rfl) (by kernel_rfl) h

/-- errata/replace.Same -/
def replace_Same.pt (a0 b1 : Value) (w : World) (K : Value → World → Prop) : Prop :=
  upK Tryz.prog (sCall F_slices_Equal_s_api_Replacement_api_Replacement #[a0, b1]) w fun t7 w1 =>
  K t7 w1
theorem replace_Same.pt_eq : replace_Same.pt = fun a0 b1 w K => FN Tryz.prog Tryz.f11 (bodyOf Tryz.f11) [4] .leaf [a0, b1] w K := by kernel_rfl
theorem replace_Same.call {a0 b1 : Value} {w : World} {K : Value → World → Prop} (h : replace_Same.pt a0 b1 w K) : Calls Tryz.prog F_replace_Same #[a0, b1] w (retK K) :=
  calls_FN (args := [a0, b1]) Tryz.func11 (by kernel_rfl) (by rw [replace_Same.pt_eq] at h; exact h)
theorem replace_Same.up {a0 b1 : Value} {w : World} {K : Value → World → Prop} (h : Calls Tryz.prog F_replace_Same #[a0, b1] w (retK K)) : upK Tryz.prog (sCall F_replace_Same #[a0, b1]) w K :=
  up_call (fn := Tryz.f11) Tryz.func11 (by kernel_rfl) (by kernel_rfl) h

/-- errata/errataref47.Same -/
def errataref47_Same.pt (a0 b1 : Value) (w : World) (K : Value → World → Prop) : Prop :=
  readK Tryz.prog (sBlt .len #[T_s_api_Replacement] T_int #[false] #[a0]) w fun t7 =>
  readK Tryz.prog (sBlt .len #[T_s_api_Replacement] T_int #[false] #[b1]) w fun t9 =>
  pureK Tryz.prog (sBin .neq T_int (.tmp 7) (.tmp 9) t7 t9) fun t10 =>
  ifB t10
  (K (.bool false) w)
  (LOOP (X := Value × Unit) (fun lv1 w1 next1 =>
    readK Tryz.prog (sBlt .len #[T_s_api_Replacement] T_int #[false] #[a0]) w1 fun t13 =>
    pureK Tryz.prog (sBin .lss T_int (.tmp 11) (.tmp 13) lv1.1 t13) fun t14 =>
    ifB t14
    (pureK Tryz.prog (sIdxAddr T_s_api_Replacement a0 lv1.1) fun t19 =>
     readK Tryz.prog (sLoad T_api_Replacement t19) (tick w1) fun t20 =>
     pureK Tryz.prog (sIdxAddr T_s_api_Replacement b1 lv1.1) fun t23 =>
     readK Tryz.prog (sLoad T_api_Replacement t23) (tick w1) fun t24 =>
     pureK Tryz.prog (sBin .neq T_api_Replacement (.tmp 20) (.tmp 24) t20 t24) fun t25 =>
     ifB t25
     (K (.bool false) (tick w1))
     (pureK Tryz.prog (sBin .add T_int (.tmp 15) (.const (.int .i64 1)) lv1.1 (.int .i64 1)) fun t16 =>
      next1 (t16, ()) (tick w1)))
    (K (.bool true) w1))
   ((.int .i64 0), ()) w)
theorem errataref47_Same.pt_eq : errataref47_Same.pt = fun a0 b1 w K => FN Tryz.prog Tryz.f12 (bodyOf Tryz.f12) [4] .leaf [a0, b1] w K := by kernel_rfl
theorem errataref47_Same.call {a0 b1 : Value} {w : World} {K : Value → World → Prop} (h : errataref47_Same.pt a0 b1 w K) : Calls Tryz.prog F_errataref47_Same #[a0, b1] w (retK K) :=
  calls_FN (args := [a0, b1]) Tryz.func12 (by kernel_rfl) (by rw [errataref47_Same.pt_eq] at h; exact h)
theorem errataref47_Same.up {a0 b1 : Value} {w : World} {K : Value → World → Prop} (h : Calls Tryz.prog F_errataref47_Same #[a0, b1] w (retK K)) : upK Tryz.prog (sCall F_errataref47_Same #[a0, b1]) w K :=
  up_call (fn := Tryz.f12) Tryz.func12 (by kernel_rfl) (by kernel_rfl) h

/-- errata/replace.Earn -/
def replace_Earn.pt (b0 : Value) (w : World) (K : Value → World → Prop) : Prop :=
  upK Tryz.prog (sBox T_api_Budget b0) w fun b1 w1 =>
  upK Tryz.prog (sAlloc T_api_Budget) w1 fun t2 w2 =>
  pureK Tryz.prog (sFieldAddr T_api_Budget b1 2) fun t3 =>
  readK Tryz.prog (sLoad T_int t3) w2 fun t4 =>
  pureK Tryz.prog (sFieldAddr T_api_Budget b1 0) fun t5 =>
  readK Tryz.prog (sLoad T_int t5) w2 fun t6 =>
  pureK Tryz.prog (sBin .add T_int (.tmp 4) (.tmp 6) t4 t6) fun t7 =>
  pureK Tryz.prog (sFieldAddr T_api_Budget b1 1) fun t8 =>
  readK Tryz.prog (sLoad T_int t8) w2 fun t9 =>
  pureK Tryz.prog (sBlt .min #[T_int, T_int] T_int #[false, false] #[t7, t9]) fun t10 =>
  pureK Tryz.prog (sFieldAddr T_api_Budget b1 2) fun t11 =>
  upK Tryz.prog (sStore T_int t11 t10) w2 fun tu w3 =>
  readK Tryz.prog (sLoad T_api_Budget b1) w3 fun t12 =>
  upK Tryz.prog (sStore T_api_Budget t2 t12) w3 fun tu_1 w4 =>
  readV Tryz.prog (do loadVar T_api_Budget (← asAddr t2)) w4 fun t2_1 =>
  K t2_1 w4
theorem replace_Earn.pt_eq : replace_Earn.pt = fun b0 w K => FN Tryz.prog Tryz.f13 (bodyOf Tryz.f13) [] .leaf [b0] w K := by kernel_rfl
theorem replace_Earn.call {b0 : Value} {w : World} {K : Value → World → Prop} (h : replace_Earn.pt b0 w K) : Calls Tryz.prog F_replace_Earn #[b0] w (retK K) :=
  calls_FN (args := [b0]) Tryz.func13 (by kernel_rfl) (by rw [replace_Earn.pt_eq] at h; exact h)
theorem replace_Earn.up {b0 : Value} {w : World} {K : Value → World → Prop} (h : Calls Tryz.prog F_replace_Earn #[b0] w (retK K)) : upK Tryz.prog (sCall F_replace_Earn #[b0]) w K :=
  up_call (fn := Tryz.f13) Tryz.func13 (by kernel_rfl) (by kernel_rfl) h

/-- errata/errataref47.Earn -/
def errataref47_Earn.pt (b0 : Value) (w : World) (K : Value → World → Prop) : Prop :=
  upK Tryz.prog (sBox T_api_Budget b0) w fun b1 w1 =>
  upK Tryz.prog (sAlloc T_api_Budget) w1 fun t2 w2 =>
  pureK Tryz.prog (sFieldAddr T_api_Budget b1 2) fun t3 =>
  readK Tryz.prog (sLoad T_int t3) w2 fun t4 =>
  pureK Tryz.prog (sFieldAddr T_api_Budget b1 0) fun t5 =>
  readK Tryz.prog (sLoad T_int t5) w2 fun t6 =>
  pureK Tryz.prog (sBin .add T_int (.tmp 4) (.tmp 6) t4 t6) fun t7 =>
  pureK Tryz.prog (sFieldAddr T_api_Budget b1 1) fun t8 =>
  readK Tryz.prog (sLoad T_int t8) w2 fun t9 =>
  pureK Tryz.prog (sBlt .min #[T_int, T_int] T_int #[false, false] #[t7, t9]) fun t10 =>
  pureK Tryz.prog (sFieldAddr T_api_Budget b1 2) fun t11 =>
  upK Tryz.prog (sStore T_int t11 t10) w2 fun tu w3 =>
  readK Tryz.prog (sLoad T_api_Budget b1) w3 fun t12 =>
  upK Tryz.prog (sStore T_api_Budget t2 t12) w3 fun tu_1 w4 =>
  readV Tryz.prog (do loadVar T_api_Budget (← asAddr t2)) w4 fun t2_1 =>
  K t2_1 w4
theorem errataref47_Earn.pt_eq : errataref47_Earn.pt = fun b0 w K => FN Tryz.prog Tryz.f14 (bodyOf Tryz.f14) [] .leaf [b0] w K := by kernel_rfl
theorem errataref47_Earn.call {b0 : Value} {w : World} {K : Value → World → Prop} (h : errataref47_Earn.pt b0 w K) : Calls Tryz.prog F_errataref47_Earn #[b0] w (retK K) :=
  calls_FN (args := [b0]) Tryz.func14 (by kernel_rfl) (by rw [errataref47_Earn.pt_eq] at h; exact h)
theorem errataref47_Earn.up {b0 : Value} {w : World} {K : Value → World → Prop} (h : Calls Tryz.prog F_errataref47_Earn #[b0] w (retK K)) : upK Tryz.prog (sCall F_errataref47_Earn #[b0]) w K :=
  up_call (fn := Tryz.f14) Tryz.func14 (by kernel_rfl) (by kernel_rfl) h

/-- (*errata/erratalaw47.state).step -/
def erratalaw47_state_step.pt (s0 o1 : Value) (w : World) (K : Value → World → Prop) : Prop :=
  upK Tryz.prog (sBox T_erratalaw47_Op o1) w fun o3 w1 =>
  pureK Tryz.prog (sNil s0) fun t11 =>
  pureK Tryz.prog (sFieldAddr T_erratalaw47_state t11 0) fun t12 =>
  readK Tryz.prog (sLoad T_s_api_Replacement t12) w1 fun t13 =>
  pureK Tryz.prog (sNil s0) fun t15 =>
  pureK Tryz.prog (sFieldAddr T_erratalaw47_state t15 1) fun t16 =>
  readK Tryz.prog (sLoad T_s_api_Seg t16) w1 fun t17 =>
  LETJ (X := Value × Value × Value × Value × Unit) (fun jv1 w2 =>
   LETJ (X := Unit) (fun jv2 w3 =>
    K (.tuple #[jv1.2.1, jv1.2.2.1]) w3)
   (fun J2 =>
    pureK Tryz.prog (sBin .eql T_api_Errno (.tmp 84) (.const (.int .i64 0)) jv1.2.2.1 (.int .i64 0)) fun t85 =>
    ifB t85
    (pureK Tryz.prog (sNil s0) fun t88 =>
     pureK Tryz.prog (sFieldAddr T_erratalaw47_state t88 0) fun t89 =>
     upK Tryz.prog (sStore T_s_api_Replacement t89 jv1.1) w2 fun tu w4 =>
     pureK Tryz.prog (sNil s0) fun t92 =>
     pureK Tryz.prog (sFieldAddr T_erratalaw47_state t92 1) fun t93 =>
     upK Tryz.prog (sStore T_s_api_Seg t93 jv1.2.2.2.1) w4 fun tu_1 w5 =>
     J2 (()) w5)
    (J2 (()) w2)))
  (fun J1 =>
   pureK Tryz.prog (sFieldAddr T_erratalaw47_Op o3 0) fun t18 =>
   readK Tryz.prog (sLoad T_int t18) w1 fun t19 =>
   pureK Tryz.prog (sBin .and T_int (.tmp 19) (.const (.int .i64 7)) t19 (.int .i64 7)) fun t20 =>
   LETJ (X := Value × Unit) (fun jv3 w6 =>
    ifB jv3.1
    (pureK Tryz.prog (sNil s0) fun t41 =>
     pureK Tryz.prog (sFieldAddr T_erratalaw47_state t41 0) fun t42 =>
     readK Tryz.prog (sLoad T_s_api_Replacement t42) (tick w6) fun t43 =>
     pureK Tryz.prog (sFieldAddr T_erratalaw47_Op o3 2) fun t44 =>
     readK Tryz.prog (sLoad T_int t44) (tick w6) fun t45 =>
     pureK Tryz.prog (sFieldAddr T_erratalaw47_Op o3 3) fun t46 =>
     readK Tryz.prog (sLoad T_int t46) (tick w6) fun t47 =>
     pureK Tryz.prog (sFieldAddr T_erratalaw47_Op o3 4) fun t48 =>
     readK Tryz.prog (sLoad T_int t48) (tick w6) fun t49 =>
     pureK Tryz.prog (sFieldAddr T_erratalaw47_Op o3 5) fun t50 =>
     readK Tryz.prog (sLoad T_int t50) (tick w6) fun t51 =>
     pureK Tryz.prog (sFieldAddr T_erratalaw47_Op o3 6) fun t52 =>
     readK Tryz.prog (sLoad T_bool t52) (tick w6) fun t53 =>
     upK Tryz.prog (sCall F_replace_Ask #[t43, t45, t47, t49, t51, t53]) (tick w6) fun t54 w7 =>
     pureK Tryz.prog (sExtract t54 0) fun t55 =>
     pureK Tryz.prog (sExtract t54 1) fun t56 =>
     pureK Tryz.prog (sExtract t54 2) fun t57 =>
     J1 (t55, t56, t57, t17, ()) w7)
    (pureK Tryz.prog (sBin .eql T_int (.tmp 20) (.const (.int .i64 2)) t20 (.int .i64 2)) fun t59 =>
     ifB t59
     (pureK Tryz.prog (sNil s0) fun t62 =>
      pureK Tryz.prog (sFieldAddr T_erratalaw47_state t62 0) fun t63 =>
      readK Tryz.prog (sLoad T_s_api_Replacement t63) (tick w6) fun t64 =>
      pureK Tryz.prog (sFieldAddr T_erratalaw47_Op o3 1) fun t65 =>
      readK Tryz.prog (sLoad T_int t65) (tick w6) fun t66 =>
      upK Tryz.prog (sCall F_replace_Abandon #[t64, t66]) (tick w6) fun t67 w8 =>
      pureK Tryz.prog (sExtract t67 0) fun t68 =>
      pureK Tryz.prog (sExtract t67 1) fun t69 =>
      J1 (t68, (.int .i64 0), t69, t17, ()) w8)
     (pureK Tryz.prog (sBin .eql T_int (.tmp 20) (.const (.int .i64 3)) t20 (.int .i64 3)) fun t71 =>
      ifB t71
      (pureK Tryz.prog (sNil s0) fun t74 =>
       pureK Tryz.prog (sFieldAddr T_erratalaw47_state t74 0) fun t75 =>
       readK Tryz.prog (sLoad T_s_api_Replacement t75) (tick w6) fun t76 =>
       pureK Tryz.prog (sFieldAddr T_erratalaw47_Op o3 1) fun t77 =>
       readK Tryz.prog (sLoad T_int t77) (tick w6) fun t78 =>
       pureK Tryz.prog (sFieldAddr T_erratalaw47_Op o3 6) fun t79 =>
       readK Tryz.prog (sLoad T_bool t79) (tick w6) fun t80 =>
       upK Tryz.prog (sCall F_replace_Caught #[t76, t78, t80]) (tick w6) fun t81 w9 =>
       pureK Tryz.prog (sExtract t81 0) fun t82 =>
       pureK Tryz.prog (sExtract t81 1) fun t83 =>
       J1 (t82, (.int .i64 0), t83, t17, ()) w9)
      (pureK Tryz.prog (sNil s0) fun t23 =>
       pureK Tryz.prog (sFieldAddr T_erratalaw47_state t23 0) fun t24 =>
       readK Tryz.prog (sLoad T_s_api_Replacement t24) (tick w6) fun t25 =>
       pureK Tryz.prog (sNil s0) fun t27 =>
       pureK Tryz.prog (sFieldAddr T_erratalaw47_state t27 1) fun t28 =>
       readK Tryz.prog (sLoad T_s_api_Seg t28) (tick w6) fun t29 =>
       pureK Tryz.prog (sFieldAddr T_erratalaw47_Op o3 1) fun t30 =>
       readK Tryz.prog (sLoad T_int t30) (tick w6) fun t31 =>
       upK Tryz.prog (sCall F_replace_Cut #[t25, t29, t31]) (tick w6) fun t32 w10 =>
       pureK Tryz.prog (sExtract t32 0) fun t33 =>
       pureK Tryz.prog (sExtract t32 1) fun t34 =>
       pureK Tryz.prog (sExtract t32 2) fun t35 =>
       J1 (t33, (.int .i64 0), t35, t34, ()) w10))))
   (fun J3 =>
    pureK Tryz.prog (sBin .eql T_int (.tmp 20) (.const (.int .i64 0)) t20 (.int .i64 0)) fun t37 =>
    ifB t37
    (J3 (t37, ()) w1)
    (pureK Tryz.prog (sBin .eql T_int (.tmp 20) (.const (.int .i64 1)) t20 (.int .i64 1)) fun t38 =>
     J3 (t38, ()) w1)))
theorem erratalaw47_state_step.pt_eq : erratalaw47_state_step.pt = fun s0 o1 w K => FN Tryz.prog Tryz.f15 (bodyOf Tryz.f15) [4, 5] (.node none .leaf (.node none .leaf (.node none .leaf (.node none .leaf (.node none .leaf (.node (some [8, 6, 7, 9]) (.node none .leaf (.node none (.node (some [36]) .leaf .leaf) .leaf)) (.node (some []) .leaf .leaf))))))) [s0, o1] w K := by kernel_rfl
theorem erratalaw47_state_step.call {s0 o1 : Value} {w : World} {K : Value → World → Prop} (h : erratalaw47_state_step.pt s0 o1 w K) : Calls Tryz.prog F_erratalaw47_state_step #[s0, o1] w (retK K) :=
  calls_FN (args := [s0, o1]) Tryz.func15 (by kernel_rfl) (by rw [erratalaw47_state_step.pt_eq] at h; exact h)
theorem erratalaw47_state_step.up {s0 o1 : Value} {w : World} {K : Value → World → Prop} (h : Calls Tryz.prog F_erratalaw47_state_step #[s0, o1] w (retK K)) : upK Tryz.prog (sCall F_erratalaw47_state_step #[s0, o1]) w K :=
  up_call (fn := Tryz.f15) Tryz.func15 (by kernel_rfl) (by kernel_rfl) h

/-- (*errata/erratalaw47.state).model -/
def erratalaw47_state_model.pt (s0 o1 : Value) (w : World) (K : Value → World → Prop) : Prop :=
  upK Tryz.prog (sBox T_erratalaw47_Op o1) w fun o3 w1 =>
  pureK Tryz.prog (sNil s0) fun t11 =>
  pureK Tryz.prog (sFieldAddr T_erratalaw47_state t11 0) fun t12 =>
  readK Tryz.prog (sLoad T_s_api_Replacement t12) w1 fun t13 =>
  pureK Tryz.prog (sNil s0) fun t15 =>
  pureK Tryz.prog (sFieldAddr T_erratalaw47_state t15 1) fun t16 =>
  readK Tryz.prog (sLoad T_s_api_Seg t16) w1 fun t17 =>
  LETJ (X := Value × Value × Value × Value × Unit) (fun jv1 w2 =>
   LETJ (X := Unit) (fun jv2 w3 =>
    K (.tuple #[jv1.2.1, jv1.2.2.1]) w3)
   (fun J2 =>
    pureK Tryz.prog (sBin .eql T_api_Errno (.tmp 84) (.const (.int .i64 0)) jv1.2.2.1 (.int .i64 0)) fun t85 =>
    ifB t85
    (pureK Tryz.prog (sNil s0) fun t88 =>
     pureK Tryz.prog (sFieldAddr T_erratalaw47_state t88 0) fun t89 =>
     upK Tryz.prog (sStore T_s_api_Replacement t89 jv1.1) w2 fun tu w4 =>
     pureK Tryz.prog (sNil s0) fun t92 =>
     pureK Tryz.prog (sFieldAddr T_erratalaw47_state t92 1) fun t93 =>
     upK Tryz.prog (sStore T_s_api_Seg t93 jv1.2.2.2.1) w4 fun tu_1 w5 =>
     J2 (()) w5)
    (J2 (()) w2)))
  (fun J1 =>
   pureK Tryz.prog (sFieldAddr T_erratalaw47_Op o3 0) fun t18 =>
   readK Tryz.prog (sLoad T_int t18) w1 fun t19 =>
   pureK Tryz.prog (sBin .and T_int (.tmp 19) (.const (.int .i64 7)) t19 (.int .i64 7)) fun t20 =>
   LETJ (X := Value × Unit) (fun jv3 w6 =>
    ifB jv3.1
    (pureK Tryz.prog (sNil s0) fun t41 =>
     pureK Tryz.prog (sFieldAddr T_erratalaw47_state t41 0) fun t42 =>
     readK Tryz.prog (sLoad T_s_api_Replacement t42) (tick w6) fun t43 =>
     pureK Tryz.prog (sFieldAddr T_erratalaw47_Op o3 2) fun t44 =>
     readK Tryz.prog (sLoad T_int t44) (tick w6) fun t45 =>
     pureK Tryz.prog (sFieldAddr T_erratalaw47_Op o3 3) fun t46 =>
     readK Tryz.prog (sLoad T_int t46) (tick w6) fun t47 =>
     pureK Tryz.prog (sFieldAddr T_erratalaw47_Op o3 4) fun t48 =>
     readK Tryz.prog (sLoad T_int t48) (tick w6) fun t49 =>
     pureK Tryz.prog (sFieldAddr T_erratalaw47_Op o3 5) fun t50 =>
     readK Tryz.prog (sLoad T_int t50) (tick w6) fun t51 =>
     pureK Tryz.prog (sFieldAddr T_erratalaw47_Op o3 6) fun t52 =>
     readK Tryz.prog (sLoad T_bool t52) (tick w6) fun t53 =>
     upK Tryz.prog (sCall F_errataref47_Ask #[t43, t45, t47, t49, t51, t53]) (tick w6) fun t54 w7 =>
     pureK Tryz.prog (sExtract t54 0) fun t55 =>
     pureK Tryz.prog (sExtract t54 1) fun t56 =>
     pureK Tryz.prog (sExtract t54 2) fun t57 =>
     J1 (t55, t56, t57, t17, ()) w7)
    (pureK Tryz.prog (sBin .eql T_int (.tmp 20) (.const (.int .i64 2)) t20 (.int .i64 2)) fun t59 =>
     ifB t59
     (pureK Tryz.prog (sNil s0) fun t62 =>
      pureK Tryz.prog (sFieldAddr T_erratalaw47_state t62 0) fun t63 =>
      readK Tryz.prog (sLoad T_s_api_Replacement t63) (tick w6) fun t64 =>
      pureK Tryz.prog (sFieldAddr T_erratalaw47_Op o3 1) fun t65 =>
      readK Tryz.prog (sLoad T_int t65) (tick w6) fun t66 =>
      upK Tryz.prog (sCall F_errataref47_Abandon #[t64, t66]) (tick w6) fun t67 w8 =>
      pureK Tryz.prog (sExtract t67 0) fun t68 =>
      pureK Tryz.prog (sExtract t67 1) fun t69 =>
      J1 (t68, (.int .i64 0), t69, t17, ()) w8)
     (pureK Tryz.prog (sBin .eql T_int (.tmp 20) (.const (.int .i64 3)) t20 (.int .i64 3)) fun t71 =>
      ifB t71
      (pureK Tryz.prog (sNil s0) fun t74 =>
       pureK Tryz.prog (sFieldAddr T_erratalaw47_state t74 0) fun t75 =>
       readK Tryz.prog (sLoad T_s_api_Replacement t75) (tick w6) fun t76 =>
       pureK Tryz.prog (sFieldAddr T_erratalaw47_Op o3 1) fun t77 =>
       readK Tryz.prog (sLoad T_int t77) (tick w6) fun t78 =>
       pureK Tryz.prog (sFieldAddr T_erratalaw47_Op o3 6) fun t79 =>
       readK Tryz.prog (sLoad T_bool t79) (tick w6) fun t80 =>
       upK Tryz.prog (sCall F_errataref47_Caught #[t76, t78, t80]) (tick w6) fun t81 w9 =>
       pureK Tryz.prog (sExtract t81 0) fun t82 =>
       pureK Tryz.prog (sExtract t81 1) fun t83 =>
       J1 (t82, (.int .i64 0), t83, t17, ()) w9)
      (pureK Tryz.prog (sNil s0) fun t23 =>
       pureK Tryz.prog (sFieldAddr T_erratalaw47_state t23 0) fun t24 =>
       readK Tryz.prog (sLoad T_s_api_Replacement t24) (tick w6) fun t25 =>
       pureK Tryz.prog (sNil s0) fun t27 =>
       pureK Tryz.prog (sFieldAddr T_erratalaw47_state t27 1) fun t28 =>
       readK Tryz.prog (sLoad T_s_api_Seg t28) (tick w6) fun t29 =>
       pureK Tryz.prog (sFieldAddr T_erratalaw47_Op o3 1) fun t30 =>
       readK Tryz.prog (sLoad T_int t30) (tick w6) fun t31 =>
       upK Tryz.prog (sCall F_errataref47_Cut #[t25, t29, t31]) (tick w6) fun t32 w10 =>
       pureK Tryz.prog (sExtract t32 0) fun t33 =>
       pureK Tryz.prog (sExtract t32 1) fun t34 =>
       pureK Tryz.prog (sExtract t32 2) fun t35 =>
       J1 (t33, (.int .i64 0), t35, t34, ()) w10))))
   (fun J3 =>
    pureK Tryz.prog (sBin .eql T_int (.tmp 20) (.const (.int .i64 0)) t20 (.int .i64 0)) fun t37 =>
    ifB t37
    (J3 (t37, ()) w1)
    (pureK Tryz.prog (sBin .eql T_int (.tmp 20) (.const (.int .i64 1)) t20 (.int .i64 1)) fun t38 =>
     J3 (t38, ()) w1)))
theorem erratalaw47_state_model.pt_eq : erratalaw47_state_model.pt = fun s0 o1 w K => FN Tryz.prog Tryz.f16 (bodyOf Tryz.f16) [4, 5] (.node none .leaf (.node none .leaf (.node none .leaf (.node none .leaf (.node none .leaf (.node (some [8, 6, 7, 9]) (.node none .leaf (.node none (.node (some [36]) .leaf .leaf) .leaf)) (.node (some []) .leaf .leaf))))))) [s0, o1] w K := by kernel_rfl
theorem erratalaw47_state_model.call {s0 o1 : Value} {w : World} {K : Value → World → Prop} (h : erratalaw47_state_model.pt s0 o1 w K) : Calls Tryz.prog F_erratalaw47_state_model #[s0, o1] w (retK K) :=
  calls_FN (args := [s0, o1]) Tryz.func16 (by kernel_rfl) (by rw [erratalaw47_state_model.pt_eq] at h; exact h)
theorem erratalaw47_state_model.up {s0 o1 : Value} {w : World} {K : Value → World → Prop} (h : Calls Tryz.prog F_erratalaw47_state_model #[s0, o1] w (retK K)) : upK Tryz.prog (sCall F_erratalaw47_state_model #[s0, o1]) w K :=
  up_call (fn := Tryz.f16) Tryz.func16 (by kernel_rfl) (by kernel_rfl) h

/-- errata/errataref45.Same -/
def errataref45_Same.pt (a0 b1 : Value) (w : World) (K : Value → World → Prop) : Prop :=
  readK Tryz.prog (sBlt .len #[T_s_api_Seg] T_int #[false] #[a0]) w fun t7 =>
  readK Tryz.prog (sBlt .len #[T_s_api_Seg] T_int #[false] #[b1]) w fun t9 =>
  pureK Tryz.prog (sBin .neq T_int (.tmp 7) (.tmp 9) t7 t9) fun t10 =>
  ifB t10
  (K (.bool false) w)
  (LOOP (X := Value × Unit) (fun lv1 w1 next1 =>
    readK Tryz.prog (sBlt .len #[T_s_api_Seg] T_int #[false] #[a0]) w1 fun t13 =>
    pureK Tryz.prog (sBin .lss T_int (.tmp 11) (.tmp 13) lv1.1 t13) fun t14 =>
    ifB t14
    (pureK Tryz.prog (sIdxAddr T_s_api_Seg a0 lv1.1) fun t19 =>
     readK Tryz.prog (sLoad T_api_Seg t19) (tick w1) fun t20 =>
     pureK Tryz.prog (sIdxAddr T_s_api_Seg b1 lv1.1) fun t23 =>
     readK Tryz.prog (sLoad T_api_Seg t23) (tick w1) fun t24 =>
     pureK Tryz.prog (sBin .neq T_api_Seg (.tmp 20) (.tmp 24) t20 t24) fun t25 =>
     ifB t25
     (K (.bool false) (tick w1))
     (pureK Tryz.prog (sBin .add T_int (.tmp 15) (.const (.int .i64 1)) lv1.1 (.int .i64 1)) fun t16 =>
      next1 (t16, ()) (tick w1)))
    (K (.bool true) w1))
   ((.int .i64 0), ()) w)
theorem errataref45_Same.pt_eq : errataref45_Same.pt = fun a0 b1 w K => FN Tryz.prog Tryz.f17 (bodyOf Tryz.f17) [4] .leaf [a0, b1] w K := by kernel_rfl
theorem errataref45_Same.call {a0 b1 : Value} {w : World} {K : Value → World → Prop} (h : errataref45_Same.pt a0 b1 w K) : Calls Tryz.prog F_errataref45_Same #[a0, b1] w (retK K) :=
  calls_FN (args := [a0, b1]) Tryz.func17 (by kernel_rfl) (by rw [errataref45_Same.pt_eq] at h; exact h)
theorem errataref45_Same.up {a0 b1 : Value} {w : World} {K : Value → World → Prop} (h : Calls Tryz.prog F_errataref45_Same #[a0, b1] w (retK K)) : upK Tryz.prog (sCall F_errataref45_Same #[a0, b1]) w K :=
  up_call (fn := Tryz.f17) Tryz.func17 (by kernel_rfl) (by kernel_rfl) h

/-- errata/replace.Open -/
def replace_Open.pt (l0 : Value) (w : World) (K : Value → World → Prop) : Prop :=
  upK Tryz.prog (sCall F_slices_Clone_s_api_Replacement_api_Replacement #[l0]) w fun t4 w1 =>
  upK Tryz.prog (sCall F_slices_DeleteFunc_s_api_Replacement_api_Replacement #[t4, (.func (.func 47) #[] #[])]) w1 fun t5 w2 =>
  K t5 w2
theorem replace_Open.pt_eq : replace_Open.pt = fun l0 w K => FN Tryz.prog Tryz.f18 (bodyOf Tryz.f18) [2] .leaf [l0] w K := by kernel_rfl
theorem replace_Open.call {l0 : Value} {w : World} {K : Value → World → Prop} (h : replace_Open.pt l0 w K) : Calls Tryz.prog F_replace_Open #[l0] w (retK K) :=
  calls_FN (args := [l0]) Tryz.func18 (by kernel_rfl) (by rw [replace_Open.pt_eq] at h; exact h)
theorem replace_Open.up {l0 : Value} {w : World} {K : Value → World → Prop} (h : Calls Tryz.prog F_replace_Open #[l0] w (retK K)) : upK Tryz.prog (sCall F_replace_Open #[l0]) w K :=
  up_call (fn := Tryz.f18) Tryz.func18 (by kernel_rfl) (by kernel_rfl) h

/-- errata/errataref47.Open -/
def errataref47_Open.pt (l0 : Value) (w : World) (K : Value → World → Prop) : Prop :=
  LOOP (X := Value × Value × Unit) (fun lv1 w1 next1 =>
   readK Tryz.prog (sBlt .len #[T_s_api_Replacement] T_int #[false] #[l0]) w1 fun t7 =>
   pureK Tryz.prog (sBin .lss T_int (.tmp 5) (.tmp 7) lv1.2.1 t7) fun t8 =>
   ifB t8
   (LETJ (X := Value × Unit) (fun jv1 w2 =>
     pureK Tryz.prog (sBin .add T_int (.tmp 9) (.const (.int .i64 1)) lv1.2.1 (.int .i64 1)) fun t10 =>
     next1 (jv1.1, t10, ()) w2)
    (fun J1 =>
     pureK Tryz.prog (sIdxAddr T_s_api_Replacement l0 lv1.2.1) fun t13 =>
     readK Tryz.prog (sLoad T_api_Replacement t13) w1 fun t14 =>
     upK Tryz.prog (sCall F_errataref47_open #[t14]) w1 fun t15 w3 =>
     ifB t15
     (pureK Tryz.prog (sIdxAddr T_s_api_Replacement l0 lv1.2.1) fun t19 =>
      readK Tryz.prog (sLoad T_api_Replacement t19) w3 fun t20 =>
      upK Tryz.prog (sBuildSlice T_s_api_Replacement 1 #[(0, t20)]) w3 fun t21 w4 =>
      upK Tryz.prog (sBlt .append #[T_s_api_Replacement, T_s_api_Replacement] T_s_api_Replacement #[false, false] #[lv1.1, t21]) w4 fun t22 w5 =>
      J1 (t22, ()) w5)
     (J1 (lv1.1, ()) w3)))
   (K lv1.1 w1))
  ((.slice none 0 0), (.int .i64 0), ()) w
theorem errataref47_Open.pt_eq : errataref47_Open.pt = fun l0 w K => FN Tryz.prog Tryz.f19 (bodyOf Tryz.f19) [2] (.node none .leaf (.node none .leaf (.node none (.node none .leaf (.node none (.node none (.node none .leaf (.node (some [3]) .leaf .leaf)) .leaf) .leaf)) .leaf))) [l0] w K := by kernel_rfl
theorem errataref47_Open.call {l0 : Value} {w : World} {K : Value → World → Prop} (h : errataref47_Open.pt l0 w K) : Calls Tryz.prog F_errataref47_Open #[l0] w (retK K) :=
  calls_FN (args := [l0]) Tryz.func19 (by kernel_rfl) (by rw [errataref47_Open.pt_eq] at h; exact h)
theorem errataref47_Open.up {l0 : Value} {w : World} {K : Value → World → Prop} (h : Calls Tryz.prog F_errataref47_Open #[l0] w (retK K)) : upK Tryz.prog (sCall F_errataref47_Open #[l0]) w K :=
  up_call (fn := Tryz.f19) Tryz.func19 (by kernel_rfl) (by kernel_rfl) h

/-- errata/replace.Side -/
def replace_Side.pt (l0 t1 time2 bucket3 : Value) (w : World) (K : Value → World → Prop) : Prop :=
  LETJ (X := Unit) (fun jv1 w1 =>
   upK Tryz.prog (sCall F_timeline_At #[t1, time2]) w1 fun t38 w2 =>
   K t38 w2)
  (fun J1 =>
   upK Tryz.prog (sCall F_replace_first #[l0]) w fun t13 w3 =>
   pureK Tryz.prog (sExtract t13 0) fun t14 =>
   pureK Tryz.prog (sExtract t13 1) fun t15 =>
   upK Tryz.prog (sAlloc T_api_Replacement) w3 fun r9 w4 =>
   upK Tryz.prog (sStore T_api_Replacement r9 t14) w4 fun tu w5 =>
   ifB t15
   (pureK Tryz.prog (sFieldAddr T_api_Replacement r9 4) fun t18 =>
    readK Tryz.prog (sLoad T_int t18) w5 fun t19 =>
    pureK Tryz.prog (sBin .eql T_int (.tmp 19) (.const (.int .i64 2)) t19 (.int .i64 2)) fun t20 =>
    ifB t20
    (pureK Tryz.prog (sFieldAddr T_api_Replacement r9 1) fun t24 =>
     readK Tryz.prog (sLoad T_int t24) w5 fun t25 =>
     pureK Tryz.prog (sBin .geq T_int (.tmp 23) (.tmp 25) time2 t25) fun t26 =>
     ifB t26
     (pureK Tryz.prog (sFieldAddr T_api_Replacement r9 5) fun t30 =>
      readK Tryz.prog (sLoad T_int t30) w5 fun t31 =>
      pureK Tryz.prog (sBin .lss T_int (.tmp 29) (.tmp 31) bucket3 t31) fun t32 =>
      ifB t32
      (pureK Tryz.prog (sFieldAddr T_api_Replacement r9 2) fun t34 =>
       readK Tryz.prog (sLoad T_int t34) w5 fun t35 =>
       K t35 w5)
      (J1 (()) w5))
     (J1 (()) w5))
    (J1 (()) w5))
   (J1 (()) w5))
theorem replace_Side.pt_eq : replace_Side.pt = fun l0 t1 time2 bucket3 w K => FN Tryz.prog Tryz.f20 (bodyOf Tryz.f20) [8] (.node none .leaf (.node (some []) .leaf .leaf)) [l0, t1, time2, bucket3] w K := by kernel_rfl
theorem replace_Side.call {l0 t1 time2 bucket3 : Value} {w : World} {K : Value → World → Prop} (h : replace_Side.pt l0 t1 time2 bucket3 w K) : Calls Tryz.prog F_replace_Side #[l0, t1, time2, bucket3] w (retK K) :=
  calls_FN (args := [l0, t1, time2, bucket3]) Tryz.func20 (by kernel_rfl) (by rw [replace_Side.pt_eq] at h; exact h)
theorem replace_Side.up {l0 t1 time2 bucket3 : Value} {w : World} {K : Value → World → Prop} (h : Calls Tryz.prog F_replace_Side #[l0, t1, time2, bucket3] w (retK K)) : upK Tryz.prog (sCall F_replace_Side #[l0, t1, time2, bucket3]) w K :=
  up_call (fn := Tryz.f20) Tryz.func20 (by kernel_rfl) (by kernel_rfl) h

/-- errata/errataref47.Side -/
def errataref47_Side.pt (l0 t1 time2 bucket3 : Value) (w : World) (K : Value → World → Prop) : Prop :=
  upK Tryz.prog (sCall F_errataref47_Open #[l0]) w fun t11 w1 =>
  LETJ (X := Unit) (fun jv1 w2 =>
   upK Tryz.prog (sCall F_errataref45_At #[t1, time2]) w2 fun t42 w3 =>
   K t42 w3)
  (fun J1 =>
   readK Tryz.prog (sBlt .len #[T_s_api_Replacement] T_int #[false] #[t11]) w1 fun t13 =>
   pureK Tryz.prog (sBin .gtr T_int (.tmp 13) (.const (.int .i64 0)) t13 (.int .i64 0)) fun t14 =>
   ifB t14
   (pureK Tryz.prog (sIdxAddr T_s_api_Replacement t11 (.int .i64 0)) fun t16 =>
    pureK Tryz.prog (sFieldAddr T_api_Replacement t16 4) fun t17 =>
    readK Tryz.prog (sLoad T_int t17) w1 fun t18 =>
    pureK Tryz.prog (sBin .eql T_int (.tmp 18) (.const (.int .i64 2)) t18 (.int .i64 2)) fun t19 =>
    ifB t19
    (pureK Tryz.prog (sIdxAddr T_s_api_Replacement t11 (.int .i64 0)) fun t23 =>
     pureK Tryz.prog (sFieldAddr T_api_Replacement t23 1) fun t24 =>
     readK Tryz.prog (sLoad T_int t24) w1 fun t25 =>
     pureK Tryz.prog (sBin .geq T_int (.tmp 21) (.tmp 25) time2 t25) fun t26 =>
     ifB t26
     (pureK Tryz.prog (sIdxAddr T_s_api_Replacement t11 (.int .i64 0)) fun t31 =>
      pureK Tryz.prog (sFieldAddr T_api_Replacement t31 5) fun t32 =>
      readK Tryz.prog (sLoad T_int t32) w1 fun t33 =>
      pureK Tryz.prog (sBin .lss T_int (.tmp 29) (.tmp 33) bucket3 t33) fun t34 =>
      ifB t34
      (pureK Tryz.prog (sIdxAddr T_s_api_Replacement t11 (.int .i64 0)) fun t37 =>
       pureK Tryz.prog (sFieldAddr T_api_Replacement t37 2) fun t38 =>
       readK Tryz.prog (sLoad T_int t38) w1 fun t39 =>
       K t39 w1)
      (J1 (()) w1))
     (J1 (()) w1))
    (J1 (()) w1))
   (J1 (()) w1))
theorem errataref47_Side.pt_eq : errataref47_Side.pt = fun l0 t1 time2 bucket3 w K => FN Tryz.prog Tryz.f21 (bodyOf Tryz.f21) [8] (.node none .leaf (.node none .leaf (.node (some []) .leaf .leaf))) [l0, t1, time2, bucket3] w K := by kernel_rfl
theorem errataref47_Side.call {l0 t1 time2 bucket3 : Value} {w : World} {K : Value → World → Prop} (h : errataref47_Side.pt l0 t1 time2 bucket3 w K) : Calls Tryz.prog F_errataref47_Side #[l0, t1, time2, bucket3] w (retK K) :=
  calls_FN (args := [l0, t1, time2, bucket3]) Tryz.func21 (by kernel_rfl) (by rw [errataref47_Side.pt_eq] at h; exact h)
theorem errataref47_Side.up {l0 t1 time2 bucket3 : Value} {w : World} {K : Value → World → Prop} (h : Calls Tryz.prog F_errataref47_Side #[l0, t1, time2, bucket3] w (retK K)) : upK Tryz.prog (sCall F_errataref47_Side #[l0, t1, time2, bucket3]) w K :=
  up_call (fn := Tryz.f21) Tryz.func21 (by kernel_rfl) (by kernel_rfl) h

/-- errata/erratalaw47.ints -/
def erratalaw47_ints.pt (a0 b1 : Value) (w : World) (K : Value → World → Prop) : Prop :=
  readK Tryz.prog (sBlt .len #[T_s_int] T_int #[false] #[a0]) w fun t7 =>
  readK Tryz.prog (sBlt .len #[T_s_int] T_int #[false] #[b1]) w fun t9 =>
  pureK Tryz.prog (sBin .neq T_int (.tmp 7) (.tmp 9) t7 t9) fun t10 =>
  ifB t10
  (K (.bool false) w)
  (LOOP (X := Value × Unit) (fun lv1 w1 next1 =>
    readK Tryz.prog (sBlt .len #[T_s_int] T_int #[false] #[a0]) w1 fun t13 =>
    pureK Tryz.prog (sBin .lss T_int (.tmp 11) (.tmp 13) lv1.1 t13) fun t14 =>
    ifB t14
    (pureK Tryz.prog (sIdxAddr T_s_int a0 lv1.1) fun t19 =>
     readK Tryz.prog (sLoad T_int t19) (tick w1) fun t20 =>
     pureK Tryz.prog (sIdxAddr T_s_int b1 lv1.1) fun t23 =>
     readK Tryz.prog (sLoad T_int t23) (tick w1) fun t24 =>
     pureK Tryz.prog (sBin .neq T_int (.tmp 20) (.tmp 24) t20 t24) fun t25 =>
     ifB t25
     (K (.bool false) (tick w1))
     (pureK Tryz.prog (sBin .add T_int (.tmp 15) (.const (.int .i64 1)) lv1.1 (.int .i64 1)) fun t16 =>
      next1 (t16, ()) (tick w1)))
    (K (.bool true) w1))
   ((.int .i64 0), ()) w)
theorem erratalaw47_ints.pt_eq : erratalaw47_ints.pt = fun a0 b1 w K => FN Tryz.prog Tryz.f22 (bodyOf Tryz.f22) [4] .leaf [a0, b1] w K := by kernel_rfl
theorem erratalaw47_ints.call {a0 b1 : Value} {w : World} {K : Value → World → Prop} (h : erratalaw47_ints.pt a0 b1 w K) : Calls Tryz.prog F_erratalaw47_ints #[a0, b1] w (retK K) :=
  calls_FN (args := [a0, b1]) Tryz.func22 (by kernel_rfl) (by rw [erratalaw47_ints.pt_eq] at h; exact h)
theorem erratalaw47_ints.up {a0 b1 : Value} {w : World} {K : Value → World → Prop} (h : Calls Tryz.prog F_erratalaw47_ints #[a0, b1] w (retK K)) : upK Tryz.prog (sCall F_erratalaw47_ints #[a0, b1]) w K :=
  up_call (fn := Tryz.f22) Tryz.func22 (by kernel_rfl) (by kernel_rfl) h

/-- errata/replace.Needed -/
def replace_Needed.pt (l0 t1 closed2 : Value) (w : World) (K : Value → World → Prop) : Prop :=
  upK Tryz.prog (sCall F_timeline_Open #[t1, closed2]) w fun t12 w1 =>
  upK Tryz.prog (sCall F_replace_Open #[l0]) w1 fun t14 w2 =>
  readK Tryz.prog (sBlt .len #[T_s_api_Replacement] T_int #[false] #[t14]) w2 fun t15 =>
  LOOP (X := Value × Value × Unit) (fun lv3 w3 next3 =>
   pureK Tryz.prog (sBin .lss T_int (.tmp 16) (.tmp 15) lv3.2.1 t15) fun t17 =>
   ifB t17
   (pureK Tryz.prog (sIdxAddr T_s_api_Replacement t14 lv3.2.1) fun t18 =>
    readK Tryz.prog (sLoad T_api_Replacement t18) w3 fun t19 =>
    upK Tryz.prog (sAlloc T_api_Replacement) w3 fun r9 w4 =>
    upK Tryz.prog (sStore T_api_Replacement r9 t19) w4 fun tu w5 =>
    pureK Tryz.prog (sFieldAddr T_api_Replacement r9 2) fun t21 =>
    readK Tryz.prog (sLoad T_int t21) w5 fun t22 =>
    upK Tryz.prog (sBuildSlice T_s_int 1 #[(0, t22)]) w5 fun t23 w6 =>
    upK Tryz.prog (sBlt .append #[T_s_int, T_s_int] T_s_int #[false, false] #[lv3.1, t23]) w6 fun t24 w7 =>
    pureK Tryz.prog (sBin .add T_int (.tmp 16) (.const (.int .i64 1)) lv3.2.1 (.int .i64 1)) fun t25 =>
    next3 (t24, t25, ()) w7)
   (upK Tryz.prog (sCall F_slices_Sort_s_int_int #[lv3.1]) w3 fun t27 w8 =>
    upK Tryz.prog (sCall F_slices_Compact_s_int_int #[lv3.1]) w8 fun t29 w9 =>
    K t29 w9))
  (t12, (.int .i64 0), ()) w2
theorem replace_Needed.pt_eq : replace_Needed.pt = fun l0 t1 closed2 w K => FN Tryz.prog Tryz.f23 (bodyOf Tryz.f23) [6] .leaf [l0, t1, closed2] w K := by kernel_rfl
theorem replace_Needed.call {l0 t1 closed2 : Value} {w : World} {K : Value → World → Prop} (h : replace_Needed.pt l0 t1 closed2 w K) : Calls Tryz.prog F_replace_Needed #[l0, t1, closed2] w (retK K) :=
  calls_FN (args := [l0, t1, closed2]) Tryz.func23 (by kernel_rfl) (by rw [replace_Needed.pt_eq] at h; exact h)
theorem replace_Needed.up {l0 t1 closed2 : Value} {w : World} {K : Value → World → Prop} (h : Calls Tryz.prog F_replace_Needed #[l0, t1, closed2] w (retK K)) : upK Tryz.prog (sCall F_replace_Needed #[l0, t1, closed2]) w K :=
  up_call (fn := Tryz.f23) Tryz.func23 (by kernel_rfl) (by kernel_rfl) h

/-- errata/errataref47.Needed -/
def errataref47_Needed.pt (l0 t1 closed2 : Value) (w : World) (K : Value → World → Prop) : Prop :=
  upK Tryz.prog (sCall F_errataref45_Versions #[t1, closed2]) w fun t16 w1 =>
  upK Tryz.prog (sCall F_errataref47_Open #[l0]) w1 fun t18 w2 =>
  LOOP (X := Value × Value × Unit) (fun lv3 w3 next3 =>
   pureK Tryz.prog (sBin .leq T_int (.tmp 19) (.const (.int .i64 50)) lv3.2.1 (.int .i64 50)) fun t20 =>
   ifB t20
   (LETJ (X := Value × Unit) (fun jv1 w4 =>
     pureK Tryz.prog (sBin .add T_int (.tmp 21) (.const (.int .i64 1)) lv3.2.1 (.int .i64 1)) fun t22 =>
     next3 (jv1.1, t22, ()) w4)
    (fun J1 =>
     LOOP (X := Value × Value × Unit) (fun lv5 w5 next5 =>
      readK Tryz.prog (sBlt .len #[T_s_int] T_int #[false] #[t16]) w5 fun t25 =>
      pureK Tryz.prog (sBin .lss T_int (.tmp 23) (.tmp 25) lv5.2.1 t25) fun t26 =>
      ifB t26
      (LETJ (X := Value × Unit) (fun jv2 w6 =>
        pureK Tryz.prog (sBin .add T_int (.tmp 27) (.const (.int .i64 1)) lv5.2.1 (.int .i64 1)) fun t28 =>
        next5 (jv2.1, t28, ()) w6)
       (fun J2 =>
        ifB lv5.1
        (J2 ((.bool true), ()) w5)
        (pureK Tryz.prog (sIdxAddr T_s_int t16 lv5.2.1) fun t33 =>
         readK Tryz.prog (sLoad T_int t33) w5 fun t34 =>
         pureK Tryz.prog (sBin .eql T_int (.tmp 34) (.tmp 35) t34 lv3.2.1) fun t36 =>
         J2 (t36, ()) w5)))
      (LOOP (X := Value × Value × Unit) (fun lv7 w7 next7 =>
        readK Tryz.prog (sBlt .len #[T_s_api_Replacement] T_int #[false] #[t18]) w7 fun t40 =>
        pureK Tryz.prog (sBin .lss T_int (.tmp 38) (.tmp 40) lv7.2.1 t40) fun t41 =>
        ifB t41
        (LETJ (X := Value × Unit) (fun jv3 w8 =>
          pureK Tryz.prog (sBin .add T_int (.tmp 42) (.const (.int .i64 1)) lv7.2.1 (.int .i64 1)) fun t43 =>
          next7 (jv3.1, t43, ()) w8)
         (fun J3 =>
          ifB lv7.1
          (J3 ((.bool true), ()) w7)
          (pureK Tryz.prog (sIdxAddr T_s_api_Replacement t18 lv7.2.1) fun t48 =>
           pureK Tryz.prog (sFieldAddr T_api_Replacement t48 2) fun t49 =>
           readK Tryz.prog (sLoad T_int t49) w7 fun t50 =>
           pureK Tryz.prog (sBin .eql T_int (.tmp 50) (.tmp 51) t50 lv3.2.1) fun t52 =>
           J3 (t52, ()) w7)))
        (ifB lv7.1
         (upK Tryz.prog (sBuildSlice T_s_int 1 #[(0, lv3.2.1)]) w7 fun t57 w9 =>
          upK Tryz.prog (sBlt .append #[T_s_int, T_s_int] T_s_int #[false, false] #[lv3.1, t57]) w9 fun t58 w10 =>
          J1 (t58, ()) w10)
         (J1 (lv3.1, ()) w7)))
       (lv5.1, (.int .i64 0), ()) w5))
     ((.bool false), (.int .i64 0), ()) w3))
   (K lv3.1 w3))
  ((.slice none 0 0), (.int .i64 1), ()) w2
theorem errataref47_Needed.pt_eq : errataref47_Needed.pt = fun l0 t1 closed2 w K => FN Tryz.prog Tryz.f24 (bodyOf Tryz.f24) [6] (.node none .leaf (.node none .leaf (.node none .leaf (.node none .leaf (.node none (.node none .leaf (.node none (.node none (.node none .leaf (.node (some [9]) (.node none (.node none .leaf (.node none (.node none .leaf (.node none (.node none (.node none .leaf (.node (some [11]) .leaf .leaf)) .leaf) .leaf)) (.node none (.node none .leaf (.node none (.node none (.node none .leaf (.node (some [11]) .leaf .leaf)) .leaf) .leaf)) .leaf))) .leaf) .leaf)) .leaf) .leaf)) .leaf))))) [l0, t1, closed2] w K := by kernel_rfl
theorem errataref47_Needed.call {l0 t1 closed2 : Value} {w : World} {K : Value → World → Prop} (h : errataref47_Needed.pt l0 t1 closed2 w K) : Calls Tryz.prog F_errataref47_Needed #[l0, t1, closed2] w (retK K) :=
  calls_FN (args := [l0, t1, closed2]) Tryz.func24 (by kernel_rfl) (by rw [errataref47_Needed.pt_eq] at h; exact h)
theorem errataref47_Needed.up {l0 t1 closed2 : Value} {w : World} {K : Value → World → Prop} (h : Calls Tryz.prog F_errataref47_Needed #[l0, t1, closed2] w (retK K)) : upK Tryz.prog (sCall F_errataref47_Needed #[l0, t1, closed2]) w K :=
  up_call (fn := Tryz.f24) Tryz.func24 (by kernel_rfl) (by kernel_rfl) h

/-- errata/replace.Bytes -/
def replace_Bytes.pt (l0 : Value) (w : World) (K : Value → World → Prop) : Prop :=
  upK Tryz.prog (sAlloc T_strings_Builder) w fun b3 w1 =>
  readK Tryz.prog (sBlt .len #[T_s_api_Replacement] T_int #[false] #[l0]) w1 fun t9 =>
  upK Tryz.prog (sCall F_wire_Num #[t9]) w1 fun t10 w2 =>
  upK Tryz.prog (sCall F_strings_Builder_WriteString #[b3, t10]) w2 fun t11 w3 =>
  readK Tryz.prog (sBlt .len #[T_s_api_Replacement] T_int #[false] #[l0]) w3 fun t13 =>
  LOOP (X := Value × Unit) (fun lv4 w4 next4 =>
   pureK Tryz.prog (sBin .lss T_int (.tmp 14) (.tmp 13) lv4.1 t13) fun t15 =>
   ifB t15
   (LETJ (X := Unit) (fun jv1 w5 =>
     pureK Tryz.prog (sBin .add T_int (.tmp 14) (.const (.int .i64 1)) lv4.1 (.int .i64 1)) fun t38 =>
     next4 (t38, ()) w5)
    (fun J1 =>
     pureK Tryz.prog (sIdxAddr T_s_api_Replacement l0 lv4.1) fun t16 =>
     readK Tryz.prog (sLoad T_api_Replacement t16) w4 fun t17 =>
     upK Tryz.prog (sAlloc T_api_Replacement) w4 fun r5 w6 =>
     upK Tryz.prog (sStore T_api_Replacement r5 t17) w6 fun tu w7 =>
     pureK Tryz.prog (sFieldAddr T_api_Replacement r5 1) fun t18 =>
     readK Tryz.prog (sLoad T_int t18) w7 fun t19 =>
     pureK Tryz.prog (sFieldAddr T_api_Replacement r5 2) fun t20 =>
     readK Tryz.prog (sLoad T_int t20) w7 fun t21 =>
     pureK Tryz.prog (sFieldAddr T_api_Replacement r5 3) fun t22 =>
     readK Tryz.prog (sLoad T_int t22) w7 fun t23 =>
     pureK Tryz.prog (sFieldAddr T_api_Replacement r5 4) fun t24 =>
     readK Tryz.prog (sLoad T_int t24) w7 fun t25 =>
     pureK Tryz.prog (sFieldAddr T_api_Replacement r5 5) fun t26 =>
     readK Tryz.prog (sLoad T_int t26) w7 fun t27 =>
     upK Tryz.prog (sBuildSlice T_s_int 5 #[(0, t19), (1, t21), (2, t23), (3, t25), (4, t27)]) w7 fun t28 w8 =>
     readK Tryz.prog (sBlt .len #[T_s_int] T_int #[false] #[t28]) w8 fun t29 =>
     LOOP (X := Value × Unit) (fun lv9 w9 next9 =>
      pureK Tryz.prog (sBin .lss T_int (.tmp 30) (.tmp 29) lv9.1 t29) fun t31 =>
      ifB t31
      (pureK Tryz.prog (sIdxAddr T_s_int t28 lv9.1) fun t32 =>
       readK Tryz.prog (sLoad T_int t32) w9 fun t33 =>
       upK Tryz.prog (sCall F_wire_Int #[t33]) w9 fun t35 w10 =>
       upK Tryz.prog (sCall F_strings_Builder_WriteString #[b3, t35]) w10 fun t36 w11 =>
       pureK Tryz.prog (sBin .add T_int (.tmp 30) (.const (.int .i64 1)) lv9.1 (.int .i64 1)) fun t37 =>
       next9 (t37, ()) w11)
      (J1 (()) w9))
     ((.int .i64 0), ()) w8))
   (upK Tryz.prog (sCall F_strings_Builder_String #[b3]) w4 fun t39 w12 =>
    K t39 w12))
  ((.int .i64 0), ()) w3
theorem replace_Bytes.pt_eq : replace_Bytes.pt = fun l0 w K => FN Tryz.prog Tryz.f25 (bodyOf Tryz.f25) [2] (.node none .leaf (.node none .leaf (.node none .leaf (.node none (.node none .leaf (.node none (.node none (.node none .leaf (.node none .leaf (.node (some []) .leaf .leaf))) .leaf) .leaf)) .leaf)))) [l0] w K := by kernel_rfl
theorem replace_Bytes.call {l0 : Value} {w : World} {K : Value → World → Prop} (h : replace_Bytes.pt l0 w K) : Calls Tryz.prog F_replace_Bytes #[l0] w (retK K) :=
  calls_FN (args := [l0]) Tryz.func25 (by kernel_rfl) (by rw [replace_Bytes.pt_eq] at h; exact h)
theorem replace_Bytes.up {l0 : Value} {w : World} {K : Value → World → Prop} (h : Calls Tryz.prog F_replace_Bytes #[l0] w (retK K)) : upK Tryz.prog (sCall F_replace_Bytes #[l0]) w K :=
  up_call (fn := Tryz.f25) Tryz.func25 (by kernel_rfl) (by kernel_rfl) h

/-- errata/errataref47.Bytes -/
def errataref47_Bytes.pt (l0 : Value) (w : World) (K : Value → World → Prop) : Prop :=
  readK Tryz.prog (sBlt .len #[T_s_api_Replacement] T_int #[false] #[l0]) w fun t7 =>
  upK Tryz.prog (sCall F_errataref01_Num #[t7]) w fun t8 w1 =>
  LOOP (X := Value × Value × Unit) (fun lv2 w2 next2 =>
   readK Tryz.prog (sBlt .len #[T_s_api_Replacement] T_int #[false] #[l0]) w2 fun t11 =>
   pureK Tryz.prog (sBin .lss T_int (.tmp 9) (.tmp 11) lv2.2.1 t11) fun t12 =>
   ifB t12
   (pureK Tryz.prog (sIdxAddr T_s_api_Replacement l0 lv2.2.1) fun t17 =>
    readK Tryz.prog (sLoad T_api_Replacement t17) w2 fun t18 =>
    upK Tryz.prog (sAlloc T_api_Replacement) w2 fun r5 w3 =>
    upK Tryz.prog (sStore T_api_Replacement r5 t18) w3 fun tu w4 =>
    pureK Tryz.prog (sFieldAddr T_api_Replacement r5 1) fun t20 =>
    readK Tryz.prog (sLoad T_int t20) (tick w4) fun t21 =>
    pureK Tryz.prog (sFieldAddr T_api_Replacement r5 2) fun t24 =>
    readK Tryz.prog (sLoad T_int t24) (tick w4) fun t25 =>
    pureK Tryz.prog (sFieldAddr T_api_Replacement r5 3) fun t28 =>
    readK Tryz.prog (sLoad T_int t28) (tick w4) fun t29 =>
    pureK Tryz.prog (sFieldAddr T_api_Replacement r5 4) fun t32 =>
    readK Tryz.prog (sLoad T_int t32) (tick w4) fun t33 =>
    pureK Tryz.prog (sFieldAddr T_api_Replacement r5 5) fun t36 =>
    readK Tryz.prog (sLoad T_int t36) (tick w4) fun t37 =>
    upK Tryz.prog (sCall F_errataref01_Int #[t21]) (tick w4) fun t22 w5 =>
    Is Tryz.prog (sLoad T_int t36) t37 w5 ∧ Is Tryz.prog (sLoad T_int t32) t33 w5 ∧ Is Tryz.prog (sLoad T_int t28) t29 w5 ∧ Is Tryz.prog (sLoad T_int t24) t25 w5 ∧ pureK Tryz.prog (sBin .add T_string (.tmp 19) (.tmp 22) lv2.1 t22) fun t23 =>
    upK Tryz.prog (sCall F_errataref01_Int #[t25]) w5 fun t26 w6 =>
    Is Tryz.prog (sLoad T_int t36) t37 w6 ∧ Is Tryz.prog (sLoad T_int t32) t33 w6 ∧ Is Tryz.prog (sLoad T_int t28) t29 w6 ∧ pureK Tryz.prog (sBin .add T_string (.tmp 23) (.tmp 26) t23 t26) fun t27 =>
    upK Tryz.prog (sCall F_errataref01_Int #[t29]) w6 fun t30 w7 =>
    Is Tryz.prog (sLoad T_int t36) t37 w7 ∧ Is Tryz.prog (sLoad T_int t32) t33 w7 ∧ pureK Tryz.prog (sBin .add T_string (.tmp 27) (.tmp 30) t27 t30) fun t31 =>
    upK Tryz.prog (sCall F_errataref01_Int #[t33]) w7 fun t34 w8 =>
    Is Tryz.prog (sLoad T_int t36) t37 w8 ∧ pureK Tryz.prog (sBin .add T_string (.tmp 31) (.tmp 34) t31 t34) fun t35 =>
    upK Tryz.prog (sCall F_errataref01_Int #[t37]) w8 fun t38 w9 =>
    pureK Tryz.prog (sBin .add T_string (.tmp 35) (.tmp 38) t35 t38) fun t39 =>
    pureK Tryz.prog (sBin .add T_int (.tmp 13) (.const (.int .i64 1)) lv2.2.1 (.int .i64 1)) fun t14 =>
    next2 (t39, t14, ()) w9)
   (K lv2.1 w2))
  (t8, (.int .i64 0), ()) w1
theorem errataref47_Bytes.pt_eq : errataref47_Bytes.pt = fun l0 w K => FN Tryz.prog Tryz.f26 (bodyOf Tryz.f26) [2] .leaf [l0] w K := by kernel_rfl
theorem errataref47_Bytes.call {l0 : Value} {w : World} {K : Value → World → Prop} (h : errataref47_Bytes.pt l0 w K) : Calls Tryz.prog F_errataref47_Bytes #[l0] w (retK K) :=
  calls_FN (args := [l0]) Tryz.func26 (by kernel_rfl) (by rw [errataref47_Bytes.pt_eq] at h; exact h)
theorem errataref47_Bytes.up {l0 : Value} {w : World} {K : Value → World → Prop} (h : Calls Tryz.prog F_errataref47_Bytes #[l0] w (retK K)) : upK Tryz.prog (sCall F_errataref47_Bytes #[l0]) w K :=
  up_call (fn := Tryz.f26) Tryz.func26 (by kernel_rfl) (by kernel_rfl) h

/-- errata/replace.Ask -/
def replace_Ask.pt (l0 from1 version2 back3 horizon4 raise5 : Value) (w : World) (K : Value → World → Prop) : Prop :=
  upK Tryz.prog (sCall F_replace_within #[from1, (.int .i64 0), (.int .i64 1099511627776)]) w fun t22 w1 =>
  pureK Tryz.prog (sUn .not t22) fun t23 =>
  ifB t23
  (K (.tuple #[(.slice none 0 0), (.int .i64 0), (.int .i64 3)]) w1)
  (upK Tryz.prog (sCall F_replace_within #[version2, (.int .i64 1), (.int .i64 50)]) w1 fun t26 w2 =>
   pureK Tryz.prog (sUn .not t26) fun t27 =>
   ifB t27
   (K (.tuple #[(.slice none 0 0), (.int .i64 0), (.int .i64 3)]) w2)
   (upK Tryz.prog (sCall F_replace_within #[back3, (.int .i64 0), (.int .i64 1099511627776)]) w2 fun t31 w3 =>
    pureK Tryz.prog (sUn .not t31) fun t32 =>
    ifB t32
    (K (.tuple #[(.slice none 0 0), (.int .i64 0), (.int .i64 3)]) w3)
    (upK Tryz.prog (sCall F_replace_within #[horizon4, (.int .i64 0), (.int .i64 1099511627776)]) w3 fun t36 w4 =>
     pureK Tryz.prog (sUn .not t36) fun t37 =>
     ifB t37
     (K (.tuple #[(.slice none 0 0), (.int .i64 0), (.int .i64 3)]) w4)
     (LETJ (X := Unit) (fun jv1 w5 =>
       LETJ (X := Value × Unit) (fun jv2 w6 =>
        upK Tryz.prog (sCall F_slices_Clone_s_api_Replacement_api_Replacement #[l0]) w6 fun t69 w7 =>
        readK Tryz.prog (sBlt .len #[T_s_api_Replacement] T_int #[false] #[t69]) w7 fun t71 =>
        LOOP (X := Value × Unit) (fun lv8 w8 next8 =>
         pureK Tryz.prog (sBin .lss T_int (.tmp 72) (.tmp 71) lv8.1 t71) fun t73 =>
         ifB t73
         (LETJ (X := Unit) (fun jv3 w9 =>
           pureK Tryz.prog (sBin .add T_int (.tmp 72) (.const (.int .i64 1)) lv8.1 (.int .i64 1)) fun t89 =>
           next8 (t89, ()) w9)
          (fun J3 =>
           pureK Tryz.prog (sIdxAddr T_s_api_Replacement t69 lv8.1) fun t75 =>
           readK Tryz.prog (sLoad T_api_Replacement t75) w8 fun t76 =>
           upK Tryz.prog (sAlloc T_api_Replacement) w8 fun r20 w10 =>
           upK Tryz.prog (sStore T_api_Replacement r20 t76) w10 fun tu w11 =>
           readK Tryz.prog (sLoad T_api_Replacement r20) w11 fun t77 =>
           upK Tryz.prog (sCall F_replace_open #[t77]) w11 fun t78 w12 =>
           ifB t78
           (pureK Tryz.prog (sFieldAddr T_api_Replacement r20 1) fun t80 =>
            readK Tryz.prog (sLoad T_int t80) w12 fun t81 =>
            pureK Tryz.prog (sBin .geq T_int (.tmp 81) (.tmp 82) t81 jv2.1) fun t83 =>
            ifB t83
            (pureK Tryz.prog (sIdxAddr T_s_api_Replacement t69 lv8.1) fun t87 =>
             pureK Tryz.prog (sFieldAddr T_api_Replacement t87 4) fun t88 =>
             upK Tryz.prog (sStore T_int t88 (.int .i64 5)) w12 fun tu_1 w13 =>
             J3 (()) w13)
            (J3 (()) w12))
           (J3 (()) w12)))
         (upK Tryz.prog (sCall F_replace_Open #[t69]) w8 fun t91 w14 =>
          readK Tryz.prog (sBlt .len #[T_s_api_Replacement] T_int #[false] #[t91]) w14 fun t92 =>
          pureK Tryz.prog (sBin .geq T_int (.tmp 92) (.const (.int .i64 3)) t92 (.int .i64 3)) fun t93 =>
          ifB t93
          (K (.tuple #[(.slice none 0 0), (.int .i64 0), (.int .i64 6)]) w14)
          (readK Tryz.prog (sBlt .len #[T_s_api_Replacement] T_int #[false] #[l0]) w14 fun t96 =>
           pureK Tryz.prog (sBin .add T_int (.tmp 96) (.const (.int .i64 1)) t96 (.int .i64 1)) fun t97 =>
           pureK Tryz.prog (sBin .sub T_int (.tmp 100) (.tmp 101) jv2.1 back3) fun t102 =>
           pureK Tryz.prog (sBlt .max #[T_int, T_int] T_int #[true, false] #[(.int .i64 0), t102]) fun t103 =>
           pureK Tryz.prog (sBuild T_api_Replacement #[(0, t97), (1, jv2.1), (2, version2), (3, t103)]) fun t104 =>
           upK Tryz.prog (sBuildSlice T_s_api_Replacement 1 #[(0, t104)]) w14 fun t105 w15 =>
           upK Tryz.prog (sBlt .append #[T_s_api_Replacement, T_s_api_Replacement] T_s_api_Replacement #[false, false] #[t69, t105]) w15 fun t106 w16 =>
           K (.tuple #[t106, jv2.1, (.int .i64 0)]) w16)))
        ((.int .i64 0), ()) w7)
       (fun J2 =>
        pureK Tryz.prog (sBin .add T_int (.tmp 50) (.tmp 51) horizon4 back3) fun t52 =>
        pureK Tryz.prog (sBin .gtr T_int (.tmp 53) (.const (.int .i64 0)) horizon4 (.int .i64 0)) fun t54 =>
        ifB t54
        (pureK Tryz.prog (sBin .lss T_int (.tmp 56) (.tmp 57) from1 t52) fun t58 =>
         ifB t58
         (pureK Tryz.prog (sUn .not raise5) fun t61 =>
          ifB t61
          (K (.tuple #[(.slice none 0 0), t52, (.int .i64 23)]) w5)
          (pureK Tryz.prog (sBin .gtr T_int (.tmp 63) (.const (.int .i64 1099511627776)) t52 (.int .i64 1099511627776)) fun t64 =>
           ifB t64
           (K (.tuple #[(.slice none 0 0), t52, (.int .i64 23)]) w5)
           (J2 (t52, ()) w5)))
         (J2 (from1, ()) w5))
        (J2 (from1, ()) w5)))
      (fun J1 =>
       upK Tryz.prog (sCall F_replace_first #[l0]) w4 fun t41 w17 =>
       pureK Tryz.prog (sExtract t41 0) fun t42 =>
       pureK Tryz.prog (sExtract t41 1) fun t43 =>
       upK Tryz.prog (sAlloc T_api_Replacement) w17 fun r15 w18 =>
       upK Tryz.prog (sStore T_api_Replacement r15 t42) w18 fun tu_2 w19 =>
       ifB t43
       (pureK Tryz.prog (sFieldAddr T_api_Replacement r15 4) fun t46 =>
        readK Tryz.prog (sLoad T_int t46) w19 fun t47 =>
        pureK Tryz.prog (sBin .eql T_int (.tmp 47) (.const (.int .i64 2)) t47 (.int .i64 2)) fun t48 =>
        ifB t48
        (K (.tuple #[(.slice none 0 0), (.int .i64 0), (.int .i64 8)]) w19)
        (J1 (()) w19))
       (J1 (()) w19))))))
theorem replace_Ask.pt_eq : replace_Ask.pt = fun l0 from1 version2 back3 horizon4 raise5 w K => FN Tryz.prog Tryz.f27 (bodyOf Tryz.f27) [12, 13, 14] (.node none .leaf (.node none .leaf (.node (some []) .leaf (.node (some [1]) .leaf (.node none .leaf (.node none (.node none .leaf (.node none (.node none (.node none .leaf (.node none .leaf (.node (some []) .leaf .leaf))) .leaf) .leaf)) .leaf)))))) [l0, from1, version2, back3, horizon4, raise5] w K := by kernel_rfl
theorem replace_Ask.call {l0 from1 version2 back3 horizon4 raise5 : Value} {w : World} {K : Value → World → Prop} (h : replace_Ask.pt l0 from1 version2 back3 horizon4 raise5 w K) : Calls Tryz.prog F_replace_Ask #[l0, from1, version2, back3, horizon4, raise5] w (retK K) :=
  calls_FN (args := [l0, from1, version2, back3, horizon4, raise5]) Tryz.func27 (by kernel_rfl) (by rw [replace_Ask.pt_eq] at h; exact h)
theorem replace_Ask.up {l0 from1 version2 back3 horizon4 raise5 : Value} {w : World} {K : Value → World → Prop} (h : Calls Tryz.prog F_replace_Ask #[l0, from1, version2, back3, horizon4, raise5] w (retK K)) : upK Tryz.prog (sCall F_replace_Ask #[l0, from1, version2, back3, horizon4, raise5]) w K :=
  up_call (fn := Tryz.f27) Tryz.func27 (by kernel_rfl) (by kernel_rfl) h

/-- errata/replace.Caught -/
def replace_Caught.pt (l0 no1 yes2 : Value) (w : World) (K : Value → World → Prop) : Prop :=
  ifB yes2
  (upK Tryz.prog (sCall F_replace_set #[l0, no1, (.int .i64 1)]) w fun t11 w1 =>
   pureK Tryz.prog (sExtract t11 0) fun t12 =>
   pureK Tryz.prog (sExtract t11 1) fun t13 =>
   K (.tuple #[t12, t13]) w1)
  (upK Tryz.prog (sCall F_replace_set #[l0, no1, (.int .i64 0)]) w fun t16 w2 =>
   pureK Tryz.prog (sExtract t16 0) fun t17 =>
   pureK Tryz.prog (sExtract t16 1) fun t18 =>
   K (.tuple #[t17, t18]) w2)
theorem replace_Caught.pt_eq : replace_Caught.pt = fun l0 no1 yes2 w K => FN Tryz.prog Tryz.f28 (bodyOf Tryz.f28) [6, 7] .leaf [l0, no1, yes2] w K := by kernel_rfl
theorem replace_Caught.call {l0 no1 yes2 : Value} {w : World} {K : Value → World → Prop} (h : replace_Caught.pt l0 no1 yes2 w K) : Calls Tryz.prog F_replace_Caught #[l0, no1, yes2] w (retK K) :=
  calls_FN (args := [l0, no1, yes2]) Tryz.func28 (by kernel_rfl) (by rw [replace_Caught.pt_eq] at h; exact h)
theorem replace_Caught.up {l0 no1 yes2 : Value} {w : World} {K : Value → World → Prop} (h : Calls Tryz.prog F_replace_Caught #[l0, no1, yes2] w (retK K)) : upK Tryz.prog (sCall F_replace_Caught #[l0, no1, yes2]) w K :=
  up_call (fn := Tryz.f28) Tryz.func28 (by kernel_rfl) (by kernel_rfl) h

/-- errata/replace.Cut -/
def replace_Cut.pt (l0 t1 no2 : Value) (w : World) (K : Value → World → Prop) : Prop :=
  readK Tryz.prog (sBlt .len #[T_s_api_Replacement] T_int #[false] #[l0]) w fun t16 =>
  upK Tryz.prog (sCall F_replace_within #[no2, (.int .i64 1), t16]) w fun t17 w1 =>
  pureK Tryz.prog (sUn .not t17) fun t18 =>
  ifB t18
  (K (.tuple #[(.slice none 0 0), (.slice none 0 0), (.int .i64 4)]) w1)
  (pureK Tryz.prog (sBin .sub T_int (.tmp 20) (.const (.int .i64 1)) no2 (.int .i64 1)) fun t21 =>
   pureK Tryz.prog (sIdxAddr T_s_api_Replacement l0 t21) fun t22 =>
   readK Tryz.prog (sLoad T_api_Replacement t22) w1 fun t23 =>
   upK Tryz.prog (sAlloc T_api_Replacement) w1 fun r9 w2 =>
   upK Tryz.prog (sStore T_api_Replacement r9 t23) w2 fun tu w3 =>
   LETJ (X := Unit) (fun jv1 w4 =>
    upK Tryz.prog (sCall F_replace_first #[l0]) w4 fun t34 w5 =>
    pureK Tryz.prog (sExtract t34 0) fun t35 =>
    pureK Tryz.prog (sExtract t34 1) fun t36 =>
    upK Tryz.prog (sAlloc T_api_Replacement) w5 fun f10 w6 =>
    upK Tryz.prog (sStore T_api_Replacement f10 t35) w6 fun tu_1 w7 =>
    pureK Tryz.prog (sFieldAddr T_api_Replacement f10 0) fun t37 =>
    readK Tryz.prog (sLoad T_int t37) w7 fun t38 =>
    pureK Tryz.prog (sBin .neq T_int (.tmp 38) (.tmp 39) t38 no2) fun t40 =>
    ifB t40
    (K (.tuple #[(.slice none 0 0), (.slice none 0 0), (.int .i64 25)]) w7)
    (upK Tryz.prog (sCall F_slices_Clone_s_api_Seg_api_Seg #[t1]) w7 fun t42 w8 =>
     pureK Tryz.prog (sFieldAddr T_api_Replacement r9 5) fun t43 =>
     readK Tryz.prog (sLoad T_int t43) w8 fun t44 =>
     pureK Tryz.prog (sBin .add T_int (.tmp 44) (.const (.int .i64 1)) t44 (.int .i64 1)) fun t45 =>
     pureK Tryz.prog (sFieldAddr T_api_Replacement r9 5) fun t46 =>
     upK Tryz.prog (sStore T_int t46 t45) w8 fun tu_2 w9 =>
     pureK Tryz.prog (sFieldAddr T_api_Replacement r9 4) fun t47 =>
     upK Tryz.prog (sStore T_int t47 (.int .i64 2)) w9 fun tu_3 w10 =>
     LETJ (X := Value × Unit) (fun jv2 w11 =>
      upK Tryz.prog (sCall F_slices_Clone_s_api_Replacement_api_Replacement #[l0]) w11 fun t62 w12 =>
      pureK Tryz.prog (sBin .sub T_int (.tmp 64) (.const (.int .i64 1)) no2 (.int .i64 1)) fun t65 =>
      readK Tryz.prog (sLoad T_api_Replacement r9) w12 fun t66 =>
      pureK Tryz.prog (sIdxAddr T_s_api_Replacement t62 t65) fun t67 =>
      upK Tryz.prog (sStore T_api_Replacement t67 t66) w12 fun tu_4 w13 =>
      K (.tuple #[t62, jv2.1, (.int .i64 0)]) w13)
     (fun J2 =>
      pureK Tryz.prog (sFieldAddr T_api_Replacement r9 5) fun t48 =>
      readK Tryz.prog (sLoad T_int t48) w10 fun t49 =>
      pureK Tryz.prog (sBin .eql T_int (.tmp 49) (.const (.int .i64 16)) t49 (.int .i64 16)) fun t50 =>
      ifB t50
      (pureK Tryz.prog (sFieldAddr T_api_Replacement r9 4) fun t51 =>
       upK Tryz.prog (sStore T_int t51 (.int .i64 3)) w10 fun tu_5 w14 =>
       pureK Tryz.prog (sFieldAddr T_api_Replacement r9 1) fun t54 =>
       readK Tryz.prog (sLoad T_int t54) w14 fun t55 =>
       pureK Tryz.prog (sFieldAddr T_api_Replacement r9 2) fun t56 =>
       readK Tryz.prog (sLoad T_int t56) w14 fun t57 =>
       upK Tryz.prog (sCall F_timeline_Replace #[t1, t55, t57]) w14 fun t58 w15 =>
       pureK Tryz.prog (sExtract t58 0) fun t59 =>
       pureK Tryz.prog (sExtract t58 1) fun t60 =>
       J2 (t59, ()) w15)
      (J2 (t42, ()) w10))))
   (fun J1 =>
    pureK Tryz.prog (sFieldAddr T_api_Replacement r9 4) fun t24 =>
    readK Tryz.prog (sLoad T_int t24) w3 fun t25 =>
    pureK Tryz.prog (sBin .neq T_int (.tmp 25) (.const (.int .i64 1)) t25 (.int .i64 1)) fun t26 =>
    ifB t26
    (pureK Tryz.prog (sFieldAddr T_api_Replacement r9 4) fun t28 =>
     readK Tryz.prog (sLoad T_int t28) w3 fun t29 =>
     pureK Tryz.prog (sBin .neq T_int (.tmp 29) (.const (.int .i64 2)) t29 (.int .i64 2)) fun t30 =>
     ifB t30
     (K (.tuple #[(.slice none 0 0), (.slice none 0 0), (.int .i64 7)]) w3)
     (J1 (()) w3))
    (J1 (()) w3)))
theorem replace_Cut.pt_eq : replace_Cut.pt = fun l0 t1 no2 w K => FN Tryz.prog Tryz.f29 (bodyOf Tryz.f29) [6, 7, 8] (.node none .leaf (.node none .leaf (.node none .leaf (.node (some []) .leaf (.node none .leaf (.node none .leaf (.node none .leaf (.node none .leaf (.node (some [12]) .leaf .leaf))))))))) [l0, t1, no2] w K := by kernel_rfl
theorem replace_Cut.call {l0 t1 no2 : Value} {w : World} {K : Value → World → Prop} (h : replace_Cut.pt l0 t1 no2 w K) : Calls Tryz.prog F_replace_Cut #[l0, t1, no2] w (retK K) :=
  calls_FN (args := [l0, t1, no2]) Tryz.func29 (by kernel_rfl) (by rw [replace_Cut.pt_eq] at h; exact h)
theorem replace_Cut.up {l0 t1 no2 : Value} {w : World} {K : Value → World → Prop} (h : Calls Tryz.prog F_replace_Cut #[l0, t1, no2] w (retK K)) : upK Tryz.prog (sCall F_replace_Cut #[l0, t1, no2]) w K :=
  up_call (fn := Tryz.f29) Tryz.func29 (by kernel_rfl) (by kernel_rfl) h

/-- errata/wire.Open -/
def wire_Open.pt (s0 : Value) (w : World) (K : Value → World → Prop) : Prop :=
  pureK Tryz.prog (sBuild T_wire_Reader #[(0, s0)]) fun t4 =>
  upK Tryz.prog (sBox T_wire_Reader t4) w fun t5 w1 =>
  K t5 w1
theorem wire_Open.pt_eq : wire_Open.pt = fun s0 w K => FN Tryz.prog Tryz.f30 (bodyOf Tryz.f30) [2] .leaf [s0] w K := by kernel_rfl
theorem wire_Open.call {s0 : Value} {w : World} {K : Value → World → Prop} (h : wire_Open.pt s0 w K) : Calls Tryz.prog F_wire_Open #[s0] w (retK K) :=
  calls_FN (args := [s0]) Tryz.func30 (by kernel_rfl) (by rw [wire_Open.pt_eq] at h; exact h)
theorem wire_Open.up {s0 : Value} {w : World} {K : Value → World → Prop} (h : Calls Tryz.prog F_wire_Open #[s0] w (retK K)) : upK Tryz.prog (sCall F_wire_Open #[s0]) w K :=
  up_call (fn := Tryz.f30) Tryz.func30 (by kernel_rfl) (by kernel_rfl) h

/-- (*errata/wire.Reader).Num -/
def wire_Reader_Num.pt (r0 : Value) (w : World) (K : Value → World → Prop) : Prop :=
  upK Tryz.prog (sCall F_wire_Reader_number #[r0, (.int .u8 59), (.int .i64 0)]) w fun t4 w1 =>
  K t4 w1
theorem wire_Reader_Num.pt_eq : wire_Reader_Num.pt = fun r0 w K => FN Tryz.prog Tryz.f31 (bodyOf Tryz.f31) [2] .leaf [r0] w K := by kernel_rfl
theorem wire_Reader_Num.call {r0 : Value} {w : World} {K : Value → World → Prop} (h : wire_Reader_Num.pt r0 w K) : Calls Tryz.prog F_wire_Reader_Num #[r0] w (retK K) :=
  calls_FN (args := [r0]) Tryz.func31 (by kernel_rfl) (by rw [wire_Reader_Num.pt_eq] at h; exact h)
theorem wire_Reader_Num.up {r0 : Value} {w : World} {K : Value → World → Prop} (h : Calls Tryz.prog F_wire_Reader_Num #[r0] w (retK K)) : upK Tryz.prog (sCall F_wire_Reader_Num #[r0]) w K :=
  up_call (fn := Tryz.f31) Tryz.func31 (by kernel_rfl) (by kernel_rfl) h

/-- (*errata/wire.Reader).Int -/
def wire_Reader_Int.pt (r0 : Value) (w : World) (K : Value → World → Prop) : Prop :=
  upK Tryz.prog (sCall F_wire_Reader_number #[r0, (.int .u8 59), (.int .i64 (-9223372036854775808))]) w fun t4 w1 =>
  K t4 w1
theorem wire_Reader_Int.pt_eq : wire_Reader_Int.pt = fun r0 w K => FN Tryz.prog Tryz.f32 (bodyOf Tryz.f32) [2] .leaf [r0] w K := by kernel_rfl
theorem wire_Reader_Int.call {r0 : Value} {w : World} {K : Value → World → Prop} (h : wire_Reader_Int.pt r0 w K) : Calls Tryz.prog F_wire_Reader_Int #[r0] w (retK K) :=
  calls_FN (args := [r0]) Tryz.func32 (by kernel_rfl) (by rw [wire_Reader_Int.pt_eq] at h; exact h)
theorem wire_Reader_Int.up {r0 : Value} {w : World} {K : Value → World → Prop} (h : Calls Tryz.prog F_wire_Reader_Int #[r0] w (retK K)) : upK Tryz.prog (sCall F_wire_Reader_Int #[r0]) w K :=
  up_call (fn := Tryz.f32) Tryz.func32 (by kernel_rfl) (by kernel_rfl) h

/-- errata/errataref01.Open -/
def errataref01_Open.pt (s0 : Value) (w : World) (K : Value → World → Prop) : Prop :=
  pureK Tryz.prog (sBuild T_errataref01_Reader #[(0, s0)]) fun t4 =>
  upK Tryz.prog (sBox T_errataref01_Reader t4) w fun t5 w1 =>
  K t5 w1
theorem errataref01_Open.pt_eq : errataref01_Open.pt = fun s0 w K => FN Tryz.prog Tryz.f33 (bodyOf Tryz.f33) [2] .leaf [s0] w K := by kernel_rfl
theorem errataref01_Open.call {s0 : Value} {w : World} {K : Value → World → Prop} (h : errataref01_Open.pt s0 w K) : Calls Tryz.prog F_errataref01_Open #[s0] w (retK K) :=
  calls_FN (args := [s0]) Tryz.func33 (by kernel_rfl) (by rw [errataref01_Open.pt_eq] at h; exact h)
theorem errataref01_Open.up {s0 : Value} {w : World} {K : Value → World → Prop} (h : Calls Tryz.prog F_errataref01_Open #[s0] w (retK K)) : upK Tryz.prog (sCall F_errataref01_Open #[s0]) w K :=
  up_call (fn := Tryz.f33) Tryz.func33 (by kernel_rfl) (by kernel_rfl) h

/-- (*errata/errataref01.Reader).Num -/
def errataref01_Reader_Num.pt (r0 : Value) (w : World) (K : Value → World → Prop) : Prop :=
  upK Tryz.prog (sCall F_errataref01_Reader_number #[r0, (.int .u8 59)]) w fun t4 w1 =>
  K t4 w1
theorem errataref01_Reader_Num.pt_eq : errataref01_Reader_Num.pt = fun r0 w K => FN Tryz.prog Tryz.f34 (bodyOf Tryz.f34) [2] .leaf [r0] w K := by kernel_rfl
theorem errataref01_Reader_Num.call {r0 : Value} {w : World} {K : Value → World → Prop} (h : errataref01_Reader_Num.pt r0 w K) : Calls Tryz.prog F_errataref01_Reader_Num #[r0] w (retK K) :=
  calls_FN (args := [r0]) Tryz.func34 (by kernel_rfl) (by rw [errataref01_Reader_Num.pt_eq] at h; exact h)
theorem errataref01_Reader_Num.up {r0 : Value} {w : World} {K : Value → World → Prop} (h : Calls Tryz.prog F_errataref01_Reader_Num #[r0] w (retK K)) : upK Tryz.prog (sCall F_errataref01_Reader_Num #[r0]) w K :=
  up_call (fn := Tryz.f34) Tryz.func34 (by kernel_rfl) (by kernel_rfl) h

/-- (*errata/errataref01.Reader).Int -/
def errataref01_Reader_Int.pt (r0 : Value) (w : World) (K : Value → World → Prop) : Prop :=
  upK Tryz.prog (sCall F_errataref01_Reader_ahead #[r0, (.int .u8 59)]) w fun t4 w1 =>
  K t4 w1
theorem errataref01_Reader_Int.pt_eq : errataref01_Reader_Int.pt = fun r0 w K => FN Tryz.prog Tryz.f35 (bodyOf Tryz.f35) [2] .leaf [r0] w K := by kernel_rfl
theorem errataref01_Reader_Int.call {r0 : Value} {w : World} {K : Value → World → Prop} (h : errataref01_Reader_Int.pt r0 w K) : Calls Tryz.prog F_errataref01_Reader_Int #[r0] w (retK K) :=
  calls_FN (args := [r0]) Tryz.func35 (by kernel_rfl) (by rw [errataref01_Reader_Int.pt_eq] at h; exact h)
theorem errataref01_Reader_Int.up {r0 : Value} {w : World} {K : Value → World → Prop} (h : Calls Tryz.prog F_errataref01_Reader_Int #[r0] w (retK K)) : upK Tryz.prog (sCall F_errataref01_Reader_Int #[r0]) w K :=
  up_call (fn := Tryz.f35) Tryz.func35 (by kernel_rfl) (by kernel_rfl) h

/-- errata/replace.within -/
def replace_within.pt (n0 from1 to2 : Value) (w : World) (K : Value → World → Prop) : Prop :=
  pureK Tryz.prog (sBin .geq T_int (.tmp 7) (.tmp 8) n0 from1) fun t9 =>
  ifB t9
  (pureK Tryz.prog (sBin .leq T_int (.tmp 11) (.tmp 12) n0 to2) fun t13 =>
   K t13 w)
  (K (.bool false) w)
theorem replace_within.pt_eq : replace_within.pt = fun n0 from1 to2 w K => FN Tryz.prog Tryz.f36 (bodyOf Tryz.f36) [6] .leaf [n0, from1, to2] w K := by kernel_rfl
theorem replace_within.call {n0 from1 to2 : Value} {w : World} {K : Value → World → Prop} (h : replace_within.pt n0 from1 to2 w K) : Calls Tryz.prog F_replace_within #[n0, from1, to2] w (retK K) :=
  calls_FN (args := [n0, from1, to2]) Tryz.func36 (by kernel_rfl) (by rw [replace_within.pt_eq] at h; exact h)
theorem replace_within.up {n0 from1 to2 : Value} {w : World} {K : Value → World → Prop} (h : Calls Tryz.prog F_replace_within #[n0, from1, to2] w (retK K)) : upK Tryz.prog (sCall F_replace_within #[n0, from1, to2]) w K :=
  up_call (fn := Tryz.f36) Tryz.func36 (by kernel_rfl) (by kernel_rfl) h

/-- errata/replace.right -/
def replace_right.pt (r0 : Value) (w : World) (K : Value → World → Prop) : Prop :=
  upK Tryz.prog (sBox T_api_Replacement r0) w fun r1 w1 =>
  LETJ (X := Value × Value × Unit) (fun jv1 w2 =>
   pureK Tryz.prog (sFieldAddr T_api_Replacement r1 1) fun t11 =>
   readK Tryz.prog (sLoad T_int t11) w2 fun t12 =>
   upK Tryz.prog (sCall F_replace_within #[t12, (.int .i64 0), (.int .i64 1099511627776)]) w2 fun t13 w3 =>
   ifB t13
   (pureK Tryz.prog (sFieldAddr T_api_Replacement r1 2) fun t15 =>
    readK Tryz.prog (sLoad T_int t15) w3 fun t16 =>
    upK Tryz.prog (sCall F_replace_within #[t16, (.int .i64 1), (.int .i64 50)]) w3 fun t17 w4 =>
    ifB t17
    (pureK Tryz.prog (sFieldAddr T_api_Replacement r1 3) fun t20 =>
     readK Tryz.prog (sLoad T_int t20) w4 fun t21 =>
     pureK Tryz.prog (sFieldAddr T_api_Replacement r1 1) fun t22 =>
     readK Tryz.prog (sLoad T_int t22) w4 fun t23 =>
     upK Tryz.prog (sCall F_replace_within #[t21, (.int .i64 0), t23]) w4 fun t24 w5 =>
     ifB t24
     (pureK Tryz.prog (sFieldAddr T_api_Replacement r1 4) fun t27 =>
      readK Tryz.prog (sLoad T_int t27) w5 fun t28 =>
      upK Tryz.prog (sCall F_replace_within #[t28, (.int .i64 0), (.int .i64 5)]) w5 fun t29 w6 =>
      ifB t29
      (pureK Tryz.prog (sFieldAddr T_api_Replacement r1 5) fun t32 =>
       readK Tryz.prog (sLoad T_int t32) w6 fun t33 =>
       upK Tryz.prog (sCall F_replace_within #[t33, jv1.1, jv1.2.1]) w6 fun t36 w7 =>
       K t36 w7)
      (K (.bool false) w6))
     (K (.bool false) w5))
    (K (.bool false) w4))
   (K (.bool false) w3))
  (fun J1 =>
   pureK Tryz.prog (sFieldAddr T_api_Replacement r1 4) fun t5 =>
   readK Tryz.prog (sLoad T_int t5) w1 fun t6 =>
   pureK Tryz.prog (sBin .eql T_int (.tmp 6) (.const (.int .i64 2)) t6 (.int .i64 2)) fun t8 =>
   ifB t8
   (J1 ((.int .i64 1), (.int .i64 15), ()) w1)
   (pureK Tryz.prog (sBin .eql T_int (.tmp 6) (.const (.int .i64 3)) t6 (.int .i64 3)) fun t10 =>
    ifB t10
    (J1 ((.int .i64 16), (.int .i64 16), ()) w1)
    (J1 ((.int .i64 0), (.int .i64 0), ()) w1)))
theorem replace_right.pt_eq : replace_right.pt = fun r0 w K => FN Tryz.prog Tryz.f37 (bodyOf Tryz.f37) [2] (.node none .leaf (.node none .leaf (.node (some [3, 4]) .leaf .leaf))) [r0] w K := by kernel_rfl
theorem replace_right.call {r0 : Value} {w : World} {K : Value → World → Prop} (h : replace_right.pt r0 w K) : Calls Tryz.prog F_replace_right #[r0] w (retK K) :=
  calls_FN (args := [r0]) Tryz.func37 (by kernel_rfl) (by rw [replace_right.pt_eq] at h; exact h)
theorem replace_right.up {r0 : Value} {w : World} {K : Value → World → Prop} (h : Calls Tryz.prog F_replace_right #[r0] w (retK K)) : upK Tryz.prog (sCall F_replace_right #[r0]) w K :=
  up_call (fn := Tryz.f37) Tryz.func37 (by kernel_rfl) (by kernel_rfl) h

/-- errata/errataref47.cut -/
def errataref47_cut.pt (r0 : Value) (w : World) (K : Value → World → Prop) : Prop :=
  upK Tryz.prog (sBox T_api_Replacement r0) w fun r1 w1 =>
  pureK Tryz.prog (sFieldAddr T_api_Replacement r1 4) fun t3 =>
  readK Tryz.prog (sLoad T_int t3) w1 fun t4 =>
  pureK Tryz.prog (sBin .eql T_int (.tmp 4) (.const (.int .i64 2)) t4 (.int .i64 2)) fun t5 =>
  ifB t5
  (pureK Tryz.prog (sFieldAddr T_api_Replacement r1 5) fun t6 =>
   readK Tryz.prog (sLoad T_int t6) w1 fun t7 =>
   pureK Tryz.prog (sBin .geq T_int (.tmp 7) (.const (.int .i64 1)) t7 (.int .i64 1)) fun t8 =>
   ifB t8
   (pureK Tryz.prog (sFieldAddr T_api_Replacement r1 5) fun t10 =>
    readK Tryz.prog (sLoad T_int t10) w1 fun t11 =>
    pureK Tryz.prog (sBin .lss T_int (.tmp 11) (.const (.int .i64 16)) t11 (.int .i64 16)) fun t12 =>
    K t12 w1)
   (K (.bool false) w1))
  (pureK Tryz.prog (sFieldAddr T_api_Replacement r1 4) fun t14 =>
   readK Tryz.prog (sLoad T_int t14) w1 fun t15 =>
   pureK Tryz.prog (sBin .eql T_int (.tmp 15) (.const (.int .i64 3)) t15 (.int .i64 3)) fun t16 =>
   ifB t16
   (pureK Tryz.prog (sFieldAddr T_api_Replacement r1 5) fun t17 =>
    readK Tryz.prog (sLoad T_int t17) w1 fun t18 =>
    pureK Tryz.prog (sBin .eql T_int (.tmp 18) (.const (.int .i64 16)) t18 (.int .i64 16)) fun t19 =>
    K t19 w1)
   (pureK Tryz.prog (sFieldAddr T_api_Replacement r1 5) fun t20 =>
    readK Tryz.prog (sLoad T_int t20) w1 fun t21 =>
    pureK Tryz.prog (sBin .eql T_int (.tmp 21) (.const (.int .i64 0)) t21 (.int .i64 0)) fun t22 =>
    K t22 w1))
theorem errataref47_cut.pt_eq : errataref47_cut.pt = fun r0 w K => FN Tryz.prog Tryz.f38 (bodyOf Tryz.f38) [2] .leaf [r0] w K := by kernel_rfl
theorem errataref47_cut.call {r0 : Value} {w : World} {K : Value → World → Prop} (h : errataref47_cut.pt r0 w K) : Calls Tryz.prog F_errataref47_cut #[r0] w (retK K) :=
  calls_FN (args := [r0]) Tryz.func38 (by kernel_rfl) (by rw [errataref47_cut.pt_eq] at h; exact h)
theorem errataref47_cut.up {r0 : Value} {w : World} {K : Value → World → Prop} (h : Calls Tryz.prog F_errataref47_cut #[r0] w (retK K)) : upK Tryz.prog (sCall F_errataref47_cut #[r0]) w K :=
  up_call (fn := Tryz.f38) Tryz.func38 (by kernel_rfl) (by kernel_rfl) h

/-- slices.Equal[[]errata/api.Replacement,errata/api.Replacement] -/
def slices_Equal_s_api_Replacement_api_Replacement.pt (s10 s21 : Value) (w : World) (K : Value → World → Prop) : Prop :=
  readK Tryz.prog (sBlt .len #[T_s_api_Replacement] T_int #[false] #[s10]) w fun t7 =>
  readK Tryz.prog (sBlt .len #[T_s_api_Replacement] T_int #[false] #[s21]) w fun t9 =>
  pureK Tryz.prog (sBin .neq T_int (.tmp 7) (.tmp 9) t7 t9) fun t10 =>
  ifB t10
  (K (.bool false) w)
  (readK Tryz.prog (sBlt .len #[T_s_api_Replacement] T_int #[false] #[s10]) w fun t12 =>
   LOOP (X := Value × Unit) (fun lv1 w1 next1 =>
    pureK Tryz.prog (sBin .lss T_int (.tmp 13) (.tmp 12) lv1.1 t12) fun t14 =>
    ifB t14
    (pureK Tryz.prog (sIdxAddr T_s_api_Replacement s10 lv1.1) fun t18 =>
     readK Tryz.prog (sLoad T_api_Replacement t18) (tick w1) fun t19 =>
     pureK Tryz.prog (sIdxAddr T_s_api_Replacement s21 lv1.1) fun t22 =>
     readK Tryz.prog (sLoad T_api_Replacement t22) (tick w1) fun t23 =>
     pureK Tryz.prog (sBin .neq T_api_Replacement (.tmp 19) (.tmp 23) t19 t23) fun t24 =>
     ifB t24
     (K (.bool false) (tick w1))
     (pureK Tryz.prog (sBin .add T_int (.tmp 13) (.const (.int .i64 1)) lv1.1 (.int .i64 1)) fun t25 =>
      next1 (t25, ()) (tick w1)))
    (K (.bool true) w1))
   ((.int .i64 0), ()) w)
theorem slices_Equal_s_api_Replacement_api_Replacement.pt_eq : slices_Equal_s_api_Replacement_api_Replacement.pt = fun s10 s21 w K => FN Tryz.prog Tryz.f39 (bodyOf Tryz.f39) [4] .leaf [s10, s21] w K := by kernel_rfl
theorem slices_Equal_s_api_Replacement_api_Replacement.call {s10 s21 : Value} {w : World} {K : Value → World → Prop} (h : slices_Equal_s_api_Replacement_api_Replacement.pt s10 s21 w K) : Calls Tryz.prog F_slices_Equal_s_api_Replacement_api_Replacement #[s10, s21] w (retK K) :=
  calls_FN (args := [s10, s21]) Tryz.func39 (by kernel_rfl) (by rw [slices_Equal_s_api_Replacement_api_Replacement.pt_eq] at h; exact h)
theorem slices_Equal_s_api_Replacement_api_Replacement.up {s10 s21 : Value} {w : World} {K : Value → World → Prop} (h : Calls Tryz.prog F_slices_Equal_s_api_Replacement_api_Replacement #[s10, s21] w (retK K)) : upK Tryz.prog (sCall F_slices_Equal_s_api_Replacement_api_Replacement #[s10, s21]) w K :=
  up_call (fn := Tryz.f39) Tryz.func39 (by kernel_rfl) (by kernel_rfl) h

/-- errata/replace.Abandon -/
def replace_Abandon.pt (l0 no1 : Value) (w : World) (K : Value → World → Prop) : Prop :=
  upK Tryz.prog (sCall F_replace_set #[l0, no1, (.int .i64 4)]) w fun t8 w1 =>
  pureK Tryz.prog (sExtract t8 0) fun t9 =>
  pureK Tryz.prog (sExtract t8 1) fun t10 =>
  K (.tuple #[t9, t10]) w1
theorem replace_Abandon.pt_eq : replace_Abandon.pt = fun l0 no1 w K => FN Tryz.prog Tryz.f40 (bodyOf Tryz.f40) [4, 5] .leaf [l0, no1] w K := by kernel_rfl
theorem replace_Abandon.call {l0 no1 : Value} {w : World} {K : Value → World → Prop} (h : replace_Abandon.pt l0 no1 w K) : Calls Tryz.prog F_replace_Abandon #[l0, no1] w (retK K) :=
  calls_FN (args := [l0, no1]) Tryz.func40 (by kernel_rfl) (by rw [replace_Abandon.pt_eq] at h; exact h)
theorem replace_Abandon.up {l0 no1 : Value} {w : World} {K : Value → World → Prop} (h : Calls Tryz.prog F_replace_Abandon #[l0, no1] w (retK K)) : upK Tryz.prog (sCall F_replace_Abandon #[l0, no1]) w K :=
  up_call (fn := Tryz.f40) Tryz.func40 (by kernel_rfl) (by kernel_rfl) h

/-- errata/errataref47.Ask -/
def errataref47_Ask.pt (l0 from1 version2 back3 horizon4 raise5 : Value) (w : World) (K : Value → World → Prop) : Prop :=
  upK Tryz.prog (sCall F_errataref47_within #[from1]) w fun t22 w1 =>
  pureK Tryz.prog (sUn .not t22) fun t23 =>
  ifB t23
  (K (.tuple #[(.slice none 0 0), (.int .i64 0), (.int .i64 3)]) w1)
  (pureK Tryz.prog (sBin .lss T_int (.tmp 25) (.const (.int .i64 1)) version2 (.int .i64 1)) fun t26 =>
   ifB t26
   (K (.tuple #[(.slice none 0 0), (.int .i64 0), (.int .i64 3)]) w1)
   (pureK Tryz.prog (sBin .gtr T_int (.tmp 29) (.const (.int .i64 50)) version2 (.int .i64 50)) fun t30 =>
    ifB t30
    (K (.tuple #[(.slice none 0 0), (.int .i64 0), (.int .i64 3)]) w1)
    (upK Tryz.prog (sCall F_errataref47_within #[back3]) w1 fun t34 w2 =>
     pureK Tryz.prog (sUn .not t34) fun t35 =>
     ifB t35
     (K (.tuple #[(.slice none 0 0), (.int .i64 0), (.int .i64 3)]) w2)
     (upK Tryz.prog (sCall F_errataref47_within #[horizon4]) w2 fun t39 w3 =>
      pureK Tryz.prog (sUn .not t39) fun t40 =>
      ifB t40
      (K (.tuple #[(.slice none 0 0), (.int .i64 0), (.int .i64 3)]) w3)
      (upK Tryz.prog (sCall F_errataref47_Open #[l0]) w3 fun t43 w4 =>
       LETJ (X := Unit) (fun jv1 w5 =>
        pureK Tryz.prog (sBin .add T_int (.tmp 52) (.tmp 53) horizon4 back3) fun t54 =>
        LETJ (X := Value × Unit) (fun jv2 w6 =>
         upK Tryz.prog (sBuildSlice T_s_api_Replacement 0 #[]) w6 fun t71 w7 =>
         upK Tryz.prog (sBlt .append #[T_s_api_Replacement, T_s_api_Replacement] T_s_api_Replacement #[false, false] #[t71, l0]) w7 fun t73 w8 =>
         LOOP (X := Value × Value × Unit) (fun lv9 w9 next9 =>
          readK Tryz.prog (sBlt .len #[T_s_api_Replacement] T_int #[false] #[t73]) w9 fun t76 =>
          pureK Tryz.prog (sBin .lss T_int (.tmp 74) (.tmp 76) lv9.2.1 t76) fun t77 =>
          ifB t77
          (LETJ (X := Value × Unit) (fun jv3 w10 =>
            pureK Tryz.prog (sBin .add T_int (.tmp 78) (.const (.int .i64 1)) lv9.2.1 (.int .i64 1)) fun t79 =>
            next9 (jv3.1, t79, ()) w10)
           (fun J3 =>
            LETJ (X := Unit) (fun jv4 w11 =>
             pureK Tryz.prog (sIdxAddr T_s_api_Replacement t73 lv9.2.1) fun t100 =>
             readK Tryz.prog (sLoad T_api_Replacement t100) w11 fun t101 =>
             upK Tryz.prog (sCall F_errataref47_open #[t101]) w11 fun t102 w12 =>
             ifB t102
             (pureK Tryz.prog (sBin .add T_int (.tmp 103) (.const (.int .i64 1)) lv9.1 (.int .i64 1)) fun t104 =>
              J3 (t104, ()) w12)
             (J3 (lv9.1, ()) w12))
            (fun J4 =>
             pureK Tryz.prog (sIdxAddr T_s_api_Replacement t73 lv9.2.1) fun t82 =>
             readK Tryz.prog (sLoad T_api_Replacement t82) w9 fun t83 =>
             upK Tryz.prog (sCall F_errataref47_open #[t83]) w9 fun t84 w13 =>
             ifB t84
             (pureK Tryz.prog (sIdxAddr T_s_api_Replacement t73 lv9.2.1) fun t88 =>
              pureK Tryz.prog (sFieldAddr T_api_Replacement t88 1) fun t89 =>
              readK Tryz.prog (sLoad T_int t89) w13 fun t90 =>
              pureK Tryz.prog (sBin .geq T_int (.tmp 90) (.tmp 91) t90 jv2.1) fun t92 =>
              ifB t92
              (pureK Tryz.prog (sIdxAddr T_s_api_Replacement t73 lv9.2.1) fun t96 =>
               pureK Tryz.prog (sFieldAddr T_api_Replacement t96 4) fun t97 =>
               upK Tryz.prog (sStore T_int t97 (.int .i64 5)) w13 fun tu w14 =>
               J4 (()) w14)
              (J4 (()) w13))
             (J4 (()) w13))))
          (pureK Tryz.prog (sBin .geq T_int (.tmp 105) (.const (.int .i64 3)) lv9.1 (.int .i64 3)) fun t106 =>
           ifB t106
           (K (.tuple #[(.slice none 0 0), (.int .i64 0), (.int .i64 6)]) w9)
           (readK Tryz.prog (sBlt .len #[T_s_api_Replacement] T_int #[false] #[l0]) w9 fun t109 =>
            pureK Tryz.prog (sBin .add T_int (.tmp 109) (.const (.int .i64 1)) t109 (.int .i64 1)) fun t110 =>
            pureK Tryz.prog (sBin .sub T_int (.tmp 113) (.tmp 114) jv2.1 back3) fun t115 =>
            pureK Tryz.prog (sBlt .max #[T_int, T_int] T_int #[true, false] #[(.int .i64 0), t115]) fun t116 =>
            pureK Tryz.prog (sBuild T_api_Replacement #[(0, t110), (1, jv2.1), (2, version2), (3, t116)]) fun t117 =>
            upK Tryz.prog (sBuildSlice T_s_api_Replacement 1 #[(0, t117)]) w9 fun t118 w15 =>
            upK Tryz.prog (sBlt .append #[T_s_api_Replacement, T_s_api_Replacement] T_s_api_Replacement #[false, false] #[t73, t118]) w15 fun t119 w16 =>
            K (.tuple #[t119, jv2.1, (.int .i64 0)]) w16)))
         ((.int .i64 0), (.int .i64 0), ()) w8)
        (fun J2 =>
         pureK Tryz.prog (sBin .gtr T_int (.tmp 56) (.const (.int .i64 0)) horizon4 (.int .i64 0)) fun t57 =>
         ifB t57
         (pureK Tryz.prog (sBin .lss T_int (.tmp 59) (.tmp 60) from1 t54) fun t61 =>
          ifB t61
          (pureK Tryz.prog (sUn .not raise5) fun t64 =>
           ifB t64
           (K (.tuple #[(.slice none 0 0), t54, (.int .i64 23)]) w5)
           (pureK Tryz.prog (sBin .gtr T_int (.tmp 66) (.const (.int .i64 1099511627776)) t54 (.int .i64 1099511627776)) fun t67 =>
            ifB t67
            (K (.tuple #[(.slice none 0 0), t54, (.int .i64 23)]) w5)
            (J2 (t54, ()) w5)))
          (J2 (from1, ()) w5))
         (J2 (from1, ()) w5)))
       (fun J1 =>
        readK Tryz.prog (sBlt .len #[T_s_api_Replacement] T_int #[false] #[t43]) w4 fun t45 =>
        pureK Tryz.prog (sBin .gtr T_int (.tmp 45) (.const (.int .i64 0)) t45 (.int .i64 0)) fun t46 =>
        ifB t46
        (pureK Tryz.prog (sIdxAddr T_s_api_Replacement t43 (.int .i64 0)) fun t48 =>
         pureK Tryz.prog (sFieldAddr T_api_Replacement t48 4) fun t49 =>
         readK Tryz.prog (sLoad T_int t49) w4 fun t50 =>
         pureK Tryz.prog (sBin .eql T_int (.tmp 50) (.const (.int .i64 2)) t50 (.int .i64 2)) fun t51 =>
         ifB t51
         (K (.tuple #[(.slice none 0 0), (.int .i64 0), (.int .i64 8)]) w4)
         (J1 (()) w4))
        (J1 (()) w4)))))))
theorem errataref47_Ask.pt_eq : errataref47_Ask.pt = fun l0 from1 version2 back3 horizon4 raise5 w K => FN Tryz.prog Tryz.f41 (bodyOf Tryz.f41) [12, 13, 14] (.node none .leaf (.node none .leaf (.node none .leaf (.node (some []) .leaf (.node none .leaf (.node none .leaf (.node (some [17]) .leaf (.node none .leaf (.node none .leaf (.node none (.node none .leaf (.node none (.node none (.node none .leaf (.node (some [19]) (.node none (.node (some []) .leaf .leaf) .leaf) .leaf)) .leaf) .leaf)) .leaf)))))))))) [l0, from1, version2, back3, horizon4, raise5] w K := by kernel_rfl
theorem errataref47_Ask.call {l0 from1 version2 back3 horizon4 raise5 : Value} {w : World} {K : Value → World → Prop} (h : errataref47_Ask.pt l0 from1 version2 back3 horizon4 raise5 w K) : Calls Tryz.prog F_errataref47_Ask #[l0, from1, version2, back3, horizon4, raise5] w (retK K) :=
  calls_FN (args := [l0, from1, version2, back3, horizon4, raise5]) Tryz.func41 (by kernel_rfl) (by rw [errataref47_Ask.pt_eq] at h; exact h)
theorem errataref47_Ask.up {l0 from1 version2 back3 horizon4 raise5 : Value} {w : World} {K : Value → World → Prop} (h : Calls Tryz.prog F_errataref47_Ask #[l0, from1, version2, back3, horizon4, raise5] w (retK K)) : upK Tryz.prog (sCall F_errataref47_Ask #[l0, from1, version2, back3, horizon4, raise5]) w K :=
  up_call (fn := Tryz.f41) Tryz.func41 (by kernel_rfl) (by kernel_rfl) h

/-- errata/errataref47.Abandon -/
def errataref47_Abandon.pt (l0 no1 : Value) (w : World) (K : Value → World → Prop) : Prop :=
  upK Tryz.prog (sCall F_errataref47_set #[l0, no1, (.int .i64 4)]) w fun t8 w1 =>
  pureK Tryz.prog (sExtract t8 0) fun t9 =>
  pureK Tryz.prog (sExtract t8 1) fun t10 =>
  K (.tuple #[t9, t10]) w1
theorem errataref47_Abandon.pt_eq : errataref47_Abandon.pt = fun l0 no1 w K => FN Tryz.prog Tryz.f42 (bodyOf Tryz.f42) [4, 5] .leaf [l0, no1] w K := by kernel_rfl
theorem errataref47_Abandon.call {l0 no1 : Value} {w : World} {K : Value → World → Prop} (h : errataref47_Abandon.pt l0 no1 w K) : Calls Tryz.prog F_errataref47_Abandon #[l0, no1] w (retK K) :=
  calls_FN (args := [l0, no1]) Tryz.func42 (by kernel_rfl) (by rw [errataref47_Abandon.pt_eq] at h; exact h)
theorem errataref47_Abandon.up {l0 no1 : Value} {w : World} {K : Value → World → Prop} (h : Calls Tryz.prog F_errataref47_Abandon #[l0, no1] w (retK K)) : upK Tryz.prog (sCall F_errataref47_Abandon #[l0, no1]) w K :=
  up_call (fn := Tryz.f42) Tryz.func42 (by kernel_rfl) (by kernel_rfl) h

end Go.Proofs.YtdecfgbdppfmcaaGreatDoor
