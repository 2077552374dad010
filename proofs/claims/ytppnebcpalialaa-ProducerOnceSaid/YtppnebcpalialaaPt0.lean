/-
  The reckoned conditions of the functions that this seat's statements reach, printed by program, each held against the translation by the kernel. No condition.
-/
import Derived.Test.YtppnebcpalialaaNames
namespace Go.Proofs.Ytppnebcpalialaa
set_option linter.unusedVariables false

/-- errata/erratalaw10.ProducerOnce -/
def erratalaw10_ProducerOnce.pt (l0 : Value) (w : World) (K : Value → World → Prop) : Prop :=
  upK Try.prog (sCall F_erratalaw10_small #[]) w fun t19 w1 =>
  readK Try.prog (sBlt .len #[T_s_erratalaw10_Op] T_int #[false] #[l0]) w1 fun t21 =>
  pureK Try.prog (sBin .gtr T_int (.tmp 21) (.const (.int .i64 200)) t21 (.int .i64 200)) fun t22 =>
  ifB t22
  (K t19 w1)
  (upK Try.prog (sMkSlice T_s_int (.int .i64 64) (.int .i64 64)) w1 fun t24 w2 =>
   LOOP (X := Value × Value × Value × Value × Unit) (fun x3 w3 next3 =>
    readK Try.prog (sBlt .len #[T_s_erratalaw10_Op] T_int #[false] #[l0]) w3 fun t27 =>
    pureK Try.prog (sBin .lss T_int (.tmp 25) (.tmp 27) x3.2.2.2.1 t27) fun t28 =>
    ifB t28
    (LETJ (X := Value × Value × Value × Unit) (fun y1 w4 =>
      pureK Try.prog (sBin .add T_int (.tmp 29) (.const (.int .i64 1)) x3.2.2.2.1 (.int .i64 1)) fun t30 =>
      next3 (y1.1, y1.2.1, y1.2.2.1, t30, ()) w4)
     (fun J1 =>
      pureK Try.prog (sIdxAddr T_s_erratalaw10_Op l0 x3.2.2.2.1) fun t33 =>
      readK Try.prog (sLoad T_erratalaw10_Op t33) w3 fun t34 =>
      upK Try.prog (sAlloc T_erratalaw10_Op) w3 fun x9 w5 =>
      upK Try.prog (sStore T_erratalaw10_Op x9 t34) w5 fun tu w6 =>
      pureK Try.prog (sFieldAddr T_erratalaw10_Op x9 1) fun t35 =>
      readK Try.prog (sLoad T_int t35) w6 fun t36 =>
      pureK Try.prog (sBin .and T_int (.tmp 36) (.const (.int .i64 63)) t36 (.int .i64 63)) fun t37 =>
      pureK Try.prog (sFieldAddr T_erratalaw10_Op x9 0) fun t38 =>
      readK Try.prog (sLoad T_int t38) w6 fun t39 =>
      pureK Try.prog (sBin .and T_int (.tmp 39) (.const (.int .i64 1)) t39 (.int .i64 1)) fun t40 =>
      pureK Try.prog (sBin .eql T_int (.tmp 40) (.const (.int .i64 1)) t40 (.int .i64 1)) fun t41 =>
      ifB t41
      (upK Try.prog (sCall F_producer_Fence #[x3.1, t37]) w6 fun t45 w7 =>
       pureK Try.prog (sExtract t45 0) fun t46 =>
       pureK Try.prog (sExtract t45 1) fun t47 =>
       pureK Try.prog (sExtract t45 2) fun t48 =>
       LETJ (X := Unit) (fun y2 w8 =>
        pureK Try.prog (sBin .eql T_api_Errno (.tmp 60) (.const (.int .i64 0)) t48 (.int .i64 0)) fun t61 =>
        ifB t61
        (pureK Try.prog (sIdxAddr T_s_int t24 t37) fun t66 =>
         upK Try.prog (sStore T_int t66 t47) w8 fun tu_1 w9 =>
         J1 (t46, x3.2.1, x3.2.2.1, ()) w9)
        (J1 (x3.1, x3.2.1, x3.2.2.1, ()) w8))
       (fun J2 =>
        pureK Try.prog (sBin .eql T_api_Errno (.tmp 49) (.const (.int .i64 0)) t48 (.int .i64 0)) fun t50 =>
        ifB t50
        (pureK Try.prog (sIdxAddr T_s_int t24 t37) fun t55 =>
         readK Try.prog (sLoad T_int t55) w7 fun t56 =>
         pureK Try.prog (sBin .add T_int (.tmp 56) (.const (.int .i64 1)) t56 (.int .i64 1)) fun t57 =>
         pureK Try.prog (sBin .neq T_int (.tmp 52) (.tmp 57) t47 t57) fun t58 =>
         ifB t58
         (K (.bool false) w7)
         (J2 (()) w7))
        (J2 (()) w7)))
      (pureK Try.prog (sFieldAddr T_erratalaw10_Op x9 2) fun t70 =>
       readK Try.prog (sLoad T_int t70) w6 fun t71 =>
       pureK Try.prog (sFieldAddr T_erratalaw10_Op x9 3) fun t72 =>
       readK Try.prog (sLoad T_int t72) w6 fun t73 =>
       upK Try.prog (sCall F_erratalaw10_record #[t37, t71, t73]) w6 fun t74 w10 =>
       upK Try.prog (sCall F_producer_Look #[x3.1, t74]) w10 fun t75 w11 =>
       pureK Try.prog (sExtract t75 0) fun t76 =>
       pureK Try.prog (sExtract t75 1) fun t77 =>
       LOOP (X := Value × Value × Value × Unit) (fun x12 w12 next12 =>
        readK Try.prog (sBlt .len #[T_s_erratalaw10_kept] T_int #[false] #[x3.2.2.1]) w12 fun t80 =>
        pureK Try.prog (sBin .lss T_int (.tmp 78) (.tmp 80) x12.2.2.1 t80) fun t81 =>
        ifB t81
        (LETJ (X := Value × Value × Unit) (fun y3 w13 =>
          pureK Try.prog (sBin .add T_int (.tmp 82) (.const (.int .i64 1)) x12.2.2.1 (.int .i64 1)) fun t83 =>
          next12 (y3.1, y3.2.1, t83, ()) w13)
         (fun J3 =>
          pureK Try.prog (sIdxAddr T_s_erratalaw10_kept x3.2.2.1 x12.2.2.1) fun t86 =>
          pureK Try.prog (sFieldAddr T_erratalaw10_kept t86 0) fun t87 =>
          readK Try.prog (sLoad T_int t87) (tick w12) fun t88 =>
          pureK Try.prog (sBin .eql T_int (.tmp 88) (.tmp 89) t88 t37) fun t90 =>
          ifB t90
          (pureK Try.prog (sIdxAddr T_s_erratalaw10_kept x3.2.2.1 x12.2.2.1) fun t94 =>
           pureK Try.prog (sFieldAddr T_erratalaw10_kept t94 1) fun t95 =>
           readK Try.prog (sLoad T_int t95) (tick w12) fun t96 =>
           pureK Try.prog (sFieldAddr T_erratalaw10_Op x9 2) fun t97 =>
           readK Try.prog (sLoad T_int t97) (tick w12) fun t98 =>
           pureK Try.prog (sBin .eql T_int (.tmp 96) (.tmp 98) t96 t98) fun t99 =>
           ifB t99
           (pureK Try.prog (sBin .add T_int (.tmp 101) (.const (.int .i64 1)) x12.1 (.int .i64 1)) fun t102 =>
            pureK Try.prog (sIdxAddr T_s_erratalaw10_kept x3.2.2.1 x12.2.2.1) fun t105 =>
            pureK Try.prog (sFieldAddr T_erratalaw10_kept t105 2) fun t106 =>
            readK Try.prog (sLoad T_int t106) (tick (tick w12)) fun t107 =>
            pureK Try.prog (sFieldAddr T_erratalaw10_Op x9 3) fun t108 =>
            readK Try.prog (sLoad T_int t108) (tick (tick w12)) fun t109 =>
            pureK Try.prog (sBin .eql T_int (.tmp 107) (.tmp 109) t107 t109) fun t110 =>
            ifB t110
            (J3 (t102, x12.2.2.1, ()) (tick (tick w12)))
            (J3 (t102, x12.2.1, ()) (tick (tick w12))))
           (J3 (x12.1, x12.2.1, ()) (tick w12)))
          (J3 (x12.1, x12.2.1, ()) (tick w12))))
        (LETJ (X := Value × Value × Value × Unit) (fun y4 w14 =>
          LETJ (X := Unit) (fun y5 w15 =>
           pureK Try.prog (sBin .eql T_api_Errno (.tmp 199) (.const (.int .i64 18)) t77 (.int .i64 18)) fun t200 =>
           ifB t200
           (pureK Try.prog (sFieldAddr T_erratalaw10_Op x9 2) fun t202 =>
            readK Try.prog (sLoad T_int t202) (tick w15) fun t203 =>
            pureK Try.prog (sIdxAddr T_s_int t24 t37) fun t206 =>
            readK Try.prog (sLoad T_int t206) (tick w15) fun t207 =>
            pureK Try.prog (sBin .geq T_int (.tmp 203) (.tmp 207) t203 t207) fun t208 =>
            ifB t208
            (K (.bool false) (tick w15))
            (pureK Try.prog (sBin .eql T_api_Errno (.tmp 211) (.const (.int .i64 19)) t77 (.int .i64 19)) fun t212 =>
             ifB t212
             (pureK Try.prog (sFieldAddr T_erratalaw10_Op x9 3) fun t214 =>
              readK Try.prog (sLoad T_int t214) (tick w15) fun t215 =>
              pureK Try.prog (sBin .leq T_int (.tmp 215) (.tmp 216) t215 x12.1) fun t217 =>
              ifB t217
              (K (.bool false) (tick w15))
              (upK Try.prog (sCall F_producer_Right #[y4.2.1]) (tick w15) fun t222 w16 =>
               pureK Try.prog (sUn .not t222) fun t223 =>
               ifB t223
               (K (.bool false) w16)
               (J1 (y4.2.1, y4.1, y4.2.2.1, ()) w16)))
             (upK Try.prog (sCall F_producer_Right #[y4.2.1]) (tick w15) fun t222_1 w17 =>
              pureK Try.prog (sUn .not t222_1) fun t223_1 =>
              ifB t223_1
              (K (.bool false) w17)
              (J1 (y4.2.1, y4.1, y4.2.2.1, ()) w17))))
           (pureK Try.prog (sBin .eql T_api_Errno (.tmp 211) (.const (.int .i64 19)) t77 (.int .i64 19)) fun t212_1 =>
            ifB t212_1
            (pureK Try.prog (sFieldAddr T_erratalaw10_Op x9 3) fun t214_1 =>
             readK Try.prog (sLoad T_int t214_1) (tick w15) fun t215_1 =>
             pureK Try.prog (sBin .leq T_int (.tmp 215) (.tmp 216) t215_1 x12.1) fun t217_1 =>
             ifB t217_1
             (K (.bool false) (tick w15))
             (upK Try.prog (sCall F_producer_Right #[y4.2.1]) (tick w15) fun t222_2 w18 =>
              pureK Try.prog (sUn .not t222_2) fun t223_2 =>
              ifB t223_2
              (K (.bool false) w18)
              (J1 (y4.2.1, y4.1, y4.2.2.1, ()) w18)))
            (upK Try.prog (sCall F_producer_Right #[y4.2.1]) (tick w15) fun t222_3 w19 =>
             pureK Try.prog (sUn .not t222_3) fun t223_3 =>
             ifB t223_3
             (K (.bool false) w19)
             (J1 (y4.2.1, y4.1, y4.2.2.1, ()) w19))))
          (fun J5 =>
           pureK Try.prog (sBin .eql T_api_Errno (.tmp 156) (.const (.int .i64 5)) t77 (.int .i64 5)) fun t157 =>
           ifB t157
           (pureK Try.prog (sBin .lss T_int (.tmp 159) (.const (.int .i64 0)) x12.2.1 (.int .i64 0)) fun t160 =>
            ifB t160
            (K (.bool false) (tick w14))
            (pureK Try.prog (sFieldAddr T_erratalaw10_Op x9 2) fun t162 =>
             readK Try.prog (sLoad T_int t162) (tick w14) fun t163 =>
             pureK Try.prog (sIdxAddr T_s_int t24 t37) fun t166 =>
             readK Try.prog (sLoad T_int t166) (tick w14) fun t167 =>
             pureK Try.prog (sBin .neq T_int (.tmp 163) (.tmp 167) t163 t167) fun t168 =>
             ifB t168
             (K (.bool false) (tick w14))
             (pureK Try.prog (sFieldAddr T_erratalaw10_Op x9 3) fun t172 =>
              readK Try.prog (sLoad T_int t172) (tick w14) fun t173 =>
              pureK Try.prog (sBin .sub T_int (.tmp 171) (.tmp 173) x12.1 t173) fun t174 =>
              pureK Try.prog (sBin .leq T_int (.tmp 174) (.const (.int .i64 20)) t174 (.int .i64 20)) fun t175 =>
              ifB t175
              (pureK Try.prog (sBlt .max #[T_int, T_int] T_int #[false, true] #[x12.2.1, (.int .i64 0)]) fun t180 =>
               pureK Try.prog (sIdxAddr T_s_erratalaw10_kept y4.2.2.1 t180) fun t181 =>
               pureK Try.prog (sFieldAddr T_erratalaw10_kept t181 3) fun t182 =>
               readK Try.prog (sLoad T_int t182) (tick w14) fun t183 =>
               pureK Try.prog (sBin .neq T_int (.tmp 177) (.tmp 183) t76 t183) fun t184 =>
               ifB t184
               (K (.bool false) (tick w14))
               (pureK Try.prog (sFieldAddr T_erratalaw10_Op x9 3) fun t189 =>
                readK Try.prog (sLoad T_int t189) (tick w14) fun t190 =>
                pureK Try.prog (sBin .sub T_int (.tmp 188) (.tmp 190) x12.1 t190) fun t191 =>
                pureK Try.prog (sBin .gtr T_int (.tmp 191) (.const (.int .i64 20)) t191 (.int .i64 20)) fun t192 =>
                ifB t192
                (pureK Try.prog (sBin .neq T_int (.tmp 194) (.const (.int .i64 (-1))) t76 (.int .i64 (-1))) fun t195 =>
                 ifB t195
                 (K (.bool false) (tick w14))
                 (J5 (()) (tick w14)))
                (J5 (()) (tick w14))))
              (pureK Try.prog (sFieldAddr T_erratalaw10_Op x9 3) fun t189_1 =>
               readK Try.prog (sLoad T_int t189_1) (tick w14) fun t190_1 =>
               pureK Try.prog (sBin .sub T_int (.tmp 188) (.tmp 190) x12.1 t190_1) fun t191_1 =>
               pureK Try.prog (sBin .gtr T_int (.tmp 191) (.const (.int .i64 20)) t191_1 (.int .i64 20)) fun t192_1 =>
               ifB t192_1
               (pureK Try.prog (sBin .neq T_int (.tmp 194) (.const (.int .i64 (-1))) t76 (.int .i64 (-1))) fun t195_1 =>
                ifB t195_1
                (K (.bool false) (tick w14))
                (J5 (()) (tick w14)))
               (J5 (()) (tick w14))))))
           (J5 (()) (tick w14))))
         (fun J4 =>
          pureK Try.prog (sBin .eql T_api_Errno (.tmp 112) (.const (.int .i64 0)) t77 (.int .i64 0)) fun t113 =>
          ifB t113
          (pureK Try.prog (sBin .geq T_int (.tmp 114) (.const (.int .i64 0)) x12.2.1 (.int .i64 0)) fun t115 =>
           ifB t115
           (K (.bool false) (tick w12))
           (pureK Try.prog (sFieldAddr T_erratalaw10_Op x9 3) fun t117 =>
            readK Try.prog (sLoad T_int t117) (tick w12) fun t118 =>
            pureK Try.prog (sBin .neq T_int (.tmp 118) (.tmp 119) t118 x12.1) fun t120 =>
            ifB t120
            (K (.bool false) (tick w12))
            (pureK Try.prog (sFieldAddr T_erratalaw10_Op x9 2) fun t123 =>
             readK Try.prog (sLoad T_int t123) (tick w12) fun t124 =>
             pureK Try.prog (sIdxAddr T_s_int t24 t37) fun t127 =>
             readK Try.prog (sLoad T_int t127) (tick w12) fun t128 =>
             pureK Try.prog (sBin .neq T_int (.tmp 124) (.tmp 128) t124 t128) fun t129 =>
             ifB t129
             (K (.bool false) (tick w12))
             (pureK Try.prog (sBin .add T_int (.tmp 131) (.const (.int .i64 1)) x3.2.1 (.int .i64 1)) fun t132 =>
              pureK Try.prog (sFieldAddr T_erratalaw10_Op x9 4) fun t133 =>
              readK Try.prog (sLoad T_int t133) (tick w12) fun t134 =>
              pureK Try.prog (sBin .and T_int (.tmp 134) (.const (.int .i64 255)) t134 (.int .i64 255)) fun t135 =>
              pureK Try.prog (sBin .add T_int (.tmp 132) (.tmp 135) t132 t135) fun t136 =>
              pureK Try.prog (sFieldAddr T_erratalaw10_Op x9 2) fun t139 =>
              readK Try.prog (sLoad T_int t139) (tick w12) fun t140 =>
              pureK Try.prog (sFieldAddr T_erratalaw10_Op x9 3) fun t141 =>
              readK Try.prog (sLoad T_int t141) (tick w12) fun t142 =>
              upK Try.prog (sCall F_erratalaw10_record #[t37, t140, t142]) (tick w12) fun t143 w20 =>
              upK Try.prog (sCall F_producer_Put #[x3.1, t143, t136]) w20 fun t145 w21 =>
              pureK Try.prog (sFieldAddr T_erratalaw10_Op x9 2) fun t148 =>
              readK Try.prog (sLoad T_int t148) w21 fun t149 =>
              pureK Try.prog (sFieldAddr T_erratalaw10_Op x9 3) fun t150 =>
              readK Try.prog (sLoad T_int t150) w21 fun t151 =>
              pureK Try.prog (sBuild T_erratalaw10_kept #[(0, t37), (1, t149), (2, t151), (3, t136)]) fun t153 =>
              upK Try.prog (sBuildSlice T_s_erratalaw10_kept 1 #[(0, t153)]) w21 fun t154 w22 =>
              upK Try.prog (sBlt .append #[T_s_erratalaw10_kept, T_s_erratalaw10_kept] T_s_erratalaw10_kept #[false, false] #[x3.2.2.1, t154]) w22 fun t155 w23 =>
              J4 (t136, t145, t155, ()) w23))))
          (J4 (x3.2.1, x3.1, x3.2.2.1, ()) w12))))
       ((.int .i64 0), (.int .i64 (-1)), (.int .i64 0), ()) w11)))
    (K t19 w3))
   ((.slice none 0 0), (.int .i64 (-1)), (.slice none 0 0), (.int .i64 0), ()) w2)
theorem erratalaw10_ProducerOnce.pt_eq : erratalaw10_ProducerOnce.pt = fun l0 w K => FN Try.prog Try.f3 (bodyOf Try.f3) [2] (.node none .leaf (.node none .leaf (.node none .leaf (.node none .leaf (.node none .leaf (.node none .leaf (.node none .leaf (.node none (.node none .leaf (.node none (.node none (.node none .leaf (.node (some [4, 7, 5]) (.node none (.node none .leaf (.node none .leaf (.node none (.node none .leaf (.node none (.node none .leaf (.node (some []) .leaf .leaf)) .leaf)) (.node none .leaf (.node none .leaf (.node none .leaf (.node none (.node none .leaf (.node none (.node none (.node none .leaf (.node (some [17, 16]) .leaf .leaf)) .leaf) .leaf)) (.node (some [7, 4, 5]) .leaf (.node (some []) .leaf .leaf))))))))) .leaf) .leaf)) .leaf) .leaf)) .leaf)))))))) [l0] w K := by kernel_rfl
theorem erratalaw10_ProducerOnce.call {l0 : Value} {w : World} {K : Value → World → Prop} (h : erratalaw10_ProducerOnce.pt l0 w K) : Calls Try.prog F_erratalaw10_ProducerOnce #[l0] w (retK K) :=
  calls_FN (args := [l0]) Try.func3 (by kernel_rfl) (by rw [erratalaw10_ProducerOnce.pt_eq] at h; exact h)
theorem erratalaw10_ProducerOnce.up {l0 : Value} {w : World} {K : Value → World → Prop} (h : Calls Try.prog F_erratalaw10_ProducerOnce #[l0] w (retK K)) : upK Try.prog (sCall F_erratalaw10_ProducerOnce #[l0]) w K :=
  up_call (fn := Try.f3) Try.func3 (by kernel_rfl) (by kernel_rfl) h

/-- errata/erratalaw10.ProducerApart -/
def erratalaw10_ProducerApart.pt (s0 a1 b2 pos3 : Value) (w : World) (K : Value → World → Prop) : Prop :=
  upK Try.prog (sBox T_api_Entry a1) w fun a5 w1 =>
  upK Try.prog (sBox T_api_Entry b2) w1 fun b6 w2 =>
  upK Try.prog (sCall F_erratalaw10_small #[]) w2 fun t24 w3 =>
  upK Try.prog (sCall F_erratalaw10_few #[s0]) w3 fun t26 w4 =>
  pureK Try.prog (sUn .not t26) fun t27 =>
  ifB t27
  (K t24 w4)
  (upK Try.prog (sCall F_errataref10_Right #[s0]) w4 fun t30 w5 =>
   pureK Try.prog (sUn .not t30) fun t31 =>
   ifB t31
   (K t24 w5)
   (pureK Try.prog (sFieldAddr T_api_Entry a5 1) fun t34 =>
    readK Try.prog (sLoad T_int t34) w5 fun t35 =>
    pureK Try.prog (sFieldAddr T_api_Entry b6 1) fun t36 =>
    readK Try.prog (sLoad T_int t36) w5 fun t37 =>
    pureK Try.prog (sBin .eql T_int (.tmp 35) (.tmp 37) t35 t37) fun t38 =>
    ifB t38
    (K t24 w5)
    (readK Try.prog (sBlt .len #[T_s_api_Producer] T_int #[false] #[s0]) w5 fun t42 =>
     pureK Try.prog (sBin .geq T_int (.tmp 42) (.const (.int .i64 49)) t42 (.int .i64 49)) fun t43 =>
     ifB t43
     (K t24 w5)
     (readK Try.prog (sLoad T_api_Entry a5) w5 fun t48 =>
      upK Try.prog (sCall F_producer_Look #[s0, t48]) w5 fun t49 w6 =>
      pureK Try.prog (sExtract t49 0) fun t50 =>
      pureK Try.prog (sExtract t49 1) fun t51 =>
      readK Try.prog (sLoad T_api_Entry b6) w6 fun t53 =>
      upK Try.prog (sCall F_producer_Put #[s0, t53, pos3]) w6 fun t55 w7 =>
      readK Try.prog (sLoad T_api_Entry a5) w7 fun t58 =>
      upK Try.prog (sCall F_producer_Look #[t55, t58]) w7 fun t59 w8 =>
      pureK Try.prog (sExtract t59 0) fun t60 =>
      pureK Try.prog (sExtract t59 1) fun t61 =>
      pureK Try.prog (sBin .neq T_int (.tmp 62) (.tmp 63) t50 t60) fun t64 =>
      ifB t64
      (K (.bool false) w8)
      (pureK Try.prog (sBin .neq T_api_Errno (.tmp 66) (.tmp 67) t51 t61) fun t68 =>
       ifB t68
       (K (.bool false) w8)
       (upK Try.prog (sCall F_producer_Right #[t55]) w8 fun t72 w9 =>
        pureK Try.prog (sUn .not t72) fun t73 =>
        ifB t73
        (K (.bool false) w9)
        (pureK Try.prog (sFieldAddr T_api_Entry b6 1) fun t77 =>
         readK Try.prog (sLoad T_int t77) w9 fun t78 =>
         upK Try.prog (sCall F_producer_Fence #[t55, t78]) w9 fun t79 w10 =>
         pureK Try.prog (sExtract t79 0) fun t80 =>
         pureK Try.prog (sExtract t79 1) fun t81 =>
         pureK Try.prog (sExtract t79 2) fun t82 =>
         pureK Try.prog (sBin .neq T_api_Errno (.tmp 83) (.const (.int .i64 0)) t82 (.int .i64 0)) fun t84 =>
         ifB t84
         (K t24 w10)
         (readK Try.prog (sLoad T_api_Entry a5) w10 fun t88 =>
          upK Try.prog (sCall F_producer_Look #[t80, t88]) w10 fun t89 w11 =>
          pureK Try.prog (sExtract t89 0) fun t90 =>
          pureK Try.prog (sExtract t89 1) fun t91 =>
          readK Try.prog (sLoad T_api_Entry b6) w11 fun t94 =>
          upK Try.prog (sCall F_producer_Look #[t55, t94]) w11 fun t95 w12 =>
          pureK Try.prog (sExtract t95 0) fun t96 =>
          pureK Try.prog (sExtract t95 1) fun t97 =>
          readK Try.prog (sLoad T_api_Entry b6) w12 fun t100 =>
          upK Try.prog (sCall F_producer_Look #[t80, t100]) w12 fun t101 w13 =>
          pureK Try.prog (sExtract t101 0) fun t102 =>
          pureK Try.prog (sExtract t101 1) fun t103 =>
          ifB t24
          (pureK Try.prog (sBin .eql T_int (.tmp 106) (.tmp 107) t90 t50) fun t108 =>
           ifB t108
           (pureK Try.prog (sBin .eql T_api_Errno (.tmp 111) (.tmp 112) t91 t51) fun t113 =>
            ifB t113
            (upK Try.prog (sCall F_producer_Right #[t80]) w13 fun t117 w14 =>
             ifB t117
             (pureK Try.prog (sBin .eql T_api_Errno (.tmp 120) (.const (.int .i64 25)) t97 (.int .i64 25)) fun t121 =>
              ifB t121
              (K (.bool true) w14)
              (pureK Try.prog (sBin .neq T_api_Errno (.tmp 123) (.const (.int .i64 0)) t103 (.int .i64 0)) fun t124 =>
               K t124 w14))
             (K (.bool false) w14))
            (K (.bool false) w13))
           (K (.bool false) w13))
          (K (.bool false) w13)))))))))
theorem erratalaw10_ProducerApart.pt_eq : erratalaw10_ProducerApart.pt = fun s0 a1 b2 pos3 w K => FN Try.prog Try.f4 (bodyOf Try.f4) [8] .leaf [s0, a1, b2, pos3] w K := by kernel_rfl
theorem erratalaw10_ProducerApart.call {s0 a1 b2 pos3 : Value} {w : World} {K : Value → World → Prop} (h : erratalaw10_ProducerApart.pt s0 a1 b2 pos3 w K) : Calls Try.prog F_erratalaw10_ProducerApart #[s0, a1, b2, pos3] w (retK K) :=
  calls_FN (args := [s0, a1, b2, pos3]) Try.func4 (by kernel_rfl) (by rw [erratalaw10_ProducerApart.pt_eq] at h; exact h)
theorem erratalaw10_ProducerApart.up {s0 a1 b2 pos3 : Value} {w : World} {K : Value → World → Prop} (h : Calls Try.prog F_erratalaw10_ProducerApart #[s0, a1, b2, pos3] w (retK K)) : upK Try.prog (sCall F_erratalaw10_ProducerApart #[s0, a1, b2, pos3]) w K :=
  up_call (fn := Try.f4) Try.func4 (by kernel_rfl) (by kernel_rfl) h

/-- errata/erratalaw10.small -/
def erratalaw10_small.pt (w : World) (K : Value → World → Prop) : Prop :=
  upK Try.prog (sCall F_erratalaw10_record #[(.int .i64 7), (.int .i64 0), (.int .i64 0)]) w fun t16 w1 =>
  upK Try.prog (sCall F_producer_Look #[(.slice none 0 0), t16]) w1 fun t17 w2 =>
  pureK Try.prog (sExtract t17 0) fun t18 =>
  pureK Try.prog (sExtract t17 1) fun t19 =>
  upK Try.prog (sCall F_erratalaw10_record #[(.int .i64 7), (.int .i64 0), (.int .i64 0)]) w2 fun t20 w3 =>
  upK Try.prog (sCall F_producer_Put #[(.slice none 0 0), t20, (.int .i64 3)]) w3 fun t21 w4 =>
  upK Try.prog (sCall F_erratalaw10_record #[(.int .i64 7), (.int .i64 0), (.int .i64 0)]) w4 fun t24 w5 =>
  upK Try.prog (sCall F_producer_Look #[t21, t24]) w5 fun t25 w6 =>
  pureK Try.prog (sExtract t25 0) fun t26 =>
  pureK Try.prog (sExtract t25 1) fun t27 =>
  upK Try.prog (sCall F_producer_Fence #[t21, (.int .i64 7)]) w6 fun t30 w7 =>
  pureK Try.prog (sExtract t30 0) fun t31 =>
  pureK Try.prog (sExtract t30 1) fun t32 =>
  pureK Try.prog (sExtract t30 2) fun t33 =>
  upK Try.prog (sCall F_erratalaw10_record #[(.int .i64 7), (.int .i64 0), (.int .i64 1)]) w7 fun t36 w8 =>
  upK Try.prog (sCall F_producer_Look #[t31, t36]) w8 fun t37 w9 =>
  pureK Try.prog (sExtract t37 0) fun t38 =>
  pureK Try.prog (sExtract t37 1) fun t39 =>
  upK Try.prog (sCall F_erratalaw10_record #[(.int .i64 7), (.int .i64 1), (.int .i64 0)]) w9 fun t42 w10 =>
  upK Try.prog (sCall F_producer_Look #[t31, t42]) w10 fun t43 w11 =>
  pureK Try.prog (sExtract t43 0) fun t44 =>
  pureK Try.prog (sExtract t43 1) fun t45 =>
  upK Try.prog (sCall F_erratalaw10_record #[(.int .i64 8), (.int .i64 0), (.int .i64 1)]) w11 fun t48 w12 =>
  upK Try.prog (sCall F_producer_Look #[t31, t48]) w12 fun t49 w13 =>
  pureK Try.prog (sExtract t49 0) fun t50 =>
  pureK Try.prog (sExtract t49 1) fun t51 =>
  pureK Try.prog (sBin .eql T_api_Errno (.tmp 52) (.const (.int .i64 0)) t19 (.int .i64 0)) fun t53 =>
  ifB t53
  (pureK Try.prog (sBin .eql T_api_Errno (.tmp 55) (.const (.int .i64 5)) t27 (.int .i64 5)) fun t56 =>
   ifB t56
   (pureK Try.prog (sBin .eql T_int (.tmp 59) (.const (.int .i64 3)) t26 (.int .i64 3)) fun t60 =>
    ifB t60
    (pureK Try.prog (sBin .eql T_api_Errno (.tmp 63) (.const (.int .i64 0)) t33 (.int .i64 0)) fun t64 =>
     ifB t64
     (pureK Try.prog (sBin .eql T_int (.tmp 67) (.const (.int .i64 1)) t32 (.int .i64 1)) fun t68 =>
      ifB t68
      (pureK Try.prog (sBin .eql T_api_Errno (.tmp 71) (.const (.int .i64 18)) t39 (.int .i64 18)) fun t72 =>
       ifB t72
       (pureK Try.prog (sBin .eql T_api_Errno (.tmp 75) (.const (.int .i64 0)) t45 (.int .i64 0)) fun t76 =>
        ifB t76
        (pureK Try.prog (sBin .eql T_api_Errno (.tmp 79) (.const (.int .i64 19)) t51 (.int .i64 19)) fun t80 =>
         ifB t80
         (upK Try.prog (sCall F_producer_Right #[t31]) w13 fun t84 w14 =>
          K t84 w14)
         (K (.bool false) w13))
        (K (.bool false) w13))
       (K (.bool false) w13))
      (K (.bool false) w13))
     (K (.bool false) w13))
    (K (.bool false) w13))
   (K (.bool false) w13))
  (K (.bool false) w13)
theorem erratalaw10_small.pt_eq : erratalaw10_small.pt = fun  w K => FN Try.prog Try.f5 (bodyOf Try.f5) [0] .leaf [] w K := by kernel_rfl
theorem erratalaw10_small.call {w : World} {K : Value → World → Prop} (h : erratalaw10_small.pt  w K) : Calls Try.prog F_erratalaw10_small #[] w (retK K) :=
  calls_FN (args := []) Try.func5 (by kernel_rfl) (by rw [erratalaw10_small.pt_eq] at h; exact h)
theorem erratalaw10_small.up {w : World} {K : Value → World → Prop} (h : Calls Try.prog F_erratalaw10_small #[] w (retK K)) : upK Try.prog (sCall F_erratalaw10_small #[]) w K :=
  up_call (fn := Try.f5) Try.func5 (by kernel_rfl) (by kernel_rfl) h

/-- errata/producer.Fence -/
def producer_Fence.pt (s0 id1 : Value) (w : World) (K : Value → World → Prop) : Prop :=
  upK Try.prog (sCall F_producer_find #[s0, id1]) w fun t12 w1 =>
  pureK Try.prog (sExtract t12 0) fun t13 =>
  pureK Try.prog (sExtract t12 1) fun t14 =>
  upK Try.prog (sAlloc T_api_Producer) w1 fun p7 w2 =>
  upK Try.prog (sStore T_api_Producer p7 t13) w2 fun tu w3 =>
  LETJ (X := Unit) (fun y1 w4 =>
   pureK Try.prog (sFieldAddr T_api_Producer p7 1) fun t37 =>
   readK Try.prog (sLoad T_int t37) w4 fun t38 =>
   pureK Try.prog (sBin .add T_int (.tmp 38) (.const (.int .i64 1)) t38 (.int .i64 1)) fun t39 =>
   pureK Try.prog (sBuild T_api_Producer #[(0, id1), (1, t39)]) fun t40 =>
   upK Try.prog (sStore T_api_Producer p7 t40) w4 fun tu_1 w5 =>
   readK Try.prog (sLoad T_api_Producer p7) (tick w5) fun t42 =>
   pureK Try.prog (sFieldAddr T_api_Producer p7 1) fun t44 =>
   readK Try.prog (sLoad T_int t44) (tick w5) fun t45 =>
   upK Try.prog (sCall F_producer_with #[s0, t42]) (tick w5) fun t43 w6 =>
   Is Try.prog (sLoad T_int t44) t45 w6 ∧ K (.tuple #[t43, t45, (.int .i64 0)]) w6)
  (fun J1 =>
   upK Try.prog (sCall F_producer_in #[id1]) w3 fun t17 w7 =>
   pureK Try.prog (sUn .not t17) fun t18 =>
   ifB t18
   (K (.tuple #[(.slice none 0 0), (.int .i64 0), (.int .i64 1)]) w7)
   (pureK Try.prog (sBin .eql T_int (.tmp 20) (.const (.int .i64 1099511627776)) id1 (.int .i64 1099511627776)) fun t21 =>
    ifB t21
    (K (.tuple #[(.slice none 0 0), (.int .i64 0), (.int .i64 1)]) w7)
    (pureK Try.prog (sFieldAddr T_api_Producer p7 1) fun t24 =>
     readK Try.prog (sLoad T_int t24) w7 fun t25 =>
     pureK Try.prog (sBin .eql T_int (.tmp 25) (.const (.int .i64 1099511627776)) t25 (.int .i64 1099511627776)) fun t26 =>
     ifB t26
     (K (.tuple #[(.slice none 0 0), (.int .i64 0), (.int .i64 1)]) w7)
     (pureK Try.prog (sUn .not t14) fun t30 =>
      ifB t30
      (readK Try.prog (sBlt .len #[T_s_api_Producer] T_int #[false] #[s0]) w7 fun t33 =>
       pureK Try.prog (sBin .geq T_int (.tmp 33) (.const (.int .i64 50)) t33 (.int .i64 50)) fun t34 =>
       ifB t34
       (K (.tuple #[(.slice none 0 0), (.int .i64 0), (.int .i64 6)]) w7)
       (J1 (()) w7))
      (J1 (()) w7)))))
theorem producer_Fence.pt_eq : producer_Fence.pt = fun s0 id1 w K => FN Try.prog Try.f6 (bodyOf Try.f6) [4, 5, 6] (.node none .leaf (.node none .leaf (.node (some []) .leaf .leaf))) [s0, id1] w K := by kernel_rfl
theorem producer_Fence.call {s0 id1 : Value} {w : World} {K : Value → World → Prop} (h : producer_Fence.pt s0 id1 w K) : Calls Try.prog F_producer_Fence #[s0, id1] w (retK K) :=
  calls_FN (args := [s0, id1]) Try.func6 (by kernel_rfl) (by rw [producer_Fence.pt_eq] at h; exact h)
theorem producer_Fence.up {s0 id1 : Value} {w : World} {K : Value → World → Prop} (h : Calls Try.prog F_producer_Fence #[s0, id1] w (retK K)) : upK Try.prog (sCall F_producer_Fence #[s0, id1]) w K :=
  up_call (fn := Try.f6) Try.func6 (by kernel_rfl) (by kernel_rfl) h

/-- errata/producer.Look -/
def producer_Look.pt (s0 e1 : Value) (w : World) (K : Value → World → Prop) : Prop :=
  upK Try.prog (sBox T_api_Entry e1) w fun e3 w1 =>
  pureK Try.prog (sFieldAddr T_api_Entry e3 1) fun t11 =>
  readK Try.prog (sLoad T_int t11) w1 fun t12 =>
  pureK Try.prog (sFieldAddr T_api_Entry e3 2) fun t13 =>
  readK Try.prog (sLoad T_int t13) w1 fun t14 =>
  pureK Try.prog (sFieldAddr T_api_Entry e3 3) fun t15 =>
  readK Try.prog (sLoad T_int t15) w1 fun t16 =>
  upK Try.prog (sBuildSlice T_s_int 3 #[(0, t12), (1, t14), (2, t16)]) w1 fun t17 w2 =>
  readK Try.prog (sBlt .len #[T_s_int] T_int #[false] #[t17]) w2 fun t18 =>
  LOOP (X := Value × Unit) (fun x3 w3 next3 =>
   pureK Try.prog (sBin .lss T_int (.tmp 19) (.tmp 18) x3.1 t18) fun t20 =>
   ifB t20
   (pureK Try.prog (sIdxAddr T_s_int t17 x3.1) fun t21 =>
    readK Try.prog (sLoad T_int t21) w3 fun t22 =>
    upK Try.prog (sCall F_producer_in #[t22]) w3 fun t24 w4 =>
    pureK Try.prog (sUn .not t24) fun t25 =>
    ifB t25
    (K (.tuple #[(.int .i64 0), (.int .i64 1)]) w4)
    (pureK Try.prog (sBin .eql T_int (.tmp 27) (.const (.int .i64 1099511627776)) t22 (.int .i64 1099511627776)) fun t28 =>
     ifB t28
     (K (.tuple #[(.int .i64 0), (.int .i64 1)]) w4)
     (pureK Try.prog (sBin .add T_int (.tmp 19) (.const (.int .i64 1)) x3.1 (.int .i64 1)) fun t30 =>
      next3 (t30, ()) w4)))
   (pureK Try.prog (sFieldAddr T_api_Entry e3 1) fun t33 =>
    readK Try.prog (sLoad T_int t33) w3 fun t34 =>
    upK Try.prog (sCall F_producer_find #[s0, t34]) w3 fun t35 w5 =>
    pureK Try.prog (sExtract t35 0) fun t36 =>
    pureK Try.prog (sExtract t35 1) fun t37 =>
    upK Try.prog (sAlloc T_api_Producer) w5 fun p8 w6 =>
    upK Try.prog (sStore T_api_Producer p8 t36) w6 fun tu w7 =>
    LETJ (X := Unit) (fun y1 w8 =>
     pureK Try.prog (sFieldAddr T_api_Producer p8 3) fun t70 =>
     readK Try.prog (sLoad T_s_int t70) w8 fun t71 =>
     readK Try.prog (sBlt .len #[T_s_int] T_int #[false] #[t71]) w8 fun t72 =>
     pureK Try.prog (sFieldAddr T_api_Producer p8 2) fun t73 =>
     readK Try.prog (sLoad T_int t73) w8 fun t74 =>
     pureK Try.prog (sFieldAddr T_api_Entry e3 3) fun t75 =>
     readK Try.prog (sLoad T_int t75) w8 fun t76 =>
     pureK Try.prog (sBin .sub T_int (.tmp 74) (.tmp 76) t74 t76) fun t77 =>
     pureK Try.prog (sBin .sub T_int (.tmp 72) (.tmp 77) t72 t77) fun t78 =>
     pureK Try.prog (sBin .geq T_int (.tmp 79) (.const (.int .i64 0)) t78 (.int .i64 0)) fun t80 =>
     ifB t80
     (pureK Try.prog (sFieldAddr T_api_Producer p8 3) fun t81 =>
      readK Try.prog (sLoad T_s_int t81) w8 fun t82 =>
      pureK Try.prog (sIdxAddr T_s_int t82 t78) fun t84 =>
      readK Try.prog (sLoad T_int t84) w8 fun t85 =>
      K (.tuple #[t85, (.int .i64 5)]) w8)
     (K (.tuple #[(.int .i64 (-1)), (.int .i64 5)]) w8))
    (fun J1 =>
     pureK Try.prog (sFieldAddr T_api_Entry e3 2) fun t39 =>
     readK Try.prog (sLoad T_int t39) w7 fun t40 =>
     pureK Try.prog (sFieldAddr T_api_Producer p8 1) fun t41 =>
     readK Try.prog (sLoad T_int t41) w7 fun t42 =>
     pureK Try.prog (sBin .lss T_int (.tmp 40) (.tmp 42) t40 t42) fun t43 =>
     ifB t43
     (K (.tuple #[(.int .i64 0), (.int .i64 18)]) w7)
     (pureK Try.prog (sFieldAddr T_api_Entry e3 2) fun t45 =>
      readK Try.prog (sLoad T_int t45) w7 fun t46 =>
      pureK Try.prog (sFieldAddr T_api_Producer p8 1) fun t47 =>
      readK Try.prog (sLoad T_int t47) w7 fun t48 =>
      pureK Try.prog (sBin .gtr T_int (.tmp 46) (.tmp 48) t46 t48) fun t49 =>
      ifB t49
      (K (.tuple #[(.int .i64 0), (.int .i64 25)]) w7)
      (pureK Try.prog (sFieldAddr T_api_Entry e3 3) fun t51 =>
       readK Try.prog (sLoad T_int t51) w7 fun t52 =>
       pureK Try.prog (sFieldAddr T_api_Producer p8 2) fun t53 =>
       readK Try.prog (sLoad T_int t53) w7 fun t54 =>
       pureK Try.prog (sBin .gtr T_int (.tmp 52) (.tmp 54) t52 t54) fun t55 =>
       ifB t55
       (K (.tuple #[(.int .i64 0), (.int .i64 19)]) w7)
       (pureK Try.prog (sUn .not t37) fun t58 =>
        ifB t58
        (readK Try.prog (sBlt .len #[T_s_api_Producer] T_int #[false] #[s0]) w7 fun t61 =>
         pureK Try.prog (sBin .geq T_int (.tmp 61) (.const (.int .i64 50)) t61 (.int .i64 50)) fun t62 =>
         ifB t62
         (K (.tuple #[(.int .i64 0), (.int .i64 6)]) w7)
         (pureK Try.prog (sFieldAddr T_api_Entry e3 3) fun t65 =>
          readK Try.prog (sLoad T_int t65) w7 fun t66 =>
          pureK Try.prog (sFieldAddr T_api_Producer p8 2) fun t67 =>
          readK Try.prog (sLoad T_int t67) w7 fun t68 =>
          pureK Try.prog (sBin .eql T_int (.tmp 66) (.tmp 68) t66 t68) fun t69 =>
          ifB t69
          (K (.tuple #[(.int .i64 0), (.int .i64 0)]) w7)
          (J1 (()) w7)))
        (pureK Try.prog (sFieldAddr T_api_Entry e3 3) fun t65_1 =>
         readK Try.prog (sLoad T_int t65_1) w7 fun t66_1 =>
         pureK Try.prog (sFieldAddr T_api_Producer p8 2) fun t67_1 =>
         readK Try.prog (sLoad T_int t67_1) w7 fun t68_1 =>
         pureK Try.prog (sBin .eql T_int (.tmp 66) (.tmp 68) t66_1 t68_1) fun t69_1 =>
         ifB t69_1
         (K (.tuple #[(.int .i64 0), (.int .i64 0)]) w7)
         (J1 (()) w7))))))))
  ((.int .i64 0), ()) w2
theorem producer_Look.pt_eq : producer_Look.pt = fun s0 e1 w K => FN Try.prog Try.f7 (bodyOf Try.f7) [4, 5] (.node none .leaf (.node none .leaf (.node none .leaf (.node (some []) .leaf .leaf)))) [s0, e1] w K := by kernel_rfl
theorem producer_Look.call {s0 e1 : Value} {w : World} {K : Value → World → Prop} (h : producer_Look.pt s0 e1 w K) : Calls Try.prog F_producer_Look #[s0, e1] w (retK K) :=
  calls_FN (args := [s0, e1]) Try.func7 (by kernel_rfl) (by rw [producer_Look.pt_eq] at h; exact h)
theorem producer_Look.up {s0 e1 : Value} {w : World} {K : Value → World → Prop} (h : Calls Try.prog F_producer_Look #[s0, e1] w (retK K)) : upK Try.prog (sCall F_producer_Look #[s0, e1]) w K :=
  up_call (fn := Try.f7) Try.func7 (by kernel_rfl) (by kernel_rfl) h

/-- errata/erratalaw10.record -/
def erratalaw10_record.pt (id0 epoch1 seq2 : Value) (w : World) (K : Value → World → Prop) : Prop :=
  upK Try.prog (sAlloc T_api_Entry) w fun t6 w1 =>
  pureK Try.prog (sBuild T_api_Entry #[(0, (.int .i64 0)), (1, id0), (2, epoch1), (3, seq2)]) fun t10 =>
  upK Try.prog (sStore T_api_Entry t6 t10) w1 fun tu w2 =>
  readV Try.prog (do loadVar T_api_Entry (← asAddr t6)) w2 fun t6_1 =>
  K t6_1 w2
theorem erratalaw10_record.pt_eq : erratalaw10_record.pt = fun id0 epoch1 seq2 w K => FN Try.prog Try.f8 (bodyOf Try.f8) [] .leaf [id0, epoch1, seq2] w K := by kernel_rfl
theorem erratalaw10_record.call {id0 epoch1 seq2 : Value} {w : World} {K : Value → World → Prop} (h : erratalaw10_record.pt id0 epoch1 seq2 w K) : Calls Try.prog F_erratalaw10_record #[id0, epoch1, seq2] w (retK K) :=
  calls_FN (args := [id0, epoch1, seq2]) Try.func8 (by kernel_rfl) (by rw [erratalaw10_record.pt_eq] at h; exact h)
theorem erratalaw10_record.up {id0 epoch1 seq2 : Value} {w : World} {K : Value → World → Prop} (h : Calls Try.prog F_erratalaw10_record #[id0, epoch1, seq2] w (retK K)) : upK Try.prog (sCall F_erratalaw10_record #[id0, epoch1, seq2]) w K :=
  up_call (fn := Try.f8) Try.func8 (by kernel_rfl) (by kernel_rfl) h

/-- errata/producer.Put -/
def producer_Put.pt (s0 e1 pos2 : Value) (w : World) (K : Value → World → Prop) : Prop :=
  upK Try.prog (sBox T_api_Entry e1) w fun e4 w1 =>
  pureK Try.prog (sFieldAddr T_api_Entry e4 1) fun t13 =>
  readK Try.prog (sLoad T_int t13) w1 fun t14 =>
  upK Try.prog (sCall F_producer_find #[s0, t14]) w1 fun t15 w2 =>
  pureK Try.prog (sExtract t15 0) fun t16 =>
  pureK Try.prog (sExtract t15 1) fun t17 =>
  upK Try.prog (sAlloc T_api_Producer) w2 fun p7 w3 =>
  upK Try.prog (sStore T_api_Producer p7 t16) w3 fun tu w4 =>
  LETJ (X := Unit) (fun y1 w5 =>
   pureK Try.prog (sFieldAddr T_api_Producer p7 2) fun t51 =>
   readK Try.prog (sLoad T_int t51) w5 fun t52 =>
   pureK Try.prog (sBin .add T_int (.tmp 52) (.const (.int .i64 1)) t52 (.int .i64 1)) fun t53 =>
   pureK Try.prog (sFieldAddr T_api_Producer p7 2) fun t54 =>
   upK Try.prog (sStore T_int t54 t53) w5 fun tu_1 w6 =>
   pureK Try.prog (sFieldAddr T_api_Producer p7 3) fun t55 =>
   readK Try.prog (sLoad T_s_int t55) w6 fun t56 =>
   upK Try.prog (sCall F_slices_Clone_s_int_int #[t56]) w6 fun t57 w7 =>
   upK Try.prog (sBuildSlice T_s_int 1 #[(0, pos2)]) w7 fun t59 w8 =>
   upK Try.prog (sBlt .append #[T_s_int, T_s_int] T_s_int #[false, false] #[t57, t59]) w8 fun t60 w9 =>
   pureK Try.prog (sFieldAddr T_api_Producer p7 3) fun t61 =>
   upK Try.prog (sStore T_s_int t61 t60) w9 fun tu_2 w10 =>
   pureK Try.prog (sFieldAddr T_api_Producer p7 3) fun t62 =>
   readK Try.prog (sLoad T_s_int t62) w10 fun t63 =>
   pureK Try.prog (sFieldAddr T_api_Producer p7 3) fun t64 =>
   readK Try.prog (sLoad T_s_int t64) w10 fun t65 =>
   readK Try.prog (sBlt .len #[T_s_int] T_int #[false] #[t65]) w10 fun t66 =>
   pureK Try.prog (sBin .sub T_int (.tmp 66) (.const (.int .i64 20)) t66 (.int .i64 20)) fun t67 =>
   pureK Try.prog (sBlt .max #[T_int, T_int] T_int #[false, true] #[t67, (.int .i64 0)]) fun t68 =>
   pureK Try.prog (sSlice T_s_int t63 (some t68) none none) fun t69 =>
   pureK Try.prog (sFieldAddr T_api_Producer p7 3) fun t70 =>
   upK Try.prog (sStore T_s_int t70 t69) w10 fun tu_3 w11 =>
   readK Try.prog (sLoad T_api_Producer p7) w11 fun t72 =>
   upK Try.prog (sCall F_producer_with #[s0, t72]) w11 fun t73 w12 =>
   K t73 w12)
  (fun J1 =>
   readK Try.prog (sLoad T_api_Entry e4) w4 fun t20 =>
   upK Try.prog (sCall F_producer_Look #[s0, t20]) w4 fun t21 w13 =>
   pureK Try.prog (sExtract t21 0) fun t22 =>
   pureK Try.prog (sExtract t21 1) fun t23 =>
   pureK Try.prog (sBin .neq T_api_Errno (.tmp 24) (.const (.int .i64 0)) t23 (.int .i64 0)) fun t25 =>
   ifB t25
   (upK Try.prog (sCall F_producer_clone #[s0]) w13 fun t50 w14 =>
    K t50 w14)
   (upK Try.prog (sCall F_producer_in #[pos2]) w13 fun t28 w15 =>
    pureK Try.prog (sUn .not t28) fun t29 =>
    ifB t29
    (upK Try.prog (sCall F_producer_clone #[s0]) w15 fun t50_1 w16 =>
     K t50_1 w16)
    (pureK Try.prog (sFieldAddr T_api_Producer p7 3) fun t32 =>
     readK Try.prog (sLoad T_s_int t32) w15 fun t33 =>
     readK Try.prog (sBlt .len #[T_s_int] T_int #[false] #[t33]) w15 fun t34 =>
     pureK Try.prog (sBin .gtr T_int (.tmp 34) (.const (.int .i64 0)) t34 (.int .i64 0)) fun t35 =>
     ifB t35
     (pureK Try.prog (sFieldAddr T_api_Producer p7 3) fun t38 =>
      readK Try.prog (sLoad T_s_int t38) w15 fun t39 =>
      pureK Try.prog (sFieldAddr T_api_Producer p7 3) fun t40 =>
      readK Try.prog (sLoad T_s_int t40) w15 fun t41 =>
      readK Try.prog (sBlt .len #[T_s_int] T_int #[false] #[t41]) w15 fun t42 =>
      pureK Try.prog (sBin .sub T_int (.tmp 42) (.const (.int .i64 1)) t42 (.int .i64 1)) fun t43 =>
      pureK Try.prog (sIdxAddr T_s_int t39 t43) fun t44 =>
      readK Try.prog (sLoad T_int t44) w15 fun t45 =>
      pureK Try.prog (sBin .leq T_int (.tmp 37) (.tmp 45) pos2 t45) fun t46 =>
      ifB t46
      (upK Try.prog (sCall F_producer_clone #[s0]) w15 fun t50_2 w17 =>
       K t50_2 w17)
      (J1 (()) w15))
     (J1 (()) w15))))
theorem producer_Put.pt_eq : producer_Put.pt = fun s0 e1 pos2 w K => FN Try.prog Try.f9 (bodyOf Try.f9) [6] (.node none .leaf (.node none .leaf (.node (some []) .leaf .leaf))) [s0, e1, pos2] w K := by kernel_rfl
theorem producer_Put.call {s0 e1 pos2 : Value} {w : World} {K : Value → World → Prop} (h : producer_Put.pt s0 e1 pos2 w K) : Calls Try.prog F_producer_Put #[s0, e1, pos2] w (retK K) :=
  calls_FN (args := [s0, e1, pos2]) Try.func9 (by kernel_rfl) (by rw [producer_Put.pt_eq] at h; exact h)
theorem producer_Put.up {s0 e1 pos2 : Value} {w : World} {K : Value → World → Prop} (h : Calls Try.prog F_producer_Put #[s0, e1, pos2] w (retK K)) : upK Try.prog (sCall F_producer_Put #[s0, e1, pos2]) w K :=
  up_call (fn := Try.f9) Try.func9 (by kernel_rfl) (by kernel_rfl) h

/-- errata/producer.Right -/
def producer_Right.pt (s0 : Value) (w : World) (K : Value → World → Prop) : Prop :=
  readK Try.prog (sBlt .len #[T_s_api_Producer] T_int #[false] #[s0]) w fun t6 =>
  LOOP (X := Value × Unit) (fun x1 w1 next1 =>
   pureK Try.prog (sBin .lss T_int (.tmp 7) (.tmp 6) x1.1 t6) fun t8 =>
   ifB t8
   (LETJ (X := Unit) (fun y1 w2 =>
     pureK Try.prog (sBin .add T_int (.tmp 7) (.const (.int .i64 1)) x1.1 (.int .i64 1)) fun t30 =>
     next1 (t30, ()) w2)
    (fun J1 =>
     pureK Try.prog (sIdxAddr T_s_api_Producer s0 x1.1) fun t10 =>
     readK Try.prog (sLoad T_api_Producer t10) w1 fun t11 =>
     upK Try.prog (sAlloc T_api_Producer) w1 fun p4 w3 =>
     upK Try.prog (sStore T_api_Producer p4 t11) w3 fun tu w4 =>
     readK Try.prog (sLoad T_api_Producer p4) (tick w4) fun t12 =>
     upK Try.prog (sCall F_producer_fine #[t12]) (tick w4) fun t13 w5 =>
     pureK Try.prog (sUn .not t13) fun t14 =>
     ifB t14
     (K (.bool false) w5)
     (pureK Try.prog (sBin .gtr T_int (.tmp 16) (.const (.int .i64 0)) x1.1 (.int .i64 0)) fun t17 =>
      ifB t17
      (pureK Try.prog (sFieldAddr T_api_Producer p4 0) fun t19 =>
       readK Try.prog (sLoad T_int t19) w5 fun t20 =>
       pureK Try.prog (sBin .sub T_int (.tmp 22) (.const (.int .i64 1)) x1.1 (.int .i64 1)) fun t23 =>
       pureK Try.prog (sIdxAddr T_s_api_Producer s0 t23) fun t24 =>
       pureK Try.prog (sFieldAddr T_api_Producer t24 0) fun t25 =>
       readK Try.prog (sLoad T_int t25) w5 fun t26 =>
       pureK Try.prog (sBin .leq T_int (.tmp 20) (.tmp 26) t20 t26) fun t27 =>
       ifB t27
       (K (.bool false) w5)
       (J1 (()) w5))
      (J1 (()) w5))))
   (readK Try.prog (sBlt .len #[T_s_api_Producer] T_int #[false] #[s0]) w1 fun t32 =>
    pureK Try.prog (sBin .leq T_int (.tmp 32) (.const (.int .i64 50)) t32 (.int .i64 50)) fun t33 =>
    K t33 w1))
  ((.int .i64 0), ()) w
theorem producer_Right.pt_eq : producer_Right.pt = fun s0 w K => FN Try.prog Try.f10 (bodyOf Try.f10) [2] (.node none .leaf (.node none (.node none .leaf (.node none (.node none (.node none .leaf (.node none .leaf (.node (some []) .leaf .leaf))) .leaf) .leaf)) .leaf)) [s0] w K := by kernel_rfl
theorem producer_Right.call {s0 : Value} {w : World} {K : Value → World → Prop} (h : producer_Right.pt s0 w K) : Calls Try.prog F_producer_Right #[s0] w (retK K) :=
  calls_FN (args := [s0]) Try.func10 (by kernel_rfl) (by rw [producer_Right.pt_eq] at h; exact h)
theorem producer_Right.up {s0 : Value} {w : World} {K : Value → World → Prop} (h : Calls Try.prog F_producer_Right #[s0] w (retK K)) : upK Try.prog (sCall F_producer_Right #[s0]) w K :=
  up_call (fn := Try.f10) Try.func10 (by kernel_rfl) (by kernel_rfl) h

/-- errata/erratalaw10.few -/
def erratalaw10_few.pt (s0 : Value) (w : World) (K : Value → World → Prop) : Prop :=
  LETJ (X := Unit) (fun y1 w1 =>
   readK Try.prog (sBlt .len #[T_s_api_Producer] T_int #[false] #[s0]) w1 fun t22 =>
   pureK Try.prog (sBin .leq T_int (.tmp 22) (.const (.int .i64 60)) t22 (.int .i64 60)) fun t23 =>
   K t23 w1)
  (fun J1 =>
   LOOP (X := Value × Unit) (fun x2 w2 next2 =>
    readK Try.prog (sBlt .len #[T_s_api_Producer] T_int #[false] #[s0]) w2 fun t6 =>
    pureK Try.prog (sBin .lss T_int (.tmp 4) (.tmp 6) x2.1 t6) fun t7 =>
    ifB t7
    (pureK Try.prog (sBin .lss T_int (.tmp 9) (.const (.int .i64 100)) x2.1 (.int .i64 100)) fun t10 =>
     ifB t10
     (pureK Try.prog (sIdxAddr T_s_api_Producer s0 x2.1) fun t16 =>
      pureK Try.prog (sFieldAddr T_api_Producer t16 3) fun t17 =>
      readK Try.prog (sLoad T_s_int t17) w2 fun t18 =>
      readK Try.prog (sBlt .len #[T_s_int] T_int #[false] #[t18]) w2 fun t19 =>
      pureK Try.prog (sBin .gtr T_int (.tmp 19) (.const (.int .i64 30)) t19 (.int .i64 30)) fun t20 =>
      ifB t20
      (K (.bool false) w2)
      (pureK Try.prog (sBin .add T_int (.tmp 12) (.const (.int .i64 1)) x2.1 (.int .i64 1)) fun t13 =>
       next2 (t13, ()) w2))
     (J1 (()) w2))
    (J1 (()) w2))
   ((.int .i64 0), ()) w)
theorem erratalaw10_few.pt_eq : erratalaw10_few.pt = fun s0 w K => FN Try.prog Try.f11 (bodyOf Try.f11) [2] (.node none .leaf (.node (some []) .leaf .leaf)) [s0] w K := by kernel_rfl
theorem erratalaw10_few.call {s0 : Value} {w : World} {K : Value → World → Prop} (h : erratalaw10_few.pt s0 w K) : Calls Try.prog F_erratalaw10_few #[s0] w (retK K) :=
  calls_FN (args := [s0]) Try.func11 (by kernel_rfl) (by rw [erratalaw10_few.pt_eq] at h; exact h)
theorem erratalaw10_few.up {s0 : Value} {w : World} {K : Value → World → Prop} (h : Calls Try.prog F_erratalaw10_few #[s0] w (retK K)) : upK Try.prog (sCall F_erratalaw10_few #[s0]) w K :=
  up_call (fn := Try.f11) Try.func11 (by kernel_rfl) (by kernel_rfl) h

/-- errata/errataref10.Right -/
def errataref10_Right.pt (s0 : Value) (w : World) (K : Value → World → Prop) : Prop :=
  readK Try.prog (sBlt .len #[T_s_api_Producer] T_int #[false] #[s0]) w fun t9 =>
  pureK Try.prog (sBin .gtr T_int (.tmp 9) (.const (.int .i64 50)) t9 (.int .i64 50)) fun t10 =>
  ifB t10
  (K (.bool false) w)
  (LOOP (X := Value × Value × Unit) (fun x1 w1 next1 =>
    readK Try.prog (sBlt .len #[T_s_api_Producer] T_int #[false] #[s0]) w1 fun t13 =>
    pureK Try.prog (sBin .lss T_int (.tmp 11) (.tmp 13) x1.2.1 t13) fun t14 =>
    ifB t14
    (LETJ (X := Value × Unit) (fun y1 w2 =>
      pureK Try.prog (sBin .add T_int (.tmp 15) (.const (.int .i64 1)) x1.2.1 (.int .i64 1)) fun t16 =>
      next1 (y1.1, t16, ()) w2)
     (fun J1 =>
      pureK Try.prog (sIdxAddr T_s_api_Producer s0 x1.2.1) fun t19 =>
      readK Try.prog (sLoad T_api_Producer t19) w1 fun t20 =>
      upK Try.prog (sAlloc T_api_Producer) w1 fun p5 w3 =>
      upK Try.prog (sStore T_api_Producer p5 t20) w3 fun tu w4 =>
      pureK Try.prog (sFieldAddr T_api_Producer p5 0) fun t21 =>
      readK Try.prog (sLoad T_int t21) w4 fun t22 =>
      pureK Try.prog (sBin .leq T_int (.tmp 22) (.tmp 23) t22 x1.1) fun t24 =>
      ifB t24
      (K (.bool false) w4)
      (pureK Try.prog (sFieldAddr T_api_Producer p5 0) fun t26 =>
       readK Try.prog (sLoad T_int t26) w4 fun t27 =>
       upK Try.prog (sCall F_errataref10_in #[t27]) w4 fun t28 w5 =>
       pureK Try.prog (sUn .not t28) fun t29 =>
       ifB t29
       (K (.bool false) w5)
       (pureK Try.prog (sFieldAddr T_api_Producer p5 1) fun t32 =>
        readK Try.prog (sLoad T_int t32) w5 fun t33 =>
        upK Try.prog (sCall F_errataref10_in #[t33]) w5 fun t34 w6 =>
        pureK Try.prog (sUn .not t34) fun t35 =>
        ifB t35
        (K (.bool false) w6)
        (pureK Try.prog (sFieldAddr T_api_Producer p5 2) fun t38 =>
         readK Try.prog (sLoad T_int t38) w6 fun t39 =>
         upK Try.prog (sCall F_errataref10_in #[t39]) w6 fun t40 w7 =>
         pureK Try.prog (sUn .not t40) fun t41 =>
         ifB t41
         (K (.bool false) w7)
         (pureK Try.prog (sFieldAddr T_api_Producer p5 3) fun t44 =>
          readK Try.prog (sLoad T_s_int t44) w7 fun t45 =>
          readK Try.prog (sBlt .len #[T_s_int] T_int #[false] #[t45]) w7 fun t46 =>
          pureK Try.prog (sFieldAddr T_api_Producer p5 2) fun t47 =>
          readK Try.prog (sLoad T_int t47) w7 fun t48 =>
          pureK Try.prog (sBlt .min #[T_int, T_int] T_int #[false, true] #[t48, (.int .i64 20)]) fun t49 =>
          pureK Try.prog (sBin .neq T_int (.tmp 46) (.tmp 49) t46 t49) fun t50 =>
          ifB t50
          (K (.bool false) w7)
          (pureK Try.prog (sFieldAddr T_api_Producer p5 0) fun t52 =>
           readK Try.prog (sLoad T_int t52) w7 fun t53 =>
           LOOP (X := Value × Value × Unit) (fun x8 w8 next8 =>
            pureK Try.prog (sFieldAddr T_api_Producer p5 3) fun t55 =>
            readK Try.prog (sLoad T_s_int t55) w8 fun t56 =>
            readK Try.prog (sBlt .len #[T_s_int] T_int #[false] #[t56]) w8 fun t57 =>
            pureK Try.prog (sBin .lss T_int (.tmp 54) (.tmp 57) x8.2.1 t57) fun t58 =>
            ifB t58
            (pureK Try.prog (sFieldAddr T_api_Producer p5 3) fun t61 =>
             readK Try.prog (sLoad T_s_int t61) w8 fun t62 =>
             pureK Try.prog (sIdxAddr T_s_int t62 x8.2.1) fun t64 =>
             readK Try.prog (sLoad T_int t64) w8 fun t65 =>
             pureK Try.prog (sBin .leq T_int (.tmp 65) (.tmp 66) t65 x8.1) fun t67 =>
             ifB t67
             (K (.bool false) w8)
             (pureK Try.prog (sFieldAddr T_api_Producer p5 3) fun t69 =>
              readK Try.prog (sLoad T_s_int t69) w8 fun t70 =>
              pureK Try.prog (sIdxAddr T_s_int t70 x8.2.1) fun t72 =>
              readK Try.prog (sLoad T_int t72) w8 fun t73 =>
              upK Try.prog (sCall F_errataref10_in #[t73]) w8 fun t74 w9 =>
              pureK Try.prog (sUn .not t74) fun t75 =>
              ifB t75
              (K (.bool false) w9)
              (pureK Try.prog (sFieldAddr T_api_Producer p5 3) fun t77 =>
               readK Try.prog (sLoad T_s_int t77) w9 fun t78 =>
               pureK Try.prog (sIdxAddr T_s_int t78 x8.2.1) fun t80 =>
               readK Try.prog (sLoad T_int t80) w9 fun t81 =>
               pureK Try.prog (sBin .add T_int (.tmp 59) (.const (.int .i64 1)) x8.2.1 (.int .i64 1)) fun t60 =>
               next8 (t81, t60, ()) w9)))
            (J1 (t53, ()) w8))
           ((.int .i64 (-1)), (.int .i64 0), ()) w7)))))))
    (K (.bool true) w1))
   ((.int .i64 (-1)), (.int .i64 0), ()) w)
theorem errataref10_Right.pt_eq : errataref10_Right.pt = fun s0 w K => FN Try.prog Try.f12 (bodyOf Try.f12) [2] (.node none .leaf (.node none .leaf (.node none .leaf (.node none (.node none .leaf (.node none (.node none (.node none .leaf (.node (some [3]) .leaf .leaf)) .leaf) .leaf)) .leaf)))) [s0] w K := by kernel_rfl
theorem errataref10_Right.call {s0 : Value} {w : World} {K : Value → World → Prop} (h : errataref10_Right.pt s0 w K) : Calls Try.prog F_errataref10_Right #[s0] w (retK K) :=
  calls_FN (args := [s0]) Try.func12 (by kernel_rfl) (by rw [errataref10_Right.pt_eq] at h; exact h)
theorem errataref10_Right.up {s0 : Value} {w : World} {K : Value → World → Prop} (h : Calls Try.prog F_errataref10_Right #[s0] w (retK K)) : upK Try.prog (sCall F_errataref10_Right #[s0]) w K :=
  up_call (fn := Try.f12) Try.func12 (by kernel_rfl) (by kernel_rfl) h

/-- errata/producer.find -/
def producer_find.pt (s0 id1 : Value) (w : World) (K : Value → World → Prop) : Prop :=
  upK Try.prog (sBox T_int id1) w fun id3 w1 =>
  upK Try.prog (sAlloc T_api_Producer) w1 fun t4 w2 =>
  pureK Try.prog (sMkFunc (.func F_producer_find_1) #[] #[id3]) fun t8 =>
  upK Try.prog (sCall F_slices_IndexFunc_s_api_Producer_api_Producer #[s0, t8]) w2 fun t9 w3 =>
  pureK Try.prog (sBin .lss T_int (.tmp 10) (.const (.int .i64 0)) t9 (.int .i64 0)) fun t11 =>
  ifB t11
  (readK Try.prog (sLoad T_int id3) w3 fun t12 =>
   pureK Try.prog (sBuild T_api_Producer #[(0, t12)]) fun t13 =>
   upK Try.prog (sStore T_api_Producer t4 t13) w3 fun tu w4 =>
   readV Try.prog (do loadVar T_api_Producer (← asAddr t4)) w4 fun t4_1 =>
   K (.tuple #[t4_1, (.bool false)]) w4)
  (pureK Try.prog (sIdxAddr T_s_api_Producer s0 t9) fun t16 =>
   readK Try.prog (sLoad T_api_Producer t16) w3 fun t17 =>
   upK Try.prog (sStore T_api_Producer t4 t17) w3 fun tu_1 w5 =>
   readV Try.prog (do loadVar T_api_Producer (← asAddr t4)) w5 fun t4_2 =>
   K (.tuple #[t4_2, (.bool true)]) w5)
theorem producer_find.pt_eq : producer_find.pt = fun s0 id1 w K => FN Try.prog Try.f13 (bodyOf Try.f13) [5] .leaf [s0, id1] w K := by kernel_rfl
theorem producer_find.call {s0 id1 : Value} {w : World} {K : Value → World → Prop} (h : producer_find.pt s0 id1 w K) : Calls Try.prog F_producer_find #[s0, id1] w (retK K) :=
  calls_FN (args := [s0, id1]) Try.func13 (by kernel_rfl) (by rw [producer_find.pt_eq] at h; exact h)
theorem producer_find.up {s0 id1 : Value} {w : World} {K : Value → World → Prop} (h : Calls Try.prog F_producer_find #[s0, id1] w (retK K)) : upK Try.prog (sCall F_producer_find #[s0, id1]) w K :=
  up_call (fn := Try.f13) Try.func13 (by kernel_rfl) (by kernel_rfl) h

/-- errata/producer.in -/
def producer_in.pt (n0 : Value) (w : World) (K : Value → World → Prop) : Prop :=
  pureK Try.prog (sBin .geq T_int (.tmp 3) (.const (.int .i64 0)) n0 (.int .i64 0)) fun t4 =>
  ifB t4
  (pureK Try.prog (sBin .leq T_int (.tmp 6) (.const (.int .i64 1099511627776)) n0 (.int .i64 1099511627776)) fun t7 =>
   K t7 w)
  (K (.bool false) w)
theorem producer_in.pt_eq : producer_in.pt = fun n0 w K => FN Try.prog Try.f14 (bodyOf Try.f14) [2] .leaf [n0] w K := by kernel_rfl
theorem producer_in.call {n0 : Value} {w : World} {K : Value → World → Prop} (h : producer_in.pt n0 w K) : Calls Try.prog F_producer_in #[n0] w (retK K) :=
  calls_FN (args := [n0]) Try.func14 (by kernel_rfl) (by rw [producer_in.pt_eq] at h; exact h)
theorem producer_in.up {n0 : Value} {w : World} {K : Value → World → Prop} (h : Calls Try.prog F_producer_in #[n0] w (retK K)) : upK Try.prog (sCall F_producer_in #[n0]) w K :=
  up_call (fn := Try.f14) Try.func14 (by kernel_rfl) (by kernel_rfl) h

/-- errata/producer.with -/
def producer_with.pt (s0 p1 : Value) (w : World) (K : Value → World → Prop) : Prop :=
  upK Try.prog (sBox T_api_Producer p1) w fun p3 w1 =>
  upK Try.prog (sCall F_producer_clone #[s0]) w1 fun t9 w2 =>
  pureK Try.prog (sFieldAddr T_api_Producer p3 0) fun t12 =>
  readK Try.prog (sLoad T_int t12) w2 fun t13 =>
  upK Try.prog (sCall F_slices_BinarySearchFunc_s_api_Producer_api_Producer_int #[t9, t13, (.func (.func 23) #[] #[])]) w2 fun t14 w3 =>
  pureK Try.prog (sExtract t14 0) fun t15 =>
  pureK Try.prog (sExtract t14 1) fun t16 =>
  ifB t16
  (readK Try.prog (sLoad T_api_Producer p3) w3 fun t20 =>
   pureK Try.prog (sIdxAddr T_s_api_Producer t9 t15) fun t21 =>
   upK Try.prog (sStore T_api_Producer t21 t20) w3 fun tu w4 =>
   K t9 w4)
  (readK Try.prog (sLoad T_api_Producer p3) w3 fun t25 =>
   upK Try.prog (sBuildSlice T_s_api_Producer 1 #[(0, t25)]) w3 fun t26 w5 =>
   upK Try.prog (sCall F_slices_Insert_s_api_Producer_api_Producer #[t9, t15, t26]) w5 fun t27 w6 =>
   K t27 w6)
theorem producer_with.pt_eq : producer_with.pt = fun s0 p1 w K => FN Try.prog Try.f15 (bodyOf Try.f15) [4] .leaf [s0, p1] w K := by kernel_rfl
theorem producer_with.call {s0 p1 : Value} {w : World} {K : Value → World → Prop} (h : producer_with.pt s0 p1 w K) : Calls Try.prog F_producer_with #[s0, p1] w (retK K) :=
  calls_FN (args := [s0, p1]) Try.func15 (by kernel_rfl) (by rw [producer_with.pt_eq] at h; exact h)
theorem producer_with.up {s0 p1 : Value} {w : World} {K : Value → World → Prop} (h : Calls Try.prog F_producer_with #[s0, p1] w (retK K)) : upK Try.prog (sCall F_producer_with #[s0, p1]) w K :=
  up_call (fn := Try.f15) Try.func15 (by kernel_rfl) (by kernel_rfl) h

/-- errata/producer.clone -/
def producer_clone.pt (s0 : Value) (w : World) (K : Value → World → Prop) : Prop :=
  readK Try.prog (sBlt .len #[T_s_api_Producer] T_int #[false] #[s0]) w fun t6 =>
  upK Try.prog (sMkSlice T_s_api_Producer t6 t6) w fun t7 w1 =>
  upK Try.prog (sBlt .copy #[T_s_api_Producer, T_s_api_Producer] T_int #[false, false] #[t7, s0]) w1 fun t10 w2 =>
  readK Try.prog (sBlt .len #[T_s_api_Producer] T_int #[false] #[t7]) w2 fun t12 =>
  LOOP (X := Value × Unit) (fun x3 w3 next3 =>
   pureK Try.prog (sBin .lss T_int (.tmp 13) (.tmp 12) x3.1 t12) fun t14 =>
   ifB t14
   (pureK Try.prog (sIdxAddr T_s_api_Producer t7 x3.1) fun t20 =>
    pureK Try.prog (sFieldAddr T_api_Producer t20 3) fun t21 =>
    readK Try.prog (sLoad T_s_int t21) w3 fun t22 =>
    upK Try.prog (sCall F_slices_Clone_s_int_int #[t22]) w3 fun t23 w4 =>
    pureK Try.prog (sIdxAddr T_s_api_Producer t7 x3.1) fun t24 =>
    pureK Try.prog (sFieldAddr T_api_Producer t24 3) fun t25 =>
    upK Try.prog (sStore T_s_int t25 t23) w4 fun tu w5 =>
    pureK Try.prog (sBin .add T_int (.tmp 13) (.const (.int .i64 1)) x3.1 (.int .i64 1)) fun t26 =>
    next3 (t26, ()) w5)
   (K t7 w3))
  ((.int .i64 0), ()) w2
theorem producer_clone.pt_eq : producer_clone.pt = fun s0 w K => FN Try.prog Try.f16 (bodyOf Try.f16) [2] .leaf [s0] w K := by kernel_rfl
theorem producer_clone.call {s0 : Value} {w : World} {K : Value → World → Prop} (h : producer_clone.pt s0 w K) : Calls Try.prog F_producer_clone #[s0] w (retK K) :=
  calls_FN (args := [s0]) Try.func16 (by kernel_rfl) (by rw [producer_clone.pt_eq] at h; exact h)
theorem producer_clone.up {s0 : Value} {w : World} {K : Value → World → Prop} (h : Calls Try.prog F_producer_clone #[s0] w (retK K)) : upK Try.prog (sCall F_producer_clone #[s0]) w K :=
  up_call (fn := Try.f16) Try.func16 (by kernel_rfl) (by kernel_rfl) h

/-- slices.Clone[[]int,int] -/
def slices_Clone_s_int_int.pt (s0 : Value) (w : World) (K : Value → World → Prop) : Prop :=
  pureK Try.prog (sBin .eql T_s_int (.tmp 3) (.const (.slice none 0 0)) s0 (.slice none 0 0)) fun t4 =>
  ifB t4
  (K (.slice none 0 0) w)
  (upK Try.prog (sBuildSlice T_s_int 0 #[]) w fun t5 w1 =>
   upK Try.prog (sBlt .append #[T_s_int, T_s_int] T_s_int #[false, false] #[t5, s0]) w1 fun t7 w2 =>
   K t7 w2)
theorem slices_Clone_s_int_int.pt_eq : slices_Clone_s_int_int.pt = fun s0 w K => FN Try.prog Try.f17 (bodyOf Try.f17) [2] .leaf [s0] w K := by kernel_rfl
theorem slices_Clone_s_int_int.call {s0 : Value} {w : World} {K : Value → World → Prop} (h : slices_Clone_s_int_int.pt s0 w K) : Calls Try.prog F_slices_Clone_s_int_int #[s0] w (retK K) :=
  calls_FN (args := [s0]) Try.func17 (by kernel_rfl) (by rw [slices_Clone_s_int_int.pt_eq] at h; exact h)
theorem slices_Clone_s_int_int.up {s0 : Value} {w : World} {K : Value → World → Prop} (h : Calls Try.prog F_slices_Clone_s_int_int #[s0] w (retK K)) : upK Try.prog (sCall F_slices_Clone_s_int_int #[s0]) w K :=
  up_call (fn := Try.f17) Try.func17 (by kernel_rfl) (by kernel_rfl) h

/-- errata/producer.fine -/
def producer_fine.pt (p0 : Value) (w : World) (K : Value → World → Prop) : Prop :=
  upK Try.prog (sBox T_api_Producer p0) w fun p1 w1 =>
  pureK Try.prog (sFieldAddr T_api_Producer p1 0) fun t5 =>
  readK Try.prog (sLoad T_int t5) w1 fun t6 =>
  upK Try.prog (sCall F_producer_in #[t6]) w1 fun t7 w2 =>
  pureK Try.prog (sUn .not t7) fun t8 =>
  ifB t8
  (K (.bool false) w2)
  (pureK Try.prog (sFieldAddr T_api_Producer p1 1) fun t10 =>
   readK Try.prog (sLoad T_int t10) w2 fun t11 =>
   upK Try.prog (sCall F_producer_in #[t11]) w2 fun t12 w3 =>
   pureK Try.prog (sUn .not t12) fun t13 =>
   ifB t13
   (K (.bool false) w3)
   (pureK Try.prog (sFieldAddr T_api_Producer p1 2) fun t16 =>
    readK Try.prog (sLoad T_int t16) w3 fun t17 =>
    upK Try.prog (sCall F_producer_in #[t17]) w3 fun t18 w4 =>
    pureK Try.prog (sUn .not t18) fun t19 =>
    ifB t19
    (K (.bool false) w4)
    (pureK Try.prog (sFieldAddr T_api_Producer p1 3) fun t22 =>
     readK Try.prog (sLoad T_s_int t22) w4 fun t23 =>
     readK Try.prog (sBlt .len #[T_s_int] T_int #[false] #[t23]) w4 fun t24 =>
     pureK Try.prog (sFieldAddr T_api_Producer p1 2) fun t25 =>
     readK Try.prog (sLoad T_int t25) w4 fun t26 =>
     pureK Try.prog (sBlt .min #[T_int, T_int] T_int #[false, true] #[t26, (.int .i64 20)]) fun t27 =>
     pureK Try.prog (sBin .neq T_int (.tmp 24) (.tmp 27) t24 t27) fun t28 =>
     ifB t28
     (K (.bool false) w4)
     (pureK Try.prog (sFieldAddr T_api_Producer p1 3) fun t30 =>
      readK Try.prog (sLoad T_s_int t30) w4 fun t31 =>
      readK Try.prog (sBlt .len #[T_s_int] T_int #[false] #[t31]) w4 fun t32 =>
      LOOP (X := Value × Unit) (fun x5 w5 next5 =>
       pureK Try.prog (sBin .lss T_int (.tmp 33) (.tmp 32) x5.1 t32) fun t34 =>
       ifB t34
       (LETJ (X := Unit) (fun y1 w6 =>
         pureK Try.prog (sBin .add T_int (.tmp 33) (.const (.int .i64 1)) x5.1 (.int .i64 1)) fun t55 =>
         next5 (t55, ()) w6)
        (fun J1 =>
         pureK Try.prog (sIdxAddr T_s_int t31 x5.1) fun t36 =>
         readK Try.prog (sLoad T_int t36) w5 fun t37 =>
         upK Try.prog (sCall F_producer_in #[t37]) w5 fun t39 w7 =>
         pureK Try.prog (sUn .not t39) fun t40 =>
         ifB t40
         (K (.bool false) w7)
         (pureK Try.prog (sBin .gtr T_int (.tmp 42) (.const (.int .i64 0)) x5.1 (.int .i64 0)) fun t43 =>
          ifB t43
          (pureK Try.prog (sFieldAddr T_api_Producer p1 3) fun t46 =>
           readK Try.prog (sLoad T_s_int t46) w7 fun t47 =>
           pureK Try.prog (sBin .sub T_int (.tmp 48) (.const (.int .i64 1)) x5.1 (.int .i64 1)) fun t49 =>
           pureK Try.prog (sIdxAddr T_s_int t47 t49) fun t50 =>
           readK Try.prog (sLoad T_int t50) w7 fun t51 =>
           pureK Try.prog (sBin .leq T_int (.tmp 45) (.tmp 51) t37 t51) fun t52 =>
           ifB t52
           (K (.bool false) w7)
           (J1 (()) w7))
          (J1 (()) w7))))
       (K (.bool true) w5))
      ((.int .i64 0), ()) w4))))
theorem producer_fine.pt_eq : producer_fine.pt = fun p0 w K => FN Try.prog Try.f18 (bodyOf Try.f18) [2] (.node none .leaf (.node none .leaf (.node none (.node none .leaf (.node none (.node none (.node none .leaf (.node none .leaf (.node (some []) .leaf .leaf))) .leaf) .leaf)) .leaf))) [p0] w K := by kernel_rfl
theorem producer_fine.call {p0 : Value} {w : World} {K : Value → World → Prop} (h : producer_fine.pt p0 w K) : Calls Try.prog F_producer_fine #[p0] w (retK K) :=
  calls_FN (args := [p0]) Try.func18 (by kernel_rfl) (by rw [producer_fine.pt_eq] at h; exact h)
theorem producer_fine.up {p0 : Value} {w : World} {K : Value → World → Prop} (h : Calls Try.prog F_producer_fine #[p0] w (retK K)) : upK Try.prog (sCall F_producer_fine #[p0]) w K :=
  up_call (fn := Try.f18) Try.func18 (by kernel_rfl) (by kernel_rfl) h

/-- errata/errataref10.in -/
def errataref10_in.pt (n0 : Value) (w : World) (K : Value → World → Prop) : Prop :=
  pureK Try.prog (sBin .geq T_int (.tmp 3) (.const (.int .i64 0)) n0 (.int .i64 0)) fun t4 =>
  ifB t4
  (pureK Try.prog (sBin .leq T_int (.tmp 6) (.const (.int .i64 1099511627776)) n0 (.int .i64 1099511627776)) fun t7 =>
   K t7 w)
  (K (.bool false) w)
theorem errataref10_in.pt_eq : errataref10_in.pt = fun n0 w K => FN Try.prog Try.f19 (bodyOf Try.f19) [2] .leaf [n0] w K := by kernel_rfl
theorem errataref10_in.call {n0 : Value} {w : World} {K : Value → World → Prop} (h : errataref10_in.pt n0 w K) : Calls Try.prog F_errataref10_in #[n0] w (retK K) :=
  calls_FN (args := [n0]) Try.func19 (by kernel_rfl) (by rw [errataref10_in.pt_eq] at h; exact h)
theorem errataref10_in.up {n0 : Value} {w : World} {K : Value → World → Prop} (h : Calls Try.prog F_errataref10_in #[n0] w (retK K)) : upK Try.prog (sCall F_errataref10_in #[n0]) w K :=
  up_call (fn := Try.f19) Try.func19 (by kernel_rfl) (by kernel_rfl) h

/-- slices.IndexFunc[[]errata/api.Producer,errata/api.Producer] -/
def slices_IndexFunc_s_api_Producer_api_Producer.pt (s0 f1 : Value) (w : World) (K : Value → World → Prop) : Prop :=
  readK Try.prog (sBlt .len #[T_s_api_Producer] T_int #[false] #[s0]) w fun t7 =>
  LOOP (X := Value × Unit) (fun x1 w1 next1 =>
   pureK Try.prog (sBin .lss T_int (.tmp 8) (.tmp 7) x1.1 t7) fun t9 =>
   ifB t9
   (pureK Try.prog (sIdxAddr T_s_api_Producer s0 x1.1) fun t14 =>
    readK Try.prog (sLoad T_api_Producer t14) w1 fun t15 =>
    upK Try.prog (sCallV f1 #[t15]) w1 fun t16 w2 =>
    ifB t16
    (K x1.1 w2)
    (pureK Try.prog (sBin .add T_int (.tmp 8) (.const (.int .i64 1)) x1.1 (.int .i64 1)) fun t18 =>
     next1 (t18, ()) w2))
   (K (.int .i64 (-1)) w1))
  ((.int .i64 0), ()) w
theorem slices_IndexFunc_s_api_Producer_api_Producer.pt_eq : slices_IndexFunc_s_api_Producer_api_Producer.pt = fun s0 f1 w K => FN Try.prog Try.f20 (bodyOf Try.f20) [4] .leaf [s0, f1] w K := by kernel_rfl
theorem slices_IndexFunc_s_api_Producer_api_Producer.call {s0 f1 : Value} {w : World} {K : Value → World → Prop} (h : slices_IndexFunc_s_api_Producer_api_Producer.pt s0 f1 w K) : Calls Try.prog F_slices_IndexFunc_s_api_Producer_api_Producer #[s0, f1] w (retK K) :=
  calls_FN (args := [s0, f1]) Try.func20 (by kernel_rfl) (by rw [slices_IndexFunc_s_api_Producer_api_Producer.pt_eq] at h; exact h)
theorem slices_IndexFunc_s_api_Producer_api_Producer.up {s0 f1 : Value} {w : World} {K : Value → World → Prop} (h : Calls Try.prog F_slices_IndexFunc_s_api_Producer_api_Producer #[s0, f1] w (retK K)) : upK Try.prog (sCall F_slices_IndexFunc_s_api_Producer_api_Producer #[s0, f1]) w K :=
  up_call (fn := Try.f20) Try.func20 (by kernel_rfl) (by kernel_rfl) h

/-- errata/producer.find$1 -/
def producer_find_1.pt (p0 t1 : Value) (w : World) (K : Value → World → Prop) : Prop :=
  upK Try.prog (sBox T_api_Producer p0) w fun p2 w1 =>
  pureK Try.prog (sFieldAddr T_api_Producer p2 0) fun t4 =>
  readK Try.prog (sLoad T_int t4) w1 fun t5 =>
  readK Try.prog (sLoad T_int t1) w1 fun t6 =>
  pureK Try.prog (sBin .eql T_int (.tmp 5) (.tmp 6) t5 t6) fun t7 =>
  K t7 w1
theorem producer_find_1.pt_eq : producer_find_1.pt = fun p0 t1 w K => FN Try.prog Try.f21 (bodyOf Try.f21) [3] .leaf [p0, t1] w K := by kernel_rfl
theorem producer_find_1.call {p0 t1 : Value} {w : World} {K : Value → World → Prop} (h : producer_find_1.pt p0 t1 w K) : Calls Try.prog F_producer_find_1 #[p0, t1] w (retK K) :=
  calls_FN (args := [p0, t1]) Try.func21 (by kernel_rfl) (by rw [producer_find_1.pt_eq] at h; exact h)
theorem producer_find_1.up {p0 t1 : Value} {w : World} {K : Value → World → Prop} (h : Calls Try.prog F_producer_find_1 #[p0, t1] w (retK K)) : upK Try.prog (sCall F_producer_find_1 #[p0, t1]) w K :=
  up_call (fn := Try.f21) Try.func21 (by kernel_rfl) (by kernel_rfl) h

/-- slices.BinarySearchFunc[[]errata/api.Producer,errata/api.Producer,int] -/
def slices_BinarySearchFunc_s_api_Producer_api_Producer_int.pt (x0 target1 cmp2 : Value) (w : World) (K : Value → World → Prop) : Prop :=
  readK Try.prog (sBlt .len #[T_s_api_Producer] T_int #[false] #[x0]) w fun t13 =>
  LETJ (X := Value × Unit) (fun y1 w1 =>
   pureK Try.prog (sBin .lss T_int (.tmp 36) (.tmp 37) y1.1 t13) fun t38 =>
   ifB t38
   (pureK Try.prog (sIdxAddr T_s_api_Producer x0 y1.1) fun t43 =>
    readK Try.prog (sLoad T_api_Producer t43) w1 fun t44 =>
    upK Try.prog (sCallV cmp2 #[t44, target1]) w1 fun t46 w2 =>
    pureK Try.prog (sBin .eql T_int (.tmp 46) (.const (.int .i64 0)) t46 (.int .i64 0)) fun t47 =>
    K (.tuple #[y1.1, t47]) w2)
   (K (.tuple #[y1.1, (.bool false)]) w1))
  (fun J1 =>
   LOOP (X := Value × Value × Unit) (fun x3 w3 next3 =>
    pureK Try.prog (sBin .lss T_int (.tmp 15) (.tmp 16) x3.1 x3.2.1) fun t17 =>
    ifB t17
    (pureK Try.prog (sBin .add T_int (.tmp 18) (.tmp 19) x3.1 x3.2.1) fun t20 =>
     upK Try.prog (sConv T_int T_uint t20) w3 fun t21 w4 =>
     pureK Try.prog (sBin .shr T_uint (.tmp 21) (.const (.int .u64 1)) t21 (.int .u64 1)) fun t22 =>
     upK Try.prog (sConv T_uint T_int t22) w4 fun t23 w5 =>
     pureK Try.prog (sIdxAddr T_s_api_Producer x0 t23) fun t27 =>
     readK Try.prog (sLoad T_api_Producer t27) w5 fun t28 =>
     upK Try.prog (sCallV cmp2 #[t28, target1]) w5 fun t30 w6 =>
     pureK Try.prog (sBin .lss T_int (.tmp 30) (.const (.int .i64 0)) t30 (.int .i64 0)) fun t31 =>
     ifB t31
     (pureK Try.prog (sBin .add T_int (.tmp 32) (.const (.int .i64 1)) t23 (.int .i64 1)) fun t33 =>
      next3 (t33, x3.2.1, ()) w6)
     (next3 (x3.1, t23, ()) w6))
    (J1 (x3.1, ()) w3))
   ((.int .i64 0), t13, ()) w)
theorem slices_BinarySearchFunc_s_api_Producer_api_Producer_int.pt_eq : slices_BinarySearchFunc_s_api_Producer_api_Producer_int.pt = fun x0 target1 cmp2 w K => FN Try.prog Try.f22 (bodyOf Try.f22) [6, 7] (.node none .leaf (.node none .leaf (.node none .leaf (.node (some [9]) .leaf .leaf)))) [x0, target1, cmp2] w K := by kernel_rfl
theorem slices_BinarySearchFunc_s_api_Producer_api_Producer_int.call {x0 target1 cmp2 : Value} {w : World} {K : Value → World → Prop} (h : slices_BinarySearchFunc_s_api_Producer_api_Producer_int.pt x0 target1 cmp2 w K) : Calls Try.prog F_slices_BinarySearchFunc_s_api_Producer_api_Producer_int #[x0, target1, cmp2] w (retK K) :=
  calls_FN (args := [x0, target1, cmp2]) Try.func22 (by kernel_rfl) (by rw [slices_BinarySearchFunc_s_api_Producer_api_Producer_int.pt_eq] at h; exact h)
theorem slices_BinarySearchFunc_s_api_Producer_api_Producer_int.up {x0 target1 cmp2 : Value} {w : World} {K : Value → World → Prop} (h : Calls Try.prog F_slices_BinarySearchFunc_s_api_Producer_api_Producer_int #[x0, target1, cmp2] w (retK K)) : upK Try.prog (sCall F_slices_BinarySearchFunc_s_api_Producer_api_Producer_int #[x0, target1, cmp2]) w K :=
  up_call (fn := Try.f22) Try.func22 (by kernel_rfl) (by kernel_rfl) h

/-- errata/producer.with$1 -/
def producer_with_1.pt (x0 id1 : Value) (w : World) (K : Value → World → Prop) : Prop :=
  upK Try.prog (sBox T_api_Producer x0) w fun x2 w1 =>
  pureK Try.prog (sFieldAddr T_api_Producer x2 0) fun t5 =>
  readK Try.prog (sLoad T_int t5) w1 fun t6 =>
  pureK Try.prog (sBin .sub T_int (.tmp 6) (.tmp 7) t6 id1) fun t8 =>
  K t8 w1
theorem producer_with_1.pt_eq : producer_with_1.pt = fun x0 id1 w K => FN Try.prog Try.f23 (bodyOf Try.f23) [4] .leaf [x0, id1] w K := by kernel_rfl
theorem producer_with_1.call {x0 id1 : Value} {w : World} {K : Value → World → Prop} (h : producer_with_1.pt x0 id1 w K) : Calls Try.prog F_producer_with_1 #[x0, id1] w (retK K) :=
  calls_FN (args := [x0, id1]) Try.func23 (by kernel_rfl) (by rw [producer_with_1.pt_eq] at h; exact h)
theorem producer_with_1.up {x0 id1 : Value} {w : World} {K : Value → World → Prop} (h : Calls Try.prog F_producer_with_1 #[x0, id1] w (retK K)) : upK Try.prog (sCall F_producer_with_1 #[x0, id1]) w K :=
  up_call (fn := Try.f23) Try.func23 (by kernel_rfl) (by kernel_rfl) h

/-- slices.Insert[[]errata/api.Producer,errata/api.Producer] -/
def slices_Insert_s_api_Producer_api_Producer.pt (s0 i1 v2 : Value) (w : World) (K : Value → World → Prop) : Prop :=
  pureK Try.prog (sSlice T_s_api_Producer s0 (some i1) none none) fun t12 =>
  readK Try.prog (sBlt .len #[T_s_api_Producer] T_int #[false] #[v2]) w fun t14 =>
  pureK Try.prog (sBin .eql T_int (.tmp 15) (.const (.int .i64 0)) t14 (.int .i64 0)) fun t16 =>
  ifB t16
  (K s0 w)
  (readK Try.prog (sBlt .len #[T_s_api_Producer] T_int #[false] #[s0]) w fun t19 =>
   pureK Try.prog (sBin .eql T_int (.tmp 20) (.tmp 21) i1 t19) fun t22 =>
   ifB t22
   (upK Try.prog (sBlt .append #[T_s_api_Producer, T_s_api_Producer] T_s_api_Producer #[false, false] #[s0, v2]) w fun t25 w1 =>
    K t25 w1)
   (pureK Try.prog (sBin .add T_int (.tmp 26) (.tmp 27) t19 t14) fun t28 =>
    readK Try.prog (sBlt .cap #[T_s_api_Producer] T_int #[false] #[s0]) w fun t30 =>
    pureK Try.prog (sBin .gtr T_int (.tmp 28) (.tmp 30) t28 t30) fun t31 =>
    ifB t31
    (pureK Try.prog (sSlice T_s_api_Producer s0 none (some i1) none) fun t34 =>
     pureK Try.prog (sBin .add T_int (.tmp 35) (.tmp 36) t19 t14) fun t37 =>
     pureK Try.prog (sBin .sub T_int (.tmp 37) (.tmp 38) t37 i1) fun t39 =>
     upK Try.prog (sBlt .append #[T_s_api_Producer, T_int] T_s_api_Producer #[false, false] #[t34, t39]) w fun t40 w2 =>
     pureK Try.prog (sSlice T_s_api_Producer t40 (some i1) none none) fun t43 =>
     upK Try.prog (sBlt .copy #[T_s_api_Producer, T_s_api_Producer] T_int #[false, false] #[t43, v2]) w2 fun t45 w3 =>
     pureK Try.prog (sBin .add T_int (.tmp 47) (.tmp 48) i1 t14) fun t49 =>
     pureK Try.prog (sSlice T_s_api_Producer t40 (some t49) none none) fun t50 =>
     pureK Try.prog (sSlice T_s_api_Producer s0 (some i1) none none) fun t53 =>
     upK Try.prog (sBlt .copy #[T_s_api_Producer, T_s_api_Producer] T_int #[false, false] #[t50, t53]) (tick w3) fun t54 w4 =>
     K t40 w4)
    (pureK Try.prog (sBin .add T_int (.tmp 57) (.tmp 58) t19 t14) fun t59 =>
     pureK Try.prog (sSlice T_s_api_Producer s0 none (some t59) none) fun t60 =>
     pureK Try.prog (sBin .add T_int (.tmp 63) (.tmp 64) i1 t14) fun t65 =>
     pureK Try.prog (sSlice T_s_api_Producer t60 (some t65) none none) fun t66 =>
     upK Try.prog (sCall F_slices_overlaps_api_Producer #[v2, t66]) w fun t67 w5 =>
     pureK Try.prog (sUn .not t67) fun t68 =>
     ifB t68
     (pureK Try.prog (sBin .add T_int (.tmp 70) (.tmp 71) i1 t14) fun t72 =>
      pureK Try.prog (sSlice T_s_api_Producer t60 (some t72) none none) fun t73 =>
      pureK Try.prog (sSlice T_s_api_Producer t60 (some i1) none none) fun t76 =>
      upK Try.prog (sBlt .copy #[T_s_api_Producer, T_s_api_Producer] T_int #[false, false] #[t73, t76]) (tick w5) fun t77 w6 =>
      pureK Try.prog (sSlice T_s_api_Producer t60 (some i1) none none) fun t80 =>
      upK Try.prog (sBlt .copy #[T_s_api_Producer, T_s_api_Producer] T_int #[false, false] #[t80, v2]) w6 fun t82 w7 =>
      K t60 w7)
     (pureK Try.prog (sSlice T_s_api_Producer t60 (some t19) none none) fun t86 =>
      upK Try.prog (sBlt .copy #[T_s_api_Producer, T_s_api_Producer] T_int #[false, false] #[t86, v2]) w5 fun t88 w8 =>
      pureK Try.prog (sSlice T_s_api_Producer t60 (some i1) none none) fun t91 =>
      upK Try.prog (sCall F_slices_rotateRight_api_Producer #[t91, t14]) w8 fun t93 w9 =>
      K t60 w9))))
theorem slices_Insert_s_api_Producer_api_Producer.pt_eq : slices_Insert_s_api_Producer_api_Producer.pt = fun s0 i1 v2 w K => FN Try.prog Try.f24 (bodyOf Try.f24) [6] .leaf [s0, i1, v2] w K := by kernel_rfl
theorem slices_Insert_s_api_Producer_api_Producer.call {s0 i1 v2 : Value} {w : World} {K : Value → World → Prop} (h : slices_Insert_s_api_Producer_api_Producer.pt s0 i1 v2 w K) : Calls Try.prog F_slices_Insert_s_api_Producer_api_Producer #[s0, i1, v2] w (retK K) :=
  calls_FN (args := [s0, i1, v2]) Try.func24 (by kernel_rfl) (by rw [slices_Insert_s_api_Producer_api_Producer.pt_eq] at h; exact h)
theorem slices_Insert_s_api_Producer_api_Producer.up {s0 i1 v2 : Value} {w : World} {K : Value → World → Prop} (h : Calls Try.prog F_slices_Insert_s_api_Producer_api_Producer #[s0, i1, v2] w (retK K)) : upK Try.prog (sCall F_slices_Insert_s_api_Producer_api_Producer #[s0, i1, v2]) w K :=
  up_call (fn := Try.f24) Try.func24 (by kernel_rfl) (by kernel_rfl) h

/-- slices.rotateRight[errata/api.Producer] -/
def slices_rotateRight_api_Producer.pt (s0 r1 : Value) (w : World) (K : Value → World → Prop) : Prop :=
  readK Try.prog (sBlt .len #[T_s_api_Producer] T_int #[false] #[s0]) w fun t6 =>
  pureK Try.prog (sBin .sub T_int (.tmp 6) (.tmp 7) t6 r1) fun t8 =>
  upK Try.prog (sCall F_slices_rotateLeft_api_Producer #[s0, t8]) w fun t9 w1 =>
  K (.tuple #[]) w1
theorem slices_rotateRight_api_Producer.pt_eq : slices_rotateRight_api_Producer.pt = fun s0 r1 w K => FN Try.prog Try.f26 (bodyOf Try.f26) [] .leaf [s0, r1] w K := by kernel_rfl
theorem slices_rotateRight_api_Producer.call {s0 r1 : Value} {w : World} {K : Value → World → Prop} (h : slices_rotateRight_api_Producer.pt s0 r1 w K) : Calls Try.prog F_slices_rotateRight_api_Producer #[s0, r1] w (retK K) :=
  calls_FN (args := [s0, r1]) Try.func26 (by kernel_rfl) (by rw [slices_rotateRight_api_Producer.pt_eq] at h; exact h)
theorem slices_rotateRight_api_Producer.up {s0 r1 : Value} {w : World} {K : Value → World → Prop} (h : Calls Try.prog F_slices_rotateRight_api_Producer #[s0, r1] w (retK K)) : upK Try.prog (sCall F_slices_rotateRight_api_Producer #[s0, r1]) w K :=
  up_call (fn := Try.f26) Try.func26 (by kernel_rfl) (by kernel_rfl) h

/-- slices.rotateLeft[errata/api.Producer] -/
def slices_rotateLeft_api_Producer.pt (s0 r1 : Value) (w : World) (K : Value → World → Prop) : Prop :=
  pureK Try.prog (sSlice T_s_api_Producer s0 none (some r1) none) fun t6 =>
  upK Try.prog (sCall F_slices_Reverse_s_api_Producer_api_Producer #[t6]) w fun t7 w1 =>
  pureK Try.prog (sSlice T_s_api_Producer s0 (some r1) none none) fun t10 =>
  upK Try.prog (sCall F_slices_Reverse_s_api_Producer_api_Producer #[t10]) w1 fun t11 w2 =>
  upK Try.prog (sCall F_slices_Reverse_s_api_Producer_api_Producer #[s0]) w2 fun t13 w3 =>
  K (.tuple #[]) w3
theorem slices_rotateLeft_api_Producer.pt_eq : slices_rotateLeft_api_Producer.pt = fun s0 r1 w K => FN Try.prog Try.f27 (bodyOf Try.f27) [] .leaf [s0, r1] w K := by kernel_rfl
theorem slices_rotateLeft_api_Producer.call {s0 r1 : Value} {w : World} {K : Value → World → Prop} (h : slices_rotateLeft_api_Producer.pt s0 r1 w K) : Calls Try.prog F_slices_rotateLeft_api_Producer #[s0, r1] w (retK K) :=
  calls_FN (args := [s0, r1]) Try.func27 (by kernel_rfl) (by rw [slices_rotateLeft_api_Producer.pt_eq] at h; exact h)
theorem slices_rotateLeft_api_Producer.up {s0 r1 : Value} {w : World} {K : Value → World → Prop} (h : Calls Try.prog F_slices_rotateLeft_api_Producer #[s0, r1] w (retK K)) : upK Try.prog (sCall F_slices_rotateLeft_api_Producer #[s0, r1]) w K :=
  up_call (fn := Try.f27) Try.func27 (by kernel_rfl) (by kernel_rfl) h

/-- slices.Reverse[[]errata/api.Producer,errata/api.Producer] -/
def slices_Reverse_s_api_Producer_api_Producer.pt (s0 : Value) (w : World) (K : Value → World → Prop) : Prop :=
  readK Try.prog (sBlt .len #[T_s_api_Producer] T_int #[false] #[s0]) w fun t5 =>
  pureK Try.prog (sBin .sub T_int (.tmp 5) (.const (.int .i64 1)) t5 (.int .i64 1)) fun t6 =>
  LOOP (X := Value × Value × Unit) (fun x1 w1 next1 =>
   pureK Try.prog (sBin .lss T_int (.tmp 7) (.tmp 8) x1.1 x1.2.1) fun t9 =>
   ifB t9
   (pureK Try.prog (sIdxAddr T_s_api_Producer s0 x1.2.1) fun t20 =>
    readK Try.prog (sLoad T_api_Producer t20) (tick w1) fun t21 =>
    pureK Try.prog (sIdxAddr T_s_api_Producer s0 x1.1) fun t24 =>
    readK Try.prog (sLoad T_api_Producer t24) (tick w1) fun t25 =>
    pureK Try.prog (sIdxAddr T_s_api_Producer s0 x1.1) fun t26 =>
    upK Try.prog (sStore T_api_Producer t26 t21) (tick w1) fun tu w2 =>
    pureK Try.prog (sIdxAddr T_s_api_Producer s0 x1.2.1) fun t27 =>
    upK Try.prog (sStore T_api_Producer t27 t25) w2 fun tu_1 w3 =>
    pureK Try.prog (sBin .add T_int (.tmp 10) (.const (.int .i64 1)) x1.1 (.int .i64 1)) fun t11 =>
    pureK Try.prog (sBin .sub T_int (.tmp 12) (.const (.int .i64 1)) x1.2.1 (.int .i64 1)) fun t13 =>
    next1 (t11, t13, ()) w3)
   (K (.tuple #[]) w1))
  ((.int .i64 0), t6, ()) w
theorem slices_Reverse_s_api_Producer_api_Producer.pt_eq : slices_Reverse_s_api_Producer_api_Producer.pt = fun s0 w K => FN Try.prog Try.f28 (bodyOf Try.f28) [] .leaf [s0] w K := by kernel_rfl
theorem slices_Reverse_s_api_Producer_api_Producer.call {s0 : Value} {w : World} {K : Value → World → Prop} (h : slices_Reverse_s_api_Producer_api_Producer.pt s0 w K) : Calls Try.prog F_slices_Reverse_s_api_Producer_api_Producer #[s0] w (retK K) :=
  calls_FN (args := [s0]) Try.func28 (by kernel_rfl) (by rw [slices_Reverse_s_api_Producer_api_Producer.pt_eq] at h; exact h)
theorem slices_Reverse_s_api_Producer_api_Producer.up {s0 : Value} {w : World} {K : Value → World → Prop} (h : Calls Try.prog F_slices_Reverse_s_api_Producer_api_Producer #[s0] w (retK K)) : upK Try.prog (sCall F_slices_Reverse_s_api_Producer_api_Producer #[s0]) w K :=
  up_call (fn := Try.f28) Try.func28 (by kernel_rfl) (by kernel_rfl) h

end Go.Proofs.Ytppnebcpalialaa
