/-
  The reckoned conditions of the functions that this seat's statements reach, printed by program, each held against the translation by the kernel. No condition.
-/
import Derived.Test.YtmllhipiahlihaaNames
namespace Go.Proofs.Ytmllhipiahlihaa
set_option linter.unusedVariables false

/-- errata/erratalaw12.RetainHolds -/
def erratalaw12_RetainHolds.pt (part0 l1 time2 : Value) (w : World) (K : Value → World → Prop) : Prop :=
  upK Try.prog (sCall F_erratalaw12_small #[]) w fun t17 w1 =>
  upK Try.prog (sCall F_erratalaw12_few #[l1]) w1 fun t19 w2 =>
  pureK Try.prog (sUn .not t19) fun t20 =>
  ifB t20
  (K t17 w2)
  (upK Try.prog (sCall F_retain_New #[part0]) w2 fun t23 w3 =>
   pureK Try.prog (sBin .eql T_p_retain_Store (.tmp 24) (.const (.pointer none)) t23 (.pointer none)) fun t25 =>
   ifB t25
   (K (.bool false) w3)
   (LOOP (X := Value × Value × Value × Value × Unit) (fun x4 w4 next4 =>
     readK Try.prog (sBlt .len #[T_s_erratalaw12_Op] T_int #[false] #[l1]) w4 fun t28 =>
     pureK Try.prog (sBin .lss T_int (.tmp 26) (.tmp 28) x4.2.2.2.1 t28) fun t29 =>
     ifB t29
     (LETJ (X := Value × Value × Value × Unit) (fun y1 w5 =>
       pureK Try.prog (sBin .add T_int (.tmp 30) (.const (.int .i64 1)) x4.2.2.2.1 (.int .i64 1)) fun t31 =>
       next4 (y1.1, y1.2.1, y1.2.2.1, t31, ()) w5)
      (fun J1 =>
       pureK Try.prog (sIdxAddr T_s_erratalaw12_Op l1 x4.2.2.2.1) fun t34 =>
       readK Try.prog (sLoad T_erratalaw12_Op t34) w4 fun t35 =>
       upK Try.prog (sAlloc T_erratalaw12_Op) w4 fun o13 w6 =>
       upK Try.prog (sStore T_erratalaw12_Op o13 t35) w6 fun tu w7 =>
       LETJ (X := Unit) (fun y2 w8 =>
        LETJ (X := Value × Unit) (fun y3 w9 =>
         upK Try.prog (sCall F_retain_Store_First #[t23]) w9 fun t82 w10 =>
         pureK Try.prog (sBin .lss T_int (.tmp 82) (.tmp 83) t82 x4.2.1) fun t84 =>
         ifB t84
         (K (.bool false) w10)
         (upK Try.prog (sCall F_retain_Store_Horizon #[t23]) w10 fun t87 w11 =>
          pureK Try.prog (sBin .lss T_int (.tmp 87) (.tmp 88) t87 x4.2.2.1) fun t89 =>
          ifB t89
          (K (.bool false) w11)
          (upK Try.prog (sCall F_retain_Store_First #[t23]) w11 fun t93 w12 =>
           readK Try.prog (sBlt .len #[T_s_api_Event] T_int #[false] #[y3.1]) w12 fun t95 =>
           pureK Try.prog (sBin .gtr T_int (.tmp 93) (.tmp 95) t93 t95) fun t96 =>
           ifB t96
           (K (.bool false) w12)
           (upK Try.prog (sCall F_retain_Store_Next #[t23]) w12 fun t100 w13 =>
            readK Try.prog (sBlt .len #[T_s_api_Event] T_int #[false] #[y3.1]) w13 fun t102 =>
            pureK Try.prog (sBin .neq T_int (.tmp 100) (.tmp 102) t100 t102) fun t103 =>
            ifB t103
            (K (.bool false) w13)
            (upK Try.prog (sCall F_retain_Store_First #[t23]) w13 fun t106 w14 =>
             upK Try.prog (sCall F_retain_Store_Horizon #[t23]) w14 fun t108 w15 =>
             pureK Try.prog (sSlice T_s_api_Event y3.1 (some t106) none none) fun t113 =>
             upK Try.prog (sCall F_retain_Store_Slice #[t23, (.int .i64 0), (.int .i64 100)]) (tick w15) fun t110 w16 =>
             upK Try.prog (sCall F_errataref12_Same #[t110, t113]) w16 fun t114 w17 =>
             pureK Try.prog (sUn .not t114) fun t115 =>
             ifB t115
             (K (.bool false) w17)
             (LOOP (X := Value × Value × Unit) (fun x18 w18 next18 =>
               readK Try.prog (sBlt .len #[T_s_api_Event] T_int #[false] #[y3.1]) w18 fun t118 =>
               pureK Try.prog (sBin .lss T_int (.tmp 116) (.tmp 118) x18.2.1 t118) fun t119 =>
               ifB t119
               (LETJ (X := Value × Unit) (fun y4 w19 =>
                 pureK Try.prog (sBin .add T_int (.tmp 120) (.const (.int .i64 1)) x18.2.1 (.int .i64 1)) fun t121 =>
                 next18 (y4.1, t121, ()) w19)
                (fun J4 =>
                 pureK Try.prog (sIdxAddr T_s_api_Event y3.1 x18.2.1) fun t124 =>
                 pureK Try.prog (sFieldAddr T_api_Event t124 4) fun t125 =>
                 readK Try.prog (sLoad T_int t125) w18 fun t126 =>
                 pureK Try.prog (sBin .geq T_int (.tmp 126) (.tmp 127) t126 time2) fun t128 =>
                 ifB t128
                 (pureK Try.prog (sIdxAddr T_s_api_Event y3.1 x18.2.1) fun t132 =>
                  readK Try.prog (sLoad T_api_Event t132) w18 fun t133 =>
                  upK Try.prog (sBuildSlice T_s_api_Event 1 #[(0, t133)]) w18 fun t134 w20 =>
                  upK Try.prog (sBlt .append #[T_s_api_Event, T_s_api_Event] T_s_api_Event #[false, false] #[x18.1, t134]) w20 fun t135 w21 =>
                  J4 (t135, ()) w21)
                 (J4 (x18.1, ()) w18)))
               (pureK Try.prog (sBin .geq T_int (.tmp 136) (.tmp 137) time2 t108) fun t138 =>
                ifB t138
                (upK Try.prog (sCall F_retain_Store_From #[t23, time2]) w18 fun t142 w22 =>
                 upK Try.prog (sCall F_errataref12_Same #[t142, x18.1]) w22 fun t144 w23 =>
                 pureK Try.prog (sUn .not t144) fun t145 =>
                 ifB t145
                 (K (.bool false) w23)
                 (J1 (y3.1, t106, t108, ()) w23))
                (J1 (y3.1, t106, t108, ()) w18)))
              ((.slice none 0 0), (.int .i64 0), ()) w17))))))
        (fun J3 =>
         pureK Try.prog (sFieldAddr T_erratalaw12_Op o13 0) fun t42 =>
         readK Try.prog (sLoad T_int t42) w8 fun t43 =>
         upK Try.prog (sCall F_erratalaw12_pick #[t43, (.int .i64 5)]) w8 fun t44 w24 =>
         LETJ (X := Value × Unit) (fun y5 w25 =>
          ifB y5.1
          (pureK Try.prog (sFieldAddr T_erratalaw12_Op o13 1) fun t49 =>
           readK Try.prog (sLoad T_api_Event t49) w25 fun t50 =>
           upK Try.prog (sCall F_retain_Store_Add #[t23, t50]) w25 fun t51 w26 =>
           LETJ (X := Unit) (fun y6 w27 =>
            pureK Try.prog (sBin .eql T_api_Errno (.tmp 62) (.const (.int .i64 0)) t51 (.int .i64 0)) fun t63 =>
            ifB t63
            (pureK Try.prog (sFieldAddr T_erratalaw12_Op o13 1) fun t65 =>
             readK Try.prog (sLoad T_api_Event t65) w27 fun t66 =>
             upK Try.prog (sBuildSlice T_s_api_Event 1 #[(0, t66)]) w27 fun t67 w28 =>
             upK Try.prog (sBlt .append #[T_s_api_Event, T_s_api_Event] T_s_api_Event #[false, false] #[x4.1, t67]) w28 fun t68 w29 =>
             J3 (t68, ()) w29)
            (J3 (x4.1, ()) w27))
           (fun J6 =>
            pureK Try.prog (sBin .eql T_api_Errno (.tmp 52) (.const (.int .i64 0)) t51 (.int .i64 0)) fun t53 =>
            ifB t53
            (pureK Try.prog (sFieldAddr T_erratalaw12_Op o13 1) fun t55 =>
             pureK Try.prog (sFieldAddr T_api_Event t55 1) fun t56 =>
             readK Try.prog (sLoad T_int t56) w26 fun t57 =>
             readK Try.prog (sBlt .len #[T_s_api_Event] T_int #[false] #[x4.1]) w26 fun t59 =>
             pureK Try.prog (sBin .neq T_int (.tmp 57) (.tmp 59) t57 t59) fun t60 =>
             ifB t60
             (K (.bool false) w26)
             (J6 (()) w26))
            (J6 (()) w26)))
          (pureK Try.prog (sBin .eql T_int (.tmp 44) (.const (.int .i64 2)) t44 (.int .i64 2)) fun t70 =>
           ifB t70
           (pureK Try.prog (sFieldAddr T_erratalaw12_Op o13 3) fun t72 =>
            readK Try.prog (sLoad T_int t72) w25 fun t73 =>
            upK Try.prog (sCall F_retain_Store_Drop #[t23, t73]) w25 fun t74 w30 =>
            J3 (x4.1, ()) w30)
           (pureK Try.prog (sBin .eql T_int (.tmp 44) (.const (.int .i64 3)) t44 (.int .i64 3)) fun t76 =>
            ifB t76
            (pureK Try.prog (sFieldAddr T_erratalaw12_Op o13 3) fun t78 =>
             readK Try.prog (sLoad T_int t78) w25 fun t79 =>
             upK Try.prog (sCall F_retain_Store_Trim #[t23, t79]) w25 fun t80 w31 =>
             J3 (x4.1, ()) w31)
            (J3 (x4.1, ()) w25))))
         (fun J5 =>
          pureK Try.prog (sBin .eql T_int (.tmp 44) (.const (.int .i64 0)) t44 (.int .i64 0)) fun t46 =>
          ifB t46
          (J5 (t46, ()) w24)
          (pureK Try.prog (sBin .eql T_int (.tmp 44) (.const (.int .i64 1)) t44 (.int .i64 1)) fun t47 =>
           J5 (t47, ()) w24))))
       (fun J2 =>
        pureK Try.prog (sFieldAddr T_erratalaw12_Op o13 2) fun t36 =>
        readK Try.prog (sLoad T_bool t36) w7 fun t37 =>
        ifB t37
        (readK Try.prog (sBlt .len #[T_s_api_Event] T_int #[false] #[x4.1]) w7 fun t39 =>
         pureK Try.prog (sFieldAddr T_erratalaw12_Op o13 1) fun t40 =>
         pureK Try.prog (sFieldAddr T_api_Event t40 1) fun t41 =>
         upK Try.prog (sStore T_int t41 t39) w7 fun tu_1 w32 =>
         J2 (()) w32)
        (J2 (()) w7))))
     (K t17 w4))
    ((.slice none 0 0), (.int .i64 0), (.int .i64 0), (.int .i64 0), ()) w3))
theorem erratalaw12_RetainHolds.pt_eq : erratalaw12_RetainHolds.pt = fun part0 l1 time2 w K => FN Try.prog Try.f3 (bodyOf Try.f3) [6] (.node none .leaf (.node none .leaf (.node none .leaf (.node none .leaf (.node none .leaf (.node none .leaf (.node none .leaf (.node none .leaf (.node none (.node none .leaf (.node none (.node none (.node none .leaf (.node (some [9, 10, 11]) (.node none (.node none .leaf (.node (some []) .leaf (.node (some [9]) (.node none .leaf (.node none (.node (some [45]) .leaf (.node none (.node none .leaf (.node (some []) .leaf .leaf)) .leaf)) .leaf)) (.node none .leaf (.node none .leaf (.node none .leaf (.node none .leaf (.node none .leaf (.node none (.node none .leaf (.node none (.node none (.node none .leaf (.node (some [15]) .leaf .leaf)) .leaf) .leaf)) .leaf))))))))) .leaf) .leaf)) .leaf) .leaf)) .leaf))))))))) [part0, l1, time2] w K := by kernel_rfl
theorem erratalaw12_RetainHolds.call {part0 l1 time2 : Value} {w : World} {K : Value → World → Prop} (h : erratalaw12_RetainHolds.pt part0 l1 time2 w K) : Calls Try.prog F_erratalaw12_RetainHolds #[part0, l1, time2] w (retK K) :=
  calls_FN (args := [part0, l1, time2]) Try.func3 (by kernel_rfl) (by rw [erratalaw12_RetainHolds.pt_eq] at h; exact h)
theorem erratalaw12_RetainHolds.up {part0 l1 time2 : Value} {w : World} {K : Value → World → Prop} (h : Calls Try.prog F_erratalaw12_RetainHolds #[part0, l1, time2] w (retK K)) : upK Try.prog (sCall F_erratalaw12_RetainHolds #[part0, l1, time2]) w K :=
  up_call (fn := Try.f3) Try.func3 (by kernel_rfl) (by kernel_rfl) h

/-- errata/erratalaw12.RetainDrops -/
def erratalaw12_RetainDrops.pt (times0 pos1 time2 : Value) (w : World) (K : Value → World → Prop) : Prop :=
  upK Try.prog (sCall F_erratalaw12_small #[]) w fun t18 w1 =>
  readK Try.prog (sBlt .len #[T_s_int] T_int #[false] #[times0]) w1 fun t20 =>
  pureK Try.prog (sBin .gtr T_int (.tmp 20) (.const (.int .i64 100)) t20 (.int .i64 100)) fun t21 =>
  ifB t21
  (K t18 w1)
  (upK Try.prog (sCall F_retain_New #[(.int .i64 0)]) w1 fun t23 w2 =>
   pureK Try.prog (sBin .eql T_p_retain_Store (.tmp 24) (.const (.pointer none)) t23 (.pointer none)) fun t25 =>
   ifB t25
   (K (.bool false) w2)
   (pureK Try.prog (sBuild T_api_Value #[(1, (.int .i64 7))]) fun t26 =>
    upK Try.prog (sBuildSlice T_s_api_Value 1 #[(0, t26)]) w2 fun t27 w3 =>
    upK Try.prog (sBuildSlice T_s_int 0 #[]) w3 fun t28 w4 =>
    upK Try.prog (sBlt .append #[T_s_int, T_s_int] T_s_int #[false, false] #[t28, times0]) w4 fun t30 w5 =>
    LOOP (X := Value × Unit) (fun x6 w6 next6 =>
     readK Try.prog (sBlt .len #[T_s_int] T_int #[false] #[t30]) w6 fun t33 =>
     pureK Try.prog (sBin .lss T_int (.tmp 31) (.tmp 33) x6.1 t33) fun t34 =>
     ifB t34
     (pureK Try.prog (sIdxAddr T_s_int t30 x6.1) fun t41 =>
      readK Try.prog (sLoad T_int t41) w6 fun t42 =>
      pureK Try.prog (sBin .and T_int (.tmp 42) (.const (.int .i64 1099511627775)) t42 (.int .i64 1099511627775)) fun t43 =>
      pureK Try.prog (sIdxAddr T_s_int t30 x6.1) fun t44 =>
      upK Try.prog (sStore T_int t44 t43) w6 fun tu w7 =>
      pureK Try.prog (sIdxAddr T_s_int t30 x6.1) fun t49 =>
      readK Try.prog (sLoad T_int t49) w7 fun t50 =>
      pureK Try.prog (sBuild T_api_Event #[(1, x6.1), (4, t50), (5, t27)]) fun t52 =>
      upK Try.prog (sCall F_retain_Store_Add #[t23, t52]) w7 fun t53 w8 =>
      pureK Try.prog (sBin .neq T_api_Errno (.tmp 53) (.const (.int .i64 0)) t53 (.int .i64 0)) fun t54 =>
      ifB t54
      (K (.bool false) w8)
      (pureK Try.prog (sBin .add T_int (.tmp 35) (.const (.int .i64 1)) x6.1 (.int .i64 1)) fun t36 =>
       next6 (t36, ()) w8))
     (pureK Try.prog (sIdxAddr T_s_api_Value t27 (.int .i64 0)) fun t56 =>
      pureK Try.prog (sFieldAddr T_api_Value t56 1) fun t57 =>
      upK Try.prog (sStore T_int t57 (.int .i64 8)) w6 fun tu_1 w9 =>
      upK Try.prog (sCall F_retain_Store_Slice #[t23, (.int .i64 0), (.int .i64 1)]) w9 fun t59 w10 =>
      LETJ (X := Unit) (fun y1 w11 =>
       upK Try.prog (sCall F_retain_Store_Copy #[t23]) w11 fun t76 w12 =>
       upK Try.prog (sCall F_retain_Store_Copy #[t23]) w12 fun t78 w13 =>
       pureK Try.prog (sBin .eql T_p_retain_Store (.tmp 79) (.const (.pointer none)) t76 (.pointer none)) fun t80 =>
       ifB t80
       (K (.bool false) w13)
       (pureK Try.prog (sBin .eql T_p_retain_Store (.tmp 82) (.const (.pointer none)) t78 (.pointer none)) fun t83 =>
        ifB t83
        (K (.bool false) w13)
        (readK Try.prog (sBlt .len #[T_s_int] T_int #[false] #[t30]) w13 fun t87 =>
         pureK Try.prog (sBlt .min #[T_int, T_int] T_int #[false, false] #[pos1, t87]) fun t88 =>
         pureK Try.prog (sBlt .max #[T_int, T_int] T_int #[true, false] #[(.int .i64 0), t88]) fun t89 =>
         LETJ (X := Value × Unit) (fun y2 w14 =>
          upK Try.prog (sCall F_retain_Store_Drop #[t76, pos1]) w14 fun t110 w15 =>
          pureK Try.prog (sBin .neq T_int (.tmp 110) (.tmp 111) t110 t89) fun t112 =>
          ifB t112
          (K (.bool false) w15)
          (upK Try.prog (sCall F_retain_Store_Trim #[t78, time2]) w15 fun t116 w16 =>
           pureK Try.prog (sBin .neq T_int (.tmp 116) (.tmp 117) t116 y2.1) fun t118 =>
           ifB t118
           (K (.bool false) w16)
           (upK Try.prog (sCall F_retain_Store_First #[t76]) w16 fun t122 w17 =>
            pureK Try.prog (sBin .neq T_int (.tmp 122) (.tmp 123) t122 t89) fun t124 =>
            ifB t124
            (K (.bool false) w17)
            (upK Try.prog (sCall F_retain_Store_First #[t78]) w17 fun t128 w18 =>
             pureK Try.prog (sBin .neq T_int (.tmp 128) (.tmp 129) t128 y2.1) fun t130 =>
             ifB t130
             (K (.bool false) w18)
             (upK Try.prog (sCall F_retain_Store_First #[t23]) w18 fun t134 w19 =>
              pureK Try.prog (sBin .neq T_int (.tmp 134) (.const (.int .i64 0)) t134 (.int .i64 0)) fun t135 =>
              ifB t135
              (K (.bool false) w19)
              (upK Try.prog (sCall F_retain_Store_Horizon #[t23]) w19 fun t139 w20 =>
               pureK Try.prog (sBin .neq T_int (.tmp 139) (.const (.int .i64 0)) t139 (.int .i64 0)) fun t140 =>
               ifB t140
               (K (.bool false) w20)
               (upK Try.prog (sCall F_retain_Store_From #[t23, (.int .i64 0)]) w20 fun t143 w21 =>
                LOOP (X := Value × Unit) (fun x22 w22 next22 =>
                 readK Try.prog (sBlt .len #[T_s_api_Event] T_int #[false] #[t143]) w22 fun t146 =>
                 pureK Try.prog (sBin .lss T_int (.tmp 144) (.tmp 146) x22.1 t146) fun t147 =>
                 ifB t147
                 (pureK Try.prog (sIdxAddr T_s_api_Event t143 x22.1) fun t152 =>
                  pureK Try.prog (sFieldAddr T_api_Event t152 5) fun t153 =>
                  readK Try.prog (sLoad T_s_api_Value t153) w22 fun t154 =>
                  pureK Try.prog (sBuild T_api_Value #[(1, (.int .i64 7))]) fun t155 =>
                  upK Try.prog (sBuildSlice T_s_api_Value 1 #[(0, t155)]) w22 fun t156 w23 =>
                  upK Try.prog (sCall F_errataref03_Same #[t154, t156]) w23 fun t157 w24 =>
                  pureK Try.prog (sUn .not t157) fun t158 =>
                  ifB t158
                  (K (.bool false) w24)
                  (pureK Try.prog (sBin .add T_int (.tmp 148) (.const (.int .i64 1)) x22.1 (.int .i64 1)) fun t149 =>
                   next22 (t149, ()) w24))
                 (ifB t18
                  (pureK Try.prog (sSlice T_s_int t30 none (some t89) none) fun t165 =>
                   upK Try.prog (sCall F_retain_Store_Horizon #[t76]) (tick w22) fun t162 w25 =>
                   upK Try.prog (sCall F_erratalaw12_after #[t165]) w25 fun t166 w26 =>
                   pureK Try.prog (sBin .eql T_int (.tmp 162) (.tmp 166) t162 t166) fun t167 =>
                   ifB t167
                   (pureK Try.prog (sSlice T_s_int t30 none (some y2.1) none) fun t174 =>
                    upK Try.prog (sCall F_retain_Store_Horizon #[t78]) w26 fun t171 w27 =>
                    upK Try.prog (sCall F_erratalaw12_after #[t174]) w27 fun t175 w28 =>
                    pureK Try.prog (sBin .eql T_int (.tmp 171) (.tmp 175) t171 t175) fun t176 =>
                    ifB t176
                    (readK Try.prog (sBlt .len #[T_s_api_Event] T_int #[false] #[t143]) w28 fun t180 =>
                     readK Try.prog (sBlt .len #[T_s_int] T_int #[false] #[t30]) w28 fun t182 =>
                     pureK Try.prog (sBin .eql T_int (.tmp 180) (.tmp 182) t180 t182) fun t183 =>
                     ifB t183
                     (readK Try.prog (sBlt .len #[T_s_int] T_int #[false] #[t30]) w28 fun t190 =>
                      pureK Try.prog (sBin .sub T_int (.tmp 190) (.tmp 191) t190 t89) fun t192 =>
                      upK Try.prog (sCall F_retain_Store_From #[t76, (.int .i64 0)]) w28 fun t187 w29 =>
                      Is Try.prog (sBlt .len #[T_s_int] T_int #[false] #[t30]) t190 w29 ∧ readK Try.prog (sBlt .len #[T_s_api_Event] T_int #[false] #[t187]) w29 fun t188 =>
                      pureK Try.prog (sBin .eql T_int (.tmp 188) (.tmp 192) t188 t192) fun t193 =>
                      K t193 w29)
                     (K (.bool false) w28))
                    (K (.bool false) w28))
                   (K (.bool false) w26))
                  (K (.bool false) (tick w22))))
                ((.int .i64 0), ()) w21)))))))
         (fun J2 =>
          LOOP (X := Value × Unit) (fun x30 w30 next30 =>
           readK Try.prog (sBlt .len #[T_s_int] T_int #[false] #[t30]) w30 fun t92 =>
           pureK Try.prog (sBin .lss T_int (.tmp 90) (.tmp 92) x30.1 t92) fun t93 =>
           ifB t93
           (readK Try.prog (sBlt .len #[T_s_int] T_int #[false] #[t30]) w30 fun t98 =>
            pureK Try.prog (sBin .sub T_int (.tmp 98) (.const (.int .i64 1)) t98 (.int .i64 1)) fun t99 =>
            pureK Try.prog (sBlt .min #[T_int, T_int] T_int #[false, false] #[x30.1, t99]) fun t100 =>
            pureK Try.prog (sIdxAddr T_s_int t30 t100) fun t101 =>
            readK Try.prog (sLoad T_int t101) w30 fun t102 =>
            pureK Try.prog (sBin .lss T_int (.tmp 102) (.tmp 103) t102 time2) fun t104 =>
            ifB t104
            (pureK Try.prog (sBin .add T_int (.tmp 106) (.const (.int .i64 1)) x30.1 (.int .i64 1)) fun t107 =>
             next30 (t107, ()) w30)
            (J2 (x30.1, ()) w30))
           (J2 (x30.1, ()) w30))
          ((.int .i64 0), ()) w13))))
      (fun J1 =>
       readK Try.prog (sBlt .len #[T_s_api_Event] T_int #[false] #[t59]) w10 fun t61 =>
       pureK Try.prog (sBin .gtr T_int (.tmp 61) (.const (.int .i64 0)) t61 (.int .i64 0)) fun t62 =>
       ifB t62
       (pureK Try.prog (sIdxAddr T_s_api_Event t59 (.int .i64 0)) fun t64 =>
        pureK Try.prog (sFieldAddr T_api_Event t64 5) fun t65 =>
        readK Try.prog (sLoad T_s_api_Value t65) w10 fun t66 =>
        readK Try.prog (sBlt .len #[T_s_api_Value] T_int #[false] #[t66]) w10 fun t67 =>
        pureK Try.prog (sBin .neq T_int (.tmp 67) (.const (.int .i64 1)) t67 (.int .i64 1)) fun t68 =>
        ifB t68
        (K (.bool false) w10)
        (pureK Try.prog (sIdxAddr T_s_api_Event t59 (.int .i64 0)) fun t70 =>
         pureK Try.prog (sFieldAddr T_api_Event t70 5) fun t71 =>
         readK Try.prog (sLoad T_s_api_Value t71) w10 fun t72 =>
         pureK Try.prog (sIdxAddr T_s_api_Value t72 (.int .i64 0)) fun t73 =>
         pureK Try.prog (sFieldAddr T_api_Value t73 1) fun t74 =>
         upK Try.prog (sStore T_int t74 (.int .i64 9)) w10 fun tu_2 w31 =>
         J1 (()) w31))
       (J1 (()) w10))))
    ((.int .i64 0), ()) w5))
theorem erratalaw12_RetainDrops.pt_eq : erratalaw12_RetainDrops.pt = fun times0 pos1 time2 w K => FN Try.prog Try.f4 (bodyOf Try.f4) [6] (.node none .leaf (.node none .leaf (.node none .leaf (.node none .leaf (.node none .leaf (.node none .leaf (.node none .leaf (.node none .leaf (.node none .leaf (.node none .leaf (.node (some []) .leaf (.node none .leaf (.node none .leaf (.node none .leaf (.node none .leaf (.node none .leaf (.node (some [15]) .leaf .leaf))))))))))))))))) [times0, pos1, time2] w K := by kernel_rfl
theorem erratalaw12_RetainDrops.call {times0 pos1 time2 : Value} {w : World} {K : Value → World → Prop} (h : erratalaw12_RetainDrops.pt times0 pos1 time2 w K) : Calls Try.prog F_erratalaw12_RetainDrops #[times0, pos1, time2] w (retK K) :=
  calls_FN (args := [times0, pos1, time2]) Try.func4 (by kernel_rfl) (by rw [erratalaw12_RetainDrops.pt_eq] at h; exact h)
theorem erratalaw12_RetainDrops.up {times0 pos1 time2 : Value} {w : World} {K : Value → World → Prop} (h : Calls Try.prog F_erratalaw12_RetainDrops #[times0, pos1, time2] w (retK K)) : upK Try.prog (sCall F_erratalaw12_RetainDrops #[times0, pos1, time2]) w K :=
  up_call (fn := Try.f4) Try.func4 (by kernel_rfl) (by kernel_rfl) h

/-- errata/erratalaw12.RetainFull -/
def erratalaw12_RetainFull.pt (n0 drop1 : Value) (w : World) (K : Value → World → Prop) : Prop :=
  upK Try.prog (sCall F_erratalaw12_small #[]) w fun t13 w1 =>
  pureK Try.prog (sBin .lss T_int (.tmp 14) (.const (.int .i64 0)) n0 (.int .i64 0)) fun t15 =>
  ifB t15
  (K t13 w1)
  (pureK Try.prog (sBin .gtr T_int (.tmp 17) (.const (.int .i64 2100)) n0 (.int .i64 2100)) fun t18 =>
   ifB t18
   (K t13 w1)
   (pureK Try.prog (sBin .lss T_int (.tmp 21) (.const (.int .i64 0)) drop1 (.int .i64 0)) fun t22 =>
    ifB t22
    (K t13 w1)
    (pureK Try.prog (sBin .gtr T_int (.tmp 25) (.const (.int .i64 2100)) drop1 (.int .i64 2100)) fun t26 =>
     ifB t26
     (K t13 w1)
     (upK Try.prog (sCall F_retain_New #[(.int .i64 1)]) w1 fun t29 w2 =>
      pureK Try.prog (sBin .eql T_p_retain_Store (.tmp 30) (.const (.pointer none)) t29 (.pointer none)) fun t31 =>
      ifB t31
      (K (.bool false) w2)
      (LOOP (X := Value × Unit) (fun x3 w3 next3 =>
        pureK Try.prog (sBin .lss T_int (.tmp 32) (.tmp 33) x3.1 n0) fun t34 =>
        ifB t34
        (LETJ (X := Unit) (fun y1 w4 =>
          pureK Try.prog (sBin .add T_int (.tmp 35) (.const (.int .i64 1)) x3.1 (.int .i64 1)) fun t36 =>
          next3 (t36, ()) w4)
         (fun J1 =>
          pureK Try.prog (sBlt .min #[T_int, T_int] T_int #[false, true] #[x3.1, (.int .i64 2000)]) fun t39 =>
          pureK Try.prog (sBuild T_api_Event #[(0, (.int .i64 1)), (1, t39), (4, x3.1)]) fun t41 =>
          upK Try.prog (sCall F_retain_Store_Add #[t29, t41]) w3 fun t42 w5 =>
          pureK Try.prog (sBin .eql T_api_Errno (.tmp 43) (.const (.int .i64 0)) t42 (.int .i64 0)) fun t44 =>
          pureK Try.prog (sBin .lss T_int (.tmp 45) (.const (.int .i64 2000)) x3.1 (.int .i64 2000)) fun t46 =>
          pureK Try.prog (sBin .neq T_bool (.tmp 44) (.tmp 46) t44 t46) fun t47 =>
          ifB t47
          (K (.bool false) w5)
          (pureK Try.prog (sBin .neq T_api_Errno (.tmp 49) (.const (.int .i64 0)) t42 (.int .i64 0)) fun t50 =>
           ifB t50
           (pureK Try.prog (sBin .neq T_api_Errno (.tmp 52) (.const (.int .i64 6)) t42 (.int .i64 6)) fun t53 =>
            ifB t53
            (K (.bool false) w5)
            (J1 (()) w5))
           (J1 (()) w5))))
        (pureK Try.prog (sBlt .min #[T_int, T_int] T_int #[false, true] #[n0, (.int .i64 2000)]) fun t57 =>
         upK Try.prog (sCall F_retain_Store_Drop #[t29, drop1]) w3 fun t60 w6 =>
         pureK Try.prog (sBlt .min #[T_int, T_int] T_int #[false, false] #[drop1, t57]) fun t64 =>
         pureK Try.prog (sBin .neq T_int (.tmp 61) (.tmp 64) t60 t64) fun t65 =>
         ifB t65
         (K (.bool false) w6)
         (LOOP (X := Value × Unit) (fun x7 w7 next7 =>
           pureK Try.prog (sBin .add T_int (.tmp 68) (.tmp 69) t57 t60) fun t70 =>
           pureK Try.prog (sBin .lss T_int (.tmp 67) (.tmp 70) x7.1 t70) fun t71 =>
           ifB t71
           (pureK Try.prog (sBuild T_api_Event #[(0, (.int .i64 1)), (1, x7.1)]) fun t76 =>
            upK Try.prog (sCall F_retain_Store_Add #[t29, t76]) w7 fun t77 w8 =>
            pureK Try.prog (sBin .neq T_api_Errno (.tmp 77) (.const (.int .i64 0)) t77 (.int .i64 0)) fun t78 =>
            ifB t78
            (K (.bool false) w8)
            (pureK Try.prog (sBin .add T_int (.tmp 72) (.const (.int .i64 1)) x7.1 (.int .i64 1)) fun t73 =>
             next7 (t73, ()) w8))
           (pureK Try.prog (sBin .add T_int (.tmp 80) (.tmp 81) t57 t60) fun t82 =>
            pureK Try.prog (sBuild T_api_Event #[(0, (.int .i64 1)), (1, t82)]) fun t83 =>
            upK Try.prog (sCall F_retain_Store_Add #[t29, t83]) w7 fun t84 w9 =>
            ifB t13
            (pureK Try.prog (sBin .eql T_api_Errno (.tmp 87) (.const (.int .i64 6)) t84 (.int .i64 6)) fun t88 =>
             pureK Try.prog (sBin .eql T_int (.tmp 89) (.const (.int .i64 2000)) t57 (.int .i64 2000)) fun t90 =>
             pureK Try.prog (sBin .eql T_bool (.tmp 88) (.tmp 90) t88 t90) fun t91 =>
             ifB t91
             (upK Try.prog (sCall F_retain_Store_First #[t29]) w9 fun t95 w10 =>
              pureK Try.prog (sBin .eql T_int (.tmp 95) (.tmp 96) t95 t60) fun t97 =>
              K t97 w10)
             (K (.bool false) w9))
            (K (.bool false) w9)))
          (t57, ()) w6)))
       ((.int .i64 0), ()) w2)))))
theorem erratalaw12_RetainFull.pt_eq : erratalaw12_RetainFull.pt = fun n0 drop1 w K => FN Try.prog Try.f5 (bodyOf Try.f5) [4] (.node none .leaf (.node none .leaf (.node none .leaf (.node none .leaf (.node none .leaf (.node none (.node none .leaf (.node none (.node none (.node none .leaf (.node (some []) .leaf .leaf)) .leaf) .leaf)) .leaf)))))) [n0, drop1] w K := by kernel_rfl
theorem erratalaw12_RetainFull.call {n0 drop1 : Value} {w : World} {K : Value → World → Prop} (h : erratalaw12_RetainFull.pt n0 drop1 w K) : Calls Try.prog F_erratalaw12_RetainFull #[n0, drop1] w (retK K) :=
  calls_FN (args := [n0, drop1]) Try.func5 (by kernel_rfl) (by rw [erratalaw12_RetainFull.pt_eq] at h; exact h)
theorem erratalaw12_RetainFull.up {n0 drop1 : Value} {w : World} {K : Value → World → Prop} (h : Calls Try.prog F_erratalaw12_RetainFull #[n0, drop1] w (retK K)) : upK Try.prog (sCall F_erratalaw12_RetainFull #[n0, drop1]) w K :=
  up_call (fn := Try.f5) Try.func5 (by kernel_rfl) (by kernel_rfl) h

/-- errata/erratalaw12.small -/
def erratalaw12_small.pt (w : World) (K : Value → World → Prop) : Prop :=
  upK Try.prog (sCall F_retain_New #[(.int .i64 2)]) w fun t8 w1 =>
  pureK Try.prog (sBin .eql T_p_retain_Store (.tmp 9) (.const (.pointer none)) t8 (.pointer none)) fun t10 =>
  ifB t10
  (K (.bool false) w1)
  (upK Try.prog (sBuildSlice T_s_int 3 #[(0, (.int .i64 5)), (1, (.int .i64 9)), (2, (.int .i64 7))]) w1 fun t11 w2 =>
   LOOP (X := Value × Unit) (fun x3 w3 next3 =>
    pureK Try.prog (sBin .lss T_int (.tmp 12) (.const (.int .i64 3)) x3.1 (.int .i64 3)) fun t13 =>
    ifB t13
    (pureK Try.prog (sIdxAddr T_s_int t11 x3.1) fun t20 =>
     readK Try.prog (sLoad T_int t20) w3 fun t21 =>
     pureK Try.prog (sBuild T_api_Event #[(0, (.int .i64 2)), (1, x3.1), (2, (.string ⟨#[97]⟩)), (4, t21)]) fun t22 =>
     upK Try.prog (sCall F_retain_Store_Add #[t8, t22]) w3 fun t23 w4 =>
     pureK Try.prog (sBin .neq T_api_Errno (.tmp 23) (.const (.int .i64 0)) t23 (.int .i64 0)) fun t24 =>
     ifB t24
     (K (.bool false) w4)
     (pureK Try.prog (sBin .add T_int (.tmp 14) (.const (.int .i64 1)) x3.1 (.int .i64 1)) fun t15 =>
      next3 (t15, ()) w4))
    (upK Try.prog (sCall F_retain_Store_Copy #[t8]) w3 fun t26 w5 =>
     pureK Try.prog (sBin .eql T_p_retain_Store (.tmp 27) (.const (.pointer none)) t26 (.pointer none)) fun t28 =>
     ifB t28
     (K (.bool false) w5)
     (upK Try.prog (sCall F_retain_Store_Next #[t8]) w5 fun t30 w6 =>
      pureK Try.prog (sBin .eql T_int (.tmp 30) (.const (.int .i64 3)) t30 (.int .i64 3)) fun t31 =>
      ifB t31
      (upK Try.prog (sCall F_retain_Store_Drop #[t8, (.int .i64 2)]) w6 fun t34 w7 =>
       pureK Try.prog (sBin .eql T_int (.tmp 34) (.const (.int .i64 2)) t34 (.int .i64 2)) fun t35 =>
       ifB t35
       (upK Try.prog (sCall F_retain_Store_First #[t8]) w7 fun t39 w8 =>
        pureK Try.prog (sBin .eql T_int (.tmp 39) (.const (.int .i64 2)) t39 (.int .i64 2)) fun t40 =>
        ifB t40
        (upK Try.prog (sCall F_retain_Store_Horizon #[t8]) w8 fun t44 w9 =>
         pureK Try.prog (sBin .eql T_int (.tmp 44) (.const (.int .i64 10)) t44 (.int .i64 10)) fun t45 =>
         upK Try.prog (sCall F_retain_Store_From #[t8, (.int .i64 0)]) w9 fun t48 w10 =>
         upK Try.prog (sCall F_retain_Store_Slice #[t8, (.int .i64 0), (.int .i64 9)]) w10 fun t50 w11 =>
         ifB t45
         (readK Try.prog (sBlt .len #[T_s_api_Event] T_int #[false] #[t48]) w11 fun t54 =>
          pureK Try.prog (sBin .eql T_int (.tmp 54) (.const (.int .i64 1)) t54 (.int .i64 1)) fun t55 =>
          ifB t55
          (readK Try.prog (sBlt .len #[T_s_api_Event] T_int #[false] #[t50]) w11 fun t59 =>
           pureK Try.prog (sBin .eql T_int (.tmp 59) (.const (.int .i64 1)) t59 (.int .i64 1)) fun t60 =>
           ifB t60
           (pureK Try.prog (sIdxAddr T_s_api_Event t48 (.int .i64 0)) fun t64 =>
            pureK Try.prog (sFieldAddr T_api_Event t64 1) fun t65 =>
            readK Try.prog (sLoad T_int t65) w11 fun t66 =>
            pureK Try.prog (sBin .eql T_int (.tmp 66) (.const (.int .i64 2)) t66 (.int .i64 2)) fun t67 =>
            ifB t67
            (pureK Try.prog (sIdxAddr T_s_api_Event t50 (.int .i64 0)) fun t71 =>
             pureK Try.prog (sFieldAddr T_api_Event t71 4) fun t72 =>
             readK Try.prog (sLoad T_int t72) w11 fun t73 =>
             pureK Try.prog (sBin .eql T_int (.tmp 73) (.const (.int .i64 7)) t73 (.int .i64 7)) fun t74 =>
             ifB t74
             (upK Try.prog (sCall F_retain_Store_Trim #[t26, (.int .i64 8)]) w11 fun t78 w12 =>
              pureK Try.prog (sBin .eql T_int (.tmp 78) (.const (.int .i64 1)) t78 (.int .i64 1)) fun t79 =>
              ifB t79
              (upK Try.prog (sCall F_retain_Store_Horizon #[t26]) w12 fun t83 w13 =>
               pureK Try.prog (sBin .eql T_int (.tmp 83) (.const (.int .i64 6)) t83 (.int .i64 6)) fun t84 =>
               ifB t84
               (upK Try.prog (sCall F_retain_Store_Part #[t26]) w13 fun t88 w14 =>
                pureK Try.prog (sBin .eql T_int (.tmp 88) (.const (.int .i64 2)) t88 (.int .i64 2)) fun t89 =>
                K t89 w14)
               (K (.bool false) w13))
              (K (.bool false) w12))
             (K (.bool false) w11))
            (K (.bool false) w11))
           (K (.bool false) w11))
          (K (.bool false) w11))
         (K (.bool false) w11))
        (upK Try.prog (sCall F_retain_Store_From #[t8, (.int .i64 0)]) w8 fun t48_1 w15 =>
         upK Try.prog (sCall F_retain_Store_Slice #[t8, (.int .i64 0), (.int .i64 9)]) w15 fun t50_1 w16 =>
         K (.bool false) w16))
       (upK Try.prog (sCall F_retain_Store_From #[t8, (.int .i64 0)]) w7 fun t48_2 w17 =>
        upK Try.prog (sCall F_retain_Store_Slice #[t8, (.int .i64 0), (.int .i64 9)]) w17 fun t50_2 w18 =>
        K (.bool false) w18))
      (upK Try.prog (sCall F_retain_Store_From #[t8, (.int .i64 0)]) w6 fun t48_3 w19 =>
       upK Try.prog (sCall F_retain_Store_Slice #[t8, (.int .i64 0), (.int .i64 9)]) w19 fun t50_3 w20 =>
       K (.bool false) w20))))
   ((.int .i64 0), ()) w2)
theorem erratalaw12_small.pt_eq : erratalaw12_small.pt = fun  w K => FN Try.prog Try.f6 (bodyOf Try.f6) [0] .leaf [] w K := by kernel_rfl
theorem erratalaw12_small.call {w : World} {K : Value → World → Prop} (h : erratalaw12_small.pt  w K) : Calls Try.prog F_erratalaw12_small #[] w (retK K) :=
  calls_FN (args := []) Try.func6 (by kernel_rfl) (by rw [erratalaw12_small.pt_eq] at h; exact h)
theorem erratalaw12_small.up {w : World} {K : Value → World → Prop} (h : Calls Try.prog F_erratalaw12_small #[] w (retK K)) : upK Try.prog (sCall F_erratalaw12_small #[]) w K :=
  up_call (fn := Try.f6) Try.func6 (by kernel_rfl) (by kernel_rfl) h

/-- errata/erratalaw12.few -/
def erratalaw12_few.pt (l0 : Value) (w : World) (K : Value → World → Prop) : Prop :=
  LOOP (X := Value × Unit) (fun x1 w1 next1 =>
   readK Try.prog (sBlt .len #[T_s_erratalaw12_Op] T_int #[false] #[l0]) w1 fun t6 =>
   pureK Try.prog (sBin .lss T_int (.tmp 4) (.tmp 6) x1.1 t6) fun t7 =>
   ifB t7
   (pureK Try.prog (sIdxAddr T_s_erratalaw12_Op l0 x1.1) fun t12 =>
    pureK Try.prog (sFieldAddr T_erratalaw12_Op t12 1) fun t13 =>
    readK Try.prog (sLoad T_api_Event t13) w1 fun t14 =>
    upK Try.prog (sBuildSlice T_s_api_Event 1 #[(0, t14)]) w1 fun t15 w2 =>
    upK Try.prog (sCall F_errataref12_Few #[t15, (.int .i64 1)]) w2 fun t16 w3 =>
    pureK Try.prog (sUn .not t16) fun t17 =>
    ifB t17
    (K (.bool false) w3)
    (pureK Try.prog (sBin .add T_int (.tmp 8) (.const (.int .i64 1)) x1.1 (.int .i64 1)) fun t9 =>
     next1 (t9, ()) w3))
   (readK Try.prog (sBlt .len #[T_s_erratalaw12_Op] T_int #[false] #[l0]) w1 fun t19 =>
    pureK Try.prog (sBin .leq T_int (.tmp 19) (.const (.int .i64 60)) t19 (.int .i64 60)) fun t20 =>
    K t20 w1))
  ((.int .i64 0), ()) w
theorem erratalaw12_few.pt_eq : erratalaw12_few.pt = fun l0 w K => FN Try.prog Try.f7 (bodyOf Try.f7) [2] .leaf [l0] w K := by kernel_rfl
theorem erratalaw12_few.call {l0 : Value} {w : World} {K : Value → World → Prop} (h : erratalaw12_few.pt l0 w K) : Calls Try.prog F_erratalaw12_few #[l0] w (retK K) :=
  calls_FN (args := [l0]) Try.func7 (by kernel_rfl) (by rw [erratalaw12_few.pt_eq] at h; exact h)
theorem erratalaw12_few.up {l0 : Value} {w : World} {K : Value → World → Prop} (h : Calls Try.prog F_erratalaw12_few #[l0] w (retK K)) : upK Try.prog (sCall F_erratalaw12_few #[l0]) w K :=
  up_call (fn := Try.f7) Try.func7 (by kernel_rfl) (by kernel_rfl) h

/-- errata/retain.New -/
def retain_New.pt (part0 : Value) (w : World) (K : Value → World → Prop) : Prop :=
  pureK Try.prog (sBuild T_retain_Store #[(0, part0)]) fun t4 =>
  upK Try.prog (sBox T_retain_Store t4) w fun t5 w1 =>
  K t5 w1
theorem retain_New.pt_eq : retain_New.pt = fun part0 w K => FN Try.prog Try.f8 (bodyOf Try.f8) [2] .leaf [part0] w K := by kernel_rfl
theorem retain_New.call {part0 : Value} {w : World} {K : Value → World → Prop} (h : retain_New.pt part0 w K) : Calls Try.prog F_retain_New #[part0] w (retK K) :=
  calls_FN (args := [part0]) Try.func8 (by kernel_rfl) (by rw [retain_New.pt_eq] at h; exact h)
theorem retain_New.up {part0 : Value} {w : World} {K : Value → World → Prop} (h : Calls Try.prog F_retain_New #[part0] w (retK K)) : upK Try.prog (sCall F_retain_New #[part0]) w K :=
  up_call (fn := Try.f8) Try.func8 (by kernel_rfl) (by kernel_rfl) h

/-- errata/erratalaw12.pick -/
def erratalaw12_pick.pt (n0 m1 : Value) (w : World) (K : Value → World → Prop) : Prop :=
  pureK Try.prog (sBin .rem T_int (.tmp 5) (.tmp 6) n0 m1) fun t7 =>
  LETJ (X := Value × Unit) (fun y1 w1 =>
   K y1.1 w1)
  (fun J1 =>
   pureK Try.prog (sBin .lss T_int (.tmp 8) (.const (.int .i64 0)) t7 (.int .i64 0)) fun t9 =>
   ifB t9
   (pureK Try.prog (sBin .add T_int (.tmp 10) (.tmp 11) t7 m1) fun t12 =>
    J1 (t12, ()) w)
   (J1 (t7, ()) w))
theorem erratalaw12_pick.pt_eq : erratalaw12_pick.pt = fun n0 m1 w K => FN Try.prog Try.f9 (bodyOf Try.f9) [4] (.node none .leaf (.node none .leaf (.node (some [0]) .leaf .leaf))) [n0, m1] w K := by kernel_rfl
theorem erratalaw12_pick.call {n0 m1 : Value} {w : World} {K : Value → World → Prop} (h : erratalaw12_pick.pt n0 m1 w K) : Calls Try.prog F_erratalaw12_pick #[n0, m1] w (retK K) :=
  calls_FN (args := [n0, m1]) Try.func9 (by kernel_rfl) (by rw [erratalaw12_pick.pt_eq] at h; exact h)
theorem erratalaw12_pick.up {n0 m1 : Value} {w : World} {K : Value → World → Prop} (h : Calls Try.prog F_erratalaw12_pick #[n0, m1] w (retK K)) : upK Try.prog (sCall F_erratalaw12_pick #[n0, m1]) w K :=
  up_call (fn := Try.f9) Try.func9 (by kernel_rfl) (by kernel_rfl) h

/-- (*errata/retain.Store).Add -/
def retain_Store_Add.pt (s0 e1 : Value) (w : World) (K : Value → World → Prop) : Prop :=
  upK Try.prog (sBox T_api_Event e1) w fun e3 w1 =>
  readK Try.prog (sLoad T_api_Event e3) w1 fun t7 =>
  upK Try.prog (sCall F_retain_Store_right #[s0, t7]) w1 fun t8 w2 =>
  pureK Try.prog (sUn .not t8) fun t9 =>
  ifB t9
  (K (.int .i64 1) w2)
  (pureK Try.prog (sFieldAddr T_api_Event e3 5) fun t11 =>
   readK Try.prog (sLoad T_s_api_Value t11) w2 fun t12 =>
   upK Try.prog (sCall F_value_RightRow #[t12]) w2 fun t13 w3 =>
   pureK Try.prog (sUn .not t13) fun t14 =>
   ifB t14
   (K (.int .i64 16) w3)
   (pureK Try.prog (sFieldAddr T_api_Event e3 1) fun t16 =>
    readK Try.prog (sLoad T_int t16) (tick w3) fun t17 =>
    upK Try.prog (sCall F_retain_Store_Next #[s0]) (tick w3) fun t19 w4 =>
    Is Try.prog (sLoad T_int t16) t17 w4 ∧ pureK Try.prog (sBin .neq T_int (.tmp 17) (.tmp 19) t17 t19) fun t20 =>
    ifB t20
    (K (.int .i64 25) w4)
    (pureK Try.prog (sNil s0) fun t23 =>
     pureK Try.prog (sFieldAddr T_retain_Store t23 3) fun t24 =>
     readK Try.prog (sLoad T_s_api_Event t24) w4 fun t25 =>
     readK Try.prog (sBlt .len #[T_s_api_Event] T_int #[false] #[t25]) w4 fun t26 =>
     pureK Try.prog (sBin .geq T_int (.tmp 26) (.const (.int .i64 2000)) t26 (.int .i64 2000)) fun t27 =>
     ifB t27
     (K (.int .i64 6) w4)
     (pureK Try.prog (sNil s0) fun t30 =>
      pureK Try.prog (sFieldAddr T_retain_Store t30 3) fun t31 =>
      readK Try.prog (sLoad T_s_api_Event t31) (tick w4) fun t32 =>
      readK Try.prog (sLoad T_api_Event e3) (tick w4) fun t33 =>
      upK Try.prog (sCall F_retain_event #[t33]) (tick w4) fun t34 w5 =>
      Is Try.prog (sLoad T_s_api_Event t31) t32 w5 ∧ upK Try.prog (sBuildSlice T_s_api_Event 1 #[(0, t34)]) w5 fun t35 w6 =>
      Is Try.prog (sLoad T_s_api_Event t31) t32 w6 ∧ upK Try.prog (sBlt .append #[T_s_api_Event, T_s_api_Event] T_s_api_Event #[false, false] #[t32, t35]) w6 fun t36 w7 =>
      pureK Try.prog (sNil s0) fun t37 =>
      pureK Try.prog (sFieldAddr T_retain_Store t37 3) fun t38 =>
      upK Try.prog (sStore T_s_api_Event t38 t36) w7 fun tu w8 =>
      K (.int .i64 0) w8))))
theorem retain_Store_Add.pt_eq : retain_Store_Add.pt = fun s0 e1 w K => FN Try.prog Try.f10 (bodyOf Try.f10) [4] .leaf [s0, e1] w K := by kernel_rfl
theorem retain_Store_Add.call {s0 e1 : Value} {w : World} {K : Value → World → Prop} (h : retain_Store_Add.pt s0 e1 w K) : Calls Try.prog F_retain_Store_Add #[s0, e1] w (retK K) :=
  calls_FN (args := [s0, e1]) Try.func10 (by kernel_rfl) (by rw [retain_Store_Add.pt_eq] at h; exact h)
theorem retain_Store_Add.up {s0 e1 : Value} {w : World} {K : Value → World → Prop} (h : Calls Try.prog F_retain_Store_Add #[s0, e1] w (retK K)) : upK Try.prog (sCall F_retain_Store_Add #[s0, e1]) w K :=
  up_call (fn := Try.f10) Try.func10 (by kernel_rfl) (by kernel_rfl) h

/-- (*errata/retain.Store).Drop -/
def retain_Store_Drop.pt (s0 pos1 : Value) (w : World) (K : Value → World → Prop) : Prop :=
  upK Try.prog (sCall F_retain_Store_place #[s0, pos1]) w fun t8 w1 =>
  upK Try.prog (sCall F_retain_Store_cut #[s0, t8]) w1 fun t9 w2 =>
  K t9 w2
theorem retain_Store_Drop.pt_eq : retain_Store_Drop.pt = fun s0 pos1 w K => FN Try.prog Try.f11 (bodyOf Try.f11) [4] .leaf [s0, pos1] w K := by kernel_rfl
theorem retain_Store_Drop.call {s0 pos1 : Value} {w : World} {K : Value → World → Prop} (h : retain_Store_Drop.pt s0 pos1 w K) : Calls Try.prog F_retain_Store_Drop #[s0, pos1] w (retK K) :=
  calls_FN (args := [s0, pos1]) Try.func11 (by kernel_rfl) (by rw [retain_Store_Drop.pt_eq] at h; exact h)
theorem retain_Store_Drop.up {s0 pos1 : Value} {w : World} {K : Value → World → Prop} (h : Calls Try.prog F_retain_Store_Drop #[s0, pos1] w (retK K)) : upK Try.prog (sCall F_retain_Store_Drop #[s0, pos1]) w K :=
  up_call (fn := Try.f11) Try.func11 (by kernel_rfl) (by kernel_rfl) h

/-- (*errata/retain.Store).Trim -/
def retain_Store_Trim.pt (s0 time1 : Value) (w : World) (K : Value → World → Prop) : Prop :=
  upK Try.prog (sBox T_int time1) w fun time3 w1 =>
  pureK Try.prog (sNil s0) fun t7 =>
  pureK Try.prog (sFieldAddr T_retain_Store t7 3) fun t8 =>
  readK Try.prog (sLoad T_s_api_Event t8) w1 fun t9 =>
  pureK Try.prog (sMkFunc (.func F_retain_Store_Trim_1) #[] #[time3]) fun t10 =>
  upK Try.prog (sCall F_slices_IndexFunc_s_api_Event_api_Event #[t9, t10]) w1 fun t11 w2 =>
  LETJ (X := Value × Unit) (fun y1 w3 =>
   upK Try.prog (sCall F_retain_Store_cut #[s0, y1.1]) w3 fun t21 w4 =>
   K t21 w4)
  (fun J1 =>
   pureK Try.prog (sBin .lss T_int (.tmp 12) (.const (.int .i64 0)) t11 (.int .i64 0)) fun t13 =>
   ifB t13
   (pureK Try.prog (sNil s0) fun t15 =>
    pureK Try.prog (sFieldAddr T_retain_Store t15 3) fun t16 =>
    readK Try.prog (sLoad T_s_api_Event t16) w2 fun t17 =>
    readK Try.prog (sBlt .len #[T_s_api_Event] T_int #[false] #[t17]) w2 fun t18 =>
    J1 (t18, ()) w2)
   (J1 (t11, ()) w2))
theorem retain_Store_Trim.pt_eq : retain_Store_Trim.pt = fun s0 time1 w K => FN Try.prog Try.f12 (bodyOf Try.f12) [4] (.node none .leaf (.node none .leaf (.node (some [5]) .leaf .leaf))) [s0, time1] w K := by kernel_rfl
theorem retain_Store_Trim.call {s0 time1 : Value} {w : World} {K : Value → World → Prop} (h : retain_Store_Trim.pt s0 time1 w K) : Calls Try.prog F_retain_Store_Trim #[s0, time1] w (retK K) :=
  calls_FN (args := [s0, time1]) Try.func12 (by kernel_rfl) (by rw [retain_Store_Trim.pt_eq] at h; exact h)
theorem retain_Store_Trim.up {s0 time1 : Value} {w : World} {K : Value → World → Prop} (h : Calls Try.prog F_retain_Store_Trim #[s0, time1] w (retK K)) : upK Try.prog (sCall F_retain_Store_Trim #[s0, time1]) w K :=
  up_call (fn := Try.f12) Try.func12 (by kernel_rfl) (by kernel_rfl) h

/-- (*errata/retain.Store).First -/
def retain_Store_First.pt (s0 : Value) (w : World) (K : Value → World → Prop) : Prop :=
  pureK Try.prog (sNil s0) fun t4 =>
  pureK Try.prog (sFieldAddr T_retain_Store t4 1) fun t5 =>
  readK Try.prog (sLoad T_int t5) w fun t6 =>
  K t6 w
theorem retain_Store_First.pt_eq : retain_Store_First.pt = fun s0 w K => FN Try.prog Try.f13 (bodyOf Try.f13) [2] .leaf [s0] w K := by kernel_rfl
theorem retain_Store_First.call {s0 : Value} {w : World} {K : Value → World → Prop} (h : retain_Store_First.pt s0 w K) : Calls Try.prog F_retain_Store_First #[s0] w (retK K) :=
  calls_FN (args := [s0]) Try.func13 (by kernel_rfl) (by rw [retain_Store_First.pt_eq] at h; exact h)
theorem retain_Store_First.up {s0 : Value} {w : World} {K : Value → World → Prop} (h : Calls Try.prog F_retain_Store_First #[s0] w (retK K)) : upK Try.prog (sCall F_retain_Store_First #[s0]) w K :=
  up_call (fn := Try.f13) Try.func13 (by kernel_rfl) (by kernel_rfl) h

/-- (*errata/retain.Store).Horizon -/
def retain_Store_Horizon.pt (s0 : Value) (w : World) (K : Value → World → Prop) : Prop :=
  pureK Try.prog (sNil s0) fun t4 =>
  pureK Try.prog (sFieldAddr T_retain_Store t4 2) fun t5 =>
  readK Try.prog (sLoad T_int t5) w fun t6 =>
  K t6 w
theorem retain_Store_Horizon.pt_eq : retain_Store_Horizon.pt = fun s0 w K => FN Try.prog Try.f14 (bodyOf Try.f14) [2] .leaf [s0] w K := by kernel_rfl
theorem retain_Store_Horizon.call {s0 : Value} {w : World} {K : Value → World → Prop} (h : retain_Store_Horizon.pt s0 w K) : Calls Try.prog F_retain_Store_Horizon #[s0] w (retK K) :=
  calls_FN (args := [s0]) Try.func14 (by kernel_rfl) (by rw [retain_Store_Horizon.pt_eq] at h; exact h)
theorem retain_Store_Horizon.up {s0 : Value} {w : World} {K : Value → World → Prop} (h : Calls Try.prog F_retain_Store_Horizon #[s0] w (retK K)) : upK Try.prog (sCall F_retain_Store_Horizon #[s0]) w K :=
  up_call (fn := Try.f14) Try.func14 (by kernel_rfl) (by kernel_rfl) h

/-- (*errata/retain.Store).Next -/
def retain_Store_Next.pt (s0 : Value) (w : World) (K : Value → World → Prop) : Prop :=
  pureK Try.prog (sNil s0) fun t4 =>
  pureK Try.prog (sFieldAddr T_retain_Store t4 1) fun t5 =>
  readK Try.prog (sLoad T_int t5) (tick w) fun t6 =>
  pureK Try.prog (sNil s0) fun t8 =>
  pureK Try.prog (sFieldAddr T_retain_Store t8 3) fun t9 =>
  readK Try.prog (sLoad T_s_api_Event t9) (tick w) fun t10 =>
  readK Try.prog (sBlt .len #[T_s_api_Event] T_int #[false] #[t10]) (tick w) fun t11 =>
  pureK Try.prog (sBin .add T_int (.tmp 6) (.tmp 11) t6 t11) fun t12 =>
  K t12 (tick w)
theorem retain_Store_Next.pt_eq : retain_Store_Next.pt = fun s0 w K => FN Try.prog Try.f15 (bodyOf Try.f15) [2] .leaf [s0] w K := by kernel_rfl
theorem retain_Store_Next.call {s0 : Value} {w : World} {K : Value → World → Prop} (h : retain_Store_Next.pt s0 w K) : Calls Try.prog F_retain_Store_Next #[s0] w (retK K) :=
  calls_FN (args := [s0]) Try.func15 (by kernel_rfl) (by rw [retain_Store_Next.pt_eq] at h; exact h)
theorem retain_Store_Next.up {s0 : Value} {w : World} {K : Value → World → Prop} (h : Calls Try.prog F_retain_Store_Next #[s0] w (retK K)) : upK Try.prog (sCall F_retain_Store_Next #[s0]) w K :=
  up_call (fn := Try.f15) Try.func15 (by kernel_rfl) (by kernel_rfl) h

/-- errata/errataref12.Same -/
def errataref12_Same.pt (a0 b1 : Value) (w : World) (K : Value → World → Prop) : Prop :=
  readK Try.prog (sBlt .len #[T_s_api_Event] T_int #[false] #[a0]) w fun t9 =>
  readK Try.prog (sBlt .len #[T_s_api_Event] T_int #[false] #[b1]) w fun t11 =>
  pureK Try.prog (sBin .neq T_int (.tmp 9) (.tmp 11) t9 t11) fun t12 =>
  ifB t12
  (K (.bool false) w)
  (LOOP (X := Value × Unit) (fun x1 w1 next1 =>
    readK Try.prog (sBlt .len #[T_s_api_Event] T_int #[false] #[a0]) w1 fun t15 =>
    pureK Try.prog (sBin .lss T_int (.tmp 13) (.tmp 15) x1.1 t15) fun t16 =>
    ifB t16
    (pureK Try.prog (sIdxAddr T_s_api_Event a0 x1.1) fun t21 =>
     readK Try.prog (sLoad T_api_Event t21) w1 fun t22 =>
     upK Try.prog (sAlloc T_api_Event) w1 fun x6 w2 =>
     upK Try.prog (sStore T_api_Event x6 t22) w2 fun tu w3 =>
     pureK Try.prog (sIdxAddr T_s_api_Event b1 x1.1) fun t25 =>
     readK Try.prog (sLoad T_api_Event t25) w3 fun t26 =>
     upK Try.prog (sAlloc T_api_Event) w3 fun y7 w4 =>
     upK Try.prog (sStore T_api_Event y7 t26) w4 fun tu_1 w5 =>
     pureK Try.prog (sFieldAddr T_api_Event x6 0) fun t27 =>
     readK Try.prog (sLoad T_int t27) w5 fun t28 =>
     pureK Try.prog (sFieldAddr T_api_Event y7 0) fun t29 =>
     readK Try.prog (sLoad T_int t29) w5 fun t30 =>
     pureK Try.prog (sBin .neq T_int (.tmp 28) (.tmp 30) t28 t30) fun t31 =>
     ifB t31
     (K (.bool false) w5)
     (pureK Try.prog (sFieldAddr T_api_Event x6 1) fun t33 =>
      readK Try.prog (sLoad T_int t33) w5 fun t34 =>
      pureK Try.prog (sFieldAddr T_api_Event y7 1) fun t35 =>
      readK Try.prog (sLoad T_int t35) w5 fun t36 =>
      pureK Try.prog (sBin .neq T_int (.tmp 34) (.tmp 36) t34 t36) fun t37 =>
      ifB t37
      (K (.bool false) w5)
      (pureK Try.prog (sFieldAddr T_api_Event x6 2) fun t40 =>
       readK Try.prog (sLoad T_string t40) w5 fun t41 =>
       pureK Try.prog (sFieldAddr T_api_Event y7 2) fun t42 =>
       readK Try.prog (sLoad T_string t42) w5 fun t43 =>
       pureK Try.prog (sBin .neq T_string (.tmp 41) (.tmp 43) t41 t43) fun t44 =>
       ifB t44
       (K (.bool false) w5)
       (pureK Try.prog (sFieldAddr T_api_Event x6 3) fun t47 =>
        readK Try.prog (sLoad T_int t47) w5 fun t48 =>
        pureK Try.prog (sFieldAddr T_api_Event y7 3) fun t49 =>
        readK Try.prog (sLoad T_int t49) w5 fun t50 =>
        pureK Try.prog (sBin .neq T_int (.tmp 48) (.tmp 50) t48 t50) fun t51 =>
        ifB t51
        (K (.bool false) w5)
        (pureK Try.prog (sFieldAddr T_api_Event x6 4) fun t54 =>
         readK Try.prog (sLoad T_int t54) w5 fun t55 =>
         pureK Try.prog (sFieldAddr T_api_Event y7 4) fun t56 =>
         readK Try.prog (sLoad T_int t56) w5 fun t57 =>
         pureK Try.prog (sBin .neq T_int (.tmp 55) (.tmp 57) t55 t57) fun t58 =>
         ifB t58
         (K (.bool false) w5)
         (pureK Try.prog (sFieldAddr T_api_Event x6 5) fun t61 =>
          readK Try.prog (sLoad T_s_api_Value t61) w5 fun t62 =>
          pureK Try.prog (sFieldAddr T_api_Event y7 5) fun t63 =>
          readK Try.prog (sLoad T_s_api_Value t63) w5 fun t64 =>
          upK Try.prog (sCall F_errataref03_Same #[t62, t64]) w5 fun t65 w6 =>
          pureK Try.prog (sUn .not t65) fun t66 =>
          ifB t66
          (K (.bool false) w6)
          (pureK Try.prog (sBin .add T_int (.tmp 17) (.const (.int .i64 1)) x1.1 (.int .i64 1)) fun t18 =>
           next1 (t18, ()) w6)))))))
    (K (.bool true) w1))
   ((.int .i64 0), ()) w)
theorem errataref12_Same.pt_eq : errataref12_Same.pt = fun a0 b1 w K => FN Try.prog Try.f16 (bodyOf Try.f16) [4] .leaf [a0, b1] w K := by kernel_rfl
theorem errataref12_Same.call {a0 b1 : Value} {w : World} {K : Value → World → Prop} (h : errataref12_Same.pt a0 b1 w K) : Calls Try.prog F_errataref12_Same #[a0, b1] w (retK K) :=
  calls_FN (args := [a0, b1]) Try.func16 (by kernel_rfl) (by rw [errataref12_Same.pt_eq] at h; exact h)
theorem errataref12_Same.up {a0 b1 : Value} {w : World} {K : Value → World → Prop} (h : Calls Try.prog F_errataref12_Same #[a0, b1] w (retK K)) : upK Try.prog (sCall F_errataref12_Same #[a0, b1]) w K :=
  up_call (fn := Try.f16) Try.func16 (by kernel_rfl) (by kernel_rfl) h

/-- (*errata/retain.Store).Slice -/
def retain_Store_Slice.pt (s0 from1 most2 : Value) (w : World) (K : Value → World → Prop) : Prop :=
  upK Try.prog (sCall F_retain_Store_place #[s0, from1]) w fun t10 w1 =>
  pureK Try.prog (sNil s0) fun t12 =>
  pureK Try.prog (sFieldAddr T_retain_Store t12 3) fun t13 =>
  readK Try.prog (sLoad T_s_api_Event t13) (tick w1) fun t14 =>
  pureK Try.prog (sNil s0) fun t19 =>
  pureK Try.prog (sFieldAddr T_retain_Store t19 3) fun t20 =>
  readK Try.prog (sLoad T_s_api_Event t20) (tick w1) fun t21 =>
  readK Try.prog (sBlt .len #[T_s_api_Event] T_int #[false] #[t21]) (tick w1) fun t22 =>
  pureK Try.prog (sBin .sub T_int (.tmp 22) (.tmp 23) t22 t10) fun t24 =>
  pureK Try.prog (sBlt .min #[T_int, T_int] T_int #[false, false] #[most2, t24]) fun t25 =>
  pureK Try.prog (sBlt .max #[T_int, T_int] T_int #[true, false] #[(.int .i64 0), t25]) fun t26 =>
  pureK Try.prog (sBin .add T_int (.tmp 16) (.tmp 26) t10 t26) fun t27 =>
  pureK Try.prog (sSlice T_s_api_Event t14 (some t10) (some t27) none) fun t28 =>
  upK Try.prog (sCall F_retain_copied_api_Event #[t28, (.func (.func 26) #[] #[])]) (tick w1) fun t29 w2 =>
  Is Try.prog (sLoad T_s_api_Event t20) t21 w2 ∧ K t29 w2
theorem retain_Store_Slice.pt_eq : retain_Store_Slice.pt = fun s0 from1 most2 w K => FN Try.prog Try.f17 (bodyOf Try.f17) [6] .leaf [s0, from1, most2] w K := by kernel_rfl
theorem retain_Store_Slice.call {s0 from1 most2 : Value} {w : World} {K : Value → World → Prop} (h : retain_Store_Slice.pt s0 from1 most2 w K) : Calls Try.prog F_retain_Store_Slice #[s0, from1, most2] w (retK K) :=
  calls_FN (args := [s0, from1, most2]) Try.func17 (by kernel_rfl) (by rw [retain_Store_Slice.pt_eq] at h; exact h)
theorem retain_Store_Slice.up {s0 from1 most2 : Value} {w : World} {K : Value → World → Prop} (h : Calls Try.prog F_retain_Store_Slice #[s0, from1, most2] w (retK K)) : upK Try.prog (sCall F_retain_Store_Slice #[s0, from1, most2]) w K :=
  up_call (fn := Try.f17) Try.func17 (by kernel_rfl) (by kernel_rfl) h

/-- (*errata/retain.Store).From -/
def retain_Store_From.pt (s0 time1 : Value) (w : World) (K : Value → World → Prop) : Prop :=
  pureK Try.prog (sNil s0) fun t9 =>
  pureK Try.prog (sFieldAddr T_retain_Store t9 3) fun t10 =>
  readK Try.prog (sLoad T_s_api_Event t10) w fun t11 =>
  readK Try.prog (sBlt .len #[T_s_api_Event] T_int #[false] #[t11]) w fun t12 =>
  LOOP (X := Value × Value × Unit) (fun x1 w1 next1 =>
   pureK Try.prog (sBin .lss T_int (.tmp 13) (.tmp 12) x1.2.1 t12) fun t14 =>
   ifB t14
   (LETJ (X := Value × Unit) (fun y1 w2 =>
     pureK Try.prog (sBin .add T_int (.tmp 13) (.const (.int .i64 1)) x1.2.1 (.int .i64 1)) fun t26 =>
     next1 (y1.1, t26, ()) w2)
    (fun J1 =>
     pureK Try.prog (sIdxAddr T_s_api_Event t11 x1.2.1) fun t15 =>
     readK Try.prog (sLoad T_api_Event t15) w1 fun t16 =>
     upK Try.prog (sAlloc T_api_Event) w1 fun e7 w3 =>
     upK Try.prog (sStore T_api_Event e7 t16) w3 fun tu w4 =>
     pureK Try.prog (sFieldAddr T_api_Event e7 4) fun t17 =>
     readK Try.prog (sLoad T_int t17) w4 fun t18 =>
     pureK Try.prog (sBin .geq T_int (.tmp 18) (.tmp 19) t18 time1) fun t20 =>
     ifB t20
     (readK Try.prog (sLoad T_api_Event e7) w4 fun t22 =>
      upK Try.prog (sCall F_retain_event #[t22]) w4 fun t23 w5 =>
      upK Try.prog (sBuildSlice T_s_api_Event 1 #[(0, t23)]) w5 fun t24 w6 =>
      upK Try.prog (sBlt .append #[T_s_api_Event, T_s_api_Event] T_s_api_Event #[false, false] #[x1.1, t24]) w6 fun t25 w7 =>
      J1 (t25, ()) w7)
     (J1 (x1.1, ()) w4)))
   (K x1.1 w1))
  ((.slice none 0 0), (.int .i64 0), ()) w
theorem retain_Store_From.pt_eq : retain_Store_From.pt = fun s0 time1 w K => FN Try.prog Try.f18 (bodyOf Try.f18) [4] (.node none .leaf (.node none .leaf (.node none (.node none .leaf (.node none (.node none (.node none .leaf (.node none .leaf (.node (some [5]) .leaf .leaf))) .leaf) .leaf)) .leaf))) [s0, time1] w K := by kernel_rfl
theorem retain_Store_From.call {s0 time1 : Value} {w : World} {K : Value → World → Prop} (h : retain_Store_From.pt s0 time1 w K) : Calls Try.prog F_retain_Store_From #[s0, time1] w (retK K) :=
  calls_FN (args := [s0, time1]) Try.func18 (by kernel_rfl) (by rw [retain_Store_From.pt_eq] at h; exact h)
theorem retain_Store_From.up {s0 time1 : Value} {w : World} {K : Value → World → Prop} (h : Calls Try.prog F_retain_Store_From #[s0, time1] w (retK K)) : upK Try.prog (sCall F_retain_Store_From #[s0, time1]) w K :=
  up_call (fn := Try.f18) Try.func18 (by kernel_rfl) (by kernel_rfl) h

/-- (*errata/retain.Store).Copy -/
def retain_Store_Copy.pt (s0 : Value) (w : World) (K : Value → World → Prop) : Prop :=
  pureK Try.prog (sNil s0) fun t5 =>
  readK Try.prog (sLoad T_retain_Store t5) w fun t6 =>
  upK Try.prog (sAlloc T_retain_Store) w fun c3 w1 =>
  upK Try.prog (sStore T_retain_Store c3 t6) w1 fun tu w2 =>
  pureK Try.prog (sNil s0) fun t8 =>
  pureK Try.prog (sFieldAddr T_retain_Store t8 3) fun t9 =>
  readK Try.prog (sLoad T_s_api_Event t9) w2 fun t10 =>
  upK Try.prog (sCall F_retain_copied_api_Event #[t10, (.func (.func 26) #[] #[])]) w2 fun t11 w3 =>
  pureK Try.prog (sFieldAddr T_retain_Store c3 3) fun t12 =>
  upK Try.prog (sStore T_s_api_Event t12 t11) w3 fun tu_1 w4 =>
  K c3 w4
theorem retain_Store_Copy.pt_eq : retain_Store_Copy.pt = fun s0 w K => FN Try.prog Try.f19 (bodyOf Try.f19) [2] .leaf [s0] w K := by kernel_rfl
theorem retain_Store_Copy.call {s0 : Value} {w : World} {K : Value → World → Prop} (h : retain_Store_Copy.pt s0 w K) : Calls Try.prog F_retain_Store_Copy #[s0] w (retK K) :=
  calls_FN (args := [s0]) Try.func19 (by kernel_rfl) (by rw [retain_Store_Copy.pt_eq] at h; exact h)
theorem retain_Store_Copy.up {s0 : Value} {w : World} {K : Value → World → Prop} (h : Calls Try.prog F_retain_Store_Copy #[s0] w (retK K)) : upK Try.prog (sCall F_retain_Store_Copy #[s0]) w K :=
  up_call (fn := Try.f19) Try.func19 (by kernel_rfl) (by kernel_rfl) h

/-- errata/errataref03.Same -/
def errataref03_Same.pt (a0 b1 : Value) (w : World) (K : Value → World → Prop) : Prop :=
  upK Try.prog (sCall F_errataref03_CompareRows #[a0, b1]) w fun t7 w1 =>
  pureK Try.prog (sBin .eql T_int (.tmp 7) (.const (.int .i64 0)) t7 (.int .i64 0)) fun t8 =>
  K t8 w1
theorem errataref03_Same.pt_eq : errataref03_Same.pt = fun a0 b1 w K => FN Try.prog Try.f20 (bodyOf Try.f20) [4] .leaf [a0, b1] w K := by kernel_rfl
theorem errataref03_Same.call {a0 b1 : Value} {w : World} {K : Value → World → Prop} (h : errataref03_Same.pt a0 b1 w K) : Calls Try.prog F_errataref03_Same #[a0, b1] w (retK K) :=
  calls_FN (args := [a0, b1]) Try.func20 (by kernel_rfl) (by rw [errataref03_Same.pt_eq] at h; exact h)
theorem errataref03_Same.up {a0 b1 : Value} {w : World} {K : Value → World → Prop} (h : Calls Try.prog F_errataref03_Same #[a0, b1] w (retK K)) : upK Try.prog (sCall F_errataref03_Same #[a0, b1]) w K :=
  up_call (fn := Try.f20) Try.func20 (by kernel_rfl) (by kernel_rfl) h

/-- errata/erratalaw12.after -/
def erratalaw12_after.pt (l0 : Value) (w : World) (K : Value → World → Prop) : Prop :=
  LOOP (X := Value × Value × Unit) (fun x1 w1 next1 =>
   readK Try.prog (sBlt .len #[T_s_int] T_int #[false] #[l0]) w1 fun t7 =>
   pureK Try.prog (sBin .lss T_int (.tmp 5) (.tmp 7) x1.2.1 t7) fun t8 =>
   ifB t8
   (pureK Try.prog (sIdxAddr T_s_int l0 x1.2.1) fun t14 =>
    readK Try.prog (sLoad T_int t14) w1 fun t15 =>
    pureK Try.prog (sBin .add T_int (.tmp 15) (.const (.int .i64 1)) t15 (.int .i64 1)) fun t16 =>
    pureK Try.prog (sBlt .max #[T_int, T_int] T_int #[false, false] #[x1.1, t16]) fun t17 =>
    pureK Try.prog (sBin .add T_int (.tmp 9) (.const (.int .i64 1)) x1.2.1 (.int .i64 1)) fun t10 =>
    next1 (t17, t10, ()) w1)
   (K x1.1 w1))
  ((.int .i64 0), (.int .i64 0), ()) w
theorem erratalaw12_after.pt_eq : erratalaw12_after.pt = fun l0 w K => FN Try.prog Try.f21 (bodyOf Try.f21) [2] .leaf [l0] w K := by kernel_rfl
theorem erratalaw12_after.call {l0 : Value} {w : World} {K : Value → World → Prop} (h : erratalaw12_after.pt l0 w K) : Calls Try.prog F_erratalaw12_after #[l0] w (retK K) :=
  calls_FN (args := [l0]) Try.func21 (by kernel_rfl) (by rw [erratalaw12_after.pt_eq] at h; exact h)
theorem erratalaw12_after.up {l0 : Value} {w : World} {K : Value → World → Prop} (h : Calls Try.prog F_erratalaw12_after #[l0] w (retK K)) : upK Try.prog (sCall F_erratalaw12_after #[l0]) w K :=
  up_call (fn := Try.f21) Try.func21 (by kernel_rfl) (by kernel_rfl) h

/-- (*errata/retain.Store).Part -/
def retain_Store_Part.pt (s0 : Value) (w : World) (K : Value → World → Prop) : Prop :=
  pureK Try.prog (sNil s0) fun t4 =>
  pureK Try.prog (sFieldAddr T_retain_Store t4 0) fun t5 =>
  readK Try.prog (sLoad T_int t5) w fun t6 =>
  K t6 w
theorem retain_Store_Part.pt_eq : retain_Store_Part.pt = fun s0 w K => FN Try.prog Try.f22 (bodyOf Try.f22) [2] .leaf [s0] w K := by kernel_rfl
theorem retain_Store_Part.call {s0 : Value} {w : World} {K : Value → World → Prop} (h : retain_Store_Part.pt s0 w K) : Calls Try.prog F_retain_Store_Part #[s0] w (retK K) :=
  calls_FN (args := [s0]) Try.func22 (by kernel_rfl) (by rw [retain_Store_Part.pt_eq] at h; exact h)
theorem retain_Store_Part.up {s0 : Value} {w : World} {K : Value → World → Prop} (h : Calls Try.prog F_retain_Store_Part #[s0] w (retK K)) : upK Try.prog (sCall F_retain_Store_Part #[s0]) w K :=
  up_call (fn := Try.f22) Try.func22 (by kernel_rfl) (by kernel_rfl) h

/-- errata/errataref12.Few -/
def errataref12_Few.pt (l0 n1 : Value) (w : World) (K : Value → World → Prop) : Prop :=
  LOOP (X := Value × Unit) (fun x1 w1 next1 =>
   readK Try.prog (sBlt .len #[T_s_api_Event] T_int #[false] #[l0]) w1 fun t9 =>
   pureK Try.prog (sBin .lss T_int (.tmp 7) (.tmp 9) x1.1 t9) fun t10 =>
   ifB t10
   (LETJ (X := Unit) (fun y1 w2 =>
     pureK Try.prog (sBin .add T_int (.tmp 11) (.const (.int .i64 1)) x1.1 (.int .i64 1)) fun t12 =>
     next1 (t12, ()) w2)
    (fun J1 =>
     pureK Try.prog (sIdxAddr T_s_api_Event l0 x1.1) fun t15 =>
     pureK Try.prog (sFieldAddr T_api_Event t15 5) fun t16 =>
     readK Try.prog (sLoad T_s_api_Value t16) w1 fun t17 =>
     readK Try.prog (sBlt .len #[T_s_api_Value] T_int #[false] #[t17]) w1 fun t18 =>
     pureK Try.prog (sBin .gtr T_int (.tmp 18) (.const (.int .i64 13)) t18 (.int .i64 13)) fun t19 =>
     ifB t19
     (K (.bool false) w1)
     (pureK Try.prog (sIdxAddr T_s_api_Event l0 x1.1) fun t23 =>
      pureK Try.prog (sFieldAddr T_api_Event t23 2) fun t24 =>
      readK Try.prog (sLoad T_string t24) w1 fun t25 =>
      readK Try.prog (sBlt .len #[T_string] T_int #[false] #[t25]) w1 fun t26 =>
      pureK Try.prog (sBin .gtr T_int (.tmp 26) (.const (.int .i64 300)) t26 (.int .i64 300)) fun t27 =>
      ifB t27
      (K (.bool false) w1)
      (LOOP (X := Value × Unit) (fun x3 w3 next3 =>
        pureK Try.prog (sIdxAddr T_s_api_Event l0 x1.1) fun t32 =>
        pureK Try.prog (sFieldAddr T_api_Event t32 5) fun t33 =>
        readK Try.prog (sLoad T_s_api_Value t33) w3 fun t34 =>
        readK Try.prog (sBlt .len #[T_s_api_Value] T_int #[false] #[t34]) w3 fun t35 =>
        pureK Try.prog (sBin .lss T_int (.tmp 29) (.tmp 35) x3.1 t35) fun t36 =>
        ifB t36
        (pureK Try.prog (sIdxAddr T_s_api_Event l0 x1.1) fun t41 =>
         pureK Try.prog (sFieldAddr T_api_Event t41 5) fun t42 =>
         readK Try.prog (sLoad T_s_api_Value t42) w3 fun t43 =>
         pureK Try.prog (sIdxAddr T_s_api_Value t43 x3.1) fun t45 =>
         pureK Try.prog (sFieldAddr T_api_Value t45 2) fun t46 =>
         readK Try.prog (sLoad T_string t46) w3 fun t47 =>
         readK Try.prog (sBlt .len #[T_string] T_int #[false] #[t47]) w3 fun t48 =>
         pureK Try.prog (sBin .gtr T_int (.tmp 48) (.const (.int .i64 300)) t48 (.int .i64 300)) fun t49 =>
         ifB t49
         (K (.bool false) w3)
         (pureK Try.prog (sBin .add T_int (.tmp 37) (.const (.int .i64 1)) x3.1 (.int .i64 1)) fun t38 =>
          next3 (t38, ()) w3))
        (J1 (()) w3))
       ((.int .i64 0), ()) w1))))
   (readK Try.prog (sBlt .len #[T_s_api_Event] T_int #[false] #[l0]) w1 fun t51 =>
    pureK Try.prog (sBin .leq T_int (.tmp 51) (.tmp 52) t51 n1) fun t53 =>
    K t53 w1))
  ((.int .i64 0), ()) w
theorem errataref12_Few.pt_eq : errataref12_Few.pt = fun l0 n1 w K => FN Try.prog Try.f23 (bodyOf Try.f23) [4] (.node none .leaf (.node none (.node none .leaf (.node none (.node none (.node none .leaf (.node (some []) .leaf .leaf)) .leaf) .leaf)) .leaf)) [l0, n1] w K := by kernel_rfl
theorem errataref12_Few.call {l0 n1 : Value} {w : World} {K : Value → World → Prop} (h : errataref12_Few.pt l0 n1 w K) : Calls Try.prog F_errataref12_Few #[l0, n1] w (retK K) :=
  calls_FN (args := [l0, n1]) Try.func23 (by kernel_rfl) (by rw [errataref12_Few.pt_eq] at h; exact h)
theorem errataref12_Few.up {l0 n1 : Value} {w : World} {K : Value → World → Prop} (h : Calls Try.prog F_errataref12_Few #[l0, n1] w (retK K)) : upK Try.prog (sCall F_errataref12_Few #[l0, n1]) w K :=
  up_call (fn := Try.f23) Try.func23 (by kernel_rfl) (by kernel_rfl) h

/-- (*errata/retain.Store).right -/
def retain_Store_right.pt (s0 e1 : Value) (w : World) (K : Value → World → Prop) : Prop :=
  upK Try.prog (sBox T_api_Event e1) w fun e3 w1 =>
  pureK Try.prog (sFieldAddr T_api_Event e3 0) fun t5 =>
  readK Try.prog (sLoad T_int t5) (tick w1) fun t6 =>
  pureK Try.prog (sNil s0) fun t8 =>
  pureK Try.prog (sFieldAddr T_retain_Store t8 0) fun t9 =>
  readK Try.prog (sLoad T_int t9) (tick w1) fun t10 =>
  pureK Try.prog (sBin .eql T_int (.tmp 6) (.tmp 10) t6 t10) fun t11 =>
  ifB t11
  (pureK Try.prog (sFieldAddr T_api_Event e3 2) fun t13 =>
   readK Try.prog (sLoad T_string t13) (tick w1) fun t14 =>
   readK Try.prog (sBlt .len #[T_string] T_int #[false] #[t14]) (tick w1) fun t15 =>
   pureK Try.prog (sBin .leq T_int (.tmp 15) (.const (.int .i64 200)) t15 (.int .i64 200)) fun t16 =>
   ifB t16
   (pureK Try.prog (sFieldAddr T_api_Event e3 3) fun t19 =>
    readK Try.prog (sLoad T_int t19) (tick w1) fun t20 =>
    pureK Try.prog (sBin .geq T_int (.tmp 20) (.const (.int .i64 0)) t20 (.int .i64 0)) fun t21 =>
    ifB t21
    (pureK Try.prog (sFieldAddr T_api_Event e3 4) fun t24 =>
     readK Try.prog (sLoad T_int t24) (tick w1) fun t25 =>
     pureK Try.prog (sBin .geq T_int (.tmp 25) (.const (.int .i64 0)) t25 (.int .i64 0)) fun t26 =>
     ifB t26
     (pureK Try.prog (sFieldAddr T_api_Event e3 4) fun t29 =>
      readK Try.prog (sLoad T_int t29) (tick w1) fun t30 =>
      pureK Try.prog (sBin .leq T_int (.tmp 30) (.const (.int .i64 1099511627776)) t30 (.int .i64 1099511627776)) fun t31 =>
      K t31 (tick w1))
     (K (.bool false) (tick w1)))
    (K (.bool false) (tick w1)))
   (K (.bool false) (tick w1)))
  (K (.bool false) (tick w1))
theorem retain_Store_right.pt_eq : retain_Store_right.pt = fun s0 e1 w K => FN Try.prog Try.f24 (bodyOf Try.f24) [4] .leaf [s0, e1] w K := by kernel_rfl
theorem retain_Store_right.call {s0 e1 : Value} {w : World} {K : Value → World → Prop} (h : retain_Store_right.pt s0 e1 w K) : Calls Try.prog F_retain_Store_right #[s0, e1] w (retK K) :=
  calls_FN (args := [s0, e1]) Try.func24 (by kernel_rfl) (by rw [retain_Store_right.pt_eq] at h; exact h)
theorem retain_Store_right.up {s0 e1 : Value} {w : World} {K : Value → World → Prop} (h : Calls Try.prog F_retain_Store_right #[s0, e1] w (retK K)) : upK Try.prog (sCall F_retain_Store_right #[s0, e1]) w K :=
  up_call (fn := Try.f24) Try.func24 (by kernel_rfl) (by kernel_rfl) h

/-- errata/value.RightRow -/
def value_RightRow.pt (r0 : Value) (w : World) (K : Value → World → Prop) : Prop :=
  readK Try.prog (sBlt .len #[T_s_api_Value] T_int #[false] #[r0]) w fun t4 =>
  pureK Try.prog (sBin .leq T_int (.tmp 4) (.const (.int .i64 12)) t4 (.int .i64 12)) fun t5 =>
  ifB t5
  (upK Try.prog (sCall F_value_all #[r0]) w fun t8 w1 =>
   K t8 w1)
  (K (.bool false) w)
theorem value_RightRow.pt_eq : value_RightRow.pt = fun r0 w K => FN Try.prog Try.f25 (bodyOf Try.f25) [2] .leaf [r0] w K := by kernel_rfl
theorem value_RightRow.call {r0 : Value} {w : World} {K : Value → World → Prop} (h : value_RightRow.pt r0 w K) : Calls Try.prog F_value_RightRow #[r0] w (retK K) :=
  calls_FN (args := [r0]) Try.func25 (by kernel_rfl) (by rw [value_RightRow.pt_eq] at h; exact h)
theorem value_RightRow.up {r0 : Value} {w : World} {K : Value → World → Prop} (h : Calls Try.prog F_value_RightRow #[r0] w (retK K)) : upK Try.prog (sCall F_value_RightRow #[r0]) w K :=
  up_call (fn := Try.f25) Try.func25 (by kernel_rfl) (by kernel_rfl) h

/-- errata/retain.event -/
def retain_event.pt (e0 : Value) (w : World) (K : Value → World → Prop) : Prop :=
  upK Try.prog (sBox T_api_Event e0) w fun e1 w1 =>
  upK Try.prog (sAlloc T_api_Event) w1 fun t2 w2 =>
  pureK Try.prog (sFieldAddr T_api_Event e1 5) fun t3 =>
  readK Try.prog (sLoad T_s_api_Value t3) w2 fun t4 =>
  upK Try.prog (sCall F_slices_Clone_s_api_Value_api_Value #[t4]) w2 fun t5 w3 =>
  pureK Try.prog (sFieldAddr T_api_Event e1 5) fun t6 =>
  upK Try.prog (sStore T_s_api_Value t6 t5) w3 fun tu w4 =>
  readK Try.prog (sLoad T_api_Event e1) w4 fun t7 =>
  upK Try.prog (sStore T_api_Event t2 t7) w4 fun tu_1 w5 =>
  readV Try.prog (do loadVar T_api_Event (← asAddr t2)) w5 fun t2_1 =>
  K t2_1 w5
theorem retain_event.pt_eq : retain_event.pt = fun e0 w K => FN Try.prog Try.f26 (bodyOf Try.f26) [] .leaf [e0] w K := by kernel_rfl
theorem retain_event.call {e0 : Value} {w : World} {K : Value → World → Prop} (h : retain_event.pt e0 w K) : Calls Try.prog F_retain_event #[e0] w (retK K) :=
  calls_FN (args := [e0]) Try.func26 (by kernel_rfl) (by rw [retain_event.pt_eq] at h; exact h)
theorem retain_event.up {e0 : Value} {w : World} {K : Value → World → Prop} (h : Calls Try.prog F_retain_event #[e0] w (retK K)) : upK Try.prog (sCall F_retain_event #[e0]) w K :=
  up_call (fn := Try.f26) Try.func26 (by kernel_rfl) (by kernel_rfl) h

/-- (*errata/retain.Store).cut -/
def retain_Store_cut.pt (s0 n1 : Value) (w : World) (K : Value → World → Prop) : Prop :=
  LOOP (X := Value × Unit) (fun x1 w1 next1 =>
   pureK Try.prog (sBin .lss T_int (.tmp 7) (.tmp 6) x1.1 n1) fun t8 =>
   ifB t8
   (pureK Try.prog (sNil s0) fun t12 =>
    pureK Try.prog (sFieldAddr T_retain_Store t12 2) fun t13 =>
    readK Try.prog (sLoad T_int t13) (tick w1) fun t14 =>
    pureK Try.prog (sNil s0) fun t16 =>
    pureK Try.prog (sFieldAddr T_retain_Store t16 3) fun t17 =>
    readK Try.prog (sLoad T_s_api_Event t17) (tick w1) fun t18 =>
    pureK Try.prog (sIdxAddr T_s_api_Event t18 x1.1) fun t20 =>
    pureK Try.prog (sFieldAddr T_api_Event t20 4) fun t21 =>
    readK Try.prog (sLoad T_int t21) (tick w1) fun t22 =>
    pureK Try.prog (sBin .add T_int (.tmp 22) (.const (.int .i64 1)) t22 (.int .i64 1)) fun t23 =>
    pureK Try.prog (sBlt .max #[T_int, T_int] T_int #[false, false] #[t14, t23]) fun t24 =>
    pureK Try.prog (sNil s0) fun t25 =>
    pureK Try.prog (sFieldAddr T_retain_Store t25 2) fun t26 =>
    upK Try.prog (sStore T_int t26 t24) (tick w1) fun tu w2 =>
    pureK Try.prog (sBin .add T_int (.tmp 7) (.const (.int .i64 1)) x1.1 (.int .i64 1)) fun t27 =>
    next1 (t27, ()) w2)
   (pureK Try.prog (sNil s0) fun t30 =>
    pureK Try.prog (sFieldAddr T_retain_Store t30 3) fun t31 =>
    readK Try.prog (sLoad T_s_api_Event t31) w1 fun t32 =>
    pureK Try.prog (sSlice T_s_api_Event t32 (some n1) none none) fun t34 =>
    upK Try.prog (sCall F_slices_Clone_s_api_Event_api_Event #[t34]) w1 fun t35 w3 =>
    pureK Try.prog (sNil s0) fun t36 =>
    pureK Try.prog (sFieldAddr T_retain_Store t36 3) fun t37 =>
    upK Try.prog (sStore T_s_api_Event t37 t35) w3 fun tu_1 w4 =>
    pureK Try.prog (sNil s0) fun t39 =>
    pureK Try.prog (sFieldAddr T_retain_Store t39 1) fun t40 =>
    readK Try.prog (sLoad T_int t40) w4 fun t41 =>
    pureK Try.prog (sBin .add T_int (.tmp 41) (.tmp 42) t41 n1) fun t43 =>
    pureK Try.prog (sNil s0) fun t44 =>
    pureK Try.prog (sFieldAddr T_retain_Store t44 1) fun t45 =>
    upK Try.prog (sStore T_int t45 t43) w4 fun tu_2 w5 =>
    K n1 w5))
  ((.int .i64 0), ()) w
theorem retain_Store_cut.pt_eq : retain_Store_cut.pt = fun s0 n1 w K => FN Try.prog Try.f27 (bodyOf Try.f27) [4] .leaf [s0, n1] w K := by kernel_rfl
theorem retain_Store_cut.call {s0 n1 : Value} {w : World} {K : Value → World → Prop} (h : retain_Store_cut.pt s0 n1 w K) : Calls Try.prog F_retain_Store_cut #[s0, n1] w (retK K) :=
  calls_FN (args := [s0, n1]) Try.func27 (by kernel_rfl) (by rw [retain_Store_cut.pt_eq] at h; exact h)
theorem retain_Store_cut.up {s0 n1 : Value} {w : World} {K : Value → World → Prop} (h : Calls Try.prog F_retain_Store_cut #[s0, n1] w (retK K)) : upK Try.prog (sCall F_retain_Store_cut #[s0, n1]) w K :=
  up_call (fn := Try.f27) Try.func27 (by kernel_rfl) (by kernel_rfl) h

/-- (*errata/retain.Store).place -/
def retain_Store_place.pt (s0 pos1 : Value) (w : World) (K : Value → World → Prop) : Prop :=
  pureK Try.prog (sNil s0) fun t7 =>
  pureK Try.prog (sFieldAddr T_retain_Store t7 1) fun t8 =>
  readK Try.prog (sLoad T_int t8) (tick w) fun t9 =>
  pureK Try.prog (sBlt .max #[T_int, T_int] T_int #[false, false] #[pos1, t9]) fun t10 =>
  pureK Try.prog (sNil s0) fun t15 =>
  pureK Try.prog (sFieldAddr T_retain_Store t15 1) fun t16 =>
  readK Try.prog (sLoad T_int t16) (tick w) fun t17 =>
  upK Try.prog (sCall F_retain_Store_Next #[s0]) (tick w) fun t12 w1 =>
  Is Try.prog (sLoad T_int t16) t17 w1 ∧ Is Try.prog (sLoad T_int t8) t9 w1 ∧ pureK Try.prog (sBlt .min #[T_int, T_int] T_int #[false, false] #[t10, t12]) fun t13 =>
  pureK Try.prog (sBin .sub T_int (.tmp 13) (.tmp 17) t13 t17) fun t18 =>
  K t18 w1
theorem retain_Store_place.pt_eq : retain_Store_place.pt = fun s0 pos1 w K => FN Try.prog Try.f28 (bodyOf Try.f28) [4] .leaf [s0, pos1] w K := by kernel_rfl
theorem retain_Store_place.call {s0 pos1 : Value} {w : World} {K : Value → World → Prop} (h : retain_Store_place.pt s0 pos1 w K) : Calls Try.prog F_retain_Store_place #[s0, pos1] w (retK K) :=
  calls_FN (args := [s0, pos1]) Try.func28 (by kernel_rfl) (by rw [retain_Store_place.pt_eq] at h; exact h)
theorem retain_Store_place.up {s0 pos1 : Value} {w : World} {K : Value → World → Prop} (h : Calls Try.prog F_retain_Store_place #[s0, pos1] w (retK K)) : upK Try.prog (sCall F_retain_Store_place #[s0, pos1]) w K :=
  up_call (fn := Try.f28) Try.func28 (by kernel_rfl) (by kernel_rfl) h

/-- slices.IndexFunc[[]errata/api.Event,errata/api.Event] -/
def slices_IndexFunc_s_api_Event_api_Event.pt (s0 f1 : Value) (w : World) (K : Value → World → Prop) : Prop :=
  readK Try.prog (sBlt .len #[T_s_api_Event] T_int #[false] #[s0]) w fun t7 =>
  LOOP (X := Value × Unit) (fun x1 w1 next1 =>
   pureK Try.prog (sBin .lss T_int (.tmp 8) (.tmp 7) x1.1 t7) fun t9 =>
   ifB t9
   (pureK Try.prog (sIdxAddr T_s_api_Event s0 x1.1) fun t14 =>
    readK Try.prog (sLoad T_api_Event t14) w1 fun t15 =>
    upK Try.prog (sCallV f1 #[t15]) w1 fun t16 w2 =>
    ifB t16
    (K x1.1 w2)
    (pureK Try.prog (sBin .add T_int (.tmp 8) (.const (.int .i64 1)) x1.1 (.int .i64 1)) fun t18 =>
     next1 (t18, ()) w2))
   (K (.int .i64 (-1)) w1))
  ((.int .i64 0), ()) w
theorem slices_IndexFunc_s_api_Event_api_Event.pt_eq : slices_IndexFunc_s_api_Event_api_Event.pt = fun s0 f1 w K => FN Try.prog Try.f29 (bodyOf Try.f29) [4] .leaf [s0, f1] w K := by kernel_rfl
theorem slices_IndexFunc_s_api_Event_api_Event.call {s0 f1 : Value} {w : World} {K : Value → World → Prop} (h : slices_IndexFunc_s_api_Event_api_Event.pt s0 f1 w K) : Calls Try.prog F_slices_IndexFunc_s_api_Event_api_Event #[s0, f1] w (retK K) :=
  calls_FN (args := [s0, f1]) Try.func29 (by kernel_rfl) (by rw [slices_IndexFunc_s_api_Event_api_Event.pt_eq] at h; exact h)
theorem slices_IndexFunc_s_api_Event_api_Event.up {s0 f1 : Value} {w : World} {K : Value → World → Prop} (h : Calls Try.prog F_slices_IndexFunc_s_api_Event_api_Event #[s0, f1] w (retK K)) : upK Try.prog (sCall F_slices_IndexFunc_s_api_Event_api_Event #[s0, f1]) w K :=
  up_call (fn := Try.f29) Try.func29 (by kernel_rfl) (by kernel_rfl) h

/-- (*errata/retain.Store).Trim$1 -/
def retain_Store_Trim_1.pt (e0 t1 : Value) (w : World) (K : Value → World → Prop) : Prop :=
  upK Try.prog (sBox T_api_Event e0) w fun e2 w1 =>
  pureK Try.prog (sFieldAddr T_api_Event e2 4) fun t4 =>
  readK Try.prog (sLoad T_int t4) w1 fun t5 =>
  readK Try.prog (sLoad T_int t1) w1 fun t6 =>
  pureK Try.prog (sBin .geq T_int (.tmp 5) (.tmp 6) t5 t6) fun t7 =>
  K t7 w1
theorem retain_Store_Trim_1.pt_eq : retain_Store_Trim_1.pt = fun e0 t1 w K => FN Try.prog Try.f30 (bodyOf Try.f30) [3] .leaf [e0, t1] w K := by kernel_rfl
theorem retain_Store_Trim_1.call {e0 t1 : Value} {w : World} {K : Value → World → Prop} (h : retain_Store_Trim_1.pt e0 t1 w K) : Calls Try.prog F_retain_Store_Trim_1 #[e0, t1] w (retK K) :=
  calls_FN (args := [e0, t1]) Try.func30 (by kernel_rfl) (by rw [retain_Store_Trim_1.pt_eq] at h; exact h)
theorem retain_Store_Trim_1.up {e0 t1 : Value} {w : World} {K : Value → World → Prop} (h : Calls Try.prog F_retain_Store_Trim_1 #[e0, t1] w (retK K)) : upK Try.prog (sCall F_retain_Store_Trim_1 #[e0, t1]) w K :=
  up_call (fn := Try.f30) Try.func30 (by kernel_rfl) (by kernel_rfl) h

/-- errata/retain.copied[errata/api.Event] -/
def retain_copied_api_Event.pt (l0 f1 : Value) (w : World) (K : Value → World → Prop) : Prop :=
  readK Try.prog (sBlt .len #[T_s_api_Event] T_int #[false] #[l0]) w fun t9 =>
  upK Try.prog (sMkSlice T_s_api_Event (.int .i64 0) t9) w fun t10 w1 =>
  readK Try.prog (sBlt .len #[T_s_api_Event] T_int #[false] #[l0]) w1 fun t12 =>
  LOOP (X := Value × Value × Unit) (fun x2 w2 next2 =>
   pureK Try.prog (sBin .lss T_int (.tmp 13) (.tmp 12) x2.2.1 t12) fun t14 =>
   ifB t14
   (pureK Try.prog (sIdxAddr T_s_api_Event l0 x2.2.1) fun t15 =>
    readK Try.prog (sLoad T_api_Event t15) w2 fun t16 =>
    upK Try.prog (sAlloc T_api_Event) w2 fun x7 w3 =>
    upK Try.prog (sStore T_api_Event x7 t16) w3 fun tu w4 =>
    readK Try.prog (sLoad T_api_Event x7) w4 fun t19 =>
    upK Try.prog (sCallV f1 #[t19]) w4 fun t20 w5 =>
    upK Try.prog (sBuildSlice T_s_api_Event 1 #[(0, t20)]) w5 fun t21 w6 =>
    upK Try.prog (sBlt .append #[T_s_api_Event, T_s_api_Event] T_s_api_Event #[false, false] #[x2.1, t21]) w6 fun t22 w7 =>
    pureK Try.prog (sBin .add T_int (.tmp 13) (.const (.int .i64 1)) x2.2.1 (.int .i64 1)) fun t23 =>
    next2 (t22, t23, ()) w7)
   (K x2.1 w2))
  (t10, (.int .i64 0), ()) w1
theorem retain_copied_api_Event.pt_eq : retain_copied_api_Event.pt = fun l0 f1 w K => FN Try.prog Try.f31 (bodyOf Try.f31) [4] .leaf [l0, f1] w K := by kernel_rfl
theorem retain_copied_api_Event.call {l0 f1 : Value} {w : World} {K : Value → World → Prop} (h : retain_copied_api_Event.pt l0 f1 w K) : Calls Try.prog F_retain_copied_api_Event #[l0, f1] w (retK K) :=
  calls_FN (args := [l0, f1]) Try.func31 (by kernel_rfl) (by rw [retain_copied_api_Event.pt_eq] at h; exact h)
theorem retain_copied_api_Event.up {l0 f1 : Value} {w : World} {K : Value → World → Prop} (h : Calls Try.prog F_retain_copied_api_Event #[l0, f1] w (retK K)) : upK Try.prog (sCall F_retain_copied_api_Event #[l0, f1]) w K :=
  up_call (fn := Try.f31) Try.func31 (by kernel_rfl) (by kernel_rfl) h

/-- errata/errataref03.CompareRows -/
def errataref03_CompareRows.pt (a0 b1 : Value) (w : World) (K : Value → World → Prop) : Prop :=
  LETJ (X := Unit) (fun y1 w1 =>
   readK Try.prog (sBlt .len #[T_s_api_Value] T_int #[false] #[a0]) w1 fun t32 =>
   readK Try.prog (sBlt .len #[T_s_api_Value] T_int #[false] #[b1]) w1 fun t34 =>
   pureK Try.prog (sBin .lss T_int (.tmp 32) (.tmp 34) t32 t34) fun t35 =>
   ifB t35
   (K (.int .i64 (-1)) w1)
   (readK Try.prog (sBlt .len #[T_s_api_Value] T_int #[false] #[a0]) w1 fun t37 =>
    readK Try.prog (sBlt .len #[T_s_api_Value] T_int #[false] #[b1]) w1 fun t39 =>
    pureK Try.prog (sBin .gtr T_int (.tmp 37) (.tmp 39) t37 t39) fun t40 =>
    ifB t40
    (K (.int .i64 1) w1)
    (K (.int .i64 0) w1)))
  (fun J1 =>
   LOOP (X := Value × Unit) (fun x2 w2 next2 =>
    readK Try.prog (sBlt .len #[T_s_api_Value] T_int #[false] #[a0]) w2 fun t9 =>
    pureK Try.prog (sBin .lss T_int (.tmp 7) (.tmp 9) x2.1 t9) fun t10 =>
    ifB t10
    (readK Try.prog (sBlt .len #[T_s_api_Value] T_int #[false] #[b1]) w2 fun t14 =>
     pureK Try.prog (sBin .lss T_int (.tmp 12) (.tmp 14) x2.1 t14) fun t15 =>
     ifB t15
     (pureK Try.prog (sIdxAddr T_s_api_Value a0 x2.1) fun t21 =>
      readK Try.prog (sLoad T_api_Value t21) (tick w2) fun t22 =>
      pureK Try.prog (sIdxAddr T_s_api_Value b1 x2.1) fun t25 =>
      readK Try.prog (sLoad T_api_Value t25) (tick w2) fun t26 =>
      upK Try.prog (sCall F_errataref03_Compare #[t22, t26]) (tick w2) fun t27 w3 =>
      pureK Try.prog (sBin .neq T_int (.tmp 28) (.const (.int .i64 0)) t27 (.int .i64 0)) fun t29 =>
      ifB t29
      (K t27 w3)
      (pureK Try.prog (sBin .add T_int (.tmp 17) (.const (.int .i64 1)) x2.1 (.int .i64 1)) fun t18 =>
       next2 (t18, ()) w3))
     (J1 (()) w2))
    (J1 (()) w2))
   ((.int .i64 0), ()) w)
theorem errataref03_CompareRows.pt_eq : errataref03_CompareRows.pt = fun a0 b1 w K => FN Try.prog Try.f32 (bodyOf Try.f32) [4] (.node none .leaf (.node (some []) .leaf .leaf)) [a0, b1] w K := by kernel_rfl
theorem errataref03_CompareRows.call {a0 b1 : Value} {w : World} {K : Value → World → Prop} (h : errataref03_CompareRows.pt a0 b1 w K) : Calls Try.prog F_errataref03_CompareRows #[a0, b1] w (retK K) :=
  calls_FN (args := [a0, b1]) Try.func32 (by kernel_rfl) (by rw [errataref03_CompareRows.pt_eq] at h; exact h)
theorem errataref03_CompareRows.up {a0 b1 : Value} {w : World} {K : Value → World → Prop} (h : Calls Try.prog F_errataref03_CompareRows #[a0, b1] w (retK K)) : upK Try.prog (sCall F_errataref03_CompareRows #[a0, b1]) w K :=
  up_call (fn := Try.f32) Try.func32 (by kernel_rfl) (by kernel_rfl) h

/-- errata/value.all -/
def value_all.pt (r0 : Value) (w : World) (K : Value → World → Prop) : Prop :=
  upK Try.prog (sCall F_slices_ContainsFunc_s_api_Value_api_Value #[r0, (.func (.func 38) #[] #[])]) w fun t4 w1 =>
  pureK Try.prog (sUn .not t4) fun t5 =>
  K t5 w1
theorem value_all.pt_eq : value_all.pt = fun r0 w K => FN Try.prog Try.f33 (bodyOf Try.f33) [2] .leaf [r0] w K := by kernel_rfl
theorem value_all.call {r0 : Value} {w : World} {K : Value → World → Prop} (h : value_all.pt r0 w K) : Calls Try.prog F_value_all #[r0] w (retK K) :=
  calls_FN (args := [r0]) Try.func33 (by kernel_rfl) (by rw [value_all.pt_eq] at h; exact h)
theorem value_all.up {r0 : Value} {w : World} {K : Value → World → Prop} (h : Calls Try.prog F_value_all #[r0] w (retK K)) : upK Try.prog (sCall F_value_all #[r0]) w K :=
  up_call (fn := Try.f33) Try.func33 (by kernel_rfl) (by kernel_rfl) h

/-- slices.Clone[[]errata/api.Value,errata/api.Value] -/
def slices_Clone_s_api_Value_api_Value.pt (s0 : Value) (w : World) (K : Value → World → Prop) : Prop :=
  pureK Try.prog (sBin .eql T_s_api_Value (.tmp 3) (.const (.slice none 0 0)) s0 (.slice none 0 0)) fun t4 =>
  ifB t4
  (K (.slice none 0 0) w)
  (upK Try.prog (sBuildSlice T_s_api_Value 0 #[]) w fun t5 w1 =>
   upK Try.prog (sBlt .append #[T_s_api_Value, T_s_api_Value] T_s_api_Value #[false, false] #[t5, s0]) w1 fun t7 w2 =>
   K t7 w2)
theorem slices_Clone_s_api_Value_api_Value.pt_eq : slices_Clone_s_api_Value_api_Value.pt = fun s0 w K => FN Try.prog Try.f34 (bodyOf Try.f34) [2] .leaf [s0] w K := by kernel_rfl
theorem slices_Clone_s_api_Value_api_Value.call {s0 : Value} {w : World} {K : Value → World → Prop} (h : slices_Clone_s_api_Value_api_Value.pt s0 w K) : Calls Try.prog F_slices_Clone_s_api_Value_api_Value #[s0] w (retK K) :=
  calls_FN (args := [s0]) Try.func34 (by kernel_rfl) (by rw [slices_Clone_s_api_Value_api_Value.pt_eq] at h; exact h)
theorem slices_Clone_s_api_Value_api_Value.up {s0 : Value} {w : World} {K : Value → World → Prop} (h : Calls Try.prog F_slices_Clone_s_api_Value_api_Value #[s0] w (retK K)) : upK Try.prog (sCall F_slices_Clone_s_api_Value_api_Value #[s0]) w K :=
  up_call (fn := Try.f34) Try.func34 (by kernel_rfl) (by kernel_rfl) h

/-- slices.Clone[[]errata/api.Event,errata/api.Event] -/
def slices_Clone_s_api_Event_api_Event.pt (s0 : Value) (w : World) (K : Value → World → Prop) : Prop :=
  pureK Try.prog (sBin .eql T_s_api_Event (.tmp 3) (.const (.slice none 0 0)) s0 (.slice none 0 0)) fun t4 =>
  ifB t4
  (K (.slice none 0 0) w)
  (upK Try.prog (sBuildSlice T_s_api_Event 0 #[]) w fun t5 w1 =>
   upK Try.prog (sBlt .append #[T_s_api_Event, T_s_api_Event] T_s_api_Event #[false, false] #[t5, s0]) w1 fun t7 w2 =>
   K t7 w2)
theorem slices_Clone_s_api_Event_api_Event.pt_eq : slices_Clone_s_api_Event_api_Event.pt = fun s0 w K => FN Try.prog Try.f35 (bodyOf Try.f35) [2] .leaf [s0] w K := by kernel_rfl
theorem slices_Clone_s_api_Event_api_Event.call {s0 : Value} {w : World} {K : Value → World → Prop} (h : slices_Clone_s_api_Event_api_Event.pt s0 w K) : Calls Try.prog F_slices_Clone_s_api_Event_api_Event #[s0] w (retK K) :=
  calls_FN (args := [s0]) Try.func35 (by kernel_rfl) (by rw [slices_Clone_s_api_Event_api_Event.pt_eq] at h; exact h)
theorem slices_Clone_s_api_Event_api_Event.up {s0 : Value} {w : World} {K : Value → World → Prop} (h : Calls Try.prog F_slices_Clone_s_api_Event_api_Event #[s0] w (retK K)) : upK Try.prog (sCall F_slices_Clone_s_api_Event_api_Event #[s0]) w K :=
  up_call (fn := Try.f35) Try.func35 (by kernel_rfl) (by kernel_rfl) h

/-- errata/errataref03.Compare -/
def errataref03_Compare.pt (a0 b1 : Value) (w : World) (K : Value → World → Prop) : Prop :=
  upK Try.prog (sBox T_api_Value a0) w fun a2 w1 =>
  upK Try.prog (sBox T_api_Value b1) w1 fun b3 w2 =>
  pureK Try.prog (sFieldAddr T_api_Value a2 0) fun t5 =>
  readK Try.prog (sLoad T_int t5) w2 fun t6 =>
  pureK Try.prog (sFieldAddr T_api_Value b3 0) fun t7 =>
  readK Try.prog (sLoad T_int t7) w2 fun t8 =>
  pureK Try.prog (sBin .lss T_int (.tmp 6) (.tmp 8) t6 t8) fun t9 =>
  ifB t9
  (K (.int .i64 (-1)) w2)
  (pureK Try.prog (sFieldAddr T_api_Value a2 0) fun t10 =>
   readK Try.prog (sLoad T_int t10) w2 fun t11 =>
   pureK Try.prog (sFieldAddr T_api_Value b3 0) fun t12 =>
   readK Try.prog (sLoad T_int t12) w2 fun t13 =>
   pureK Try.prog (sBin .gtr T_int (.tmp 11) (.tmp 13) t11 t13) fun t14 =>
   ifB t14
   (K (.int .i64 1) w2)
   (pureK Try.prog (sFieldAddr T_api_Value a2 1) fun t15 =>
    readK Try.prog (sLoad T_int t15) w2 fun t16 =>
    pureK Try.prog (sFieldAddr T_api_Value b3 1) fun t17 =>
    readK Try.prog (sLoad T_int t17) w2 fun t18 =>
    pureK Try.prog (sBin .lss T_int (.tmp 16) (.tmp 18) t16 t18) fun t19 =>
    ifB t19
    (K (.int .i64 (-1)) w2)
    (pureK Try.prog (sFieldAddr T_api_Value a2 1) fun t20 =>
     readK Try.prog (sLoad T_int t20) w2 fun t21 =>
     pureK Try.prog (sFieldAddr T_api_Value b3 1) fun t22 =>
     readK Try.prog (sLoad T_int t22) w2 fun t23 =>
     pureK Try.prog (sBin .gtr T_int (.tmp 21) (.tmp 23) t21 t23) fun t24 =>
     ifB t24
     (K (.int .i64 1) w2)
     (pureK Try.prog (sFieldAddr T_api_Value a2 2) fun t25 =>
      readK Try.prog (sLoad T_string t25) w2 fun t26 =>
      pureK Try.prog (sFieldAddr T_api_Value b3 2) fun t27 =>
      readK Try.prog (sLoad T_string t27) w2 fun t28 =>
      pureK Try.prog (sBin .lss T_string (.tmp 26) (.tmp 28) t26 t28) fun t29 =>
      ifB t29
      (K (.int .i64 (-1)) w2)
      (pureK Try.prog (sFieldAddr T_api_Value a2 2) fun t30 =>
       readK Try.prog (sLoad T_string t30) w2 fun t31 =>
       pureK Try.prog (sFieldAddr T_api_Value b3 2) fun t32 =>
       readK Try.prog (sLoad T_string t32) w2 fun t33 =>
       pureK Try.prog (sBin .gtr T_string (.tmp 31) (.tmp 33) t31 t33) fun t34 =>
       ifB t34
       (K (.int .i64 1) w2)
       (K (.int .i64 0) w2))))))
theorem errataref03_Compare.pt_eq : errataref03_Compare.pt = fun a0 b1 w K => FN Try.prog Try.f36 (bodyOf Try.f36) [4] .leaf [a0, b1] w K := by kernel_rfl
theorem errataref03_Compare.call {a0 b1 : Value} {w : World} {K : Value → World → Prop} (h : errataref03_Compare.pt a0 b1 w K) : Calls Try.prog F_errataref03_Compare #[a0, b1] w (retK K) :=
  calls_FN (args := [a0, b1]) Try.func36 (by kernel_rfl) (by rw [errataref03_Compare.pt_eq] at h; exact h)
theorem errataref03_Compare.up {a0 b1 : Value} {w : World} {K : Value → World → Prop} (h : Calls Try.prog F_errataref03_Compare #[a0, b1] w (retK K)) : upK Try.prog (sCall F_errataref03_Compare #[a0, b1]) w K :=
  up_call (fn := Try.f36) Try.func36 (by kernel_rfl) (by kernel_rfl) h

/-- slices.ContainsFunc[[]errata/api.Value,errata/api.Value] -/
def slices_ContainsFunc_s_api_Value_api_Value.pt (s0 f1 : Value) (w : World) (K : Value → World → Prop) : Prop :=
  upK Try.prog (sCall F_slices_IndexFunc_s_api_Value_api_Value #[s0, f1]) w fun t7 w1 =>
  pureK Try.prog (sBin .geq T_int (.tmp 7) (.const (.int .i64 0)) t7 (.int .i64 0)) fun t8 =>
  K t8 w1
theorem slices_ContainsFunc_s_api_Value_api_Value.pt_eq : slices_ContainsFunc_s_api_Value_api_Value.pt = fun s0 f1 w K => FN Try.prog Try.f37 (bodyOf Try.f37) [4] .leaf [s0, f1] w K := by kernel_rfl
theorem slices_ContainsFunc_s_api_Value_api_Value.call {s0 f1 : Value} {w : World} {K : Value → World → Prop} (h : slices_ContainsFunc_s_api_Value_api_Value.pt s0 f1 w K) : Calls Try.prog F_slices_ContainsFunc_s_api_Value_api_Value #[s0, f1] w (retK K) :=
  calls_FN (args := [s0, f1]) Try.func37 (by kernel_rfl) (by rw [slices_ContainsFunc_s_api_Value_api_Value.pt_eq] at h; exact h)
theorem slices_ContainsFunc_s_api_Value_api_Value.up {s0 f1 : Value} {w : World} {K : Value → World → Prop} (h : Calls Try.prog F_slices_ContainsFunc_s_api_Value_api_Value #[s0, f1] w (retK K)) : upK Try.prog (sCall F_slices_ContainsFunc_s_api_Value_api_Value #[s0, f1]) w K :=
  up_call (fn := Try.f37) Try.func37 (by kernel_rfl) (by kernel_rfl) h

/-- errata/value.all$1 -/
def value_all_1.pt (v0 : Value) (w : World) (K : Value → World → Prop) : Prop :=
  upK Try.prog (sBox T_api_Value v0) w fun v1 w1 =>
  readK Try.prog (sLoad T_api_Value v1) w1 fun t3 =>
  upK Try.prog (sCall F_value_Right #[t3]) w1 fun t4 w2 =>
  pureK Try.prog (sUn .not t4) fun t5 =>
  K t5 w2
theorem value_all_1.pt_eq : value_all_1.pt = fun v0 w K => FN Try.prog Try.f38 (bodyOf Try.f38) [2] .leaf [v0] w K := by kernel_rfl
theorem value_all_1.call {v0 : Value} {w : World} {K : Value → World → Prop} (h : value_all_1.pt v0 w K) : Calls Try.prog F_value_all_1 #[v0] w (retK K) :=
  calls_FN (args := [v0]) Try.func38 (by kernel_rfl) (by rw [value_all_1.pt_eq] at h; exact h)
theorem value_all_1.up {v0 : Value} {w : World} {K : Value → World → Prop} (h : Calls Try.prog F_value_all_1 #[v0] w (retK K)) : upK Try.prog (sCall F_value_all_1 #[v0]) w K :=
  up_call (fn := Try.f38) Try.func38 (by kernel_rfl) (by kernel_rfl) h

/-- errata/value.Right -/
def value_Right.pt (v0 : Value) (w : World) (K : Value → World → Prop) : Prop :=
  upK Try.prog (sBox T_api_Value v0) w fun v1 w1 =>
  pureK Try.prog (sFieldAddr T_api_Value v1 0) fun t3 =>
  readK Try.prog (sLoad T_int t3) w1 fun t4 =>
  pureK Try.prog (sBin .eql T_int (.tmp 4) (.const (.int .i64 0)) t4 (.int .i64 0)) fun t6 =>
  ifB t6
  (readK Try.prog (sLoad T_api_Value v1) (tick w1) fun t7 =>
   pureK Try.prog (sFieldAddr T_api_Value v1 1) fun t8 =>
   readK Try.prog (sLoad T_int t8) (tick w1) fun t9 =>
   upK Try.prog (sCall F_value_Int #[t9]) (tick w1) fun t10 w2 =>
   Is Try.prog (sLoad T_api_Value v1) t7 w2 ∧ pureK Try.prog (sBin .eql T_api_Value (.tmp 7) (.tmp 10) t7 t10) fun t11 =>
   K t11 w2)
  (pureK Try.prog (sBin .eql T_int (.tmp 4) (.const (.int .i64 1)) t4 (.int .i64 1)) fun t13 =>
   ifB t13
   (readK Try.prog (sLoad T_api_Value v1) (tick w1) fun t14 =>
    pureK Try.prog (sFieldAddr T_api_Value v1 2) fun t15 =>
    readK Try.prog (sLoad T_string t15) (tick w1) fun t16 =>
    upK Try.prog (sCall F_value_Text #[t16]) (tick w1) fun t17 w3 =>
    Is Try.prog (sLoad T_api_Value v1) t14 w3 ∧ pureK Try.prog (sBin .eql T_api_Value (.tmp 14) (.tmp 17) t14 t17) fun t18 =>
    ifB t18
    (pureK Try.prog (sFieldAddr T_api_Value v1 2) fun t20 =>
     readK Try.prog (sLoad T_string t20) w3 fun t21 =>
     readK Try.prog (sBlt .len #[T_string] T_int #[false] #[t21]) w3 fun t22 =>
     pureK Try.prog (sBin .leq T_int (.tmp 22) (.const (.int .i64 200)) t22 (.int .i64 200)) fun t23 =>
     K t23 w3)
    (K (.bool false) w3))
   (readK Try.prog (sLoad T_api_Value v1) (tick w1) fun t25 =>
    upK Try.prog (sCall F_value_Bool #[(.bool false)]) (tick w1) fun t26 w4 =>
    Is Try.prog (sLoad T_api_Value v1) t25 w4 ∧ pureK Try.prog (sBin .eql T_api_Value (.tmp 25) (.tmp 26) t25 t26) fun t27 =>
    ifB t27
    (K (.bool true) w4)
    (readK Try.prog (sLoad T_api_Value v1) w4 fun t29 =>
     upK Try.prog (sCall F_value_Bool #[(.bool true)]) w4 fun t30 w5 =>
     Is Try.prog (sLoad T_api_Value v1) t29 w5 ∧ pureK Try.prog (sBin .eql T_api_Value (.tmp 29) (.tmp 30) t29 t30) fun t31 =>
     K t31 w5)))
theorem value_Right.pt_eq : value_Right.pt = fun v0 w K => FN Try.prog Try.f39 (bodyOf Try.f39) [2] .leaf [v0] w K := by kernel_rfl
theorem value_Right.call {v0 : Value} {w : World} {K : Value → World → Prop} (h : value_Right.pt v0 w K) : Calls Try.prog F_value_Right #[v0] w (retK K) :=
  calls_FN (args := [v0]) Try.func39 (by kernel_rfl) (by rw [value_Right.pt_eq] at h; exact h)
theorem value_Right.up {v0 : Value} {w : World} {K : Value → World → Prop} (h : Calls Try.prog F_value_Right #[v0] w (retK K)) : upK Try.prog (sCall F_value_Right #[v0]) w K :=
  up_call (fn := Try.f39) Try.func39 (by kernel_rfl) (by kernel_rfl) h

/-- slices.IndexFunc[[]errata/api.Value,errata/api.Value] -/
def slices_IndexFunc_s_api_Value_api_Value.pt (s0 f1 : Value) (w : World) (K : Value → World → Prop) : Prop :=
  readK Try.prog (sBlt .len #[T_s_api_Value] T_int #[false] #[s0]) w fun t7 =>
  LOOP (X := Value × Unit) (fun x1 w1 next1 =>
   pureK Try.prog (sBin .lss T_int (.tmp 8) (.tmp 7) x1.1 t7) fun t9 =>
   ifB t9
   (pureK Try.prog (sIdxAddr T_s_api_Value s0 x1.1) fun t14 =>
    readK Try.prog (sLoad T_api_Value t14) w1 fun t15 =>
    upK Try.prog (sCallV f1 #[t15]) w1 fun t16 w2 =>
    ifB t16
    (K x1.1 w2)
    (pureK Try.prog (sBin .add T_int (.tmp 8) (.const (.int .i64 1)) x1.1 (.int .i64 1)) fun t18 =>
     next1 (t18, ()) w2))
   (K (.int .i64 (-1)) w1))
  ((.int .i64 0), ()) w
theorem slices_IndexFunc_s_api_Value_api_Value.pt_eq : slices_IndexFunc_s_api_Value_api_Value.pt = fun s0 f1 w K => FN Try.prog Try.f40 (bodyOf Try.f40) [4] .leaf [s0, f1] w K := by kernel_rfl
theorem slices_IndexFunc_s_api_Value_api_Value.call {s0 f1 : Value} {w : World} {K : Value → World → Prop} (h : slices_IndexFunc_s_api_Value_api_Value.pt s0 f1 w K) : Calls Try.prog F_slices_IndexFunc_s_api_Value_api_Value #[s0, f1] w (retK K) :=
  calls_FN (args := [s0, f1]) Try.func40 (by kernel_rfl) (by rw [slices_IndexFunc_s_api_Value_api_Value.pt_eq] at h; exact h)
theorem slices_IndexFunc_s_api_Value_api_Value.up {s0 f1 : Value} {w : World} {K : Value → World → Prop} (h : Calls Try.prog F_slices_IndexFunc_s_api_Value_api_Value #[s0, f1] w (retK K)) : upK Try.prog (sCall F_slices_IndexFunc_s_api_Value_api_Value #[s0, f1]) w K :=
  up_call (fn := Try.f40) Try.func40 (by kernel_rfl) (by kernel_rfl) h

/-- errata/value.Int -/
def value_Int.pt (n0 : Value) (w : World) (K : Value → World → Prop) : Prop :=
  upK Try.prog (sAlloc T_api_Value) w fun t2 w1 =>
  pureK Try.prog (sBuild T_api_Value #[(0, (.int .i64 0)), (1, n0)]) fun t4 =>
  upK Try.prog (sStore T_api_Value t2 t4) w1 fun tu w2 =>
  readV Try.prog (do loadVar T_api_Value (← asAddr t2)) w2 fun t2_1 =>
  K t2_1 w2
theorem value_Int.pt_eq : value_Int.pt = fun n0 w K => FN Try.prog Try.f41 (bodyOf Try.f41) [] .leaf [n0] w K := by kernel_rfl
theorem value_Int.call {n0 : Value} {w : World} {K : Value → World → Prop} (h : value_Int.pt n0 w K) : Calls Try.prog F_value_Int #[n0] w (retK K) :=
  calls_FN (args := [n0]) Try.func41 (by kernel_rfl) (by rw [value_Int.pt_eq] at h; exact h)
theorem value_Int.up {n0 : Value} {w : World} {K : Value → World → Prop} (h : Calls Try.prog F_value_Int #[n0] w (retK K)) : upK Try.prog (sCall F_value_Int #[n0]) w K :=
  up_call (fn := Try.f41) Try.func41 (by kernel_rfl) (by kernel_rfl) h

/-- errata/value.Text -/
def value_Text.pt (s0 : Value) (w : World) (K : Value → World → Prop) : Prop :=
  upK Try.prog (sAlloc T_api_Value) w fun t2 w1 =>
  pureK Try.prog (sBuild T_api_Value #[(0, (.int .i64 1)), (2, s0)]) fun t4 =>
  upK Try.prog (sStore T_api_Value t2 t4) w1 fun tu w2 =>
  readV Try.prog (do loadVar T_api_Value (← asAddr t2)) w2 fun t2_1 =>
  K t2_1 w2
theorem value_Text.pt_eq : value_Text.pt = fun s0 w K => FN Try.prog Try.f42 (bodyOf Try.f42) [] .leaf [s0] w K := by kernel_rfl
theorem value_Text.call {s0 : Value} {w : World} {K : Value → World → Prop} (h : value_Text.pt s0 w K) : Calls Try.prog F_value_Text #[s0] w (retK K) :=
  calls_FN (args := [s0]) Try.func42 (by kernel_rfl) (by rw [value_Text.pt_eq] at h; exact h)
theorem value_Text.up {s0 : Value} {w : World} {K : Value → World → Prop} (h : Calls Try.prog F_value_Text #[s0] w (retK K)) : upK Try.prog (sCall F_value_Text #[s0]) w K :=
  up_call (fn := Try.f42) Try.func42 (by kernel_rfl) (by kernel_rfl) h

/-- errata/value.Bool -/
def value_Bool.pt (b0 : Value) (w : World) (K : Value → World → Prop) : Prop :=
  upK Try.prog (sAlloc T_api_Value) w fun t2 w1 =>
  ifB b0
  (pureK Try.prog (sBuild T_api_Value #[(0, (.int .i64 2)), (1, (.int .i64 1))]) fun t4 =>
   upK Try.prog (sStore T_api_Value t2 t4) w1 fun tu w2 =>
   readV Try.prog (do loadVar T_api_Value (← asAddr t2)) w2 fun t2_1 =>
   K t2_1 w2)
  (pureK Try.prog (sBuild T_api_Value #[(0, (.int .i64 2))]) fun t5 =>
   upK Try.prog (sStore T_api_Value t2 t5) w1 fun tu_1 w3 =>
   readV Try.prog (do loadVar T_api_Value (← asAddr t2)) w3 fun t2_2 =>
   K t2_2 w3)
theorem value_Bool.pt_eq : value_Bool.pt = fun b0 w K => FN Try.prog Try.f43 (bodyOf Try.f43) [] .leaf [b0] w K := by kernel_rfl
theorem value_Bool.call {b0 : Value} {w : World} {K : Value → World → Prop} (h : value_Bool.pt b0 w K) : Calls Try.prog F_value_Bool #[b0] w (retK K) :=
  calls_FN (args := [b0]) Try.func43 (by kernel_rfl) (by rw [value_Bool.pt_eq] at h; exact h)
theorem value_Bool.up {b0 : Value} {w : World} {K : Value → World → Prop} (h : Calls Try.prog F_value_Bool #[b0] w (retK K)) : upK Try.prog (sCall F_value_Bool #[b0]) w K :=
  up_call (fn := Try.f43) Try.func43 (by kernel_rfl) (by kernel_rfl) h

end Go.Proofs.Ytmllhipiahlihaa
