/-
  The reckoned conditions of the functions that this seat's statements reach, printed by program, each held against the translation by the kernel. No condition.
-/
import Derived.Test.YtefinemhfgdpdaaNames
namespace Go.Proofs.Ytefinemhfgdpdaa
set_option linter.unusedVariables false

/-- errata/erratalaw11.IntakeOnce -/
def erratalaw11_IntakeOnce.pt (c0 l1 picks2 : Value) (w : World) (K : Value → World → Prop) : Prop :=
  upK Try.prog (sBox T_api_Config c0) w fun c3 w1 =>
  upK Try.prog (sCall F_erratalaw11_small #[]) w1 fun t19 w2 =>
  readK Try.prog (sLoad T_api_Config c3) (tick w2) fun t20 =>
  upK Try.prog (sCall F_erratalaw11_known #[]) (tick w2) fun t21 w3 =>
  Is Try.prog (sLoad T_api_Config c3) t20 w3 ∧ upK Try.prog (sCall F_intake_New #[t20, t21]) w3 fun t22 w4 =>
  upK Try.prog (sCall F_erratalaw11_few #[l1, (.int .i64 100)]) w4 fun t24 w5 =>
  pureK Try.prog (sUn .not t24) fun t25 =>
  ifB t25
  (ifB t19
   (pureK Try.prog (sBin .neq T_p_intake_Intake (.tmp 37) (.const (.pointer none)) t22 (.pointer none)) fun t38 =>
    ifB t38
    (K (.bool true) w5)
    (readK Try.prog (sLoad T_api_Config c3) w5 fun t40 =>
     upK Try.prog (sCall F_intake_Right #[t40]) w5 fun t41 w6 =>
     pureK Try.prog (sUn .not t41) fun t42 =>
     K t42 w6))
   (K (.bool false) w5))
  (readK Try.prog (sBlt .len #[T_s_int] T_int #[false] #[picks2]) w5 fun t28 =>
   pureK Try.prog (sBin .gtr T_int (.tmp 28) (.const (.int .i64 100)) t28 (.int .i64 100)) fun t29 =>
   ifB t29
   (ifB t19
    (pureK Try.prog (sBin .neq T_p_intake_Intake (.tmp 37) (.const (.pointer none)) t22 (.pointer none)) fun t38_1 =>
     ifB t38_1
     (K (.bool true) w5)
     (readK Try.prog (sLoad T_api_Config c3) w5 fun t40_1 =>
      upK Try.prog (sCall F_intake_Right #[t40_1]) w5 fun t41_1 w7 =>
      pureK Try.prog (sUn .not t41_1) fun t42_1 =>
      K t42_1 w7))
    (K (.bool false) w5))
   (pureK Try.prog (sBin .eql T_p_intake_Intake (.tmp 32) (.const (.pointer none)) t22 (.pointer none)) fun t33 =>
    ifB t33
    (ifB t19
     (pureK Try.prog (sBin .neq T_p_intake_Intake (.tmp 37) (.const (.pointer none)) t22 (.pointer none)) fun t38_2 =>
      ifB t38_2
      (K (.bool true) w5)
      (readK Try.prog (sLoad T_api_Config c3) w5 fun t40_2 =>
       upK Try.prog (sCall F_intake_Right #[t40_2]) w5 fun t41_2 w8 =>
       pureK Try.prog (sUn .not t41_2) fun t42_2 =>
       K t42_2 w8))
     (K (.bool false) w5))
    (LOOP (X := Value × Value × Unit) (fun x9 w9 next9 =>
      readK Try.prog (sBlt .len #[T_s_api_Entry] T_int #[false] #[l1]) w9 fun t47 =>
      pureK Try.prog (sBin .lss T_int (.tmp 45) (.tmp 47) x9.2.1 t47) fun t48 =>
      ifB t48
      (LETJ (X := Value × Unit) (fun y1 w10 =>
        pureK Try.prog (sBin .add T_int (.tmp 49) (.const (.int .i64 1)) x9.2.1 (.int .i64 1)) fun t50 =>
        next9 (y1.1, t50, ()) w10)
       (fun J1 =>
        pureK Try.prog (sIdxAddr T_s_api_Entry l1 x9.2.1) fun t55 =>
        readK Try.prog (sLoad T_api_Entry t55) w9 fun t56 =>
        upK Try.prog (sCall F_intake_Intake_Apply #[t22, t56]) w9 fun t57 w11 =>
        pureK Try.prog (sExtract t57 0) fun t58 =>
        pureK Try.prog (sExtract t57 1) fun t59 =>
        pureK Try.prog (sIdxAddr T_s_api_Entry l1 x9.2.1) fun t62 =>
        pureK Try.prog (sFieldAddr T_api_Entry t62 0) fun t63 =>
        readK Try.prog (sLoad T_int t63) w11 fun t64 =>
        pureK Try.prog (sBin .neq T_int (.tmp 64) (.const (.int .i64 0)) t64 (.int .i64 0)) fun t65 =>
        ifB t65
        (J1 (x9.1, ()) w11)
        (pureK Try.prog (sBin .neq T_api_Errno (.tmp 67) (.const (.int .i64 0)) t59 (.int .i64 0)) fun t68 =>
         ifB t68
         (J1 (x9.1, ()) w11)
         (LOOP (X := Value × Value × Unit) (fun x12 w12 next12 =>
           readK Try.prog (sBlt .len #[T_s_api_Entry] T_int #[false] #[x9.1]) w12 fun t72 =>
           pureK Try.prog (sBin .lss T_int (.tmp 70) (.tmp 72) x12.2.1 t72) fun t73 =>
           ifB t73
           (LETJ (X := Value × Unit) (fun y2 w13 =>
             pureK Try.prog (sBin .add T_int (.tmp 74) (.const (.int .i64 1)) x12.2.1 (.int .i64 1)) fun t75 =>
             next12 (y2.1, t75, ()) w13)
            (fun J2 =>
             pureK Try.prog (sIdxAddr T_s_api_Entry x9.1 x12.2.1) fun t78 =>
             pureK Try.prog (sFieldAddr T_api_Entry t78 1) fun t79 =>
             readK Try.prog (sLoad T_int t79) (tick w12) fun t80 =>
             pureK Try.prog (sIdxAddr T_s_api_Entry l1 x9.2.1) fun t83 =>
             pureK Try.prog (sFieldAddr T_api_Entry t83 1) fun t84 =>
             readK Try.prog (sLoad T_int t84) (tick w12) fun t85 =>
             pureK Try.prog (sBin .eql T_int (.tmp 80) (.tmp 85) t80 t85) fun t86 =>
             ifB t86
             (pureK Try.prog (sIdxAddr T_s_api_Entry x9.1 x12.2.1) fun t90 =>
              pureK Try.prog (sFieldAddr T_api_Entry t90 2) fun t91 =>
              readK Try.prog (sLoad T_int t91) (tick w12) fun t92 =>
              pureK Try.prog (sIdxAddr T_s_api_Entry l1 x9.2.1) fun t95 =>
              pureK Try.prog (sFieldAddr T_api_Entry t95 2) fun t96 =>
              readK Try.prog (sLoad T_int t96) (tick w12) fun t97 =>
              pureK Try.prog (sBin .eql T_int (.tmp 92) (.tmp 97) t92 t97) fun t98 =>
              ifB t98
              (pureK Try.prog (sBin .add T_int (.tmp 100) (.const (.int .i64 1)) x12.1 (.int .i64 1)) fun t101 =>
               J2 (t101, ()) (tick w12))
              (J2 (x12.1, ()) (tick w12)))
             (J2 (x12.1, ()) (tick w12))))
           (readK Try.prog (sBlt .len #[T_s_api_Entry] T_int #[false] #[x9.1]) w12 fun t104 =>
            pureK Try.prog (sBin .neq T_int (.tmp 102) (.tmp 104) t58 t104) fun t105 =>
            ifB t105
            (K (.bool false) w12)
            (pureK Try.prog (sIdxAddr T_s_api_Entry l1 x9.2.1) fun t109 =>
             pureK Try.prog (sFieldAddr T_api_Entry t109 3) fun t110 =>
             readK Try.prog (sLoad T_int t110) w12 fun t111 =>
             pureK Try.prog (sBin .neq T_int (.tmp 111) (.tmp 112) t111 x12.1) fun t113 =>
             ifB t113
             (K (.bool false) w12)
             (pureK Try.prog (sIdxAddr T_s_api_Entry l1 x9.2.1) fun t118 =>
              readK Try.prog (sLoad T_api_Entry t118) w12 fun t119 =>
              upK Try.prog (sBuildSlice T_s_api_Entry 1 #[(0, t119)]) w12 fun t120 w14 =>
              upK Try.prog (sBlt .append #[T_s_api_Entry, T_s_api_Entry] T_s_api_Entry #[false, false] #[x9.1, t120]) w14 fun t121 w15 =>
              J1 (t121, ()) w15))))
          ((.int .i64 0), (.int .i64 0), ()) w11))))
      (upK Try.prog (sCall F_intake_Intake_Next #[t22]) w9 fun t123 w16 =>
       readK Try.prog (sBlt .len #[T_s_api_Entry] T_int #[false] #[x9.1]) w16 fun t125 =>
       pureK Try.prog (sBin .neq T_int (.tmp 123) (.tmp 125) t123 t125) fun t126 =>
       ifB t126
       (K (.bool false) w16)
       (LETJ (X := Unit) (fun y3 w17 =>
         ifB t19
         (upK Try.prog (sCall F_intake_Intake_Next #[t22]) w17 fun t178 w18 =>
          readK Try.prog (sBlt .len #[T_s_api_Entry] T_int #[false] #[x9.1]) w18 fun t180 =>
          pureK Try.prog (sBin .eql T_int (.tmp 178) (.tmp 180) t178 t180) fun t181 =>
          K t181 w18)
         (K (.bool false) w17))
        (fun J3 =>
         LOOP (X := Value × Unit) (fun x19 w19 next19 =>
          readK Try.prog (sBlt .len #[T_s_int] T_int #[false] #[picks2]) w19 fun t129 =>
          pureK Try.prog (sBin .lss T_int (.tmp 127) (.tmp 129) x19.1 t129) fun t130 =>
          ifB t130
          (readK Try.prog (sBlt .len #[T_s_api_Entry] T_int #[false] #[x9.1]) w19 fun t133 =>
           pureK Try.prog (sBin .gtr T_int (.tmp 133) (.const (.int .i64 0)) t133 (.int .i64 0)) fun t134 =>
           ifB t134
           (LETJ (X := Unit) (fun y4 w20 =>
             pureK Try.prog (sBin .add T_int (.tmp 136) (.const (.int .i64 1)) x19.1 (.int .i64 1)) fun t137 =>
             next19 (t137, ()) w20)
            (fun J4 =>
             pureK Try.prog (sIdxAddr T_s_int picks2 x19.1) fun t140 =>
             readK Try.prog (sLoad T_int t140) w19 fun t141 =>
             readK Try.prog (sBlt .len #[T_s_api_Entry] T_int #[false] #[x9.1]) w19 fun t143 =>
             pureK Try.prog (sBin .rem T_int (.tmp 141) (.tmp 143) t141 t143) fun t144 =>
             LETJ (X := Value × Unit) (fun y5 w21 =>
              pureK Try.prog (sIdxAddr T_s_api_Entry x9.1 y5.1) fun t155 =>
              readK Try.prog (sLoad T_api_Entry t155) w21 fun t156 =>
              upK Try.prog (sCall F_intake_Intake_Apply #[t22, t156]) w21 fun t157 w22 =>
              pureK Try.prog (sExtract t157 0) fun t158 =>
              pureK Try.prog (sExtract t157 1) fun t159 =>
              pureK Try.prog (sBin .neq T_api_Errno (.tmp 160) (.const (.int .i64 18)) t159 (.int .i64 18)) fun t161 =>
              ifB t161
              (pureK Try.prog (sBin .neq T_api_Errno (.tmp 163) (.const (.int .i64 5)) t159 (.int .i64 5)) fun t164 =>
               ifB t164
               (K (.bool false) w22)
               (pureK Try.prog (sBin .neq T_int (.tmp 166) (.tmp 167) t158 y5.1) fun t168 =>
                ifB t168
                (pureK Try.prog (sBin .neq T_int (.tmp 170) (.const (.int .i64 (-1))) t158 (.int .i64 (-1))) fun t171 =>
                 ifB t171
                 (K (.bool false) w22)
                 (J4 (()) w22))
                (J4 (()) w22)))
              (J4 (()) w22))
             (fun J5 =>
              pureK Try.prog (sBin .lss T_int (.tmp 145) (.const (.int .i64 0)) t144 (.int .i64 0)) fun t146 =>
              ifB t146
              (readK Try.prog (sBlt .len #[T_s_api_Entry] T_int #[false] #[x9.1]) w19 fun t149 =>
               pureK Try.prog (sBin .add T_int (.tmp 147) (.tmp 149) t144 t149) fun t150 =>
               J5 (t150, ()) w19)
              (J5 (t144, ()) w19))))
           (J3 (()) w19))
          (J3 (()) w19))
         ((.int .i64 0), ()) w16))))
     ((.slice none 0 0), (.int .i64 0), ()) w5)))
theorem erratalaw11_IntakeOnce.pt_eq : erratalaw11_IntakeOnce.pt = fun c0 l1 picks2 w K => FN Try.prog Try.f3 (bodyOf Try.f3) [6] (.node none .leaf (.node none .leaf (.node none .leaf (.node none .leaf (.node none .leaf (.node none (.node none .leaf (.node none (.node none (.node none .leaf (.node (some [9]) (.node none (.node none .leaf (.node none .leaf (.node none .leaf (.node none (.node none .leaf (.node none (.node none (.node none .leaf (.node (some [13]) .leaf .leaf)) .leaf) .leaf)) .leaf)))) .leaf) .leaf)) .leaf) .leaf)) (.node none .leaf (.node (some []) (.node none .leaf (.node none (.node none (.node none .leaf (.node (some []) (.node none (.node none .leaf (.node (some [16]) .leaf .leaf)) .leaf) .leaf)) .leaf) .leaf)) .leaf)))))))) [c0, l1, picks2] w K := by kernel_rfl
theorem erratalaw11_IntakeOnce.call {c0 l1 picks2 : Value} {w : World} {K : Value → World → Prop} (h : erratalaw11_IntakeOnce.pt c0 l1 picks2 w K) : Calls Try.prog F_erratalaw11_IntakeOnce #[c0, l1, picks2] w (retK K) :=
  calls_FN (args := [c0, l1, picks2]) Try.func3 (by kernel_rfl) (by rw [erratalaw11_IntakeOnce.pt_eq] at h; exact h)
theorem erratalaw11_IntakeOnce.up {c0 l1 picks2 : Value} {w : World} {K : Value → World → Prop} (h : Calls Try.prog F_erratalaw11_IntakeOnce #[c0, l1, picks2] w (retK K)) : upK Try.prog (sCall F_erratalaw11_IntakeOnce #[c0, l1, picks2]) w K :=
  up_call (fn := Try.f3) Try.func3 (by kernel_rfl) (by kernel_rfl) h

/-- errata/erratalaw11.IntakeFinal -/
def erratalaw11_IntakeFinal.pt (c0 l1 : Value) (w : World) (K : Value → World → Prop) : Prop :=
  upK Try.prog (sBox T_api_Config c0) w fun c2 w1 =>
  upK Try.prog (sCall F_erratalaw11_small #[]) w1 fun t17 w2 =>
  readK Try.prog (sLoad T_api_Config c2) (tick w2) fun t18 =>
  upK Try.prog (sCall F_erratalaw11_known #[]) (tick w2) fun t19 w3 =>
  Is Try.prog (sLoad T_api_Config c2) t18 w3 ∧ upK Try.prog (sCall F_intake_New #[t18, t19]) w3 fun t20 w4 =>
  upK Try.prog (sCall F_erratalaw11_few #[l1, (.int .i64 150)]) w4 fun t22 w5 =>
  pureK Try.prog (sUn .not t22) fun t23 =>
  ifB t23
  (ifB t17
   (pureK Try.prog (sBin .neq T_p_intake_Intake (.tmp 30) (.const (.pointer none)) t20 (.pointer none)) fun t31 =>
    ifB t31
    (K (.bool true) w5)
    (readK Try.prog (sLoad T_api_Config c2) w5 fun t33 =>
     upK Try.prog (sCall F_intake_Right #[t33]) w5 fun t34 w6 =>
     pureK Try.prog (sUn .not t34) fun t35 =>
     K t35 w6))
   (K (.bool false) w5))
  (pureK Try.prog (sBin .eql T_p_intake_Intake (.tmp 25) (.const (.pointer none)) t20 (.pointer none)) fun t26 =>
   ifB t26
   (ifB t17
    (pureK Try.prog (sBin .neq T_p_intake_Intake (.tmp 30) (.const (.pointer none)) t20 (.pointer none)) fun t31_1 =>
     ifB t31_1
     (K (.bool true) w5)
     (readK Try.prog (sLoad T_api_Config c2) w5 fun t33_1 =>
      upK Try.prog (sCall F_intake_Right #[t33_1]) w5 fun t34_1 w7 =>
      pureK Try.prog (sUn .not t34_1) fun t35_1 =>
      K t35_1 w7))
    (K (.bool false) w5))
   (LOOP (X := Value × Value × Unit) (fun x8 w8 next8 =>
     readK Try.prog (sBlt .len #[T_s_api_Entry] T_int #[false] #[l1]) w8 fun t40 =>
     pureK Try.prog (sBin .lss T_int (.tmp 38) (.tmp 40) x8.2.1 t40) fun t41 =>
     ifB t41
     (LETJ (X := Value × Unit) (fun y1 w9 =>
       pureK Try.prog (sBin .add T_int (.tmp 42) (.const (.int .i64 1)) x8.2.1 (.int .i64 1)) fun t43 =>
       next8 (y1.1, t43, ()) w9)
      (fun J1 =>
       upK Try.prog (sCall F_intake_Intake_Closed #[t20]) w8 fun t45 w10 =>
       upK Try.prog (sCall F_intake_Intake_Mark #[t20]) w10 fun t47 w11 =>
       upK Try.prog (sCall F_intake_Intake_Top #[t20]) w11 fun t49 w12 =>
       pureK Try.prog (sIdxAddr T_s_api_Entry l1 x8.2.1) fun t54 =>
       readK Try.prog (sLoad T_api_Entry t54) w12 fun t55 =>
       upK Try.prog (sCall F_intake_Intake_Apply #[t20, t55]) w12 fun t56 w13 =>
       pureK Try.prog (sExtract t56 0) fun t57 =>
       pureK Try.prog (sExtract t56 1) fun t58 =>
       LETJ (X := Value × Unit) (fun y2 w14 =>
        upK Try.prog (sCall F_intake_Intake_Closed #[t20]) w14 fun t98 w15 =>
        pureK Try.prog (sBin .lss T_int (.tmp 98) (.tmp 99) t98 t45) fun t100 =>
        ifB t100
        (K (.bool false) w15)
        (upK Try.prog (sCall F_intake_Intake_Mark #[t20]) w15 fun t103 w16 =>
         pureK Try.prog (sBin .lss T_int (.tmp 103) (.tmp 104) t103 t47) fun t105 =>
         ifB t105
         (K (.bool false) w16)
         (upK Try.prog (sCall F_intake_Intake_Top #[t20]) w16 fun t109 w17 =>
          pureK Try.prog (sBin .lss T_int (.tmp 109) (.tmp 110) t109 t49) fun t111 =>
          ifB t111
          (K (.bool false) w17)
          (upK Try.prog (sCall F_intake_Intake_Closed #[t20]) w17 fun t115 w18 =>
           upK Try.prog (sCall F_intake_Intake_Mark #[t20]) w18 fun t117 w19 =>
           pureK Try.prog (sBin .gtr T_int (.tmp 115) (.tmp 117) t115 t117) fun t118 =>
           ifB t118
           (K (.bool false) w19)
           (upK Try.prog (sCall F_intake_Intake_Top #[t20]) w19 fun t122 w20 =>
            pureK Try.prog (sBin .geq T_int (.tmp 122) (.const (.int .i64 0)) t122 (.int .i64 0)) fun t123 =>
            ifB t123
            (upK Try.prog (sCall F_intake_Intake_Mark #[t20]) w20 fun t126 w21 =>
             upK Try.prog (sCall F_intake_Intake_Top #[t20]) w21 fun t128 w22 =>
             pureK Try.prog (sBin .geq T_int (.tmp 126) (.tmp 128) t126 t128) fun t129 =>
             ifB t129
             (K (.bool false) w22)
             (J1 (y2.1, ()) w22))
            (J1 (y2.1, ()) w20))))))
       (fun J2 =>
        pureK Try.prog (sIdxAddr T_s_api_Entry l1 x8.2.1) fun t61 =>
        pureK Try.prog (sFieldAddr T_api_Entry t61 0) fun t62 =>
        readK Try.prog (sLoad T_int t62) w13 fun t63 =>
        pureK Try.prog (sBin .eql T_int (.tmp 63) (.const (.int .i64 0)) t63 (.int .i64 0)) fun t64 =>
        ifB t64
        (pureK Try.prog (sBin .eql T_api_Errno (.tmp 66) (.const (.int .i64 0)) t58 (.int .i64 0)) fun t67 =>
         ifB t67
         (pureK Try.prog (sIdxAddr T_s_api_Entry l1 x8.2.1) fun t71 =>
          pureK Try.prog (sFieldAddr T_api_Entry t71 6) fun t72 =>
          readK Try.prog (sLoad T_int t72) (tick w13) fun t73 =>
          pureK Try.prog (sBin .leq T_int (.tmp 73) (.tmp 74) t73 t45) fun t75 =>
          ifB t75
          (K (.bool false) (tick w13))
          (pureK Try.prog (sIdxAddr T_s_api_Entry l1 x8.2.1) fun t79 =>
           pureK Try.prog (sFieldAddr T_api_Entry t79 6) fun t80 =>
           readK Try.prog (sLoad T_int t80) (tick w13) fun t81 =>
           pureK Try.prog (sFieldAddr T_api_Config c2 3) fun t84 =>
           readK Try.prog (sLoad T_int t84) (tick w13) fun t85 =>
           upK Try.prog (sCall F_intake_Intake_Now #[t20]) (tick w13) fun t83 w23 =>
           Is Try.prog (sLoad T_int t84) t85 w23 ∧ Is Try.prog (sLoad T_int t80) t81 w23 ∧ pureK Try.prog (sBin .add T_int (.tmp 83) (.tmp 85) t83 t85) fun t86 =>
           pureK Try.prog (sBin .gtr T_int (.tmp 81) (.tmp 86) t81 t86) fun t87 =>
           ifB t87
           (K (.bool false) w23)
           (pureK Try.prog (sIdxAddr T_s_api_Entry l1 x8.2.1) fun t92 =>
            pureK Try.prog (sFieldAddr T_api_Entry t92 6) fun t93 =>
            readK Try.prog (sLoad T_int t93) w23 fun t94 =>
            upK Try.prog (sBuildSlice T_s_int 1 #[(0, t94)]) w23 fun t95 w24 =>
            upK Try.prog (sBlt .append #[T_s_int, T_s_int] T_s_int #[false, false] #[x8.1, t95]) w24 fun t96 w25 =>
            J2 (t96, ()) w25)))
         (J2 (x8.1, ()) w13))
        (J2 (x8.1, ()) w13))))
     (LOOP (X := Value × Unit) (fun x26 w26 next26 =>
       readK Try.prog (sBlt .len #[T_s_int] T_int #[false] #[x8.1]) w26 fun t134 =>
       pureK Try.prog (sBin .lss T_int (.tmp 132) (.tmp 134) x26.1 t134) fun t135 =>
       ifB t135
       (LETJ (X := Unit) (fun y3 w27 =>
         pureK Try.prog (sBin .add T_int (.tmp 136) (.const (.int .i64 1)) x26.1 (.int .i64 1)) fun t137 =>
         next26 (t137, ()) w27)
        (fun J3 =>
         LOOP (X := Value × Value × Unit) (fun x28 w28 next28 =>
          readK Try.prog (sBlt .len #[T_s_int] T_int #[false] #[x8.1]) w28 fun t140 =>
          pureK Try.prog (sBin .lss T_int (.tmp 138) (.tmp 140) x28.2.1 t140) fun t141 =>
          ifB t141
          (LETJ (X := Value × Unit) (fun y4 w29 =>
            pureK Try.prog (sBin .add T_int (.tmp 142) (.const (.int .i64 1)) x28.2.1 (.int .i64 1)) fun t143 =>
            next28 (y4.1, t143, ()) w29)
           (fun J4 =>
            pureK Try.prog (sIdxAddr T_s_int x8.1 x28.2.1) fun t146 =>
            readK Try.prog (sLoad T_int t146) (tick w28) fun t147 =>
            pureK Try.prog (sIdxAddr T_s_int x8.1 x26.1) fun t150 =>
            readK Try.prog (sLoad T_int t150) (tick w28) fun t151 =>
            pureK Try.prog (sBin .eql T_int (.tmp 147) (.tmp 151) t147 t151) fun t152 =>
            ifB t152
            (pureK Try.prog (sBin .add T_int (.tmp 153) (.const (.int .i64 1)) x28.1 (.int .i64 1)) fun t154 =>
             J4 (t154, ()) (tick w28))
            (J4 (x28.1, ()) (tick w28))))
          (pureK Try.prog (sFieldAddr T_api_Config c2 4) fun t156 =>
           readK Try.prog (sLoad T_int t156) (tick w28) fun t157 =>
           pureK Try.prog (sBin .gtr T_int (.tmp 155) (.tmp 157) x28.1 t157) fun t158 =>
           ifB t158
           (K (.bool false) (tick w28))
           (pureK Try.prog (sIdxAddr T_s_int x8.1 x26.1) fun t162 =>
            readK Try.prog (sLoad T_int t162) (tick w28) fun t163 =>
            upK Try.prog (sCall F_intake_Intake_Top #[t20]) (tick w28) fun t165 w30 =>
            Is Try.prog (sLoad T_int t162) t163 w30 ∧ pureK Try.prog (sBin .gtr T_int (.tmp 163) (.tmp 165) t163 t165) fun t166 =>
            ifB t166
            (K (.bool false) w30)
            (pureK Try.prog (sIdxAddr T_s_int x8.1 x26.1) fun t171 =>
             readK Try.prog (sLoad T_int t171) w30 fun t172 =>
             upK Try.prog (sCall F_intake_Intake_Closed #[t20]) w30 fun t174 w31 =>
             Is Try.prog (sLoad T_int t171) t172 w31 ∧ pureK Try.prog (sBin .gtr T_int (.tmp 172) (.tmp 174) t172 t174) fun t175 =>
             ifB t175
             (pureK Try.prog (sIdxAddr T_s_int x8.1 x26.1) fun t180 =>
              readK Try.prog (sLoad T_int t180) w31 fun t181 =>
              upK Try.prog (sCall F_intake_Intake_Count #[t20, t181]) w31 fun t182 w32 =>
              pureK Try.prog (sBin .neq T_int (.tmp 182) (.tmp 183) t182 x28.1) fun t184 =>
              ifB t184
              (K (.bool false) w32)
              (pureK Try.prog (sIdxAddr T_s_int x8.1 x26.1) fun t190 =>
               readK Try.prog (sLoad T_int t190) w32 fun t191 =>
               upK Try.prog (sCall F_intake_Intake_Closed #[t20]) w32 fun t193 w33 =>
               Is Try.prog (sLoad T_int t190) t191 w33 ∧ Is Try.prog (sLoad T_int t156) t157 w33 ∧ pureK Try.prog (sBin .leq T_int (.tmp 191) (.tmp 193) t191 t193) fun t194 =>
               ifB t194
               (pureK Try.prog (sIdxAddr T_s_int x8.1 x26.1) fun t199 =>
                readK Try.prog (sLoad T_int t199) w33 fun t200 =>
                upK Try.prog (sCall F_intake_Intake_Count #[t20, t200]) w33 fun t201 w34 =>
                Is Try.prog (sLoad T_int t162) t163 w34 ∧ Is Try.prog (sLoad T_int t156) t157 w34 ∧ pureK Try.prog (sBin .neq T_int (.tmp 201) (.const (.int .i64 0)) t201 (.int .i64 0)) fun t202 =>
                ifB t202
                (K (.bool false) w34)
                (J3 (()) w34))
               (J3 (()) w33)))
             (pureK Try.prog (sIdxAddr T_s_int x8.1 x26.1) fun t190_1 =>
              readK Try.prog (sLoad T_int t190_1) w31 fun t191_1 =>
              upK Try.prog (sCall F_intake_Intake_Closed #[t20]) w31 fun t193_1 w35 =>
              Is Try.prog (sLoad T_int t190_1) t191_1 w35 ∧ Is Try.prog (sLoad T_int t156) t157 w35 ∧ pureK Try.prog (sBin .leq T_int (.tmp 191) (.tmp 193) t191_1 t193_1) fun t194_1 =>
              ifB t194_1
              (pureK Try.prog (sIdxAddr T_s_int x8.1 x26.1) fun t199_1 =>
               readK Try.prog (sLoad T_int t199_1) w35 fun t200_1 =>
               upK Try.prog (sCall F_intake_Intake_Count #[t20, t200_1]) w35 fun t201_1 w36 =>
               Is Try.prog (sLoad T_int t162) t163 w36 ∧ Is Try.prog (sLoad T_int t156) t157 w36 ∧ pureK Try.prog (sBin .neq T_int (.tmp 201) (.const (.int .i64 0)) t201_1 (.int .i64 0)) fun t202_1 =>
               ifB t202_1
               (K (.bool false) w36)
               (J3 (()) w36))
              (J3 (()) w35))))))
         ((.int .i64 0), (.int .i64 0), ()) w26))
       (K t17 w26))
      ((.int .i64 0), ()) w8))
    ((.slice none 0 0), (.int .i64 0), ()) w5))
theorem erratalaw11_IntakeFinal.pt_eq : erratalaw11_IntakeFinal.pt = fun c0 l1 w K => FN Try.prog Try.f4 (bodyOf Try.f4) [4] (.node none .leaf (.node none .leaf (.node none .leaf (.node none .leaf (.node none .leaf (.node none (.node none .leaf (.node none (.node none (.node none .leaf (.node (some [7]) (.node none (.node none .leaf (.node none .leaf (.node none .leaf (.node none .leaf (.node (some [7]) .leaf .leaf))))) .leaf) .leaf)) .leaf) .leaf)) (.node none (.node none .leaf (.node none (.node none (.node none .leaf (.node (some []) (.node none (.node none .leaf (.node none (.node none .leaf (.node none (.node none (.node none .leaf (.node (some [15]) .leaf .leaf)) .leaf) .leaf)) .leaf)) .leaf) .leaf)) .leaf) .leaf)) .leaf))))))) [c0, l1] w K := by kernel_rfl
theorem erratalaw11_IntakeFinal.call {c0 l1 : Value} {w : World} {K : Value → World → Prop} (h : erratalaw11_IntakeFinal.pt c0 l1 w K) : Calls Try.prog F_erratalaw11_IntakeFinal #[c0, l1] w (retK K) :=
  calls_FN (args := [c0, l1]) Try.func4 (by kernel_rfl) (by rw [erratalaw11_IntakeFinal.pt_eq] at h; exact h)
theorem erratalaw11_IntakeFinal.up {c0 l1 : Value} {w : World} {K : Value → World → Prop} (h : Calls Try.prog F_erratalaw11_IntakeFinal #[c0, l1] w (retK K)) : upK Try.prog (sCall F_erratalaw11_IntakeFinal #[c0, l1]) w K :=
  up_call (fn := Try.f4) Try.func4 (by kernel_rfl) (by kernel_rfl) h

/-- errata/erratalaw11.small -/
def erratalaw11_small.pt (w : World) (K : Value → World → Prop) : Prop :=
  pureK Try.prog (sBuild T_api_Config #[(1, (.int .i64 2)), (2, (.int .i64 5)), (3, (.int .i64 100)), (4, (.int .i64 1))]) fun t15 =>
  upK Try.prog (sCall F_erratalaw11_known #[]) w fun t16 w1 =>
  upK Try.prog (sCall F_intake_New #[t15, t16]) w1 fun t17 w2 =>
  pureK Try.prog (sBin .eql T_p_intake_Intake (.tmp 18) (.const (.pointer none)) t17 (.pointer none)) fun t19 =>
  ifB t19
  (K (.bool false) w2)
  (upK Try.prog (sCall F_erratalaw11_entry #[(.int .i64 0), (.int .i64 10), (.int .i64 1)]) w2 fun t22 w3 =>
   upK Try.prog (sCall F_intake_Intake_Apply #[t17, t22]) w3 fun t23 w4 =>
   pureK Try.prog (sExtract t23 0) fun t24 =>
   pureK Try.prog (sExtract t23 1) fun t25 =>
   upK Try.prog (sCall F_erratalaw11_entry #[(.int .i64 0), (.int .i64 10), (.int .i64 1)]) w4 fun t28 w5 =>
   upK Try.prog (sCall F_intake_Intake_Apply #[t17, t28]) w5 fun t29 w6 =>
   pureK Try.prog (sExtract t29 0) fun t30 =>
   pureK Try.prog (sExtract t29 1) fun t31 =>
   upK Try.prog (sCall F_erratalaw11_entry #[(.int .i64 1), (.int .i64 10), (.int .i64 2)]) w6 fun t34 w7 =>
   upK Try.prog (sCall F_intake_Intake_Apply #[t17, t34]) w7 fun t35 w8 =>
   pureK Try.prog (sExtract t35 0) fun t36 =>
   pureK Try.prog (sExtract t35 1) fun t37 =>
   upK Try.prog (sCall F_erratalaw11_entry #[(.int .i64 1), (.int .i64 4), (.int .i64 2)]) w8 fun t40 w9 =>
   upK Try.prog (sCall F_intake_Intake_Apply #[t17, t40]) w9 fun t41 w10 =>
   pureK Try.prog (sExtract t41 0) fun t42 =>
   pureK Try.prog (sExtract t41 1) fun t43 =>
   upK Try.prog (sCall F_erratalaw11_entry #[(.int .i64 1), (.int .i64 5), (.int .i64 2)]) w10 fun t46 w11 =>
   upK Try.prog (sCall F_intake_Intake_Apply #[t17, t46]) w11 fun t47 w12 =>
   pureK Try.prog (sExtract t47 0) fun t48 =>
   pureK Try.prog (sExtract t47 1) fun t49 =>
   upK Try.prog (sCall F_erratalaw11_entry #[(.int .i64 2), (.int .i64 101), (.int .i64 1)]) w12 fun t52 w13 =>
   upK Try.prog (sCall F_intake_Intake_Apply #[t17, t52]) w13 fun t53 w14 =>
   pureK Try.prog (sExtract t53 0) fun t54 =>
   pureK Try.prog (sExtract t53 1) fun t55 =>
   pureK Try.prog (sBin .eql T_int (.tmp 56) (.const (.int .i64 0)) t24 (.int .i64 0)) fun t57 =>
   ifB t57
   (pureK Try.prog (sBin .eql T_api_Errno (.tmp 59) (.const (.int .i64 0)) t25 (.int .i64 0)) fun t60 =>
    ifB t60
    (pureK Try.prog (sBin .eql T_int (.tmp 63) (.const (.int .i64 0)) t30 (.int .i64 0)) fun t64 =>
     ifB t64
     (pureK Try.prog (sBin .eql T_api_Errno (.tmp 67) (.const (.int .i64 5)) t31 (.int .i64 5)) fun t68 =>
      ifB t68
      (pureK Try.prog (sBin .eql T_api_Errno (.tmp 71) (.const (.int .i64 22)) t37 (.int .i64 22)) fun t72 =>
       ifB t72
       (pureK Try.prog (sBin .eql T_api_Errno (.tmp 75) (.const (.int .i64 20)) t43 (.int .i64 20)) fun t76 =>
        ifB t76
        (pureK Try.prog (sBin .eql T_int (.tmp 80) (.const (.int .i64 1)) t48 (.int .i64 1)) fun t81 =>
         ifB t81
         (pureK Try.prog (sBin .eql T_api_Errno (.tmp 84) (.const (.int .i64 0)) t49 (.int .i64 0)) fun t85 =>
          ifB t85
          (pureK Try.prog (sBin .eql T_api_Errno (.tmp 88) (.const (.int .i64 21)) t55 (.int .i64 21)) fun t89 =>
           ifB t89
           (upK Try.prog (sCall F_intake_Intake_Closed #[t17]) w14 fun t93 w15 =>
            pureK Try.prog (sBin .eql T_int (.tmp 93) (.const (.int .i64 4)) t93 (.int .i64 4)) fun t94 =>
            ifB t94
            (upK Try.prog (sCall F_intake_Intake_Mark #[t17]) w15 fun t98 w16 =>
             pureK Try.prog (sBin .eql T_int (.tmp 98) (.const (.int .i64 7)) t98 (.int .i64 7)) fun t99 =>
             ifB t99
             (upK Try.prog (sCall F_intake_Intake_Refused #[t17]) w16 fun t103 w17 =>
              pureK Try.prog (sBin .eql T_int (.tmp 103) (.const (.int .i64 3)) t103 (.int .i64 3)) fun t104 =>
              K t104 w17)
             (K (.bool false) w16))
            (K (.bool false) w15))
           (K (.bool false) w14))
          (K (.bool false) w14))
         (K (.bool false) w14))
        (K (.bool false) w14))
       (K (.bool false) w14))
      (K (.bool false) w14))
     (K (.bool false) w14))
    (K (.bool false) w14))
   (K (.bool false) w14))
theorem erratalaw11_small.pt_eq : erratalaw11_small.pt = fun  w K => FN Try.prog Try.f5 (bodyOf Try.f5) [0] .leaf [] w K := by kernel_rfl
theorem erratalaw11_small.call {w : World} {K : Value → World → Prop} (h : erratalaw11_small.pt  w K) : Calls Try.prog F_erratalaw11_small #[] w (retK K) :=
  calls_FN (args := []) Try.func5 (by kernel_rfl) (by rw [erratalaw11_small.pt_eq] at h; exact h)
theorem erratalaw11_small.up {w : World} {K : Value → World → Prop} (h : Calls Try.prog F_erratalaw11_small #[] w (retK K)) : upK Try.prog (sCall F_erratalaw11_small #[]) w K :=
  up_call (fn := Try.f5) Try.func5 (by kernel_rfl) (by kernel_rfl) h

/-- errata/intake.New -/
def intake_New.pt (c0 known1 : Value) (w : World) (K : Value → World → Prop) : Prop :=
  upK Try.prog (sBox T_api_Config c0) w fun c2 w1 =>
  readK Try.prog (sLoad T_api_Config c2) w1 fun t6 =>
  upK Try.prog (sCall F_intake_Right #[t6]) w1 fun t7 w2 =>
  pureK Try.prog (sUn .not t7) fun t8 =>
  ifB t8
  (K (.pointer none) w2)
  (readK Try.prog (sLoad T_api_Config c2) w2 fun t9 =>
   upK Try.prog (sMkMap T_map_int_int none) w2 fun t10 w3 =>
   pureK Try.prog (sBuild T_intake_Intake #[(0, t9), (3, (.int .i64 (-1))), (7, t10)]) fun t11 =>
   upK Try.prog (sBox T_intake_Intake t11) w3 fun t12 w4 =>
   upK Try.prog (sCall F_intake_Intake_Know #[t12, known1]) w4 fun t15 w5 =>
   K t12 w5)
theorem intake_New.pt_eq : intake_New.pt = fun c0 known1 w K => FN Try.prog Try.f6 (bodyOf Try.f6) [4] .leaf [c0, known1] w K := by kernel_rfl
theorem intake_New.call {c0 known1 : Value} {w : World} {K : Value → World → Prop} (h : intake_New.pt c0 known1 w K) : Calls Try.prog F_intake_New #[c0, known1] w (retK K) :=
  calls_FN (args := [c0, known1]) Try.func6 (by kernel_rfl) (by rw [intake_New.pt_eq] at h; exact h)
theorem intake_New.up {c0 known1 : Value} {w : World} {K : Value → World → Prop} (h : Calls Try.prog F_intake_New #[c0, known1] w (retK K)) : upK Try.prog (sCall F_intake_New #[c0, known1]) w K :=
  up_call (fn := Try.f6) Try.func6 (by kernel_rfl) (by kernel_rfl) h

/-- errata/erratalaw11.known -/
def erratalaw11_known.pt (w : World) (K : Value → World → Prop) : Prop :=
  pureK Try.prog (sBuild T_api_Col #[(0, (.string ⟨#[97]⟩))]) fun t1 =>
  upK Try.prog (sBuildSlice T_s_api_Col 1 #[(0, t1)]) w fun t2 w1 =>
  pureK Try.prog (sBuild T_api_Known #[(0, (.string ⟨#[115]⟩)), (1, (.int .i64 1)), (2, t2)]) fun t3 =>
  pureK Try.prog (sBuild T_api_Col #[(0, (.string ⟨#[97]⟩)), (1, (.int .i64 1))]) fun t4 =>
  pureK Try.prog (sBuild T_api_Col #[(0, (.string ⟨#[98]⟩)), (1, (.int .i64 2))]) fun t5 =>
  upK Try.prog (sBuildSlice T_s_api_Col 2 #[(0, t4), (1, t5)]) w1 fun t6 w2 =>
  pureK Try.prog (sBuild T_api_Known #[(0, (.string ⟨#[116]⟩)), (1, (.int .i64 2)), (2, t6)]) fun t7 =>
  upK Try.prog (sBuildSlice T_s_api_Known 2 #[(0, t3), (1, t7)]) w2 fun t8 w3 =>
  K t8 w3
theorem erratalaw11_known.pt_eq : erratalaw11_known.pt = fun  w K => FN Try.prog Try.f7 (bodyOf Try.f7) [0] .leaf [] w K := by kernel_rfl
theorem erratalaw11_known.call {w : World} {K : Value → World → Prop} (h : erratalaw11_known.pt  w K) : Calls Try.prog F_erratalaw11_known #[] w (retK K) :=
  calls_FN (args := []) Try.func7 (by kernel_rfl) (by rw [erratalaw11_known.pt_eq] at h; exact h)
theorem erratalaw11_known.up {w : World} {K : Value → World → Prop} (h : Calls Try.prog F_erratalaw11_known #[] w (retK K)) : upK Try.prog (sCall F_erratalaw11_known #[]) w K :=
  up_call (fn := Try.f7) Try.func7 (by kernel_rfl) (by kernel_rfl) h

/-- errata/erratalaw11.few -/
def erratalaw11_few.pt (l0 n1 : Value) (w : World) (K : Value → World → Prop) : Prop :=
  LOOP (X := Value × Unit) (fun x1 w1 next1 =>
   readK Try.prog (sBlt .len #[T_s_api_Entry] T_int #[false] #[l0]) w1 fun t9 =>
   pureK Try.prog (sBin .lss T_int (.tmp 7) (.tmp 9) x1.1 t9) fun t10 =>
   ifB t10
   (LETJ (X := Unit) (fun y1 w2 =>
     pureK Try.prog (sBin .add T_int (.tmp 11) (.const (.int .i64 1)) x1.1 (.int .i64 1)) fun t12 =>
     next1 (t12, ()) w2)
    (fun J1 =>
     pureK Try.prog (sIdxAddr T_s_api_Entry l0 x1.1) fun t15 =>
     pureK Try.prog (sFieldAddr T_api_Entry t15 7) fun t16 =>
     readK Try.prog (sLoad T_s_api_Value t16) w1 fun t17 =>
     readK Try.prog (sBlt .len #[T_s_api_Value] T_int #[false] #[t17]) w1 fun t18 =>
     pureK Try.prog (sBin .gtr T_int (.tmp 18) (.const (.int .i64 12)) t18 (.int .i64 12)) fun t19 =>
     ifB t19
     (K (.bool false) w1)
     (pureK Try.prog (sIdxAddr T_s_api_Entry l0 x1.1) fun t23 =>
      pureK Try.prog (sFieldAddr T_api_Entry t23 4) fun t24 =>
      readK Try.prog (sLoad T_string t24) w1 fun t25 =>
      readK Try.prog (sBlt .len #[T_string] T_int #[false] #[t25]) w1 fun t26 =>
      pureK Try.prog (sBin .gtr T_int (.tmp 26) (.const (.int .i64 30)) t26 (.int .i64 30)) fun t27 =>
      ifB t27
      (K (.bool false) w1)
      (LOOP (X := Value × Unit) (fun x3 w3 next3 =>
        pureK Try.prog (sIdxAddr T_s_api_Entry l0 x1.1) fun t32 =>
        pureK Try.prog (sFieldAddr T_api_Entry t32 7) fun t33 =>
        readK Try.prog (sLoad T_s_api_Value t33) w3 fun t34 =>
        readK Try.prog (sBlt .len #[T_s_api_Value] T_int #[false] #[t34]) w3 fun t35 =>
        pureK Try.prog (sBin .lss T_int (.tmp 29) (.tmp 35) x3.1 t35) fun t36 =>
        ifB t36
        (pureK Try.prog (sIdxAddr T_s_api_Entry l0 x1.1) fun t41 =>
         pureK Try.prog (sFieldAddr T_api_Entry t41 7) fun t42 =>
         readK Try.prog (sLoad T_s_api_Value t42) w3 fun t43 =>
         pureK Try.prog (sIdxAddr T_s_api_Value t43 x3.1) fun t45 =>
         pureK Try.prog (sFieldAddr T_api_Value t45 2) fun t46 =>
         readK Try.prog (sLoad T_string t46) w3 fun t47 =>
         readK Try.prog (sBlt .len #[T_string] T_int #[false] #[t47]) w3 fun t48 =>
         pureK Try.prog (sBin .gtr T_int (.tmp 48) (.const (.int .i64 210)) t48 (.int .i64 210)) fun t49 =>
         ifB t49
         (K (.bool false) w3)
         (pureK Try.prog (sBin .add T_int (.tmp 37) (.const (.int .i64 1)) x3.1 (.int .i64 1)) fun t38 =>
          next3 (t38, ()) w3))
        (J1 (()) w3))
       ((.int .i64 0), ()) w1))))
   (readK Try.prog (sBlt .len #[T_s_api_Entry] T_int #[false] #[l0]) w1 fun t51 =>
    pureK Try.prog (sBin .leq T_int (.tmp 51) (.tmp 52) t51 n1) fun t53 =>
    K t53 w1))
  ((.int .i64 0), ()) w
theorem erratalaw11_few.pt_eq : erratalaw11_few.pt = fun l0 n1 w K => FN Try.prog Try.f8 (bodyOf Try.f8) [4] (.node none .leaf (.node none (.node none .leaf (.node none (.node none (.node none .leaf (.node (some []) .leaf .leaf)) .leaf) .leaf)) .leaf)) [l0, n1] w K := by kernel_rfl
theorem erratalaw11_few.call {l0 n1 : Value} {w : World} {K : Value → World → Prop} (h : erratalaw11_few.pt l0 n1 w K) : Calls Try.prog F_erratalaw11_few #[l0, n1] w (retK K) :=
  calls_FN (args := [l0, n1]) Try.func8 (by kernel_rfl) (by rw [erratalaw11_few.pt_eq] at h; exact h)
theorem erratalaw11_few.up {l0 n1 : Value} {w : World} {K : Value → World → Prop} (h : Calls Try.prog F_erratalaw11_few #[l0, n1] w (retK K)) : upK Try.prog (sCall F_erratalaw11_few #[l0, n1]) w K :=
  up_call (fn := Try.f8) Try.func8 (by kernel_rfl) (by kernel_rfl) h

/-- errata/intake.Right -/
def intake_Right.pt (c0 : Value) (w : World) (K : Value → World → Prop) : Prop :=
  upK Try.prog (sBox T_api_Config c0) w fun c1 w1 =>
  pureK Try.prog (sFieldAddr T_api_Config c1 2) fun t3 =>
  readK Try.prog (sLoad T_int t3) w1 fun t4 =>
  upK Try.prog (sCall F_intake_between #[t4, (.int .i64 0), (.int .i64 10000)]) w1 fun t5 w2 =>
  ifB t5
  (pureK Try.prog (sFieldAddr T_api_Config c1 1) fun t7 =>
   readK Try.prog (sLoad T_int t7) w2 fun t8 =>
   pureK Try.prog (sFieldAddr T_api_Config c1 2) fun t9 =>
   readK Try.prog (sLoad T_int t9) w2 fun t10 =>
   upK Try.prog (sCall F_intake_between #[t8, (.int .i64 0), t10]) w2 fun t11 w3 =>
   ifB t11
   (pureK Try.prog (sFieldAddr T_api_Config c1 3) fun t14 =>
    readK Try.prog (sLoad T_int t14) w3 fun t15 =>
    upK Try.prog (sCall F_intake_between #[t15, (.int .i64 0), (.int .i64 10000)]) w3 fun t16 w4 =>
    ifB t16
    (pureK Try.prog (sFieldAddr T_api_Config c1 4) fun t19 =>
     readK Try.prog (sLoad T_int t19) w4 fun t20 =>
     upK Try.prog (sCall F_intake_between #[t20, (.int .i64 1), (.int .i64 20)]) w4 fun t21 w5 =>
     K t21 w5)
    (K (.bool false) w4))
   (K (.bool false) w3))
  (K (.bool false) w2)
theorem intake_Right.pt_eq : intake_Right.pt = fun c0 w K => FN Try.prog Try.f9 (bodyOf Try.f9) [2] .leaf [c0] w K := by kernel_rfl
theorem intake_Right.call {c0 : Value} {w : World} {K : Value → World → Prop} (h : intake_Right.pt c0 w K) : Calls Try.prog F_intake_Right #[c0] w (retK K) :=
  calls_FN (args := [c0]) Try.func9 (by kernel_rfl) (by rw [intake_Right.pt_eq] at h; exact h)
theorem intake_Right.up {c0 : Value} {w : World} {K : Value → World → Prop} (h : Calls Try.prog F_intake_Right #[c0] w (retK K)) : upK Try.prog (sCall F_intake_Right #[c0]) w K :=
  up_call (fn := Try.f9) Try.func9 (by kernel_rfl) (by kernel_rfl) h

/-- (*errata/intake.Intake).Apply -/
def intake_Intake_Apply.pt (x0 e1 : Value) (w : World) (K : Value → World → Prop) : Prop :=
  upK Try.prog (sBox T_api_Entry e1) w fun e3 w1 =>
  pureK Try.prog (sFieldAddr T_api_Entry e3 0) fun t9 =>
  readK Try.prog (sLoad T_int t9) w1 fun t10 =>
  pureK Try.prog (sBin .eql T_int (.tmp 10) (.const (.int .i64 0)) t10 (.int .i64 0)) fun t12 =>
  ifB t12
  (readK Try.prog (sLoad T_api_Entry e3) w1 fun t14 =>
   upK Try.prog (sCall F_intake_Intake_accept #[x0, t14]) w1 fun t15 w2 =>
   pureK Try.prog (sExtract t15 0) fun t16 =>
   pureK Try.prog (sExtract t15 1) fun t17 =>
   K (.tuple #[t16, t17]) w2)
  (pureK Try.prog (sBin .eql T_int (.tmp 10) (.const (.int .i64 1)) t10 (.int .i64 1)) fun t19 =>
   ifB t19
   (pureK Try.prog (sNil x0) fun t22 =>
    pureK Try.prog (sFieldAddr T_intake_Intake t22 6) fun t23 =>
    readK Try.prog (sLoad T_s_api_Producer t23) (tick w1) fun t24 =>
    pureK Try.prog (sFieldAddr T_api_Entry e3 1) fun t25 =>
    readK Try.prog (sLoad T_int t25) (tick w1) fun t26 =>
    upK Try.prog (sCall F_producer_Fence #[t24, t26]) (tick w1) fun t27 w3 =>
    pureK Try.prog (sExtract t27 0) fun t28 =>
    pureK Try.prog (sExtract t27 1) fun t29 =>
    pureK Try.prog (sExtract t27 2) fun t30 =>
    LETJ (X := Unit) (fun y1 w4 =>
     K (.tuple #[t29, t30]) w4)
    (fun J1 =>
     pureK Try.prog (sBin .eql T_api_Errno (.tmp 31) (.const (.int .i64 0)) t30 (.int .i64 0)) fun t32 =>
     ifB t32
     (pureK Try.prog (sNil x0) fun t35 =>
      pureK Try.prog (sFieldAddr T_intake_Intake t35 6) fun t36 =>
      upK Try.prog (sStore T_s_api_Producer t36 t28) w3 fun tu w5 =>
      J1 (()) w5)
     (J1 (()) w3)))
   (LETJ (X := Value × Unit) (fun y2 w6 =>
     ifB y2.1
     (pureK Try.prog (sFieldAddr T_api_Entry e3 6) fun t42 =>
      readK Try.prog (sLoad T_int t42) w6 fun t43 =>
      upK Try.prog (sCall F_intake_isTime #[t43]) w6 fun t44 w7 =>
      pureK Try.prog (sUn .not t44) fun t45 =>
      ifB t45
      (K (.tuple #[(.int .i64 0), (.int .i64 3)]) w7)
      (pureK Try.prog (sFieldAddr T_api_Entry e3 0) fun t46 =>
       readK Try.prog (sLoad T_int t46) w7 fun t47 =>
       pureK Try.prog (sBin .eql T_int (.tmp 47) (.const (.int .i64 3)) t47 (.int .i64 3)) fun t48 =>
       ifB t48
       (pureK Try.prog (sNil x0) fun t51 =>
        pureK Try.prog (sFieldAddr T_intake_Intake t51 2) fun t52 =>
        readK Try.prog (sLoad T_int t52) (tick w7) fun t53 =>
        pureK Try.prog (sFieldAddr T_api_Entry e3 6) fun t54 =>
        readK Try.prog (sLoad T_int t54) (tick w7) fun t55 =>
        pureK Try.prog (sBlt .max #[T_int, T_int] T_int #[false, false] #[t53, t55]) fun t56 =>
        pureK Try.prog (sNil x0) fun t57 =>
        pureK Try.prog (sFieldAddr T_intake_Intake t57 2) fun t58 =>
        upK Try.prog (sStore T_int t58 t56) (tick w7) fun tu_1 w8 =>
        K (.tuple #[(.int .i64 0), (.int .i64 0)]) w8)
       (pureK Try.prog (sFieldAddr T_api_Entry e3 6) fun t59 =>
        readK Try.prog (sLoad T_int t59) (tick w7) fun t60 =>
        pureK Try.prog (sNil x0) fun t62 =>
        pureK Try.prog (sFieldAddr T_intake_Intake t62 2) fun t63 =>
        readK Try.prog (sLoad T_int t63) (tick w7) fun t64 =>
        pureK Try.prog (sNil x0) fun t66 =>
        pureK Try.prog (sFieldAddr T_intake_Intake t66 0) fun t67 =>
        pureK Try.prog (sFieldAddr T_api_Config t67 3) fun t68 =>
        readK Try.prog (sLoad T_int t68) (tick w7) fun t69 =>
        pureK Try.prog (sBin .add T_int (.tmp 64) (.tmp 69) t64 t69) fun t70 =>
        pureK Try.prog (sBin .gtr T_int (.tmp 60) (.tmp 70) t60 t70) fun t71 =>
        ifB t71
        (K (.tuple #[(.int .i64 0), (.int .i64 21)]) (tick w7))
        (pureK Try.prog (sFieldAddr T_api_Entry e3 6) fun t73 =>
         readK Try.prog (sLoad T_int t73) (tick w7) fun t74 =>
         upK Try.prog (sCall F_intake_Intake_raise #[x0, t74]) (tick w7) fun t75 w9 =>
         K (.tuple #[(.int .i64 0), (.int .i64 0)]) w9))))
     (K (.tuple #[(.int .i64 0), (.int .i64 1)]) w6))
    (fun J2 =>
     pureK Try.prog (sBin .eql T_int (.tmp 10) (.const (.int .i64 2)) t10 (.int .i64 2)) fun t40 =>
     ifB t40
     (J2 (t40, ()) w1)
     (pureK Try.prog (sBin .eql T_int (.tmp 10) (.const (.int .i64 3)) t10 (.int .i64 3)) fun t41 =>
      J2 (t41, ()) w1))))
theorem intake_Intake_Apply.pt_eq : intake_Intake_Apply.pt = fun x0 e1 w K => FN Try.prog Try.f10 (bodyOf Try.f10) [4, 5] (.node none .leaf (.node none (.node none .leaf (.node none (.node none .leaf (.node none .leaf (.node none .leaf (.node none (.node none .leaf (.node (some []) .leaf .leaf)) (.node (some [39]) .leaf .leaf))))) .leaf)) .leaf)) [x0, e1] w K := by kernel_rfl
theorem intake_Intake_Apply.call {x0 e1 : Value} {w : World} {K : Value → World → Prop} (h : intake_Intake_Apply.pt x0 e1 w K) : Calls Try.prog F_intake_Intake_Apply #[x0, e1] w (retK K) :=
  calls_FN (args := [x0, e1]) Try.func10 (by kernel_rfl) (by rw [intake_Intake_Apply.pt_eq] at h; exact h)
theorem intake_Intake_Apply.up {x0 e1 : Value} {w : World} {K : Value → World → Prop} (h : Calls Try.prog F_intake_Intake_Apply #[x0, e1] w (retK K)) : upK Try.prog (sCall F_intake_Intake_Apply #[x0, e1]) w K :=
  up_call (fn := Try.f10) Try.func10 (by kernel_rfl) (by kernel_rfl) h

/-- (*errata/intake.Intake).Next -/
def intake_Intake_Next.pt (x0 : Value) (w : World) (K : Value → World → Prop) : Prop :=
  pureK Try.prog (sNil x0) fun t4 =>
  pureK Try.prog (sFieldAddr T_intake_Intake t4 4) fun t5 =>
  readK Try.prog (sLoad T_int t5) w fun t6 =>
  K t6 w
theorem intake_Intake_Next.pt_eq : intake_Intake_Next.pt = fun x0 w K => FN Try.prog Try.f11 (bodyOf Try.f11) [2] .leaf [x0] w K := by kernel_rfl
theorem intake_Intake_Next.call {x0 : Value} {w : World} {K : Value → World → Prop} (h : intake_Intake_Next.pt x0 w K) : Calls Try.prog F_intake_Intake_Next #[x0] w (retK K) :=
  calls_FN (args := [x0]) Try.func11 (by kernel_rfl) (by rw [intake_Intake_Next.pt_eq] at h; exact h)
theorem intake_Intake_Next.up {x0 : Value} {w : World} {K : Value → World → Prop} (h : Calls Try.prog F_intake_Intake_Next #[x0] w (retK K)) : upK Try.prog (sCall F_intake_Intake_Next #[x0]) w K :=
  up_call (fn := Try.f11) Try.func11 (by kernel_rfl) (by kernel_rfl) h

/-- (*errata/intake.Intake).Closed -/
def intake_Intake_Closed.pt (x0 : Value) (w : World) (K : Value → World → Prop) : Prop :=
  pureK Try.prog (sNil x0) fun t4 =>
  pureK Try.prog (sFieldAddr T_intake_Intake t4 3) fun t5 =>
  readK Try.prog (sLoad T_int t5) (tick w) fun t6 =>
  pureK Try.prog (sNil x0) fun t8 =>
  pureK Try.prog (sFieldAddr T_intake_Intake t8 0) fun t9 =>
  pureK Try.prog (sFieldAddr T_api_Config t9 2) fun t10 =>
  readK Try.prog (sLoad T_int t10) (tick w) fun t11 =>
  pureK Try.prog (sBin .sub T_int (.tmp 6) (.tmp 11) t6 t11) fun t12 =>
  pureK Try.prog (sBin .sub T_int (.tmp 12) (.const (.int .i64 1)) t12 (.int .i64 1)) fun t13 =>
  pureK Try.prog (sBlt .max #[T_int, T_int] T_int #[true, false] #[(.int .i64 (-1)), t13]) fun t14 =>
  K t14 (tick w)
theorem intake_Intake_Closed.pt_eq : intake_Intake_Closed.pt = fun x0 w K => FN Try.prog Try.f12 (bodyOf Try.f12) [2] .leaf [x0] w K := by kernel_rfl
theorem intake_Intake_Closed.call {x0 : Value} {w : World} {K : Value → World → Prop} (h : intake_Intake_Closed.pt x0 w K) : Calls Try.prog F_intake_Intake_Closed #[x0] w (retK K) :=
  calls_FN (args := [x0]) Try.func12 (by kernel_rfl) (by rw [intake_Intake_Closed.pt_eq] at h; exact h)
theorem intake_Intake_Closed.up {x0 : Value} {w : World} {K : Value → World → Prop} (h : Calls Try.prog F_intake_Intake_Closed #[x0] w (retK K)) : upK Try.prog (sCall F_intake_Intake_Closed #[x0]) w K :=
  up_call (fn := Try.f12) Try.func12 (by kernel_rfl) (by kernel_rfl) h

/-- (*errata/intake.Intake).Mark -/
def intake_Intake_Mark.pt (x0 : Value) (w : World) (K : Value → World → Prop) : Prop :=
  pureK Try.prog (sNil x0) fun t4 =>
  pureK Try.prog (sFieldAddr T_intake_Intake t4 3) fun t5 =>
  readK Try.prog (sLoad T_int t5) (tick w) fun t6 =>
  pureK Try.prog (sNil x0) fun t8 =>
  pureK Try.prog (sFieldAddr T_intake_Intake t8 0) fun t9 =>
  pureK Try.prog (sFieldAddr T_api_Config t9 1) fun t10 =>
  readK Try.prog (sLoad T_int t10) (tick w) fun t11 =>
  pureK Try.prog (sBin .sub T_int (.tmp 6) (.tmp 11) t6 t11) fun t12 =>
  pureK Try.prog (sBin .sub T_int (.tmp 12) (.const (.int .i64 1)) t12 (.int .i64 1)) fun t13 =>
  pureK Try.prog (sBlt .max #[T_int, T_int] T_int #[true, false] #[(.int .i64 (-1)), t13]) fun t14 =>
  K t14 (tick w)
theorem intake_Intake_Mark.pt_eq : intake_Intake_Mark.pt = fun x0 w K => FN Try.prog Try.f13 (bodyOf Try.f13) [2] .leaf [x0] w K := by kernel_rfl
theorem intake_Intake_Mark.call {x0 : Value} {w : World} {K : Value → World → Prop} (h : intake_Intake_Mark.pt x0 w K) : Calls Try.prog F_intake_Intake_Mark #[x0] w (retK K) :=
  calls_FN (args := [x0]) Try.func13 (by kernel_rfl) (by rw [intake_Intake_Mark.pt_eq] at h; exact h)
theorem intake_Intake_Mark.up {x0 : Value} {w : World} {K : Value → World → Prop} (h : Calls Try.prog F_intake_Intake_Mark #[x0] w (retK K)) : upK Try.prog (sCall F_intake_Intake_Mark #[x0]) w K :=
  up_call (fn := Try.f13) Try.func13 (by kernel_rfl) (by kernel_rfl) h

/-- (*errata/intake.Intake).Top -/
def intake_Intake_Top.pt (x0 : Value) (w : World) (K : Value → World → Prop) : Prop :=
  pureK Try.prog (sNil x0) fun t4 =>
  pureK Try.prog (sFieldAddr T_intake_Intake t4 3) fun t5 =>
  readK Try.prog (sLoad T_int t5) w fun t6 =>
  K t6 w
theorem intake_Intake_Top.pt_eq : intake_Intake_Top.pt = fun x0 w K => FN Try.prog Try.f14 (bodyOf Try.f14) [2] .leaf [x0] w K := by kernel_rfl
theorem intake_Intake_Top.call {x0 : Value} {w : World} {K : Value → World → Prop} (h : intake_Intake_Top.pt x0 w K) : Calls Try.prog F_intake_Intake_Top #[x0] w (retK K) :=
  calls_FN (args := [x0]) Try.func14 (by kernel_rfl) (by rw [intake_Intake_Top.pt_eq] at h; exact h)
theorem intake_Intake_Top.up {x0 : Value} {w : World} {K : Value → World → Prop} (h : Calls Try.prog F_intake_Intake_Top #[x0] w (retK K)) : upK Try.prog (sCall F_intake_Intake_Top #[x0]) w K :=
  up_call (fn := Try.f14) Try.func14 (by kernel_rfl) (by kernel_rfl) h

/-- (*errata/intake.Intake).Now -/
def intake_Intake_Now.pt (x0 : Value) (w : World) (K : Value → World → Prop) : Prop :=
  pureK Try.prog (sNil x0) fun t4 =>
  pureK Try.prog (sFieldAddr T_intake_Intake t4 2) fun t5 =>
  readK Try.prog (sLoad T_int t5) w fun t6 =>
  K t6 w
theorem intake_Intake_Now.pt_eq : intake_Intake_Now.pt = fun x0 w K => FN Try.prog Try.f15 (bodyOf Try.f15) [2] .leaf [x0] w K := by kernel_rfl
theorem intake_Intake_Now.call {x0 : Value} {w : World} {K : Value → World → Prop} (h : intake_Intake_Now.pt x0 w K) : Calls Try.prog F_intake_Intake_Now #[x0] w (retK K) :=
  calls_FN (args := [x0]) Try.func15 (by kernel_rfl) (by rw [intake_Intake_Now.pt_eq] at h; exact h)
theorem intake_Intake_Now.up {x0 : Value} {w : World} {K : Value → World → Prop} (h : Calls Try.prog F_intake_Intake_Now #[x0] w (retK K)) : upK Try.prog (sCall F_intake_Intake_Now #[x0]) w K :=
  up_call (fn := Try.f15) Try.func15 (by kernel_rfl) (by kernel_rfl) h

/-- (*errata/intake.Intake).Count -/
def intake_Intake_Count.pt (x0 time1 : Value) (w : World) (K : Value → World → Prop) : Prop :=
  pureK Try.prog (sNil x0) fun t6 =>
  pureK Try.prog (sFieldAddr T_intake_Intake t6 7) fun t7 =>
  readK Try.prog (sLoad T_map_int_int t7) w fun t8 =>
  readK Try.prog (sLookup T_map_int_int t8 time1 false) w fun t10 =>
  K t10 w
theorem intake_Intake_Count.pt_eq : intake_Intake_Count.pt = fun x0 time1 w K => FN Try.prog Try.f16 (bodyOf Try.f16) [4] .leaf [x0, time1] w K := by kernel_rfl
theorem intake_Intake_Count.call {x0 time1 : Value} {w : World} {K : Value → World → Prop} (h : intake_Intake_Count.pt x0 time1 w K) : Calls Try.prog F_intake_Intake_Count #[x0, time1] w (retK K) :=
  calls_FN (args := [x0, time1]) Try.func16 (by kernel_rfl) (by rw [intake_Intake_Count.pt_eq] at h; exact h)
theorem intake_Intake_Count.up {x0 time1 : Value} {w : World} {K : Value → World → Prop} (h : Calls Try.prog F_intake_Intake_Count #[x0, time1] w (retK K)) : upK Try.prog (sCall F_intake_Intake_Count #[x0, time1]) w K :=
  up_call (fn := Try.f16) Try.func16 (by kernel_rfl) (by kernel_rfl) h

/-- errata/erratalaw11.entry -/
def erratalaw11_entry.pt (seq0 time1 n2 : Value) (w : World) (K : Value → World → Prop) : Prop :=
  upK Try.prog (sAlloc T_api_Entry) w fun t6 w1 =>
  pureK Try.prog (sBuild T_api_Value #[(1, n2)]) fun t10 =>
  upK Try.prog (sBuildSlice T_s_api_Value 1 #[(0, t10)]) w1 fun t11 w2 =>
  pureK Try.prog (sBuild T_api_Entry #[(1, (.int .i64 7)), (3, seq0), (4, (.string ⟨#[115]⟩)), (5, (.int .i64 1)), (6, time1), (7, t11)]) fun t12 =>
  upK Try.prog (sStore T_api_Entry t6 t12) w2 fun tu w3 =>
  readV Try.prog (do loadVar T_api_Entry (← asAddr t6)) w3 fun t6_1 =>
  K t6_1 w3
theorem erratalaw11_entry.pt_eq : erratalaw11_entry.pt = fun seq0 time1 n2 w K => FN Try.prog Try.f17 (bodyOf Try.f17) [] .leaf [seq0, time1, n2] w K := by kernel_rfl
theorem erratalaw11_entry.call {seq0 time1 n2 : Value} {w : World} {K : Value → World → Prop} (h : erratalaw11_entry.pt seq0 time1 n2 w K) : Calls Try.prog F_erratalaw11_entry #[seq0, time1, n2] w (retK K) :=
  calls_FN (args := [seq0, time1, n2]) Try.func17 (by kernel_rfl) (by rw [erratalaw11_entry.pt_eq] at h; exact h)
theorem erratalaw11_entry.up {seq0 time1 n2 : Value} {w : World} {K : Value → World → Prop} (h : Calls Try.prog F_erratalaw11_entry #[seq0, time1, n2] w (retK K)) : upK Try.prog (sCall F_erratalaw11_entry #[seq0, time1, n2]) w K :=
  up_call (fn := Try.f17) Try.func17 (by kernel_rfl) (by kernel_rfl) h

/-- (*errata/intake.Intake).Refused -/
def intake_Intake_Refused.pt (x0 : Value) (w : World) (K : Value → World → Prop) : Prop :=
  pureK Try.prog (sNil x0) fun t4 =>
  pureK Try.prog (sFieldAddr T_intake_Intake t4 5) fun t5 =>
  readK Try.prog (sLoad T_int t5) w fun t6 =>
  K t6 w
theorem intake_Intake_Refused.pt_eq : intake_Intake_Refused.pt = fun x0 w K => FN Try.prog Try.f18 (bodyOf Try.f18) [2] .leaf [x0] w K := by kernel_rfl
theorem intake_Intake_Refused.call {x0 : Value} {w : World} {K : Value → World → Prop} (h : intake_Intake_Refused.pt x0 w K) : Calls Try.prog F_intake_Intake_Refused #[x0] w (retK K) :=
  calls_FN (args := [x0]) Try.func18 (by kernel_rfl) (by rw [intake_Intake_Refused.pt_eq] at h; exact h)
theorem intake_Intake_Refused.up {x0 : Value} {w : World} {K : Value → World → Prop} (h : Calls Try.prog F_intake_Intake_Refused #[x0] w (retK K)) : upK Try.prog (sCall F_intake_Intake_Refused #[x0]) w K :=
  up_call (fn := Try.f18) Try.func18 (by kernel_rfl) (by kernel_rfl) h

/-- (*errata/intake.Intake).Know -/
def intake_Intake_Know.pt (x0 known1 : Value) (w : World) (K : Value → World → Prop) : Prop :=
  pureK Try.prog (sNil x0) fun t7 =>
  pureK Try.prog (sFieldAddr T_intake_Intake t7 1) fun t8 =>
  upK Try.prog (sStore T_s_api_Known t8 (.slice none 0 0)) w fun tu w1 =>
  readK Try.prog (sBlt .len #[T_s_api_Known] T_int #[false] #[known1]) w1 fun t10 =>
  LOOP (X := Value × Unit) (fun x2 w2 next2 =>
   pureK Try.prog (sBin .lss T_int (.tmp 11) (.tmp 10) x2.1 t10) fun t12 =>
   ifB t12
   (pureK Try.prog (sIdxAddr T_s_api_Known known1 x2.1) fun t13 =>
    readK Try.prog (sLoad T_api_Known t13) w2 fun t14 =>
    upK Try.prog (sAlloc T_api_Known) w2 fun k5 w3 =>
    upK Try.prog (sStore T_api_Known k5 t14) w3 fun tu_1 w4 =>
    pureK Try.prog (sFieldAddr T_api_Known k5 2) fun t15 =>
    readK Try.prog (sLoad T_s_api_Col t15) w4 fun t16 =>
    upK Try.prog (sCall F_slices_Clone_s_api_Col_api_Col #[t16]) w4 fun t17 w5 =>
    pureK Try.prog (sFieldAddr T_api_Known k5 2) fun t18 =>
    upK Try.prog (sStore T_s_api_Col t18 t17) w5 fun tu_2 w6 =>
    pureK Try.prog (sNil x0) fun t21 =>
    pureK Try.prog (sFieldAddr T_intake_Intake t21 1) fun t22 =>
    readK Try.prog (sLoad T_s_api_Known t22) (tick w6) fun t23 =>
    readK Try.prog (sLoad T_api_Known k5) (tick w6) fun t24 =>
    upK Try.prog (sBuildSlice T_s_api_Known 1 #[(0, t24)]) (tick w6) fun t25 w7 =>
    Is Try.prog (sLoad T_s_api_Known t22) t23 w7 ∧ upK Try.prog (sBlt .append #[T_s_api_Known, T_s_api_Known] T_s_api_Known #[false, false] #[t23, t25]) w7 fun t26 w8 =>
    pureK Try.prog (sNil x0) fun t27 =>
    pureK Try.prog (sFieldAddr T_intake_Intake t27 1) fun t28 =>
    upK Try.prog (sStore T_s_api_Known t28 t26) w8 fun tu_3 w9 =>
    pureK Try.prog (sBin .add T_int (.tmp 11) (.const (.int .i64 1)) x2.1 (.int .i64 1)) fun t29 =>
    next2 (t29, ()) w9)
   (K (.tuple #[]) w2))
  ((.int .i64 0), ()) w1
theorem intake_Intake_Know.pt_eq : intake_Intake_Know.pt = fun x0 known1 w K => FN Try.prog Try.f19 (bodyOf Try.f19) [] .leaf [x0, known1] w K := by kernel_rfl
theorem intake_Intake_Know.call {x0 known1 : Value} {w : World} {K : Value → World → Prop} (h : intake_Intake_Know.pt x0 known1 w K) : Calls Try.prog F_intake_Intake_Know #[x0, known1] w (retK K) :=
  calls_FN (args := [x0, known1]) Try.func19 (by kernel_rfl) (by rw [intake_Intake_Know.pt_eq] at h; exact h)
theorem intake_Intake_Know.up {x0 known1 : Value} {w : World} {K : Value → World → Prop} (h : Calls Try.prog F_intake_Intake_Know #[x0, known1] w (retK K)) : upK Try.prog (sCall F_intake_Intake_Know #[x0, known1]) w K :=
  up_call (fn := Try.f19) Try.func19 (by kernel_rfl) (by kernel_rfl) h

/-- errata/intake.between -/
def intake_between.pt (n0 a1 b2 : Value) (w : World) (K : Value → World → Prop) : Prop :=
  pureK Try.prog (sBin .geq T_int (.tmp 7) (.tmp 8) n0 a1) fun t9 =>
  ifB t9
  (pureK Try.prog (sBin .leq T_int (.tmp 11) (.tmp 12) n0 b2) fun t13 =>
   K t13 w)
  (K (.bool false) w)
theorem intake_between.pt_eq : intake_between.pt = fun n0 a1 b2 w K => FN Try.prog Try.f20 (bodyOf Try.f20) [6] .leaf [n0, a1, b2] w K := by kernel_rfl
theorem intake_between.call {n0 a1 b2 : Value} {w : World} {K : Value → World → Prop} (h : intake_between.pt n0 a1 b2 w K) : Calls Try.prog F_intake_between #[n0, a1, b2] w (retK K) :=
  calls_FN (args := [n0, a1, b2]) Try.func20 (by kernel_rfl) (by rw [intake_between.pt_eq] at h; exact h)
theorem intake_between.up {n0 a1 b2 : Value} {w : World} {K : Value → World → Prop} (h : Calls Try.prog F_intake_between #[n0, a1, b2] w (retK K)) : upK Try.prog (sCall F_intake_between #[n0, a1, b2]) w K :=
  up_call (fn := Try.f20) Try.func20 (by kernel_rfl) (by kernel_rfl) h

/-- (*errata/intake.Intake).accept -/
def intake_Intake_accept.pt (x0 e1 : Value) (w : World) (K : Value → World → Prop) : Prop :=
  upK Try.prog (sBox T_api_Entry e1) w fun e3 w1 =>
  readK Try.prog (sLoad T_api_Entry e3) w1 fun t10 =>
  upK Try.prog (sCall F_intake_Intake_put #[x0, t10]) w1 fun t11 w2 =>
  pureK Try.prog (sExtract t11 0) fun t12 =>
  pureK Try.prog (sExtract t11 1) fun t13 =>
  pureK Try.prog (sBin .neq T_api_Errno (.tmp 14) (.const (.int .i64 0)) t13 (.int .i64 0)) fun t15 =>
  ifB t15
  (LETJ (X := Unit) (fun y1 w3 =>
    K (.tuple #[t12, t13]) w3)
   (fun J1 =>
    pureK Try.prog (sBin .neq T_api_Errno (.tmp 16) (.const (.int .i64 5)) t13 (.int .i64 5)) fun t17 =>
    ifB t17
    (pureK Try.prog (sNil x0) fun t19 =>
     pureK Try.prog (sFieldAddr T_intake_Intake t19 5) fun t20 =>
     readK Try.prog (sLoad T_int t20) w2 fun t21 =>
     pureK Try.prog (sBin .add T_int (.tmp 21) (.const (.int .i64 1)) t21 (.int .i64 1)) fun t22 =>
     pureK Try.prog (sNil x0) fun t23 =>
     pureK Try.prog (sFieldAddr T_intake_Intake t23 5) fun t24 =>
     upK Try.prog (sStore T_int t24 t22) w2 fun tu w4 =>
     J1 (()) w4)
    (J1 (()) w2)))
  (pureK Try.prog (sNil x0) fun t29 =>
   pureK Try.prog (sFieldAddr T_intake_Intake t29 6) fun t30 =>
   readK Try.prog (sLoad T_s_api_Producer t30) (tick w2) fun t31 =>
   readK Try.prog (sLoad T_api_Entry e3) (tick w2) fun t32 =>
   upK Try.prog (sCall F_producer_Put #[t31, t32, t12]) (tick w2) fun t34 w5 =>
   pureK Try.prog (sNil x0) fun t35 =>
   pureK Try.prog (sFieldAddr T_intake_Intake t35 6) fun t36 =>
   upK Try.prog (sStore T_s_api_Producer t36 t34) w5 fun tu_1 w6 =>
   pureK Try.prog (sNil x0) fun t38 =>
   pureK Try.prog (sFieldAddr T_intake_Intake t38 4) fun t39 =>
   readK Try.prog (sLoad T_int t39) w6 fun t40 =>
   pureK Try.prog (sBin .add T_int (.tmp 40) (.const (.int .i64 1)) t40 (.int .i64 1)) fun t41 =>
   pureK Try.prog (sNil x0) fun t42 =>
   pureK Try.prog (sFieldAddr T_intake_Intake t42 4) fun t43 =>
   upK Try.prog (sStore T_int t43 t41) w6 fun tu_2 w7 =>
   pureK Try.prog (sNil x0) fun t45 =>
   pureK Try.prog (sFieldAddr T_intake_Intake t45 7) fun t46 =>
   readK Try.prog (sLoad T_map_int_int t46) (tick w7) fun t47 =>
   pureK Try.prog (sFieldAddr T_api_Entry e3 6) fun t48 =>
   readK Try.prog (sLoad T_int t48) (tick w7) fun t49 =>
   readK Try.prog (sLookup T_map_int_int t47 t49 false) (tick w7) fun t50 =>
   pureK Try.prog (sBin .add T_int (.tmp 50) (.const (.int .i64 1)) t50 (.int .i64 1)) fun t51 =>
   upK Try.prog (sMapUpd T_map_int_int t47 t49 t51) (tick w7) fun tu_3 w8 =>
   pureK Try.prog (sFieldAddr T_api_Entry e3 6) fun t53 =>
   readK Try.prog (sLoad T_int t53) w8 fun t54 =>
   upK Try.prog (sCall F_intake_Intake_raise #[x0, t54]) w8 fun t55 w9 =>
   K (.tuple #[t12, (.int .i64 0)]) w9)
theorem intake_Intake_accept.pt_eq : intake_Intake_accept.pt = fun x0 e1 w K => FN Try.prog Try.f21 (bodyOf Try.f21) [4, 5] (.node none .leaf (.node none .leaf (.node none (.node none .leaf (.node none (.node (some []) .leaf .leaf) .leaf)) .leaf))) [x0, e1] w K := by kernel_rfl
theorem intake_Intake_accept.call {x0 e1 : Value} {w : World} {K : Value → World → Prop} (h : intake_Intake_accept.pt x0 e1 w K) : Calls Try.prog F_intake_Intake_accept #[x0, e1] w (retK K) :=
  calls_FN (args := [x0, e1]) Try.func21 (by kernel_rfl) (by rw [intake_Intake_accept.pt_eq] at h; exact h)
theorem intake_Intake_accept.up {x0 e1 : Value} {w : World} {K : Value → World → Prop} (h : Calls Try.prog F_intake_Intake_accept #[x0, e1] w (retK K)) : upK Try.prog (sCall F_intake_Intake_accept #[x0, e1]) w K :=
  up_call (fn := Try.f21) Try.func21 (by kernel_rfl) (by kernel_rfl) h

/-- errata/producer.Fence -/
def producer_Fence.pt (s0 id1 : Value) (w : World) (K : Value → World → Prop) : Prop :=
  upK Try.prog (sCall F_producer_find #[s0, id1]) w fun t12 w1 =>
  pureK Try.prog (sExtract t12 0) fun t13 =>
  pureK Try.prog (sExtract t12 1) fun t14 =>
  upK Try.prog (sAlloc T_api_Producer) w1 fun p7 w2 =>
  upK Try.prog (sStore T_api_Producer p7 t13) w2 fun tu w3 =>
  LETJ (X := Unit) (fun y1 w4 =>
   pureK Try.prog (sFieldAddr T_api_Producer p7 1) fun t37 =>
   readK Try.prog (sLoad T_int t37) w4 fun t38 =>
   pureK Try.prog (sBin .add T_int (.tmp 38) (.const (.int .i64 1)) t38 (.int .i64 1)) fun t39 =>
   pureK Try.prog (sBuild T_api_Producer #[(0, id1), (1, t39)]) fun t40 =>
   upK Try.prog (sStore T_api_Producer p7 t40) w4 fun tu_1 w5 =>
   readK Try.prog (sLoad T_api_Producer p7) (tick w5) fun t42 =>
   pureK Try.prog (sFieldAddr T_api_Producer p7 1) fun t44 =>
   readK Try.prog (sLoad T_int t44) (tick w5) fun t45 =>
   upK Try.prog (sCall F_producer_with #[s0, t42]) (tick w5) fun t43 w6 =>
   Is Try.prog (sLoad T_int t44) t45 w6 ∧ K (.tuple #[t43, t45, (.int .i64 0)]) w6)
  (fun J1 =>
   upK Try.prog (sCall F_producer_in #[id1]) w3 fun t17 w7 =>
   pureK Try.prog (sUn .not t17) fun t18 =>
   ifB t18
   (K (.tuple #[(.slice none 0 0), (.int .i64 0), (.int .i64 1)]) w7)
   (pureK Try.prog (sBin .eql T_int (.tmp 20) (.const (.int .i64 1099511627776)) id1 (.int .i64 1099511627776)) fun t21 =>
    ifB t21
    (K (.tuple #[(.slice none 0 0), (.int .i64 0), (.int .i64 1)]) w7)
    (pureK Try.prog (sFieldAddr T_api_Producer p7 1) fun t24 =>
     readK Try.prog (sLoad T_int t24) w7 fun t25 =>
     pureK Try.prog (sBin .eql T_int (.tmp 25) (.const (.int .i64 1099511627776)) t25 (.int .i64 1099511627776)) fun t26 =>
     ifB t26
     (K (.tuple #[(.slice none 0 0), (.int .i64 0), (.int .i64 1)]) w7)
     (pureK Try.prog (sUn .not t14) fun t30 =>
      ifB t30
      (readK Try.prog (sBlt .len #[T_s_api_Producer] T_int #[false] #[s0]) w7 fun t33 =>
       pureK Try.prog (sBin .geq T_int (.tmp 33) (.const (.int .i64 50)) t33 (.int .i64 50)) fun t34 =>
       ifB t34
       (K (.tuple #[(.slice none 0 0), (.int .i64 0), (.int .i64 6)]) w7)
       (J1 (()) w7))
      (J1 (()) w7)))))
theorem producer_Fence.pt_eq : producer_Fence.pt = fun s0 id1 w K => FN Try.prog Try.f22 (bodyOf Try.f22) [4, 5, 6] (.node none .leaf (.node none .leaf (.node (some []) .leaf .leaf))) [s0, id1] w K := by kernel_rfl
theorem producer_Fence.call {s0 id1 : Value} {w : World} {K : Value → World → Prop} (h : producer_Fence.pt s0 id1 w K) : Calls Try.prog F_producer_Fence #[s0, id1] w (retK K) :=
  calls_FN (args := [s0, id1]) Try.func22 (by kernel_rfl) (by rw [producer_Fence.pt_eq] at h; exact h)
theorem producer_Fence.up {s0 id1 : Value} {w : World} {K : Value → World → Prop} (h : Calls Try.prog F_producer_Fence #[s0, id1] w (retK K)) : upK Try.prog (sCall F_producer_Fence #[s0, id1]) w K :=
  up_call (fn := Try.f22) Try.func22 (by kernel_rfl) (by kernel_rfl) h

/-- errata/intake.isTime -/
def intake_isTime.pt (n0 : Value) (w : World) (K : Value → World → Prop) : Prop :=
  upK Try.prog (sCall F_intake_between #[n0, (.int .i64 0), (.int .i64 1099511627776)]) w fun t4 w1 =>
  K t4 w1
theorem intake_isTime.pt_eq : intake_isTime.pt = fun n0 w K => FN Try.prog Try.f23 (bodyOf Try.f23) [2] .leaf [n0] w K := by kernel_rfl
theorem intake_isTime.call {n0 : Value} {w : World} {K : Value → World → Prop} (h : intake_isTime.pt n0 w K) : Calls Try.prog F_intake_isTime #[n0] w (retK K) :=
  calls_FN (args := [n0]) Try.func23 (by kernel_rfl) (by rw [intake_isTime.pt_eq] at h; exact h)
theorem intake_isTime.up {n0 : Value} {w : World} {K : Value → World → Prop} (h : Calls Try.prog F_intake_isTime #[n0] w (retK K)) : upK Try.prog (sCall F_intake_isTime #[n0]) w K :=
  up_call (fn := Try.f23) Try.func23 (by kernel_rfl) (by kernel_rfl) h

/-- (*errata/intake.Intake).raise -/
def intake_Intake_raise.pt (x0 time1 : Value) (w : World) (K : Value → World → Prop) : Prop :=
  pureK Try.prog (sNil x0) fun t7 =>
  pureK Try.prog (sFieldAddr T_intake_Intake t7 3) fun t8 =>
  readK Try.prog (sLoad T_int t8) w fun t9 =>
  pureK Try.prog (sBlt .max #[T_int, T_int] T_int #[false, false] #[t9, time1]) fun t11 =>
  pureK Try.prog (sNil x0) fun t12 =>
  pureK Try.prog (sFieldAddr T_intake_Intake t12 3) fun t13 =>
  upK Try.prog (sStore T_int t13 t11) w fun tu w1 =>
  upK Try.prog (sCall F_intake_Intake_Closed #[x0]) w1 fun t15 w2 =>
  upK Try.prog (sAlloc T_int) w2 fun closed4 w3 =>
  upK Try.prog (sStore T_int closed4 t15) w3 fun tu_1 w4 =>
  pureK Try.prog (sNil x0) fun t17 =>
  pureK Try.prog (sFieldAddr T_intake_Intake t17 7) fun t18 =>
  readK Try.prog (sLoad T_map_int_int t18) w4 fun t19 =>
  pureK Try.prog (sMkFunc (.func F_intake_Intake_raise_1) #[] #[closed4]) fun t20 =>
  upK Try.prog (sCall F_maps_DeleteFunc_map_int_int_int_int #[t19, t20]) w4 fun t21 w5 =>
  K (.tuple #[]) w5
theorem intake_Intake_raise.pt_eq : intake_Intake_raise.pt = fun x0 time1 w K => FN Try.prog Try.f24 (bodyOf Try.f24) [] .leaf [x0, time1] w K := by kernel_rfl
theorem intake_Intake_raise.call {x0 time1 : Value} {w : World} {K : Value → World → Prop} (h : intake_Intake_raise.pt x0 time1 w K) : Calls Try.prog F_intake_Intake_raise #[x0, time1] w (retK K) :=
  calls_FN (args := [x0, time1]) Try.func24 (by kernel_rfl) (by rw [intake_Intake_raise.pt_eq] at h; exact h)
theorem intake_Intake_raise.up {x0 time1 : Value} {w : World} {K : Value → World → Prop} (h : Calls Try.prog F_intake_Intake_raise #[x0, time1] w (retK K)) : upK Try.prog (sCall F_intake_Intake_raise #[x0, time1]) w K :=
  up_call (fn := Try.f24) Try.func24 (by kernel_rfl) (by kernel_rfl) h

/-- slices.Clone[[]errata/api.Col,errata/api.Col] -/
def slices_Clone_s_api_Col_api_Col.pt (s0 : Value) (w : World) (K : Value → World → Prop) : Prop :=
  pureK Try.prog (sBin .eql T_s_api_Col (.tmp 3) (.const (.slice none 0 0)) s0 (.slice none 0 0)) fun t4 =>
  ifB t4
  (K (.slice none 0 0) w)
  (upK Try.prog (sBuildSlice T_s_api_Col 0 #[]) w fun t5 w1 =>
   upK Try.prog (sBlt .append #[T_s_api_Col, T_s_api_Col] T_s_api_Col #[false, false] #[t5, s0]) w1 fun t7 w2 =>
   K t7 w2)
theorem slices_Clone_s_api_Col_api_Col.pt_eq : slices_Clone_s_api_Col_api_Col.pt = fun s0 w K => FN Try.prog Try.f25 (bodyOf Try.f25) [2] .leaf [s0] w K := by kernel_rfl
theorem slices_Clone_s_api_Col_api_Col.call {s0 : Value} {w : World} {K : Value → World → Prop} (h : slices_Clone_s_api_Col_api_Col.pt s0 w K) : Calls Try.prog F_slices_Clone_s_api_Col_api_Col #[s0] w (retK K) :=
  calls_FN (args := [s0]) Try.func25 (by kernel_rfl) (by rw [slices_Clone_s_api_Col_api_Col.pt_eq] at h; exact h)
theorem slices_Clone_s_api_Col_api_Col.up {s0 : Value} {w : World} {K : Value → World → Prop} (h : Calls Try.prog F_slices_Clone_s_api_Col_api_Col #[s0] w (retK K)) : upK Try.prog (sCall F_slices_Clone_s_api_Col_api_Col #[s0]) w K :=
  up_call (fn := Try.f25) Try.func25 (by kernel_rfl) (by kernel_rfl) h

/-- (*errata/intake.Intake).put -/
def intake_Intake_put.pt (x0 e1 : Value) (w : World) (K : Value → World → Prop) : Prop :=
  upK Try.prog (sBox T_api_Entry e1) w fun e3 w1 =>
  pureK Try.prog (sNil x0) fun t11 =>
  pureK Try.prog (sFieldAddr T_intake_Intake t11 6) fun t12 =>
  readK Try.prog (sLoad T_s_api_Producer t12) (tick w1) fun t13 =>
  readK Try.prog (sLoad T_api_Entry e3) (tick w1) fun t14 =>
  upK Try.prog (sCall F_producer_Look #[t13, t14]) (tick w1) fun t15 w2 =>
  pureK Try.prog (sExtract t15 0) fun t16 =>
  pureK Try.prog (sExtract t15 1) fun t17 =>
  pureK Try.prog (sBin .neq T_api_Errno (.tmp 18) (.const (.int .i64 0)) t17 (.int .i64 0)) fun t19 =>
  ifB t19
  (K (.tuple #[t16, t17]) w2)
  (pureK Try.prog (sFieldAddr T_api_Entry e3 6) fun t22 =>
   readK Try.prog (sLoad T_int t22) w2 fun t23 =>
   upK Try.prog (sCall F_intake_isTime #[t23]) w2 fun t24 w3 =>
   pureK Try.prog (sUn .not t24) fun t25 =>
   ifB t25
   (K (.tuple #[(.int .i64 0), (.int .i64 3)]) w3)
   (readK Try.prog (sLoad T_api_Entry e3) w3 fun t27 =>
    upK Try.prog (sCall F_intake_Intake_fits #[x0, t27]) w3 fun t28 w4 =>
    pureK Try.prog (sBin .neq T_api_Errno (.tmp 29) (.const (.int .i64 0)) t28 (.int .i64 0)) fun t30 =>
    ifB t30
    (K (.tuple #[(.int .i64 0), t28]) w4)
    (pureK Try.prog (sFieldAddr T_api_Entry e3 6) fun t33 =>
     readK Try.prog (sLoad T_int t33) (tick w4) fun t34 =>
     upK Try.prog (sCall F_intake_Intake_Closed #[x0]) (tick w4) fun t36 w5 =>
     Is Try.prog (sLoad T_int t33) t34 w5 ∧ pureK Try.prog (sBin .leq T_int (.tmp 34) (.tmp 36) t34 t36) fun t37 =>
     ifB t37
     (K (.tuple #[(.int .i64 0), (.int .i64 20)]) w5)
     (pureK Try.prog (sFieldAddr T_api_Entry e3 6) fun t39 =>
      readK Try.prog (sLoad T_int t39) (tick w5) fun t40 =>
      pureK Try.prog (sNil x0) fun t42 =>
      pureK Try.prog (sFieldAddr T_intake_Intake t42 2) fun t43 =>
      readK Try.prog (sLoad T_int t43) (tick w5) fun t44 =>
      pureK Try.prog (sNil x0) fun t46 =>
      pureK Try.prog (sFieldAddr T_intake_Intake t46 0) fun t47 =>
      pureK Try.prog (sFieldAddr T_api_Config t47 3) fun t48 =>
      readK Try.prog (sLoad T_int t48) (tick w5) fun t49 =>
      pureK Try.prog (sBin .add T_int (.tmp 44) (.tmp 49) t44 t49) fun t50 =>
      pureK Try.prog (sBin .gtr T_int (.tmp 40) (.tmp 50) t40 t50) fun t51 =>
      ifB t51
      (K (.tuple #[(.int .i64 0), (.int .i64 21)]) (tick w5))
      (pureK Try.prog (sNil x0) fun t54 =>
       pureK Try.prog (sFieldAddr T_intake_Intake t54 7) fun t55 =>
       readK Try.prog (sLoad T_map_int_int t55) (tick (tick w5)) fun t56 =>
       pureK Try.prog (sFieldAddr T_api_Entry e3 6) fun t57 =>
       readK Try.prog (sLoad T_int t57) (tick (tick w5)) fun t58 =>
       readK Try.prog (sLookup T_map_int_int t56 t58 false) (tick (tick w5)) fun t59 =>
       pureK Try.prog (sNil x0) fun t61 =>
       pureK Try.prog (sFieldAddr T_intake_Intake t61 0) fun t62 =>
       pureK Try.prog (sFieldAddr T_api_Config t62 4) fun t63 =>
       readK Try.prog (sLoad T_int t63) (tick (tick w5)) fun t64 =>
       pureK Try.prog (sBin .geq T_int (.tmp 59) (.tmp 64) t59 t64) fun t65 =>
       ifB t65
       (K (.tuple #[(.int .i64 0), (.int .i64 22)]) (tick (tick w5)))
       (pureK Try.prog (sNil x0) fun t67 =>
        pureK Try.prog (sFieldAddr T_intake_Intake t67 4) fun t68 =>
        readK Try.prog (sLoad T_int t68) (tick (tick w5)) fun t69 =>
        K (.tuple #[t69, (.int .i64 0)]) (tick (tick w5))))))))
theorem intake_Intake_put.pt_eq : intake_Intake_put.pt = fun x0 e1 w K => FN Try.prog Try.f26 (bodyOf Try.f26) [4, 5] .leaf [x0, e1] w K := by kernel_rfl
theorem intake_Intake_put.call {x0 e1 : Value} {w : World} {K : Value → World → Prop} (h : intake_Intake_put.pt x0 e1 w K) : Calls Try.prog F_intake_Intake_put #[x0, e1] w (retK K) :=
  calls_FN (args := [x0, e1]) Try.func26 (by kernel_rfl) (by rw [intake_Intake_put.pt_eq] at h; exact h)
theorem intake_Intake_put.up {x0 e1 : Value} {w : World} {K : Value → World → Prop} (h : Calls Try.prog F_intake_Intake_put #[x0, e1] w (retK K)) : upK Try.prog (sCall F_intake_Intake_put #[x0, e1]) w K :=
  up_call (fn := Try.f26) Try.func26 (by kernel_rfl) (by kernel_rfl) h

/-- errata/producer.Put -/
def producer_Put.pt (s0 e1 pos2 : Value) (w : World) (K : Value → World → Prop) : Prop :=
  upK Try.prog (sBox T_api_Entry e1) w fun e4 w1 =>
  pureK Try.prog (sFieldAddr T_api_Entry e4 1) fun t13 =>
  readK Try.prog (sLoad T_int t13) w1 fun t14 =>
  upK Try.prog (sCall F_producer_find #[s0, t14]) w1 fun t15 w2 =>
  pureK Try.prog (sExtract t15 0) fun t16 =>
  pureK Try.prog (sExtract t15 1) fun t17 =>
  upK Try.prog (sAlloc T_api_Producer) w2 fun p7 w3 =>
  upK Try.prog (sStore T_api_Producer p7 t16) w3 fun tu w4 =>
  LETJ (X := Unit) (fun y1 w5 =>
   pureK Try.prog (sFieldAddr T_api_Producer p7 2) fun t51 =>
   readK Try.prog (sLoad T_int t51) w5 fun t52 =>
   pureK Try.prog (sBin .add T_int (.tmp 52) (.const (.int .i64 1)) t52 (.int .i64 1)) fun t53 =>
   pureK Try.prog (sFieldAddr T_api_Producer p7 2) fun t54 =>
   upK Try.prog (sStore T_int t54 t53) w5 fun tu_1 w6 =>
   pureK Try.prog (sFieldAddr T_api_Producer p7 3) fun t55 =>
   readK Try.prog (sLoad T_s_int t55) w6 fun t56 =>
   upK Try.prog (sCall F_slices_Clone_s_int_int #[t56]) w6 fun t57 w7 =>
   upK Try.prog (sBuildSlice T_s_int 1 #[(0, pos2)]) w7 fun t59 w8 =>
   upK Try.prog (sBlt .append #[T_s_int, T_s_int] T_s_int #[false, false] #[t57, t59]) w8 fun t60 w9 =>
   pureK Try.prog (sFieldAddr T_api_Producer p7 3) fun t61 =>
   upK Try.prog (sStore T_s_int t61 t60) w9 fun tu_2 w10 =>
   pureK Try.prog (sFieldAddr T_api_Producer p7 3) fun t62 =>
   readK Try.prog (sLoad T_s_int t62) w10 fun t63 =>
   pureK Try.prog (sFieldAddr T_api_Producer p7 3) fun t64 =>
   readK Try.prog (sLoad T_s_int t64) w10 fun t65 =>
   readK Try.prog (sBlt .len #[T_s_int] T_int #[false] #[t65]) w10 fun t66 =>
   pureK Try.prog (sBin .sub T_int (.tmp 66) (.const (.int .i64 20)) t66 (.int .i64 20)) fun t67 =>
   pureK Try.prog (sBlt .max #[T_int, T_int] T_int #[false, true] #[t67, (.int .i64 0)]) fun t68 =>
   pureK Try.prog (sSlice T_s_int t63 (some t68) none none) fun t69 =>
   pureK Try.prog (sFieldAddr T_api_Producer p7 3) fun t70 =>
   upK Try.prog (sStore T_s_int t70 t69) w10 fun tu_3 w11 =>
   readK Try.prog (sLoad T_api_Producer p7) w11 fun t72 =>
   upK Try.prog (sCall F_producer_with #[s0, t72]) w11 fun t73 w12 =>
   K t73 w12)
  (fun J1 =>
   readK Try.prog (sLoad T_api_Entry e4) w4 fun t20 =>
   upK Try.prog (sCall F_producer_Look #[s0, t20]) w4 fun t21 w13 =>
   pureK Try.prog (sExtract t21 0) fun t22 =>
   pureK Try.prog (sExtract t21 1) fun t23 =>
   pureK Try.prog (sBin .neq T_api_Errno (.tmp 24) (.const (.int .i64 0)) t23 (.int .i64 0)) fun t25 =>
   ifB t25
   (upK Try.prog (sCall F_producer_clone #[s0]) w13 fun t50 w14 =>
    K t50 w14)
   (upK Try.prog (sCall F_producer_in #[pos2]) w13 fun t28 w15 =>
    pureK Try.prog (sUn .not t28) fun t29 =>
    ifB t29
    (upK Try.prog (sCall F_producer_clone #[s0]) w15 fun t50_1 w16 =>
     K t50_1 w16)
    (pureK Try.prog (sFieldAddr T_api_Producer p7 3) fun t32 =>
     readK Try.prog (sLoad T_s_int t32) w15 fun t33 =>
     readK Try.prog (sBlt .len #[T_s_int] T_int #[false] #[t33]) w15 fun t34 =>
     pureK Try.prog (sBin .gtr T_int (.tmp 34) (.const (.int .i64 0)) t34 (.int .i64 0)) fun t35 =>
     ifB t35
     (pureK Try.prog (sFieldAddr T_api_Producer p7 3) fun t38 =>
      readK Try.prog (sLoad T_s_int t38) w15 fun t39 =>
      pureK Try.prog (sFieldAddr T_api_Producer p7 3) fun t40 =>
      readK Try.prog (sLoad T_s_int t40) w15 fun t41 =>
      readK Try.prog (sBlt .len #[T_s_int] T_int #[false] #[t41]) w15 fun t42 =>
      pureK Try.prog (sBin .sub T_int (.tmp 42) (.const (.int .i64 1)) t42 (.int .i64 1)) fun t43 =>
      pureK Try.prog (sIdxAddr T_s_int t39 t43) fun t44 =>
      readK Try.prog (sLoad T_int t44) w15 fun t45 =>
      pureK Try.prog (sBin .leq T_int (.tmp 37) (.tmp 45) pos2 t45) fun t46 =>
      ifB t46
      (upK Try.prog (sCall F_producer_clone #[s0]) w15 fun t50_2 w17 =>
       K t50_2 w17)
      (J1 (()) w15))
     (J1 (()) w15))))
theorem producer_Put.pt_eq : producer_Put.pt = fun s0 e1 pos2 w K => FN Try.prog Try.f27 (bodyOf Try.f27) [6] (.node none .leaf (.node none .leaf (.node (some []) .leaf .leaf))) [s0, e1, pos2] w K := by kernel_rfl
theorem producer_Put.call {s0 e1 pos2 : Value} {w : World} {K : Value → World → Prop} (h : producer_Put.pt s0 e1 pos2 w K) : Calls Try.prog F_producer_Put #[s0, e1, pos2] w (retK K) :=
  calls_FN (args := [s0, e1, pos2]) Try.func27 (by kernel_rfl) (by rw [producer_Put.pt_eq] at h; exact h)
theorem producer_Put.up {s0 e1 pos2 : Value} {w : World} {K : Value → World → Prop} (h : Calls Try.prog F_producer_Put #[s0, e1, pos2] w (retK K)) : upK Try.prog (sCall F_producer_Put #[s0, e1, pos2]) w K :=
  up_call (fn := Try.f27) Try.func27 (by kernel_rfl) (by kernel_rfl) h

/-- errata/producer.find -/
def producer_find.pt (s0 id1 : Value) (w : World) (K : Value → World → Prop) : Prop :=
  upK Try.prog (sBox T_int id1) w fun id3 w1 =>
  upK Try.prog (sAlloc T_api_Producer) w1 fun t4 w2 =>
  pureK Try.prog (sMkFunc (.func F_producer_find_1) #[] #[id3]) fun t8 =>
  upK Try.prog (sCall F_slices_IndexFunc_s_api_Producer_api_Producer #[s0, t8]) w2 fun t9 w3 =>
  pureK Try.prog (sBin .lss T_int (.tmp 10) (.const (.int .i64 0)) t9 (.int .i64 0)) fun t11 =>
  ifB t11
  (readK Try.prog (sLoad T_int id3) w3 fun t12 =>
   pureK Try.prog (sBuild T_api_Producer #[(0, t12)]) fun t13 =>
   upK Try.prog (sStore T_api_Producer t4 t13) w3 fun tu w4 =>
   readV Try.prog (do loadVar T_api_Producer (← asAddr t4)) w4 fun t4_1 =>
   K (.tuple #[t4_1, (.bool false)]) w4)
  (pureK Try.prog (sIdxAddr T_s_api_Producer s0 t9) fun t16 =>
   readK Try.prog (sLoad T_api_Producer t16) w3 fun t17 =>
   upK Try.prog (sStore T_api_Producer t4 t17) w3 fun tu_1 w5 =>
   readV Try.prog (do loadVar T_api_Producer (← asAddr t4)) w5 fun t4_2 =>
   K (.tuple #[t4_2, (.bool true)]) w5)
theorem producer_find.pt_eq : producer_find.pt = fun s0 id1 w K => FN Try.prog Try.f28 (bodyOf Try.f28) [5] .leaf [s0, id1] w K := by kernel_rfl
theorem producer_find.call {s0 id1 : Value} {w : World} {K : Value → World → Prop} (h : producer_find.pt s0 id1 w K) : Calls Try.prog F_producer_find #[s0, id1] w (retK K) :=
  calls_FN (args := [s0, id1]) Try.func28 (by kernel_rfl) (by rw [producer_find.pt_eq] at h; exact h)
theorem producer_find.up {s0 id1 : Value} {w : World} {K : Value → World → Prop} (h : Calls Try.prog F_producer_find #[s0, id1] w (retK K)) : upK Try.prog (sCall F_producer_find #[s0, id1]) w K :=
  up_call (fn := Try.f28) Try.func28 (by kernel_rfl) (by kernel_rfl) h

/-- errata/producer.in -/
def producer_in.pt (n0 : Value) (w : World) (K : Value → World → Prop) : Prop :=
  pureK Try.prog (sBin .geq T_int (.tmp 3) (.const (.int .i64 0)) n0 (.int .i64 0)) fun t4 =>
  ifB t4
  (pureK Try.prog (sBin .leq T_int (.tmp 6) (.const (.int .i64 1099511627776)) n0 (.int .i64 1099511627776)) fun t7 =>
   K t7 w)
  (K (.bool false) w)
theorem producer_in.pt_eq : producer_in.pt = fun n0 w K => FN Try.prog Try.f29 (bodyOf Try.f29) [2] .leaf [n0] w K := by kernel_rfl
theorem producer_in.call {n0 : Value} {w : World} {K : Value → World → Prop} (h : producer_in.pt n0 w K) : Calls Try.prog F_producer_in #[n0] w (retK K) :=
  calls_FN (args := [n0]) Try.func29 (by kernel_rfl) (by rw [producer_in.pt_eq] at h; exact h)
theorem producer_in.up {n0 : Value} {w : World} {K : Value → World → Prop} (h : Calls Try.prog F_producer_in #[n0] w (retK K)) : upK Try.prog (sCall F_producer_in #[n0]) w K :=
  up_call (fn := Try.f29) Try.func29 (by kernel_rfl) (by kernel_rfl) h

/-- errata/producer.with -/
def producer_with.pt (s0 p1 : Value) (w : World) (K : Value → World → Prop) : Prop :=
  upK Try.prog (sBox T_api_Producer p1) w fun p3 w1 =>
  upK Try.prog (sCall F_producer_clone #[s0]) w1 fun t9 w2 =>
  pureK Try.prog (sFieldAddr T_api_Producer p3 0) fun t12 =>
  readK Try.prog (sLoad T_int t12) w2 fun t13 =>
  upK Try.prog (sCall F_slices_BinarySearchFunc_s_api_Producer_api_Producer_int #[t9, t13, (.func (.func 40) #[] #[])]) w2 fun t14 w3 =>
  pureK Try.prog (sExtract t14 0) fun t15 =>
  pureK Try.prog (sExtract t14 1) fun t16 =>
  ifB t16
  (readK Try.prog (sLoad T_api_Producer p3) w3 fun t20 =>
   pureK Try.prog (sIdxAddr T_s_api_Producer t9 t15) fun t21 =>
   upK Try.prog (sStore T_api_Producer t21 t20) w3 fun tu w4 =>
   K t9 w4)
  (readK Try.prog (sLoad T_api_Producer p3) w3 fun t25 =>
   upK Try.prog (sBuildSlice T_s_api_Producer 1 #[(0, t25)]) w3 fun t26 w5 =>
   upK Try.prog (sCall F_slices_Insert_s_api_Producer_api_Producer #[t9, t15, t26]) w5 fun t27 w6 =>
   K t27 w6)
theorem producer_with.pt_eq : producer_with.pt = fun s0 p1 w K => FN Try.prog Try.f30 (bodyOf Try.f30) [4] .leaf [s0, p1] w K := by kernel_rfl
theorem producer_with.call {s0 p1 : Value} {w : World} {K : Value → World → Prop} (h : producer_with.pt s0 p1 w K) : Calls Try.prog F_producer_with #[s0, p1] w (retK K) :=
  calls_FN (args := [s0, p1]) Try.func30 (by kernel_rfl) (by rw [producer_with.pt_eq] at h; exact h)
theorem producer_with.up {s0 p1 : Value} {w : World} {K : Value → World → Prop} (h : Calls Try.prog F_producer_with #[s0, p1] w (retK K)) : upK Try.prog (sCall F_producer_with #[s0, p1]) w K :=
  up_call (fn := Try.f30) Try.func30 (by kernel_rfl) (by kernel_rfl) h

/-- maps.DeleteFunc[map[int]int,int,int] -/
def maps_DeleteFunc_map_int_int_int_int.pt (m0 del1 : Value) (w : World) (K : Value → World → Prop) : Prop :=
  upK Try.prog (sRange T_map_int_int m0) w fun t7 w1 =>
  LOOP (X := Unit) (fun x2 w2 next2 =>
   upK Try.prog (sNext t7 false T_) w2 fun t8 w3 =>
   pureK Try.prog (sExtract t8 0) fun t9 =>
   ifB t9
   (upK Try.prog (sEntry t7) w3 fun t10 w4 =>
    pureK Try.prog (sExtract t10 0) fun t11 =>
    pureK Try.prog (sExtract t10 1) fun t12 =>
    upK Try.prog (sCallV del1 #[t11, t12]) w4 fun t16 w5 =>
    ifB t16
    (upK Try.prog (sBlt .delete #[T_map_int_int, T_int] T_ #[false, false] #[m0, t11]) w5 fun tu w6 =>
     next2 (()) w6)
    (next2 (()) w5))
   (K (.tuple #[]) w3))
  (()) w1
theorem maps_DeleteFunc_map_int_int_int_int.pt_eq : maps_DeleteFunc_map_int_int_int_int.pt = fun m0 del1 w K => FN Try.prog Try.f31 (bodyOf Try.f31) [] .leaf [m0, del1] w K := by kernel_rfl
theorem maps_DeleteFunc_map_int_int_int_int.call {m0 del1 : Value} {w : World} {K : Value → World → Prop} (h : maps_DeleteFunc_map_int_int_int_int.pt m0 del1 w K) : Calls Try.prog F_maps_DeleteFunc_map_int_int_int_int #[m0, del1] w (retK K) :=
  calls_FN (args := [m0, del1]) Try.func31 (by kernel_rfl) (by rw [maps_DeleteFunc_map_int_int_int_int.pt_eq] at h; exact h)
theorem maps_DeleteFunc_map_int_int_int_int.up {m0 del1 : Value} {w : World} {K : Value → World → Prop} (h : Calls Try.prog F_maps_DeleteFunc_map_int_int_int_int #[m0, del1] w (retK K)) : upK Try.prog (sCall F_maps_DeleteFunc_map_int_int_int_int #[m0, del1]) w K :=
  up_call (fn := Try.f31) Try.func31 (by kernel_rfl) (by kernel_rfl) h

/-- (*errata/intake.Intake).raise$1 -/
def intake_Intake_raise_1.pt (time0 t1 t2 : Value) (w : World) (K : Value → World → Prop) : Prop :=
  readK Try.prog (sLoad T_int t2) w fun t7 =>
  pureK Try.prog (sBin .leq T_int (.tmp 6) (.tmp 7) time0 t7) fun t8 =>
  K t8 w
theorem intake_Intake_raise_1.pt_eq : intake_Intake_raise_1.pt = fun time0 t1 t2 w K => FN Try.prog Try.f32 (bodyOf Try.f32) [5] .leaf [time0, t1, t2] w K := by kernel_rfl
theorem intake_Intake_raise_1.call {time0 t1 t2 : Value} {w : World} {K : Value → World → Prop} (h : intake_Intake_raise_1.pt time0 t1 t2 w K) : Calls Try.prog F_intake_Intake_raise_1 #[time0, t1, t2] w (retK K) :=
  calls_FN (args := [time0, t1, t2]) Try.func32 (by kernel_rfl) (by rw [intake_Intake_raise_1.pt_eq] at h; exact h)
theorem intake_Intake_raise_1.up {time0 t1 t2 : Value} {w : World} {K : Value → World → Prop} (h : Calls Try.prog F_intake_Intake_raise_1 #[time0, t1, t2] w (retK K)) : upK Try.prog (sCall F_intake_Intake_raise_1 #[time0, t1, t2]) w K :=
  up_call (fn := Try.f32) Try.func32 (by kernel_rfl) (by kernel_rfl) h

/-- errata/producer.Look -/
def producer_Look.pt (s0 e1 : Value) (w : World) (K : Value → World → Prop) : Prop :=
  upK Try.prog (sBox T_api_Entry e1) w fun e3 w1 =>
  pureK Try.prog (sFieldAddr T_api_Entry e3 1) fun t11 =>
  readK Try.prog (sLoad T_int t11) w1 fun t12 =>
  pureK Try.prog (sFieldAddr T_api_Entry e3 2) fun t13 =>
  readK Try.prog (sLoad T_int t13) w1 fun t14 =>
  pureK Try.prog (sFieldAddr T_api_Entry e3 3) fun t15 =>
  readK Try.prog (sLoad T_int t15) w1 fun t16 =>
  upK Try.prog (sBuildSlice T_s_int 3 #[(0, t12), (1, t14), (2, t16)]) w1 fun t17 w2 =>
  readK Try.prog (sBlt .len #[T_s_int] T_int #[false] #[t17]) w2 fun t18 =>
  LOOP (X := Value × Unit) (fun x3 w3 next3 =>
   pureK Try.prog (sBin .lss T_int (.tmp 19) (.tmp 18) x3.1 t18) fun t20 =>
   ifB t20
   (pureK Try.prog (sIdxAddr T_s_int t17 x3.1) fun t21 =>
    readK Try.prog (sLoad T_int t21) w3 fun t22 =>
    upK Try.prog (sCall F_producer_in #[t22]) w3 fun t24 w4 =>
    pureK Try.prog (sUn .not t24) fun t25 =>
    ifB t25
    (K (.tuple #[(.int .i64 0), (.int .i64 1)]) w4)
    (pureK Try.prog (sBin .eql T_int (.tmp 27) (.const (.int .i64 1099511627776)) t22 (.int .i64 1099511627776)) fun t28 =>
     ifB t28
     (K (.tuple #[(.int .i64 0), (.int .i64 1)]) w4)
     (pureK Try.prog (sBin .add T_int (.tmp 19) (.const (.int .i64 1)) x3.1 (.int .i64 1)) fun t30 =>
      next3 (t30, ()) w4)))
   (pureK Try.prog (sFieldAddr T_api_Entry e3 1) fun t33 =>
    readK Try.prog (sLoad T_int t33) w3 fun t34 =>
    upK Try.prog (sCall F_producer_find #[s0, t34]) w3 fun t35 w5 =>
    pureK Try.prog (sExtract t35 0) fun t36 =>
    pureK Try.prog (sExtract t35 1) fun t37 =>
    upK Try.prog (sAlloc T_api_Producer) w5 fun p8 w6 =>
    upK Try.prog (sStore T_api_Producer p8 t36) w6 fun tu w7 =>
    LETJ (X := Unit) (fun y1 w8 =>
     pureK Try.prog (sFieldAddr T_api_Producer p8 3) fun t70 =>
     readK Try.prog (sLoad T_s_int t70) w8 fun t71 =>
     readK Try.prog (sBlt .len #[T_s_int] T_int #[false] #[t71]) w8 fun t72 =>
     pureK Try.prog (sFieldAddr T_api_Producer p8 2) fun t73 =>
     readK Try.prog (sLoad T_int t73) w8 fun t74 =>
     pureK Try.prog (sFieldAddr T_api_Entry e3 3) fun t75 =>
     readK Try.prog (sLoad T_int t75) w8 fun t76 =>
     pureK Try.prog (sBin .sub T_int (.tmp 74) (.tmp 76) t74 t76) fun t77 =>
     pureK Try.prog (sBin .sub T_int (.tmp 72) (.tmp 77) t72 t77) fun t78 =>
     pureK Try.prog (sBin .geq T_int (.tmp 79) (.const (.int .i64 0)) t78 (.int .i64 0)) fun t80 =>
     ifB t80
     (pureK Try.prog (sFieldAddr T_api_Producer p8 3) fun t81 =>
      readK Try.prog (sLoad T_s_int t81) w8 fun t82 =>
      pureK Try.prog (sIdxAddr T_s_int t82 t78) fun t84 =>
      readK Try.prog (sLoad T_int t84) w8 fun t85 =>
      K (.tuple #[t85, (.int .i64 5)]) w8)
     (K (.tuple #[(.int .i64 (-1)), (.int .i64 5)]) w8))
    (fun J1 =>
     pureK Try.prog (sFieldAddr T_api_Entry e3 2) fun t39 =>
     readK Try.prog (sLoad T_int t39) w7 fun t40 =>
     pureK Try.prog (sFieldAddr T_api_Producer p8 1) fun t41 =>
     readK Try.prog (sLoad T_int t41) w7 fun t42 =>
     pureK Try.prog (sBin .lss T_int (.tmp 40) (.tmp 42) t40 t42) fun t43 =>
     ifB t43
     (K (.tuple #[(.int .i64 0), (.int .i64 18)]) w7)
     (pureK Try.prog (sFieldAddr T_api_Entry e3 2) fun t45 =>
      readK Try.prog (sLoad T_int t45) w7 fun t46 =>
      pureK Try.prog (sFieldAddr T_api_Producer p8 1) fun t47 =>
      readK Try.prog (sLoad T_int t47) w7 fun t48 =>
      pureK Try.prog (sBin .gtr T_int (.tmp 46) (.tmp 48) t46 t48) fun t49 =>
      ifB t49
      (K (.tuple #[(.int .i64 0), (.int .i64 25)]) w7)
      (pureK Try.prog (sFieldAddr T_api_Entry e3 3) fun t51 =>
       readK Try.prog (sLoad T_int t51) w7 fun t52 =>
       pureK Try.prog (sFieldAddr T_api_Producer p8 2) fun t53 =>
       readK Try.prog (sLoad T_int t53) w7 fun t54 =>
       pureK Try.prog (sBin .gtr T_int (.tmp 52) (.tmp 54) t52 t54) fun t55 =>
       ifB t55
       (K (.tuple #[(.int .i64 0), (.int .i64 19)]) w7)
       (pureK Try.prog (sUn .not t37) fun t58 =>
        ifB t58
        (readK Try.prog (sBlt .len #[T_s_api_Producer] T_int #[false] #[s0]) w7 fun t61 =>
         pureK Try.prog (sBin .geq T_int (.tmp 61) (.const (.int .i64 50)) t61 (.int .i64 50)) fun t62 =>
         ifB t62
         (K (.tuple #[(.int .i64 0), (.int .i64 6)]) w7)
         (pureK Try.prog (sFieldAddr T_api_Entry e3 3) fun t65 =>
          readK Try.prog (sLoad T_int t65) w7 fun t66 =>
          pureK Try.prog (sFieldAddr T_api_Producer p8 2) fun t67 =>
          readK Try.prog (sLoad T_int t67) w7 fun t68 =>
          pureK Try.prog (sBin .eql T_int (.tmp 66) (.tmp 68) t66 t68) fun t69 =>
          ifB t69
          (K (.tuple #[(.int .i64 0), (.int .i64 0)]) w7)
          (J1 (()) w7)))
        (pureK Try.prog (sFieldAddr T_api_Entry e3 3) fun t65_1 =>
         readK Try.prog (sLoad T_int t65_1) w7 fun t66_1 =>
         pureK Try.prog (sFieldAddr T_api_Producer p8 2) fun t67_1 =>
         readK Try.prog (sLoad T_int t67_1) w7 fun t68_1 =>
         pureK Try.prog (sBin .eql T_int (.tmp 66) (.tmp 68) t66_1 t68_1) fun t69_1 =>
         ifB t69_1
         (K (.tuple #[(.int .i64 0), (.int .i64 0)]) w7)
         (J1 (()) w7))))))))
  ((.int .i64 0), ()) w2
theorem producer_Look.pt_eq : producer_Look.pt = fun s0 e1 w K => FN Try.prog Try.f33 (bodyOf Try.f33) [4, 5] (.node none .leaf (.node none .leaf (.node none .leaf (.node (some []) .leaf .leaf)))) [s0, e1] w K := by kernel_rfl
theorem producer_Look.call {s0 e1 : Value} {w : World} {K : Value → World → Prop} (h : producer_Look.pt s0 e1 w K) : Calls Try.prog F_producer_Look #[s0, e1] w (retK K) :=
  calls_FN (args := [s0, e1]) Try.func33 (by kernel_rfl) (by rw [producer_Look.pt_eq] at h; exact h)
theorem producer_Look.up {s0 e1 : Value} {w : World} {K : Value → World → Prop} (h : Calls Try.prog F_producer_Look #[s0, e1] w (retK K)) : upK Try.prog (sCall F_producer_Look #[s0, e1]) w K :=
  up_call (fn := Try.f33) Try.func33 (by kernel_rfl) (by kernel_rfl) h

/-- (*errata/intake.Intake).fits -/
def intake_Intake_fits.pt (x0 e1 : Value) (w : World) (K : Value → World → Prop) : Prop :=
  upK Try.prog (sBox T_api_Entry e1) w fun e3 w1 =>
  pureK Try.prog (sNil x0) fun t8 =>
  pureK Try.prog (sFieldAddr T_intake_Intake t8 1) fun t9 =>
  readK Try.prog (sLoad T_s_api_Known t9) w1 fun t10 =>
  pureK Try.prog (sMkFunc (.func F_intake_Intake_fits_1) #[] #[e3]) fun t11 =>
  upK Try.prog (sCall F_slices_IndexFunc_s_api_Known_api_Known #[t10, t11]) w1 fun t12 w2 =>
  pureK Try.prog (sBin .lss T_int (.tmp 13) (.const (.int .i64 0)) t12 (.int .i64 0)) fun t14 =>
  ifB t14
  (K (.int .i64 17) w2)
  (pureK Try.prog (sFieldAddr T_api_Entry e3 7) fun t15 =>
   readK Try.prog (sLoad T_s_api_Value t15) (tick w2) fun t16 =>
   pureK Try.prog (sNil x0) fun t18 =>
   pureK Try.prog (sFieldAddr T_intake_Intake t18 1) fun t19 =>
   readK Try.prog (sLoad T_s_api_Known t19) (tick w2) fun t20 =>
   pureK Try.prog (sIdxAddr T_s_api_Known t20 t12) fun t22 =>
   pureK Try.prog (sFieldAddr T_api_Known t22 2) fun t23 =>
   readK Try.prog (sLoad T_s_api_Col t23) (tick w2) fun t24 =>
   upK Try.prog (sCall F_slices_EqualFunc_s_api_Value_s_api_Col_api_Value_api_Col #[t16, t24, (.func (.func 45) #[] #[])]) (tick w2) fun t25 w3 =>
   pureK Try.prog (sUn .not t25) fun t27 =>
   ifB t27
   (K (.int .i64 16) w3)
   (pureK Try.prog (sFieldAddr T_api_Entry e3 7) fun t29 =>
    readK Try.prog (sLoad T_s_api_Value t29) w3 fun t30 =>
    upK Try.prog (sCall F_value_RightRow #[t30]) w3 fun t31 w4 =>
    pureK Try.prog (sUn .not t31) fun t32 =>
    ifB t32
    (K (.int .i64 16) w4)
    (K (.int .i64 0) w4)))
theorem intake_Intake_fits.pt_eq : intake_Intake_fits.pt = fun x0 e1 w K => FN Try.prog Try.f34 (bodyOf Try.f34) [4] .leaf [x0, e1] w K := by kernel_rfl
theorem intake_Intake_fits.call {x0 e1 : Value} {w : World} {K : Value → World → Prop} (h : intake_Intake_fits.pt x0 e1 w K) : Calls Try.prog F_intake_Intake_fits #[x0, e1] w (retK K) :=
  calls_FN (args := [x0, e1]) Try.func34 (by kernel_rfl) (by rw [intake_Intake_fits.pt_eq] at h; exact h)
theorem intake_Intake_fits.up {x0 e1 : Value} {w : World} {K : Value → World → Prop} (h : Calls Try.prog F_intake_Intake_fits #[x0, e1] w (retK K)) : upK Try.prog (sCall F_intake_Intake_fits #[x0, e1]) w K :=
  up_call (fn := Try.f34) Try.func34 (by kernel_rfl) (by kernel_rfl) h

/-- errata/producer.clone -/
def producer_clone.pt (s0 : Value) (w : World) (K : Value → World → Prop) : Prop :=
  readK Try.prog (sBlt .len #[T_s_api_Producer] T_int #[false] #[s0]) w fun t6 =>
  upK Try.prog (sMkSlice T_s_api_Producer t6 t6) w fun t7 w1 =>
  upK Try.prog (sBlt .copy #[T_s_api_Producer, T_s_api_Producer] T_int #[false, false] #[t7, s0]) w1 fun t10 w2 =>
  readK Try.prog (sBlt .len #[T_s_api_Producer] T_int #[false] #[t7]) w2 fun t12 =>
  LOOP (X := Value × Unit) (fun x3 w3 next3 =>
   pureK Try.prog (sBin .lss T_int (.tmp 13) (.tmp 12) x3.1 t12) fun t14 =>
   ifB t14
   (pureK Try.prog (sIdxAddr T_s_api_Producer t7 x3.1) fun t20 =>
    pureK Try.prog (sFieldAddr T_api_Producer t20 3) fun t21 =>
    readK Try.prog (sLoad T_s_int t21) w3 fun t22 =>
    upK Try.prog (sCall F_slices_Clone_s_int_int #[t22]) w3 fun t23 w4 =>
    pureK Try.prog (sIdxAddr T_s_api_Producer t7 x3.1) fun t24 =>
    pureK Try.prog (sFieldAddr T_api_Producer t24 3) fun t25 =>
    upK Try.prog (sStore T_s_int t25 t23) w4 fun tu w5 =>
    pureK Try.prog (sBin .add T_int (.tmp 13) (.const (.int .i64 1)) x3.1 (.int .i64 1)) fun t26 =>
    next3 (t26, ()) w5)
   (K t7 w3))
  ((.int .i64 0), ()) w2
theorem producer_clone.pt_eq : producer_clone.pt = fun s0 w K => FN Try.prog Try.f35 (bodyOf Try.f35) [2] .leaf [s0] w K := by kernel_rfl
theorem producer_clone.call {s0 : Value} {w : World} {K : Value → World → Prop} (h : producer_clone.pt s0 w K) : Calls Try.prog F_producer_clone #[s0] w (retK K) :=
  calls_FN (args := [s0]) Try.func35 (by kernel_rfl) (by rw [producer_clone.pt_eq] at h; exact h)
theorem producer_clone.up {s0 : Value} {w : World} {K : Value → World → Prop} (h : Calls Try.prog F_producer_clone #[s0] w (retK K)) : upK Try.prog (sCall F_producer_clone #[s0]) w K :=
  up_call (fn := Try.f35) Try.func35 (by kernel_rfl) (by kernel_rfl) h

/-- slices.Clone[[]int,int] -/
def slices_Clone_s_int_int.pt (s0 : Value) (w : World) (K : Value → World → Prop) : Prop :=
  pureK Try.prog (sBin .eql T_s_int (.tmp 3) (.const (.slice none 0 0)) s0 (.slice none 0 0)) fun t4 =>
  ifB t4
  (K (.slice none 0 0) w)
  (upK Try.prog (sBuildSlice T_s_int 0 #[]) w fun t5 w1 =>
   upK Try.prog (sBlt .append #[T_s_int, T_s_int] T_s_int #[false, false] #[t5, s0]) w1 fun t7 w2 =>
   K t7 w2)
theorem slices_Clone_s_int_int.pt_eq : slices_Clone_s_int_int.pt = fun s0 w K => FN Try.prog Try.f36 (bodyOf Try.f36) [2] .leaf [s0] w K := by kernel_rfl
theorem slices_Clone_s_int_int.call {s0 : Value} {w : World} {K : Value → World → Prop} (h : slices_Clone_s_int_int.pt s0 w K) : Calls Try.prog F_slices_Clone_s_int_int #[s0] w (retK K) :=
  calls_FN (args := [s0]) Try.func36 (by kernel_rfl) (by rw [slices_Clone_s_int_int.pt_eq] at h; exact h)
theorem slices_Clone_s_int_int.up {s0 : Value} {w : World} {K : Value → World → Prop} (h : Calls Try.prog F_slices_Clone_s_int_int #[s0] w (retK K)) : upK Try.prog (sCall F_slices_Clone_s_int_int #[s0]) w K :=
  up_call (fn := Try.f36) Try.func36 (by kernel_rfl) (by kernel_rfl) h

/-- slices.IndexFunc[[]errata/api.Producer,errata/api.Producer] -/
def slices_IndexFunc_s_api_Producer_api_Producer.pt (s0 f1 : Value) (w : World) (K : Value → World → Prop) : Prop :=
  readK Try.prog (sBlt .len #[T_s_api_Producer] T_int #[false] #[s0]) w fun t7 =>
  LOOP (X := Value × Unit) (fun x1 w1 next1 =>
   pureK Try.prog (sBin .lss T_int (.tmp 8) (.tmp 7) x1.1 t7) fun t9 =>
   ifB t9
   (pureK Try.prog (sIdxAddr T_s_api_Producer s0 x1.1) fun t14 =>
    readK Try.prog (sLoad T_api_Producer t14) w1 fun t15 =>
    upK Try.prog (sCallV f1 #[t15]) w1 fun t16 w2 =>
    ifB t16
    (K x1.1 w2)
    (pureK Try.prog (sBin .add T_int (.tmp 8) (.const (.int .i64 1)) x1.1 (.int .i64 1)) fun t18 =>
     next1 (t18, ()) w2))
   (K (.int .i64 (-1)) w1))
  ((.int .i64 0), ()) w
theorem slices_IndexFunc_s_api_Producer_api_Producer.pt_eq : slices_IndexFunc_s_api_Producer_api_Producer.pt = fun s0 f1 w K => FN Try.prog Try.f37 (bodyOf Try.f37) [4] .leaf [s0, f1] w K := by kernel_rfl
theorem slices_IndexFunc_s_api_Producer_api_Producer.call {s0 f1 : Value} {w : World} {K : Value → World → Prop} (h : slices_IndexFunc_s_api_Producer_api_Producer.pt s0 f1 w K) : Calls Try.prog F_slices_IndexFunc_s_api_Producer_api_Producer #[s0, f1] w (retK K) :=
  calls_FN (args := [s0, f1]) Try.func37 (by kernel_rfl) (by rw [slices_IndexFunc_s_api_Producer_api_Producer.pt_eq] at h; exact h)
theorem slices_IndexFunc_s_api_Producer_api_Producer.up {s0 f1 : Value} {w : World} {K : Value → World → Prop} (h : Calls Try.prog F_slices_IndexFunc_s_api_Producer_api_Producer #[s0, f1] w (retK K)) : upK Try.prog (sCall F_slices_IndexFunc_s_api_Producer_api_Producer #[s0, f1]) w K :=
  up_call (fn := Try.f37) Try.func37 (by kernel_rfl) (by kernel_rfl) h

/-- errata/producer.find$1 -/
def producer_find_1.pt (p0 t1 : Value) (w : World) (K : Value → World → Prop) : Prop :=
  upK Try.prog (sBox T_api_Producer p0) w fun p2 w1 =>
  pureK Try.prog (sFieldAddr T_api_Producer p2 0) fun t4 =>
  readK Try.prog (sLoad T_int t4) w1 fun t5 =>
  readK Try.prog (sLoad T_int t1) w1 fun t6 =>
  pureK Try.prog (sBin .eql T_int (.tmp 5) (.tmp 6) t5 t6) fun t7 =>
  K t7 w1
theorem producer_find_1.pt_eq : producer_find_1.pt = fun p0 t1 w K => FN Try.prog Try.f38 (bodyOf Try.f38) [3] .leaf [p0, t1] w K := by kernel_rfl
theorem producer_find_1.call {p0 t1 : Value} {w : World} {K : Value → World → Prop} (h : producer_find_1.pt p0 t1 w K) : Calls Try.prog F_producer_find_1 #[p0, t1] w (retK K) :=
  calls_FN (args := [p0, t1]) Try.func38 (by kernel_rfl) (by rw [producer_find_1.pt_eq] at h; exact h)
theorem producer_find_1.up {p0 t1 : Value} {w : World} {K : Value → World → Prop} (h : Calls Try.prog F_producer_find_1 #[p0, t1] w (retK K)) : upK Try.prog (sCall F_producer_find_1 #[p0, t1]) w K :=
  up_call (fn := Try.f38) Try.func38 (by kernel_rfl) (by kernel_rfl) h

/-- slices.BinarySearchFunc[[]errata/api.Producer,errata/api.Producer,int] -/
def slices_BinarySearchFunc_s_api_Producer_api_Producer_int.pt (x0 target1 cmp2 : Value) (w : World) (K : Value → World → Prop) : Prop :=
  readK Try.prog (sBlt .len #[T_s_api_Producer] T_int #[false] #[x0]) w fun t13 =>
  LETJ (X := Value × Unit) (fun y1 w1 =>
   pureK Try.prog (sBin .lss T_int (.tmp 36) (.tmp 37) y1.1 t13) fun t38 =>
   ifB t38
   (pureK Try.prog (sIdxAddr T_s_api_Producer x0 y1.1) fun t43 =>
    readK Try.prog (sLoad T_api_Producer t43) w1 fun t44 =>
    upK Try.prog (sCallV cmp2 #[t44, target1]) w1 fun t46 w2 =>
    pureK Try.prog (sBin .eql T_int (.tmp 46) (.const (.int .i64 0)) t46 (.int .i64 0)) fun t47 =>
    K (.tuple #[y1.1, t47]) w2)
   (K (.tuple #[y1.1, (.bool false)]) w1))
  (fun J1 =>
   LOOP (X := Value × Value × Unit) (fun x3 w3 next3 =>
    pureK Try.prog (sBin .lss T_int (.tmp 15) (.tmp 16) x3.1 x3.2.1) fun t17 =>
    ifB t17
    (pureK Try.prog (sBin .add T_int (.tmp 18) (.tmp 19) x3.1 x3.2.1) fun t20 =>
     upK Try.prog (sConv T_int T_uint t20) w3 fun t21 w4 =>
     pureK Try.prog (sBin .shr T_uint (.tmp 21) (.const (.int .u64 1)) t21 (.int .u64 1)) fun t22 =>
     upK Try.prog (sConv T_uint T_int t22) w4 fun t23 w5 =>
     pureK Try.prog (sIdxAddr T_s_api_Producer x0 t23) fun t27 =>
     readK Try.prog (sLoad T_api_Producer t27) w5 fun t28 =>
     upK Try.prog (sCallV cmp2 #[t28, target1]) w5 fun t30 w6 =>
     pureK Try.prog (sBin .lss T_int (.tmp 30) (.const (.int .i64 0)) t30 (.int .i64 0)) fun t31 =>
     ifB t31
     (pureK Try.prog (sBin .add T_int (.tmp 32) (.const (.int .i64 1)) t23 (.int .i64 1)) fun t33 =>
      next3 (t33, x3.2.1, ()) w6)
     (next3 (x3.1, t23, ()) w6))
    (J1 (x3.1, ()) w3))
   ((.int .i64 0), t13, ()) w)
theorem slices_BinarySearchFunc_s_api_Producer_api_Producer_int.pt_eq : slices_BinarySearchFunc_s_api_Producer_api_Producer_int.pt = fun x0 target1 cmp2 w K => FN Try.prog Try.f39 (bodyOf Try.f39) [6, 7] (.node none .leaf (.node none .leaf (.node none .leaf (.node (some [9]) .leaf .leaf)))) [x0, target1, cmp2] w K := by kernel_rfl
theorem slices_BinarySearchFunc_s_api_Producer_api_Producer_int.call {x0 target1 cmp2 : Value} {w : World} {K : Value → World → Prop} (h : slices_BinarySearchFunc_s_api_Producer_api_Producer_int.pt x0 target1 cmp2 w K) : Calls Try.prog F_slices_BinarySearchFunc_s_api_Producer_api_Producer_int #[x0, target1, cmp2] w (retK K) :=
  calls_FN (args := [x0, target1, cmp2]) Try.func39 (by kernel_rfl) (by rw [slices_BinarySearchFunc_s_api_Producer_api_Producer_int.pt_eq] at h; exact h)
theorem slices_BinarySearchFunc_s_api_Producer_api_Producer_int.up {x0 target1 cmp2 : Value} {w : World} {K : Value → World → Prop} (h : Calls Try.prog F_slices_BinarySearchFunc_s_api_Producer_api_Producer_int #[x0, target1, cmp2] w (retK K)) : upK Try.prog (sCall F_slices_BinarySearchFunc_s_api_Producer_api_Producer_int #[x0, target1, cmp2]) w K :=
  up_call (fn := Try.f39) Try.func39 (by kernel_rfl) (by kernel_rfl) h

/-- errata/producer.with$1 -/
def producer_with_1.pt (x0 id1 : Value) (w : World) (K : Value → World → Prop) : Prop :=
  upK Try.prog (sBox T_api_Producer x0) w fun x2 w1 =>
  pureK Try.prog (sFieldAddr T_api_Producer x2 0) fun t5 =>
  readK Try.prog (sLoad T_int t5) w1 fun t6 =>
  pureK Try.prog (sBin .sub T_int (.tmp 6) (.tmp 7) t6 id1) fun t8 =>
  K t8 w1
theorem producer_with_1.pt_eq : producer_with_1.pt = fun x0 id1 w K => FN Try.prog Try.f40 (bodyOf Try.f40) [4] .leaf [x0, id1] w K := by kernel_rfl
theorem producer_with_1.call {x0 id1 : Value} {w : World} {K : Value → World → Prop} (h : producer_with_1.pt x0 id1 w K) : Calls Try.prog F_producer_with_1 #[x0, id1] w (retK K) :=
  calls_FN (args := [x0, id1]) Try.func40 (by kernel_rfl) (by rw [producer_with_1.pt_eq] at h; exact h)
theorem producer_with_1.up {x0 id1 : Value} {w : World} {K : Value → World → Prop} (h : Calls Try.prog F_producer_with_1 #[x0, id1] w (retK K)) : upK Try.prog (sCall F_producer_with_1 #[x0, id1]) w K :=
  up_call (fn := Try.f40) Try.func40 (by kernel_rfl) (by kernel_rfl) h

/-- slices.Insert[[]errata/api.Producer,errata/api.Producer] -/
def slices_Insert_s_api_Producer_api_Producer.pt (s0 i1 v2 : Value) (w : World) (K : Value → World → Prop) : Prop :=
  pureK Try.prog (sSlice T_s_api_Producer s0 (some i1) none none) fun t12 =>
  readK Try.prog (sBlt .len #[T_s_api_Producer] T_int #[false] #[v2]) w fun t14 =>
  pureK Try.prog (sBin .eql T_int (.tmp 15) (.const (.int .i64 0)) t14 (.int .i64 0)) fun t16 =>
  ifB t16
  (K s0 w)
  (readK Try.prog (sBlt .len #[T_s_api_Producer] T_int #[false] #[s0]) w fun t19 =>
   pureK Try.prog (sBin .eql T_int (.tmp 20) (.tmp 21) i1 t19) fun t22 =>
   ifB t22
   (upK Try.prog (sBlt .append #[T_s_api_Producer, T_s_api_Producer] T_s_api_Producer #[false, false] #[s0, v2]) w fun t25 w1 =>
    K t25 w1)
   (pureK Try.prog (sBin .add T_int (.tmp 26) (.tmp 27) t19 t14) fun t28 =>
    readK Try.prog (sBlt .cap #[T_s_api_Producer] T_int #[false] #[s0]) w fun t30 =>
    pureK Try.prog (sBin .gtr T_int (.tmp 28) (.tmp 30) t28 t30) fun t31 =>
    ifB t31
    (pureK Try.prog (sSlice T_s_api_Producer s0 none (some i1) none) fun t34 =>
     pureK Try.prog (sBin .add T_int (.tmp 35) (.tmp 36) t19 t14) fun t37 =>
     pureK Try.prog (sBin .sub T_int (.tmp 37) (.tmp 38) t37 i1) fun t39 =>
     upK Try.prog (sBlt .append #[T_s_api_Producer, T_int] T_s_api_Producer #[false, false] #[t34, t39]) w fun t40 w2 =>
     pureK Try.prog (sSlice T_s_api_Producer t40 (some i1) none none) fun t43 =>
     upK Try.prog (sBlt .copy #[T_s_api_Producer, T_s_api_Producer] T_int #[false, false] #[t43, v2]) w2 fun t45 w3 =>
     pureK Try.prog (sBin .add T_int (.tmp 47) (.tmp 48) i1 t14) fun t49 =>
     pureK Try.prog (sSlice T_s_api_Producer t40 (some t49) none none) fun t50 =>
     pureK Try.prog (sSlice T_s_api_Producer s0 (some i1) none none) fun t53 =>
     upK Try.prog (sBlt .copy #[T_s_api_Producer, T_s_api_Producer] T_int #[false, false] #[t50, t53]) (tick w3) fun t54 w4 =>
     K t40 w4)
    (pureK Try.prog (sBin .add T_int (.tmp 57) (.tmp 58) t19 t14) fun t59 =>
     pureK Try.prog (sSlice T_s_api_Producer s0 none (some t59) none) fun t60 =>
     pureK Try.prog (sBin .add T_int (.tmp 63) (.tmp 64) i1 t14) fun t65 =>
     pureK Try.prog (sSlice T_s_api_Producer t60 (some t65) none none) fun t66 =>
     upK Try.prog (sCall F_slices_overlaps_api_Producer #[v2, t66]) w fun t67 w5 =>
     pureK Try.prog (sUn .not t67) fun t68 =>
     ifB t68
     (pureK Try.prog (sBin .add T_int (.tmp 70) (.tmp 71) i1 t14) fun t72 =>
      pureK Try.prog (sSlice T_s_api_Producer t60 (some t72) none none) fun t73 =>
      pureK Try.prog (sSlice T_s_api_Producer t60 (some i1) none none) fun t76 =>
      upK Try.prog (sBlt .copy #[T_s_api_Producer, T_s_api_Producer] T_int #[false, false] #[t73, t76]) (tick w5) fun t77 w6 =>
      pureK Try.prog (sSlice T_s_api_Producer t60 (some i1) none none) fun t80 =>
      upK Try.prog (sBlt .copy #[T_s_api_Producer, T_s_api_Producer] T_int #[false, false] #[t80, v2]) w6 fun t82 w7 =>
      K t60 w7)
     (pureK Try.prog (sSlice T_s_api_Producer t60 (some t19) none none) fun t86 =>
      upK Try.prog (sBlt .copy #[T_s_api_Producer, T_s_api_Producer] T_int #[false, false] #[t86, v2]) w5 fun t88 w8 =>
      pureK Try.prog (sSlice T_s_api_Producer t60 (some i1) none none) fun t91 =>
      upK Try.prog (sCall F_slices_rotateRight_api_Producer #[t91, t14]) w8 fun t93 w9 =>
      K t60 w9))))
theorem slices_Insert_s_api_Producer_api_Producer.pt_eq : slices_Insert_s_api_Producer_api_Producer.pt = fun s0 i1 v2 w K => FN Try.prog Try.f41 (bodyOf Try.f41) [6] .leaf [s0, i1, v2] w K := by kernel_rfl
theorem slices_Insert_s_api_Producer_api_Producer.call {s0 i1 v2 : Value} {w : World} {K : Value → World → Prop} (h : slices_Insert_s_api_Producer_api_Producer.pt s0 i1 v2 w K) : Calls Try.prog F_slices_Insert_s_api_Producer_api_Producer #[s0, i1, v2] w (retK K) :=
  calls_FN (args := [s0, i1, v2]) Try.func41 (by kernel_rfl) (by rw [slices_Insert_s_api_Producer_api_Producer.pt_eq] at h; exact h)
theorem slices_Insert_s_api_Producer_api_Producer.up {s0 i1 v2 : Value} {w : World} {K : Value → World → Prop} (h : Calls Try.prog F_slices_Insert_s_api_Producer_api_Producer #[s0, i1, v2] w (retK K)) : upK Try.prog (sCall F_slices_Insert_s_api_Producer_api_Producer #[s0, i1, v2]) w K :=
  up_call (fn := Try.f41) Try.func41 (by kernel_rfl) (by kernel_rfl) h

/-- slices.IndexFunc[[]errata/api.Known,errata/api.Known] -/
def slices_IndexFunc_s_api_Known_api_Known.pt (s0 f1 : Value) (w : World) (K : Value → World → Prop) : Prop :=
  readK Try.prog (sBlt .len #[T_s_api_Known] T_int #[false] #[s0]) w fun t7 =>
  LOOP (X := Value × Unit) (fun x1 w1 next1 =>
   pureK Try.prog (sBin .lss T_int (.tmp 8) (.tmp 7) x1.1 t7) fun t9 =>
   ifB t9
   (pureK Try.prog (sIdxAddr T_s_api_Known s0 x1.1) fun t14 =>
    readK Try.prog (sLoad T_api_Known t14) w1 fun t15 =>
    upK Try.prog (sCallV f1 #[t15]) w1 fun t16 w2 =>
    ifB t16
    (K x1.1 w2)
    (pureK Try.prog (sBin .add T_int (.tmp 8) (.const (.int .i64 1)) x1.1 (.int .i64 1)) fun t18 =>
     next1 (t18, ()) w2))
   (K (.int .i64 (-1)) w1))
  ((.int .i64 0), ()) w
theorem slices_IndexFunc_s_api_Known_api_Known.pt_eq : slices_IndexFunc_s_api_Known_api_Known.pt = fun s0 f1 w K => FN Try.prog Try.f42 (bodyOf Try.f42) [4] .leaf [s0, f1] w K := by kernel_rfl
theorem slices_IndexFunc_s_api_Known_api_Known.call {s0 f1 : Value} {w : World} {K : Value → World → Prop} (h : slices_IndexFunc_s_api_Known_api_Known.pt s0 f1 w K) : Calls Try.prog F_slices_IndexFunc_s_api_Known_api_Known #[s0, f1] w (retK K) :=
  calls_FN (args := [s0, f1]) Try.func42 (by kernel_rfl) (by rw [slices_IndexFunc_s_api_Known_api_Known.pt_eq] at h; exact h)
theorem slices_IndexFunc_s_api_Known_api_Known.up {s0 f1 : Value} {w : World} {K : Value → World → Prop} (h : Calls Try.prog F_slices_IndexFunc_s_api_Known_api_Known #[s0, f1] w (retK K)) : upK Try.prog (sCall F_slices_IndexFunc_s_api_Known_api_Known #[s0, f1]) w K :=
  up_call (fn := Try.f42) Try.func42 (by kernel_rfl) (by kernel_rfl) h

/-- (*errata/intake.Intake).fits$1 -/
def intake_Intake_fits_1.pt (k0 t1 : Value) (w : World) (K : Value → World → Prop) : Prop :=
  upK Try.prog (sBox T_api_Known k0) w fun k2 w1 =>
  pureK Try.prog (sFieldAddr T_api_Known k2 0) fun t4 =>
  readK Try.prog (sLoad T_string t4) w1 fun t5 =>
  pureK Try.prog (sFieldAddr T_api_Entry t1 4) fun t6 =>
  readK Try.prog (sLoad T_string t6) w1 fun t7 =>
  pureK Try.prog (sBin .eql T_string (.tmp 5) (.tmp 7) t5 t7) fun t8 =>
  ifB t8
  (pureK Try.prog (sFieldAddr T_api_Known k2 1) fun t10 =>
   readK Try.prog (sLoad T_int t10) w1 fun t11 =>
   pureK Try.prog (sFieldAddr T_api_Entry t1 5) fun t12 =>
   readK Try.prog (sLoad T_int t12) w1 fun t13 =>
   pureK Try.prog (sBin .eql T_int (.tmp 11) (.tmp 13) t11 t13) fun t14 =>
   K t14 w1)
  (K (.bool false) w1)
theorem intake_Intake_fits_1.pt_eq : intake_Intake_fits_1.pt = fun k0 t1 w K => FN Try.prog Try.f43 (bodyOf Try.f43) [3] .leaf [k0, t1] w K := by kernel_rfl
theorem intake_Intake_fits_1.call {k0 t1 : Value} {w : World} {K : Value → World → Prop} (h : intake_Intake_fits_1.pt k0 t1 w K) : Calls Try.prog F_intake_Intake_fits_1 #[k0, t1] w (retK K) :=
  calls_FN (args := [k0, t1]) Try.func43 (by kernel_rfl) (by rw [intake_Intake_fits_1.pt_eq] at h; exact h)
theorem intake_Intake_fits_1.up {k0 t1 : Value} {w : World} {K : Value → World → Prop} (h : Calls Try.prog F_intake_Intake_fits_1 #[k0, t1] w (retK K)) : upK Try.prog (sCall F_intake_Intake_fits_1 #[k0, t1]) w K :=
  up_call (fn := Try.f43) Try.func43 (by kernel_rfl) (by kernel_rfl) h

/-- slices.EqualFunc[[]errata/api.Value,[]errata/api.Col,errata/api.Value,errata/api.Col] -/
def slices_EqualFunc_s_api_Value_s_api_Col_api_Value_api_Col.pt (s10 s21 eq2 : Value) (w : World) (K : Value → World → Prop) : Prop :=
  readK Try.prog (sBlt .len #[T_s_api_Value] T_int #[false] #[s10]) w fun t11 =>
  readK Try.prog (sBlt .len #[T_s_api_Col] T_int #[false] #[s21]) w fun t13 =>
  pureK Try.prog (sBin .neq T_int (.tmp 11) (.tmp 13) t11 t13) fun t14 =>
  ifB t14
  (K (.bool false) w)
  (readK Try.prog (sBlt .len #[T_s_api_Value] T_int #[false] #[s10]) w fun t16 =>
   LOOP (X := Value × Unit) (fun x1 w1 next1 =>
    pureK Try.prog (sBin .lss T_int (.tmp 17) (.tmp 16) x1.1 t16) fun t18 =>
    ifB t18
    (pureK Try.prog (sIdxAddr T_s_api_Value s10 x1.1) fun t20 =>
     readK Try.prog (sLoad T_api_Value t20) w1 fun t21 =>
     upK Try.prog (sAlloc T_api_Value) w1 fun v18 w2 =>
     upK Try.prog (sStore T_api_Value v18 t21) w2 fun tu w3 =>
     pureK Try.prog (sIdxAddr T_s_api_Col s21 x1.1) fun t24 =>
     readK Try.prog (sLoad T_api_Col t24) w3 fun t25 =>
     upK Try.prog (sAlloc T_api_Col) w3 fun v29 w4 =>
     upK Try.prog (sStore T_api_Col v29 t25) w4 fun tu_1 w5 =>
     readK Try.prog (sLoad T_api_Value v18) w5 fun t27 =>
     readK Try.prog (sLoad T_api_Col v29) w5 fun t28 =>
     upK Try.prog (sCallV eq2 #[t27, t28]) w5 fun t29 w6 =>
     pureK Try.prog (sUn .not t29) fun t30 =>
     ifB t30
     (K (.bool false) w6)
     (pureK Try.prog (sBin .add T_int (.tmp 17) (.const (.int .i64 1)) x1.1 (.int .i64 1)) fun t31 =>
      next1 (t31, ()) w6))
    (K (.bool true) w1))
   ((.int .i64 0), ()) w)
theorem slices_EqualFunc_s_api_Value_s_api_Col_api_Value_api_Col.pt_eq : slices_EqualFunc_s_api_Value_s_api_Col_api_Value_api_Col.pt = fun s10 s21 eq2 w K => FN Try.prog Try.f44 (bodyOf Try.f44) [6] .leaf [s10, s21, eq2] w K := by kernel_rfl
theorem slices_EqualFunc_s_api_Value_s_api_Col_api_Value_api_Col.call {s10 s21 eq2 : Value} {w : World} {K : Value → World → Prop} (h : slices_EqualFunc_s_api_Value_s_api_Col_api_Value_api_Col.pt s10 s21 eq2 w K) : Calls Try.prog F_slices_EqualFunc_s_api_Value_s_api_Col_api_Value_api_Col #[s10, s21, eq2] w (retK K) :=
  calls_FN (args := [s10, s21, eq2]) Try.func44 (by kernel_rfl) (by rw [slices_EqualFunc_s_api_Value_s_api_Col_api_Value_api_Col.pt_eq] at h; exact h)
theorem slices_EqualFunc_s_api_Value_s_api_Col_api_Value_api_Col.up {s10 s21 eq2 : Value} {w : World} {K : Value → World → Prop} (h : Calls Try.prog F_slices_EqualFunc_s_api_Value_s_api_Col_api_Value_api_Col #[s10, s21, eq2] w (retK K)) : upK Try.prog (sCall F_slices_EqualFunc_s_api_Value_s_api_Col_api_Value_api_Col #[s10, s21, eq2]) w K :=
  up_call (fn := Try.f44) Try.func44 (by kernel_rfl) (by kernel_rfl) h

/-- (*errata/intake.Intake).fits$2 -/
def intake_Intake_fits_2.pt (v0 c1 : Value) (w : World) (K : Value → World → Prop) : Prop :=
  upK Try.prog (sBox T_api_Value v0) w fun v2 w1 =>
  upK Try.prog (sBox T_api_Col c1) w1 fun c3 w2 =>
  pureK Try.prog (sFieldAddr T_api_Value v2 0) fun t5 =>
  readK Try.prog (sLoad T_int t5) w2 fun t6 =>
  pureK Try.prog (sFieldAddr T_api_Col c3 1) fun t7 =>
  readK Try.prog (sLoad T_int t7) w2 fun t8 =>
  pureK Try.prog (sBin .eql T_int (.tmp 6) (.tmp 8) t6 t8) fun t9 =>
  K t9 w2
theorem intake_Intake_fits_2.pt_eq : intake_Intake_fits_2.pt = fun v0 c1 w K => FN Try.prog Try.f45 (bodyOf Try.f45) [4] .leaf [v0, c1] w K := by kernel_rfl
theorem intake_Intake_fits_2.call {v0 c1 : Value} {w : World} {K : Value → World → Prop} (h : intake_Intake_fits_2.pt v0 c1 w K) : Calls Try.prog F_intake_Intake_fits_2 #[v0, c1] w (retK K) :=
  calls_FN (args := [v0, c1]) Try.func45 (by kernel_rfl) (by rw [intake_Intake_fits_2.pt_eq] at h; exact h)
theorem intake_Intake_fits_2.up {v0 c1 : Value} {w : World} {K : Value → World → Prop} (h : Calls Try.prog F_intake_Intake_fits_2 #[v0, c1] w (retK K)) : upK Try.prog (sCall F_intake_Intake_fits_2 #[v0, c1]) w K :=
  up_call (fn := Try.f45) Try.func45 (by kernel_rfl) (by kernel_rfl) h

/-- errata/value.RightRow -/
def value_RightRow.pt (r0 : Value) (w : World) (K : Value → World → Prop) : Prop :=
  readK Try.prog (sBlt .len #[T_s_api_Value] T_int #[false] #[r0]) w fun t4 =>
  pureK Try.prog (sBin .leq T_int (.tmp 4) (.const (.int .i64 12)) t4 (.int .i64 12)) fun t5 =>
  ifB t5
  (upK Try.prog (sCall F_value_all #[r0]) w fun t8 w1 =>
   K t8 w1)
  (K (.bool false) w)
theorem value_RightRow.pt_eq : value_RightRow.pt = fun r0 w K => FN Try.prog Try.f46 (bodyOf Try.f46) [2] .leaf [r0] w K := by kernel_rfl
theorem value_RightRow.call {r0 : Value} {w : World} {K : Value → World → Prop} (h : value_RightRow.pt r0 w K) : Calls Try.prog F_value_RightRow #[r0] w (retK K) :=
  calls_FN (args := [r0]) Try.func46 (by kernel_rfl) (by rw [value_RightRow.pt_eq] at h; exact h)
theorem value_RightRow.up {r0 : Value} {w : World} {K : Value → World → Prop} (h : Calls Try.prog F_value_RightRow #[r0] w (retK K)) : upK Try.prog (sCall F_value_RightRow #[r0]) w K :=
  up_call (fn := Try.f46) Try.func46 (by kernel_rfl) (by kernel_rfl) h

/-- slices.rotateRight[errata/api.Producer] -/
def slices_rotateRight_api_Producer.pt (s0 r1 : Value) (w : World) (K : Value → World → Prop) : Prop :=
  readK Try.prog (sBlt .len #[T_s_api_Producer] T_int #[false] #[s0]) w fun t6 =>
  pureK Try.prog (sBin .sub T_int (.tmp 6) (.tmp 7) t6 r1) fun t8 =>
  upK Try.prog (sCall F_slices_rotateLeft_api_Producer #[s0, t8]) w fun t9 w1 =>
  K (.tuple #[]) w1
theorem slices_rotateRight_api_Producer.pt_eq : slices_rotateRight_api_Producer.pt = fun s0 r1 w K => FN Try.prog Try.f48 (bodyOf Try.f48) [] .leaf [s0, r1] w K := by kernel_rfl
theorem slices_rotateRight_api_Producer.call {s0 r1 : Value} {w : World} {K : Value → World → Prop} (h : slices_rotateRight_api_Producer.pt s0 r1 w K) : Calls Try.prog F_slices_rotateRight_api_Producer #[s0, r1] w (retK K) :=
  calls_FN (args := [s0, r1]) Try.func48 (by kernel_rfl) (by rw [slices_rotateRight_api_Producer.pt_eq] at h; exact h)
theorem slices_rotateRight_api_Producer.up {s0 r1 : Value} {w : World} {K : Value → World → Prop} (h : Calls Try.prog F_slices_rotateRight_api_Producer #[s0, r1] w (retK K)) : upK Try.prog (sCall F_slices_rotateRight_api_Producer #[s0, r1]) w K :=
  up_call (fn := Try.f48) Try.func48 (by kernel_rfl) (by kernel_rfl) h

/-- errata/value.all -/
def value_all.pt (r0 : Value) (w : World) (K : Value → World → Prop) : Prop :=
  upK Try.prog (sCall F_slices_ContainsFunc_s_api_Value_api_Value #[r0, (.func (.func 52) #[] #[])]) w fun t4 w1 =>
  pureK Try.prog (sUn .not t4) fun t5 =>
  K t5 w1
theorem value_all.pt_eq : value_all.pt = fun r0 w K => FN Try.prog Try.f49 (bodyOf Try.f49) [2] .leaf [r0] w K := by kernel_rfl
theorem value_all.call {r0 : Value} {w : World} {K : Value → World → Prop} (h : value_all.pt r0 w K) : Calls Try.prog F_value_all #[r0] w (retK K) :=
  calls_FN (args := [r0]) Try.func49 (by kernel_rfl) (by rw [value_all.pt_eq] at h; exact h)
theorem value_all.up {r0 : Value} {w : World} {K : Value → World → Prop} (h : Calls Try.prog F_value_all #[r0] w (retK K)) : upK Try.prog (sCall F_value_all #[r0]) w K :=
  up_call (fn := Try.f49) Try.func49 (by kernel_rfl) (by kernel_rfl) h

/-- slices.rotateLeft[errata/api.Producer] -/
def slices_rotateLeft_api_Producer.pt (s0 r1 : Value) (w : World) (K : Value → World → Prop) : Prop :=
  pureK Try.prog (sSlice T_s_api_Producer s0 none (some r1) none) fun t6 =>
  upK Try.prog (sCall F_slices_Reverse_s_api_Producer_api_Producer #[t6]) w fun t7 w1 =>
  pureK Try.prog (sSlice T_s_api_Producer s0 (some r1) none none) fun t10 =>
  upK Try.prog (sCall F_slices_Reverse_s_api_Producer_api_Producer #[t10]) w1 fun t11 w2 =>
  upK Try.prog (sCall F_slices_Reverse_s_api_Producer_api_Producer #[s0]) w2 fun t13 w3 =>
  K (.tuple #[]) w3
theorem slices_rotateLeft_api_Producer.pt_eq : slices_rotateLeft_api_Producer.pt = fun s0 r1 w K => FN Try.prog Try.f50 (bodyOf Try.f50) [] .leaf [s0, r1] w K := by kernel_rfl
theorem slices_rotateLeft_api_Producer.call {s0 r1 : Value} {w : World} {K : Value → World → Prop} (h : slices_rotateLeft_api_Producer.pt s0 r1 w K) : Calls Try.prog F_slices_rotateLeft_api_Producer #[s0, r1] w (retK K) :=
  calls_FN (args := [s0, r1]) Try.func50 (by kernel_rfl) (by rw [slices_rotateLeft_api_Producer.pt_eq] at h; exact h)
theorem slices_rotateLeft_api_Producer.up {s0 r1 : Value} {w : World} {K : Value → World → Prop} (h : Calls Try.prog F_slices_rotateLeft_api_Producer #[s0, r1] w (retK K)) : upK Try.prog (sCall F_slices_rotateLeft_api_Producer #[s0, r1]) w K :=
  up_call (fn := Try.f50) Try.func50 (by kernel_rfl) (by kernel_rfl) h

/-- slices.ContainsFunc[[]errata/api.Value,errata/api.Value] -/
def slices_ContainsFunc_s_api_Value_api_Value.pt (s0 f1 : Value) (w : World) (K : Value → World → Prop) : Prop :=
  upK Try.prog (sCall F_slices_IndexFunc_s_api_Value_api_Value #[s0, f1]) w fun t7 w1 =>
  pureK Try.prog (sBin .geq T_int (.tmp 7) (.const (.int .i64 0)) t7 (.int .i64 0)) fun t8 =>
  K t8 w1
theorem slices_ContainsFunc_s_api_Value_api_Value.pt_eq : slices_ContainsFunc_s_api_Value_api_Value.pt = fun s0 f1 w K => FN Try.prog Try.f51 (bodyOf Try.f51) [4] .leaf [s0, f1] w K := by kernel_rfl
theorem slices_ContainsFunc_s_api_Value_api_Value.call {s0 f1 : Value} {w : World} {K : Value → World → Prop} (h : slices_ContainsFunc_s_api_Value_api_Value.pt s0 f1 w K) : Calls Try.prog F_slices_ContainsFunc_s_api_Value_api_Value #[s0, f1] w (retK K) :=
  calls_FN (args := [s0, f1]) Try.func51 (by kernel_rfl) (by rw [slices_ContainsFunc_s_api_Value_api_Value.pt_eq] at h; exact h)
theorem slices_ContainsFunc_s_api_Value_api_Value.up {s0 f1 : Value} {w : World} {K : Value → World → Prop} (h : Calls Try.prog F_slices_ContainsFunc_s_api_Value_api_Value #[s0, f1] w (retK K)) : upK Try.prog (sCall F_slices_ContainsFunc_s_api_Value_api_Value #[s0, f1]) w K :=
  up_call (fn := Try.f51) Try.func51 (by kernel_rfl) (by kernel_rfl) h

/-- errata/value.all$1 -/
def value_all_1.pt (v0 : Value) (w : World) (K : Value → World → Prop) : Prop :=
  upK Try.prog (sBox T_api_Value v0) w fun v1 w1 =>
  readK Try.prog (sLoad T_api_Value v1) w1 fun t3 =>
  upK Try.prog (sCall F_value_Right #[t3]) w1 fun t4 w2 =>
  pureK Try.prog (sUn .not t4) fun t5 =>
  K t5 w2
theorem value_all_1.pt_eq : value_all_1.pt = fun v0 w K => FN Try.prog Try.f52 (bodyOf Try.f52) [2] .leaf [v0] w K := by kernel_rfl
theorem value_all_1.call {v0 : Value} {w : World} {K : Value → World → Prop} (h : value_all_1.pt v0 w K) : Calls Try.prog F_value_all_1 #[v0] w (retK K) :=
  calls_FN (args := [v0]) Try.func52 (by kernel_rfl) (by rw [value_all_1.pt_eq] at h; exact h)
theorem value_all_1.up {v0 : Value} {w : World} {K : Value → World → Prop} (h : Calls Try.prog F_value_all_1 #[v0] w (retK K)) : upK Try.prog (sCall F_value_all_1 #[v0]) w K :=
  up_call (fn := Try.f52) Try.func52 (by kernel_rfl) (by kernel_rfl) h

end Go.Proofs.Ytefinemhfgdpdaa
