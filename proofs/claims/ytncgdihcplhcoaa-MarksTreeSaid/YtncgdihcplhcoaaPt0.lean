/-
  The reckoned conditions of the functions that this seat's statements reach, printed by program, each held against the translation by the kernel. No condition.
-/
import Derived.Test.YtncgdihcplhcoaaNames
namespace Go.Proofs.Ytncgdihcplhcoaa
set_option linter.unusedVariables false

/-- errata/erratalaw35.MarksTree -/
def erratalaw35_MarksTree.pt (sizes0 l1 : Value) (w : World) (K : Value → World → Prop) : Prop :=
  upK Try.prog (sCall F_erratalaw35_small #[]) w fun t17 w1 =>
  readK Try.prog (sBlt .len #[T_s_int] T_int #[false] #[sizes0]) w1 fun t19 =>
  pureK Try.prog (sBin .lss T_int (.tmp 19) (.const (.int .i64 1)) t19 (.int .i64 1)) fun t20 =>
  ifB t20
  (K t17 w1)
  (readK Try.prog (sBlt .len #[T_s_int] T_int #[false] #[sizes0]) w1 fun t23 =>
   pureK Try.prog (sBin .gtr T_int (.tmp 23) (.const (.int .i64 8)) t23 (.int .i64 8)) fun t24 =>
   ifB t24
   (K t17 w1)
   (readK Try.prog (sBlt .len #[T_s_erratalaw35_Op] T_int #[false] #[l1]) w1 fun t28 =>
    pureK Try.prog (sBin .gtr T_int (.tmp 28) (.const (.int .i64 100)) t28 (.int .i64 100)) fun t29 =>
    ifB t29
    (K t17 w1)
    (LOOP (X := Value × Value × Value × Value × Unit) (fun x2 w2 next2 =>
      readK Try.prog (sBlt .len #[T_s_int] T_int #[false] #[sizes0]) w2 fun t34 =>
      pureK Try.prog (sBin .lss T_int (.tmp 32) (.tmp 34) x2.2.2.2.1 t34) fun t35 =>
      ifB t35
      (pureK Try.prog (sIdxAddr T_s_int sizes0 x2.2.2.2.1) fun t40 =>
       readK Try.prog (sLoad T_int t40) w2 fun t41 =>
       pureK Try.prog (sBin .and T_int (.tmp 41) (.const (.int .i64 7)) t41 (.int .i64 7)) fun t42 =>
       pureK Try.prog (sBin .add T_int (.const (.int .i64 1)) (.tmp 42) (.int .i64 1) t42) fun t43 =>
       upK Try.prog (sBuildSlice T_s_int 1 #[(0, x2.2.1)]) w2 fun t46 w3 =>
       upK Try.prog (sBlt .append #[T_s_int, T_s_int] T_s_int #[false, false] #[x2.1, t46]) w3 fun t47 w4 =>
       pureK Try.prog (sBin .add T_int (.tmp 48) (.tmp 49) x2.2.1 t43) fun t50 =>
       upK Try.prog (sCall F_marks_New #[t43]) w4 fun t53 w5 =>
       upK Try.prog (sBuildSlice T_s_p_marks_Marks 1 #[(0, t53)]) w5 fun t54 w6 =>
       upK Try.prog (sBlt .append #[T_s_p_marks_Marks, T_s_p_marks_Marks] T_s_p_marks_Marks #[false, false] #[x2.2.2.1, t54]) w6 fun t55 w7 =>
       pureK Try.prog (sIdxAddr T_s_p_marks_Marks t55 x2.2.2.2.1) fun t58 =>
       readK Try.prog (sLoad T_p_marks_Marks t58) w7 fun t59 =>
       pureK Try.prog (sBin .eql T_p_marks_Marks (.tmp 59) (.const (.pointer none)) t59 (.pointer none)) fun t60 =>
       ifB t60
       (K (.bool false) w7)
       (pureK Try.prog (sBin .add T_int (.tmp 36) (.const (.int .i64 1)) x2.2.2.2.1 (.int .i64 1)) fun t37 =>
        next2 (t47, t50, t55, t37, ()) w7))
      (upK Try.prog (sCall F_marks_New #[x2.2.1]) w2 fun t62 w8 =>
       readK Try.prog (sBlt .len #[T_s_int] T_int #[false] #[sizes0]) w8 fun t64 =>
       upK Try.prog (sCall F_marks_New #[t64]) w8 fun t65 w9 =>
       pureK Try.prog (sBin .eql T_p_marks_Marks (.tmp 66) (.const (.pointer none)) t62 (.pointer none)) fun t67 =>
       ifB t67
       (K (.bool false) w9)
       (pureK Try.prog (sBin .eql T_p_marks_Marks (.tmp 69) (.const (.pointer none)) t65 (.pointer none)) fun t70 =>
        ifB t70
        (K (.bool false) w9)
        (LOOP (X := Value × Unit) (fun x10 w10 next10 =>
          readK Try.prog (sBlt .len #[T_s_erratalaw35_Op] T_int #[false] #[l1]) w10 fun t74 =>
          pureK Try.prog (sBin .lss T_int (.tmp 72) (.tmp 74) x10.1 t74) fun t75 =>
          ifB t75
          (let J1 : World → Prop := fun w11 =>
           (pureK Try.prog (sBin .add T_int (.tmp 76) (.const (.int .i64 1)) x10.1 (.int .i64 1)) fun t77 =>
            next10 (t77, ()) w11)
           pureK Try.prog (sIdxAddr T_s_erratalaw35_Op l1 x10.1) fun t80 =>
           pureK Try.prog (sFieldAddr T_erratalaw35_Op t80 0) fun t81 =>
           readK Try.prog (sLoad T_int t81) w10 fun t82 =>
           pureK Try.prog (sBin .and T_int (.tmp 82) (.const (.int .i64 63)) t82 (.int .i64 63)) fun t83 =>
           readK Try.prog (sBlt .len #[T_s_int] T_int #[false] #[sizes0]) w10 fun t85 =>
           pureK Try.prog (sBin .rem T_int (.tmp 83) (.tmp 85) t83 t85) fun t86 =>
           pureK Try.prog (sIdxAddr T_s_p_marks_Marks x2.2.2.1 t86) fun t89 =>
           readK Try.prog (sLoad T_p_marks_Marks t89) w10 fun t90 =>
           pureK Try.prog (sIdxAddr T_s_erratalaw35_Op l1 x10.1) fun t94 =>
           pureK Try.prog (sFieldAddr T_erratalaw35_Op t94 1) fun t95 =>
           readK Try.prog (sLoad T_int t95) (tick w10) fun t96 =>
           pureK Try.prog (sIdxAddr T_s_erratalaw35_Op l1 x10.1) fun t99 =>
           pureK Try.prog (sFieldAddr T_erratalaw35_Op t99 2) fun t100 =>
           readK Try.prog (sLoad T_int t100) (tick w10) fun t101 =>
           upK Try.prog (sCall F_marks_Marks_Note #[t90, t96, t101]) (tick w10) fun t102 w12 =>
           pureK Try.prog (sBin .neq T_api_Errno (.tmp 103) (.const (.int .i64 0)) t102 (.int .i64 0)) fun t104 =>
           ifB t104
           (J1 w12)
           (pureK Try.prog (sIdxAddr T_s_int x2.1 t86) fun t108 =>
            readK Try.prog (sLoad T_int t108) (tick w12) fun t109 =>
            pureK Try.prog (sIdxAddr T_s_erratalaw35_Op l1 x10.1) fun t112 =>
            pureK Try.prog (sFieldAddr T_erratalaw35_Op t112 1) fun t113 =>
            readK Try.prog (sLoad T_int t113) (tick w12) fun t114 =>
            pureK Try.prog (sBin .add T_int (.tmp 109) (.tmp 114) t109 t114) fun t115 =>
            pureK Try.prog (sIdxAddr T_s_erratalaw35_Op l1 x10.1) fun t118 =>
            pureK Try.prog (sFieldAddr T_erratalaw35_Op t118 2) fun t119 =>
            readK Try.prog (sLoad T_int t119) (tick w12) fun t120 =>
            upK Try.prog (sCall F_marks_Marks_Note #[t62, t115, t120]) (tick w12) fun t121 w13 =>
            pureK Try.prog (sBin .neq T_api_Errno (.tmp 121) (.const (.int .i64 0)) t121 (.int .i64 0)) fun t122 =>
            ifB t122
            (K (.bool false) w13)
            (upK Try.prog (sCall F_marks_Marks_Mark #[t90]) w13 fun t127 w14 =>
             upK Try.prog (sCall F_marks_Marks_Note #[t65, t86, t127]) w14 fun t128 w15 =>
             pureK Try.prog (sBin .neq T_api_Errno (.tmp 128) (.const (.int .i64 0)) t128 (.int .i64 0)) fun t129 =>
             ifB t129
             (K (.bool false) w15)
             (upK Try.prog (sCall F_marks_Marks_Mark #[t65]) w15 fun t133 w16 =>
              upK Try.prog (sCall F_marks_Marks_Mark #[t62]) w16 fun t135 w17 =>
              pureK Try.prog (sBin .neq T_int (.tmp 133) (.tmp 135) t133 t135) fun t136 =>
              ifB t136
              (K (.bool false) w17)
              (J1 w17)))))
          (K t17 w10))
         ((.int .i64 0), ()) w9))))
     ((.slice none 0 0), (.int .i64 0), (.slice none 0 0), (.int .i64 0), ()) w1)))
theorem erratalaw35_MarksTree.pt_eq : erratalaw35_MarksTree.pt = fun sizes0 l1 w K => FN Try.prog Try.f3 (bodyOf Try.f3) [4] [sizes0, l1] w K := by kernel_rfl
theorem erratalaw35_MarksTree.call {sizes0 l1 : Value} {w : World} {K : Value → World → Prop} (h : erratalaw35_MarksTree.pt sizes0 l1 w K) : Calls Try.prog F_erratalaw35_MarksTree #[sizes0, l1] w (retK K) :=
  calls_FN (args := [sizes0, l1]) Try.func3 (by kernel_rfl) (by rw [erratalaw35_MarksTree.pt_eq] at h; exact h)
theorem erratalaw35_MarksTree.up {sizes0 l1 : Value} {w : World} {K : Value → World → Prop} (h : Calls Try.prog F_erratalaw35_MarksTree #[sizes0, l1] w (retK K)) : upK Try.prog (sCall F_erratalaw35_MarksTree #[sizes0, l1]) w K :=
  up_call (fn := Try.f3) Try.func3 (by kernel_rfl) (by kernel_rfl) h

/-- errata/erratalaw35.MarksCut -/
def erratalaw35_MarksCut.pt (time0 now1 ahead2 : Value) (w : World) (K : Value → World → Prop) : Prop :=
  upK Try.prog (sCall F_erratalaw35_small #[]) w fun t12 w1 =>
  upK Try.prog (sCall F_marks_Cut #[time0, now1, ahead2]) w1 fun t16 w2 =>
  pureK Try.prog (sBin .gtr T_int (.tmp 17) (.tmp 18) t16 time0) fun t19 =>
  ifB t19
  (K (.bool false) w2)
  (pureK Try.prog (sBin .add T_int (.tmp 20) (.tmp 21) now1 ahead2) fun t22 =>
   pureK Try.prog (sBin .gtr T_int (.tmp 23) (.const (.int .i64 0)) now1 (.int .i64 0)) fun t24 =>
   ifB t24
   (pureK Try.prog (sBin .gtr T_int (.tmp 26) (.const (.int .i64 0)) ahead2 (.int .i64 0)) fun t27 =>
    ifB t27
    (pureK Try.prog (sBin .leq T_int (.tmp 30) (.const (.int .i64 0)) t22 (.int .i64 0)) fun t31 =>
     pureK Try.prog (sBin .lss T_int (.tmp 33) (.const (.int .i64 0)) now1 (.int .i64 0)) fun t34 =>
     ifB t34
     (pureK Try.prog (sBin .lss T_int (.tmp 36) (.const (.int .i64 0)) ahead2 (.int .i64 0)) fun t37 =>
      ifB t37
      (pureK Try.prog (sBin .geq T_int (.tmp 40) (.const (.int .i64 0)) t22 (.int .i64 0)) fun t41 =>
       ifB t31
       (ifB t12
        (pureK Try.prog (sBin .eql T_int (.tmp 46) (.tmp 47) t16 time0) fun t48 =>
         K t48 w2)
        (K (.bool false) w2))
       (ifB t41
        (ifB t12
         (pureK Try.prog (sBin .eql T_int (.tmp 53) (.const (.int .i64 (-9223372036854775808))) t16 (.int .i64 (-9223372036854775808))) fun t54 =>
          K t54 w2)
         (K (.bool false) w2))
        (ifB t12
         (pureK Try.prog (sBin .leq T_int (.tmp 58) (.tmp 59) t16 t22) fun t60 =>
          ifB t60
          (pureK Try.prog (sBin .eql T_int (.tmp 63) (.tmp 64) t16 time0) fun t65 =>
           ifB t65
           (K (.bool true) w2)
           (pureK Try.prog (sBin .eql T_int (.tmp 67) (.tmp 68) t16 t22) fun t69 =>
            K t69 w2))
          (K (.bool false) w2))
         (K (.bool false) w2))))
      (ifB t31
       (ifB t12
        (pureK Try.prog (sBin .eql T_int (.tmp 46) (.tmp 47) t16 time0) fun t48_1 =>
         K t48_1 w2)
        (K (.bool false) w2))
       (ifB (.bool false)
        (ifB t12
         (pureK Try.prog (sBin .eql T_int (.tmp 53) (.const (.int .i64 (-9223372036854775808))) t16 (.int .i64 (-9223372036854775808))) fun t54_1 =>
          K t54_1 w2)
         (K (.bool false) w2))
        (ifB t12
         (pureK Try.prog (sBin .leq T_int (.tmp 58) (.tmp 59) t16 t22) fun t60_1 =>
          ifB t60_1
          (pureK Try.prog (sBin .eql T_int (.tmp 63) (.tmp 64) t16 time0) fun t65_1 =>
           ifB t65_1
           (K (.bool true) w2)
           (pureK Try.prog (sBin .eql T_int (.tmp 67) (.tmp 68) t16 t22) fun t69_1 =>
            K t69_1 w2))
          (K (.bool false) w2))
         (K (.bool false) w2)))))
     (ifB t31
      (ifB t12
       (pureK Try.prog (sBin .eql T_int (.tmp 46) (.tmp 47) t16 time0) fun t48_2 =>
        K t48_2 w2)
       (K (.bool false) w2))
      (ifB (.bool false)
       (ifB t12
        (pureK Try.prog (sBin .eql T_int (.tmp 53) (.const (.int .i64 (-9223372036854775808))) t16 (.int .i64 (-9223372036854775808))) fun t54_2 =>
         K t54_2 w2)
        (K (.bool false) w2))
       (ifB t12
        (pureK Try.prog (sBin .leq T_int (.tmp 58) (.tmp 59) t16 t22) fun t60_2 =>
         ifB t60_2
         (pureK Try.prog (sBin .eql T_int (.tmp 63) (.tmp 64) t16 time0) fun t65_2 =>
          ifB t65_2
          (K (.bool true) w2)
          (pureK Try.prog (sBin .eql T_int (.tmp 67) (.tmp 68) t16 t22) fun t69_2 =>
           K t69_2 w2))
         (K (.bool false) w2))
        (K (.bool false) w2)))))
    (pureK Try.prog (sBin .lss T_int (.tmp 33) (.const (.int .i64 0)) now1 (.int .i64 0)) fun t34_1 =>
     ifB t34_1
     (pureK Try.prog (sBin .lss T_int (.tmp 36) (.const (.int .i64 0)) ahead2 (.int .i64 0)) fun t37_1 =>
      ifB t37_1
      (pureK Try.prog (sBin .geq T_int (.tmp 40) (.const (.int .i64 0)) t22 (.int .i64 0)) fun t41_1 =>
       ifB t41_1
       (ifB t12
        (pureK Try.prog (sBin .eql T_int (.tmp 53) (.const (.int .i64 (-9223372036854775808))) t16 (.int .i64 (-9223372036854775808))) fun t54_3 =>
         K t54_3 w2)
        (K (.bool false) w2))
       (ifB t12
        (pureK Try.prog (sBin .leq T_int (.tmp 58) (.tmp 59) t16 t22) fun t60_3 =>
         ifB t60_3
         (pureK Try.prog (sBin .eql T_int (.tmp 63) (.tmp 64) t16 time0) fun t65_3 =>
          ifB t65_3
          (K (.bool true) w2)
          (pureK Try.prog (sBin .eql T_int (.tmp 67) (.tmp 68) t16 t22) fun t69_3 =>
           K t69_3 w2))
         (K (.bool false) w2))
        (K (.bool false) w2)))
      (ifB (.bool false)
       (ifB t12
        (pureK Try.prog (sBin .eql T_int (.tmp 53) (.const (.int .i64 (-9223372036854775808))) t16 (.int .i64 (-9223372036854775808))) fun t54_4 =>
         K t54_4 w2)
        (K (.bool false) w2))
       (ifB t12
        (pureK Try.prog (sBin .leq T_int (.tmp 58) (.tmp 59) t16 t22) fun t60_4 =>
         ifB t60_4
         (pureK Try.prog (sBin .eql T_int (.tmp 63) (.tmp 64) t16 time0) fun t65_4 =>
          ifB t65_4
          (K (.bool true) w2)
          (pureK Try.prog (sBin .eql T_int (.tmp 67) (.tmp 68) t16 t22) fun t69_4 =>
           K t69_4 w2))
         (K (.bool false) w2))
        (K (.bool false) w2))))
     (ifB (.bool false)
      (ifB t12
       (pureK Try.prog (sBin .eql T_int (.tmp 53) (.const (.int .i64 (-9223372036854775808))) t16 (.int .i64 (-9223372036854775808))) fun t54_5 =>
        K t54_5 w2)
       (K (.bool false) w2))
      (ifB t12
       (pureK Try.prog (sBin .leq T_int (.tmp 58) (.tmp 59) t16 t22) fun t60_5 =>
        ifB t60_5
        (pureK Try.prog (sBin .eql T_int (.tmp 63) (.tmp 64) t16 time0) fun t65_5 =>
         ifB t65_5
         (K (.bool true) w2)
         (pureK Try.prog (sBin .eql T_int (.tmp 67) (.tmp 68) t16 t22) fun t69_5 =>
          K t69_5 w2))
        (K (.bool false) w2))
       (K (.bool false) w2)))))
   (pureK Try.prog (sBin .lss T_int (.tmp 33) (.const (.int .i64 0)) now1 (.int .i64 0)) fun t34_2 =>
    ifB t34_2
    (pureK Try.prog (sBin .lss T_int (.tmp 36) (.const (.int .i64 0)) ahead2 (.int .i64 0)) fun t37_2 =>
     ifB t37_2
     (pureK Try.prog (sBin .geq T_int (.tmp 40) (.const (.int .i64 0)) t22 (.int .i64 0)) fun t41_2 =>
      ifB t41_2
      (ifB t12
       (pureK Try.prog (sBin .eql T_int (.tmp 53) (.const (.int .i64 (-9223372036854775808))) t16 (.int .i64 (-9223372036854775808))) fun t54_6 =>
        K t54_6 w2)
       (K (.bool false) w2))
      (ifB t12
       (pureK Try.prog (sBin .leq T_int (.tmp 58) (.tmp 59) t16 t22) fun t60_6 =>
        ifB t60_6
        (pureK Try.prog (sBin .eql T_int (.tmp 63) (.tmp 64) t16 time0) fun t65_6 =>
         ifB t65_6
         (K (.bool true) w2)
         (pureK Try.prog (sBin .eql T_int (.tmp 67) (.tmp 68) t16 t22) fun t69_6 =>
          K t69_6 w2))
        (K (.bool false) w2))
       (K (.bool false) w2)))
     (ifB (.bool false)
      (ifB t12
       (pureK Try.prog (sBin .eql T_int (.tmp 53) (.const (.int .i64 (-9223372036854775808))) t16 (.int .i64 (-9223372036854775808))) fun t54_7 =>
        K t54_7 w2)
       (K (.bool false) w2))
      (ifB t12
       (pureK Try.prog (sBin .leq T_int (.tmp 58) (.tmp 59) t16 t22) fun t60_7 =>
        ifB t60_7
        (pureK Try.prog (sBin .eql T_int (.tmp 63) (.tmp 64) t16 time0) fun t65_7 =>
         ifB t65_7
         (K (.bool true) w2)
         (pureK Try.prog (sBin .eql T_int (.tmp 67) (.tmp 68) t16 t22) fun t69_7 =>
          K t69_7 w2))
        (K (.bool false) w2))
       (K (.bool false) w2))))
    (ifB (.bool false)
     (ifB t12
      (pureK Try.prog (sBin .eql T_int (.tmp 53) (.const (.int .i64 (-9223372036854775808))) t16 (.int .i64 (-9223372036854775808))) fun t54_8 =>
       K t54_8 w2)
      (K (.bool false) w2))
     (ifB t12
      (pureK Try.prog (sBin .leq T_int (.tmp 58) (.tmp 59) t16 t22) fun t60_8 =>
       ifB t60_8
       (pureK Try.prog (sBin .eql T_int (.tmp 63) (.tmp 64) t16 time0) fun t65_8 =>
        ifB t65_8
        (K (.bool true) w2)
        (pureK Try.prog (sBin .eql T_int (.tmp 67) (.tmp 68) t16 t22) fun t69_8 =>
         K t69_8 w2))
       (K (.bool false) w2))
      (K (.bool false) w2)))))
theorem erratalaw35_MarksCut.pt_eq : erratalaw35_MarksCut.pt = fun time0 now1 ahead2 w K => FN Try.prog Try.f4 (bodyOf Try.f4) [6] [time0, now1, ahead2] w K := by kernel_rfl
theorem erratalaw35_MarksCut.call {time0 now1 ahead2 : Value} {w : World} {K : Value → World → Prop} (h : erratalaw35_MarksCut.pt time0 now1 ahead2 w K) : Calls Try.prog F_erratalaw35_MarksCut #[time0, now1, ahead2] w (retK K) :=
  calls_FN (args := [time0, now1, ahead2]) Try.func4 (by kernel_rfl) (by rw [erratalaw35_MarksCut.pt_eq] at h; exact h)
theorem erratalaw35_MarksCut.up {time0 now1 ahead2 : Value} {w : World} {K : Value → World → Prop} (h : Calls Try.prog F_erratalaw35_MarksCut #[time0, now1, ahead2] w (retK K)) : upK Try.prog (sCall F_erratalaw35_MarksCut #[time0, now1, ahead2]) w K :=
  up_call (fn := Try.f4) Try.func4 (by kernel_rfl) (by kernel_rfl) h

/-- errata/erratalaw35.MarksRise -/
def erratalaw35_MarksRise.pt (n0 l1 : Value) (w : World) (K : Value → World → Prop) : Prop :=
  upK Try.prog (sCall F_erratalaw35_small #[]) w fun t20 w1 =>
  pureK Try.prog (sBin .lss T_int (.tmp 21) (.const (.int .i64 1)) n0 (.int .i64 1)) fun t22 =>
  ifB t22
  (K t20 w1)
  (pureK Try.prog (sBin .gtr T_int (.tmp 24) (.const (.int .i64 50)) n0 (.int .i64 50)) fun t25 =>
   ifB t25
   (K t20 w1)
   (readK Try.prog (sBlt .len #[T_s_erratalaw35_Op] T_int #[false] #[l1]) w1 fun t29 =>
    pureK Try.prog (sBin .gtr T_int (.tmp 29) (.const (.int .i64 100)) t29 (.int .i64 100)) fun t30 =>
    ifB t30
    (K t20 w1)
    (upK Try.prog (sCall F_marks_New #[n0]) w1 fun t34 w2 =>
     pureK Try.prog (sBin .eql T_p_marks_Marks (.tmp 35) (.const (.pointer none)) t34 (.pointer none)) fun t36 =>
     ifB t36
     (K (.bool false) w2)
     (upK Try.prog (sCall F_marks_Marks_Count #[t34]) w2 fun t39 w3 =>
      pureK Try.prog (sBin .neq T_int (.tmp 39) (.tmp 40) t39 n0) fun t41 =>
      ifB t41
      (K (.bool false) w3)
      (upK Try.prog (sMkSlice T_s_bool (.int .i64 50) (.int .i64 50)) w3 fun t43 w4 =>
       upK Try.prog (sMkSlice T_s_int (.int .i64 50) (.int .i64 50)) w4 fun t44 w5 =>
       LOOP (X := Value × Unit) (fun x6 w6 next6 =>
        pureK Try.prog (sBin .lss T_int (.tmp 45) (.tmp 46) x6.1 n0) fun t47 =>
        ifB t47
        (pureK Try.prog (sIdxAddr T_s_int t44 x6.1) fun t52 =>
         upK Try.prog (sStore T_int t52 (.int .i64 (-1))) w6 fun tu w7 =>
         pureK Try.prog (sBin .add T_int (.tmp 48) (.const (.int .i64 1)) x6.1 (.int .i64 1)) fun t49 =>
         next6 (t49, ()) w7)
        (LOOP (X := Value × Value × Value × Unit) (fun x8 w8 next8 =>
          readK Try.prog (sBlt .len #[T_s_erratalaw35_Op] T_int #[false] #[l1]) w8 fun t55 =>
          pureK Try.prog (sBin .lss T_int (.tmp 53) (.tmp 55) x8.2.2.1 t55) fun t56 =>
          ifB t56
          (let J1 : Value → Value → World → Prop := fun some11 common10 w9 =>
           (pureK Try.prog (sBin .add T_int (.tmp 57) (.const (.int .i64 1)) x8.2.2.1 (.int .i64 1)) fun t58 =>
            next8 (some11, common10, t58, ()) w9)
           pureK Try.prog (sIdxAddr T_s_erratalaw35_Op l1 x8.2.2.1) fun t61 =>
           readK Try.prog (sLoad T_erratalaw35_Op t61) w8 fun t62 =>
           upK Try.prog (sAlloc T_erratalaw35_Op) w8 fun x13 w10 =>
           upK Try.prog (sStore T_erratalaw35_Op x13 t62) w10 fun tu_1 w11 =>
           readK Try.prog (sLoad T_erratalaw35_Op x13) w11 fun t64 =>
           upK Try.prog (sCall F_erratalaw35_do #[t34, t64]) w11 fun t65 w12 =>
           let J2 : Value → World → Prop := fun some11_1 w13 =>
           (upK Try.prog (sCall F_marks_Marks_Of #[t34, (.int .i64 0)]) w13 fun t91 w14 =>
            pureK Try.prog (sExtract t91 0) fun t92 =>
            pureK Try.prog (sExtract t91 1) fun t93 =>
            LOOP (X := Value × Value × Unit) (fun x15 w15 next15 =>
             pureK Try.prog (sBin .lss T_int (.tmp 94) (.tmp 95) x15.2.1 n0) fun t96 =>
             ifB t96
             (upK Try.prog (sCall F_marks_Marks_Of #[t34, x15.2.1]) w15 fun t102 w16 =>
              pureK Try.prog (sExtract t102 0) fun t103 =>
              pureK Try.prog (sExtract t102 1) fun t104 =>
              let J3 : World → Prop := fun w17 =>
              (pureK Try.prog (sIdxAddr T_s_int t44 x15.2.1) fun t127 =>
               upK Try.prog (sStore T_int t127 t103) w17 fun tu_2 w18 =>
               pureK Try.prog (sBlt .min #[T_int, T_int] T_int #[false, false] #[x15.1, t103]) fun t130 =>
               pureK Try.prog (sBin .add T_int (.tmp 97) (.const (.int .i64 1)) x15.2.1 (.int .i64 1)) fun t98 =>
               next15 (t130, t98, ()) w18)
              pureK Try.prog (sIdxAddr T_s_int t44 x15.2.1) fun t108 =>
              readK Try.prog (sLoad T_int t108) w16 fun t109 =>
              pureK Try.prog (sBin .lss T_int (.tmp 105) (.tmp 109) t103 t109) fun t110 =>
              ifB t110
              (K (.bool false) w16)
              (upK Try.prog (sCall F_marks_Marks_Mark #[t34]) w16 fun t114 w19 =>
               pureK Try.prog (sBin .lss T_int (.tmp 112) (.tmp 114) t103 t114) fun t115 =>
               ifB t115
               (pureK Try.prog (sIdxAddr T_s_bool t43 x15.2.1) fun t119 =>
                readK Try.prog (sLoad T_bool t119) w19 fun t120 =>
                pureK Try.prog (sUn .not t120) fun t121 =>
                ifB t121
                (K (.bool false) w19)
                (J3 w19))
               (J3 w19)))
             (let J4 : World → Prop := fun w20 =>
              (upK Try.prog (sCall F_marks_Marks_Mark #[t34]) w20 fun t146 w21 =>
               J1 some11_1 t146 w21)
              upK Try.prog (sCall F_marks_Marks_Mark #[t34]) w15 fun t132 w22 =>
              pureK Try.prog (sBin .lss T_int (.tmp 132) (.tmp 133) t132 x8.2.1) fun t134 =>
              ifB t134
              (K (.bool false) w22)
              (pureK Try.prog (sUn .not some11_1) fun t137 =>
               ifB t137
               (upK Try.prog (sCall F_marks_Marks_Mark #[t34]) w22 fun t140 w23 =>
                pureK Try.prog (sBin .neq T_int (.tmp 140) (.tmp 141) t140 x15.1) fun t142 =>
                ifB t142
                (K (.bool false) w23)
                (J4 w23))
               (J4 w22))))
            (t92, (.int .i64 0), ()) w14)
           pureK Try.prog (sBin .eql T_api_Errno (.tmp 66) (.const (.int .i64 0)) t65 (.int .i64 0)) fun t67 =>
           ifB t67
           (pureK Try.prog (sFieldAddr T_erratalaw35_Op x13 0) fun t69 =>
            readK Try.prog (sLoad T_int t69) w12 fun t70 =>
            pureK Try.prog (sBin .and T_int (.tmp 70) (.const (.int .i64 3)) t70 (.int .i64 3)) fun t71 =>
            pureK Try.prog (sBin .eql T_int (.tmp 71) (.const (.int .i64 2)) t71 (.int .i64 2)) fun t72 =>
            ifB t72
            (pureK Try.prog (sFieldAddr T_erratalaw35_Op x13 1) fun t75 =>
             readK Try.prog (sLoad T_int t75) w12 fun t76 =>
             pureK Try.prog (sBin .geq T_int (.tmp 76) (.const (.int .i64 0)) t76 (.int .i64 0)) fun t77 =>
             ifB t77
             (pureK Try.prog (sFieldAddr T_erratalaw35_Op x13 1) fun t80 =>
              readK Try.prog (sLoad T_int t80) w12 fun t81 =>
              pureK Try.prog (sBin .lss T_int (.tmp 81) (.tmp 82) t81 n0) fun t83 =>
              ifB t83
              (pureK Try.prog (sFieldAddr T_erratalaw35_Op x13 1) fun t86 =>
               readK Try.prog (sLoad T_int t86) w12 fun t87 =>
               pureK Try.prog (sIdxAddr T_s_bool t43 t87) fun t88 =>
               upK Try.prog (sStore T_bool t88 (.bool true)) w12 fun tu_3 w24 =>
               J2 (.bool true) w24)
              (J2 x8.1 w12))
             (J2 x8.1 w12))
            (J2 x8.1 w12))
           (J2 x8.1 w12))
          (K t20 w8))
         ((.bool false), (.int .i64 (-1)), (.int .i64 0), ()) w6))
       ((.int .i64 0), ()) w5)))))
theorem erratalaw35_MarksRise.pt_eq : erratalaw35_MarksRise.pt = fun n0 l1 w K => FN Try.prog Try.f5 (bodyOf Try.f5) [4] [n0, l1] w K := by kernel_rfl
theorem erratalaw35_MarksRise.call {n0 l1 : Value} {w : World} {K : Value → World → Prop} (h : erratalaw35_MarksRise.pt n0 l1 w K) : Calls Try.prog F_erratalaw35_MarksRise #[n0, l1] w (retK K) :=
  calls_FN (args := [n0, l1]) Try.func5 (by kernel_rfl) (by rw [erratalaw35_MarksRise.pt_eq] at h; exact h)
theorem erratalaw35_MarksRise.up {n0 l1 : Value} {w : World} {K : Value → World → Prop} (h : Calls Try.prog F_erratalaw35_MarksRise #[n0, l1] w (retK K)) : upK Try.prog (sCall F_erratalaw35_MarksRise #[n0, l1]) w K :=
  up_call (fn := Try.f5) Try.func5 (by kernel_rfl) (by kernel_rfl) h

/-- errata/erratalaw35.small -/
def erratalaw35_small.pt (w : World) (K : Value → World → Prop) : Prop :=
  upK Try.prog (sCall F_marks_New #[(.int .i64 2)]) w fun t5 w1 =>
  pureK Try.prog (sBin .eql T_p_marks_Marks (.tmp 6) (.const (.pointer none)) t5 (.pointer none)) fun t7 =>
  ifB t7
  (K (.bool false) w1)
  (upK Try.prog (sCall F_marks_Marks_Note #[t5, (.int .i64 0), (.int .i64 5)]) w1 fun t9 w2 =>
   upK Try.prog (sCall F_marks_Marks_Mark #[t5]) w2 fun t11 w3 =>
   upK Try.prog (sCall F_marks_Marks_Note #[t5, (.int .i64 1), (.int .i64 3)]) w3 fun t13 w4 =>
   upK Try.prog (sCall F_marks_Marks_Mark #[t5]) w4 fun t15 w5 =>
   upK Try.prog (sCall F_marks_Marks_Idle #[t5, (.int .i64 1), (.bool true)]) w5 fun t17 w6 =>
   upK Try.prog (sCall F_marks_Marks_Mark #[t5]) w6 fun t19 w7 =>
   upK Try.prog (sCall F_marks_Marks_Note #[t5, (.int .i64 1), (.int .i64 4)]) w7 fun t21 w8 =>
   pureK Try.prog (sBin .eql T_int (.tmp 22) (.const (.int .i64 (-1))) t11 (.int .i64 (-1))) fun t23 =>
   ifB t23
   (pureK Try.prog (sBin .eql T_int (.tmp 25) (.const (.int .i64 3)) t15 (.int .i64 3)) fun t26 =>
    ifB t26
    (pureK Try.prog (sBin .eql T_int (.tmp 29) (.const (.int .i64 5)) t19 (.int .i64 5)) fun t30 =>
     ifB t30
     (upK Try.prog (sCall F_marks_Marks_Mark #[t5]) w8 fun t34 w9 =>
      pureK Try.prog (sBin .eql T_int (.tmp 34) (.const (.int .i64 5)) t34 (.int .i64 5)) fun t35 =>
      ifB t35
      (upK Try.prog (sCall F_marks_Cut #[(.int .i64 100), (.int .i64 40), (.int .i64 10)]) w9 fun t38 w10 =>
       pureK Try.prog (sBin .eql T_int (.tmp 38) (.const (.int .i64 50)) t38 (.int .i64 50)) fun t39 =>
       ifB t39
       (upK Try.prog (sCall F_marks_Cut #[(.int .i64 45), (.int .i64 40), (.int .i64 10)]) w10 fun t42 w11 =>
        pureK Try.prog (sBin .eql T_int (.tmp 42) (.const (.int .i64 45)) t42 (.int .i64 45)) fun t43 =>
        K t43 w11)
       (K (.bool false) w10))
      (K (.bool false) w9))
     (K (.bool false) w8))
    (K (.bool false) w8))
   (K (.bool false) w8))
theorem erratalaw35_small.pt_eq : erratalaw35_small.pt = fun  w K => FN Try.prog Try.f6 (bodyOf Try.f6) [0] [] w K := by kernel_rfl
theorem erratalaw35_small.call {w : World} {K : Value → World → Prop} (h : erratalaw35_small.pt  w K) : Calls Try.prog F_erratalaw35_small #[] w (retK K) :=
  calls_FN (args := []) Try.func6 (by kernel_rfl) (by rw [erratalaw35_small.pt_eq] at h; exact h)
theorem erratalaw35_small.up {w : World} {K : Value → World → Prop} (h : Calls Try.prog F_erratalaw35_small #[] w (retK K)) : upK Try.prog (sCall F_erratalaw35_small #[]) w K :=
  up_call (fn := Try.f6) Try.func6 (by kernel_rfl) (by kernel_rfl) h

/-- errata/marks.New -/
def marks_New.pt (n0 : Value) (w : World) (K : Value → World → Prop) : Prop :=
  pureK Try.prog (sBuild T_marks_input #[(0, (.int .i64 (-1)))]) fun t3 =>
  upK Try.prog (sBuildSlice T_s_marks_input 1 #[(0, t3)]) w fun t4 w1 =>
  pureK Try.prog (sBlt .max #[T_int, T_int] T_int #[false, true] #[n0, (.int .i64 0)]) fun t6 =>
  pureK Try.prog (sBlt .min #[T_int, T_int] T_int #[false, true] #[t6, (.int .i64 200)]) fun t7 =>
  upK Try.prog (sCall F_slices_Repeat_s_marks_input_marks_input #[t4, t7]) w1 fun t8 w2 =>
  pureK Try.prog (sBuild T_marks_Marks #[(0, t8), (1, (.int .i64 (-1)))]) fun t9 =>
  upK Try.prog (sBox T_marks_Marks t9) w2 fun t10 w3 =>
  K t10 w3
theorem marks_New.pt_eq : marks_New.pt = fun n0 w K => FN Try.prog Try.f7 (bodyOf Try.f7) [2] [n0] w K := by kernel_rfl
theorem marks_New.call {n0 : Value} {w : World} {K : Value → World → Prop} (h : marks_New.pt n0 w K) : Calls Try.prog F_marks_New #[n0] w (retK K) :=
  calls_FN (args := [n0]) Try.func7 (by kernel_rfl) (by rw [marks_New.pt_eq] at h; exact h)
theorem marks_New.up {n0 : Value} {w : World} {K : Value → World → Prop} (h : Calls Try.prog F_marks_New #[n0] w (retK K)) : upK Try.prog (sCall F_marks_New #[n0]) w K :=
  up_call (fn := Try.f7) Try.func7 (by kernel_rfl) (by kernel_rfl) h

/-- (*errata/marks.Marks).Note -/
def marks_Marks_Note.pt (m0 i1 mark2 : Value) (w : World) (K : Value → World → Prop) : Prop :=
  upK Try.prog (sCall F_marks_Marks_has #[m0, i1]) w fun t10 w1 =>
  pureK Try.prog (sUn .not t10) fun t11 =>
  ifB t11
  (K (.int .i64 4) w1)
  (pureK Try.prog (sBin .lss T_int (.tmp 13) (.const (.int .i64 (-1))) mark2 (.int .i64 (-1))) fun t14 =>
   ifB t14
   (K (.int .i64 3) w1)
   (pureK Try.prog (sBin .gtr T_int (.tmp 16) (.const (.int .i64 1099511627776)) mark2 (.int .i64 1099511627776)) fun t17 =>
    ifB t17
    (K (.int .i64 3) w1)
    (pureK Try.prog (sNil m0) fun t20 =>
     pureK Try.prog (sFieldAddr T_marks_Marks t20 0) fun t21 =>
     readK Try.prog (sLoad T_s_marks_input t21) (tick w1) fun t22 =>
     pureK Try.prog (sNil m0) fun t26 =>
     pureK Try.prog (sFieldAddr T_marks_Marks t26 0) fun t27 =>
     readK Try.prog (sLoad T_s_marks_input t27) (tick w1) fun t28 =>
     pureK Try.prog (sIdxAddr T_s_marks_input t28 i1) fun t30 =>
     pureK Try.prog (sFieldAddr T_marks_input t30 0) fun t31 =>
     readK Try.prog (sLoad T_int t31) (tick w1) fun t32 =>
     pureK Try.prog (sBlt .max #[T_int, T_int] T_int #[false, false] #[mark2, t32]) fun t33 =>
     pureK Try.prog (sBuild T_marks_input #[(0, t33)]) fun t34 =>
     pureK Try.prog (sIdxAddr T_s_marks_input t22 i1) fun t35 =>
     upK Try.prog (sStore T_marks_input t35 t34) (tick w1) fun tu w2 =>
     upK Try.prog (sCall F_marks_Marks_settled #[m0]) w2 fun t38 w3 =>
     pureK Try.prog (sNil m0) fun t39 =>
     pureK Try.prog (sFieldAddr T_marks_Marks t39 1) fun t40 =>
     upK Try.prog (sStore T_int t40 t38) w3 fun tu_1 w4 =>
     K (.int .i64 0) w4)))
theorem marks_Marks_Note.pt_eq : marks_Marks_Note.pt = fun m0 i1 mark2 w K => FN Try.prog Try.f8 (bodyOf Try.f8) [6] [m0, i1, mark2] w K := by kernel_rfl
theorem marks_Marks_Note.call {m0 i1 mark2 : Value} {w : World} {K : Value → World → Prop} (h : marks_Marks_Note.pt m0 i1 mark2 w K) : Calls Try.prog F_marks_Marks_Note #[m0, i1, mark2] w (retK K) :=
  calls_FN (args := [m0, i1, mark2]) Try.func8 (by kernel_rfl) (by rw [marks_Marks_Note.pt_eq] at h; exact h)
theorem marks_Marks_Note.up {m0 i1 mark2 : Value} {w : World} {K : Value → World → Prop} (h : Calls Try.prog F_marks_Marks_Note #[m0, i1, mark2] w (retK K)) : upK Try.prog (sCall F_marks_Marks_Note #[m0, i1, mark2]) w K :=
  up_call (fn := Try.f8) Try.func8 (by kernel_rfl) (by kernel_rfl) h

/-- (*errata/marks.Marks).Mark -/
def marks_Marks_Mark.pt (m0 : Value) (w : World) (K : Value → World → Prop) : Prop :=
  pureK Try.prog (sNil m0) fun t4 =>
  pureK Try.prog (sFieldAddr T_marks_Marks t4 1) fun t5 =>
  readK Try.prog (sLoad T_int t5) w fun t6 =>
  K t6 w
theorem marks_Marks_Mark.pt_eq : marks_Marks_Mark.pt = fun m0 w K => FN Try.prog Try.f9 (bodyOf Try.f9) [2] [m0] w K := by kernel_rfl
theorem marks_Marks_Mark.call {m0 : Value} {w : World} {K : Value → World → Prop} (h : marks_Marks_Mark.pt m0 w K) : Calls Try.prog F_marks_Marks_Mark #[m0] w (retK K) :=
  calls_FN (args := [m0]) Try.func9 (by kernel_rfl) (by rw [marks_Marks_Mark.pt_eq] at h; exact h)
theorem marks_Marks_Mark.up {m0 : Value} {w : World} {K : Value → World → Prop} (h : Calls Try.prog F_marks_Marks_Mark #[m0] w (retK K)) : upK Try.prog (sCall F_marks_Marks_Mark #[m0]) w K :=
  up_call (fn := Try.f9) Try.func9 (by kernel_rfl) (by kernel_rfl) h

/-- errata/marks.Cut -/
def marks_Cut.pt (time0 now1 ahead2 : Value) (w : World) (K : Value → World → Prop) : Prop :=
  pureK Try.prog (sBin .add T_int (.tmp 8) (.tmp 9) now1 ahead2) fun t10 =>
  let J1 : Value → World → Prop := fun sum7 w1 =>
  (pureK Try.prog (sBlt .min #[T_int, T_int] T_int #[false, false] #[time0, sum7]) fun t35 =>
   K t35 w1)
  pureK Try.prog (sBin .gtr T_int (.tmp 12) (.const (.int .i64 0)) now1 (.int .i64 0)) fun t13 =>
  ifB t13
  (pureK Try.prog (sBin .gtr T_int (.tmp 15) (.const (.int .i64 0)) ahead2 (.int .i64 0)) fun t16 =>
   ifB t16
   (pureK Try.prog (sBin .lss T_int (.tmp 19) (.const (.int .i64 0)) t10 (.int .i64 0)) fun t20 =>
    ifB t20
    (J1 (.int .i64 9223372036854775807) w)
    (pureK Try.prog (sBin .lss T_int (.tmp 23) (.const (.int .i64 0)) now1 (.int .i64 0)) fun t24 =>
     ifB t24
     (pureK Try.prog (sBin .lss T_int (.tmp 26) (.const (.int .i64 0)) ahead2 (.int .i64 0)) fun t27 =>
      ifB t27
      (pureK Try.prog (sBin .geq T_int (.tmp 30) (.const (.int .i64 0)) t10 (.int .i64 0)) fun t31 =>
       ifB t31
       (J1 (.int .i64 (-9223372036854775808)) w)
       (J1 t10 w))
      (J1 t10 w))
     (J1 t10 w)))
   (pureK Try.prog (sBin .lss T_int (.tmp 23) (.const (.int .i64 0)) now1 (.int .i64 0)) fun t24_1 =>
    ifB t24_1
    (pureK Try.prog (sBin .lss T_int (.tmp 26) (.const (.int .i64 0)) ahead2 (.int .i64 0)) fun t27_1 =>
     ifB t27_1
     (pureK Try.prog (sBin .geq T_int (.tmp 30) (.const (.int .i64 0)) t10 (.int .i64 0)) fun t31_1 =>
      ifB t31_1
      (J1 (.int .i64 (-9223372036854775808)) w)
      (J1 t10 w))
     (J1 t10 w))
    (J1 t10 w)))
  (pureK Try.prog (sBin .lss T_int (.tmp 23) (.const (.int .i64 0)) now1 (.int .i64 0)) fun t24_2 =>
   ifB t24_2
   (pureK Try.prog (sBin .lss T_int (.tmp 26) (.const (.int .i64 0)) ahead2 (.int .i64 0)) fun t27_2 =>
    ifB t27_2
    (pureK Try.prog (sBin .geq T_int (.tmp 30) (.const (.int .i64 0)) t10 (.int .i64 0)) fun t31_2 =>
     ifB t31_2
     (J1 (.int .i64 (-9223372036854775808)) w)
     (J1 t10 w))
    (J1 t10 w))
   (J1 t10 w))
theorem marks_Cut.pt_eq : marks_Cut.pt = fun time0 now1 ahead2 w K => FN Try.prog Try.f10 (bodyOf Try.f10) [6] [time0, now1, ahead2] w K := by kernel_rfl
theorem marks_Cut.call {time0 now1 ahead2 : Value} {w : World} {K : Value → World → Prop} (h : marks_Cut.pt time0 now1 ahead2 w K) : Calls Try.prog F_marks_Cut #[time0, now1, ahead2] w (retK K) :=
  calls_FN (args := [time0, now1, ahead2]) Try.func10 (by kernel_rfl) (by rw [marks_Cut.pt_eq] at h; exact h)
theorem marks_Cut.up {time0 now1 ahead2 : Value} {w : World} {K : Value → World → Prop} (h : Calls Try.prog F_marks_Cut #[time0, now1, ahead2] w (retK K)) : upK Try.prog (sCall F_marks_Cut #[time0, now1, ahead2]) w K :=
  up_call (fn := Try.f10) Try.func10 (by kernel_rfl) (by kernel_rfl) h

/-- (*errata/marks.Marks).Count -/
def marks_Marks_Count.pt (m0 : Value) (w : World) (K : Value → World → Prop) : Prop :=
  pureK Try.prog (sNil m0) fun t4 =>
  pureK Try.prog (sFieldAddr T_marks_Marks t4 0) fun t5 =>
  readK Try.prog (sLoad T_s_marks_input t5) w fun t6 =>
  readK Try.prog (sBlt .len #[T_s_marks_input] T_int #[false] #[t6]) w fun t7 =>
  K t7 w
theorem marks_Marks_Count.pt_eq : marks_Marks_Count.pt = fun m0 w K => FN Try.prog Try.f11 (bodyOf Try.f11) [2] [m0] w K := by kernel_rfl
theorem marks_Marks_Count.call {m0 : Value} {w : World} {K : Value → World → Prop} (h : marks_Marks_Count.pt m0 w K) : Calls Try.prog F_marks_Marks_Count #[m0] w (retK K) :=
  calls_FN (args := [m0]) Try.func11 (by kernel_rfl) (by rw [marks_Marks_Count.pt_eq] at h; exact h)
theorem marks_Marks_Count.up {m0 : Value} {w : World} {K : Value → World → Prop} (h : Calls Try.prog F_marks_Marks_Count #[m0] w (retK K)) : upK Try.prog (sCall F_marks_Marks_Count #[m0]) w K :=
  up_call (fn := Try.f11) Try.func11 (by kernel_rfl) (by kernel_rfl) h

/-- errata/erratalaw35.do -/
def erratalaw35_do.pt (m0 x1 : Value) (w : World) (K : Value → World → Prop) : Prop :=
  upK Try.prog (sBox T_erratalaw35_Op x1) w fun x3 w1 =>
  pureK Try.prog (sFieldAddr T_erratalaw35_Op x3 0) fun t5 =>
  readK Try.prog (sLoad T_int t5) w1 fun t6 =>
  pureK Try.prog (sBin .and T_int (.tmp 6) (.const (.int .i64 3)) t6 (.int .i64 3)) fun t7 =>
  pureK Try.prog (sBin .eql T_int (.tmp 7) (.const (.int .i64 2)) t7 (.int .i64 2)) fun t9 =>
  ifB t9
  (pureK Try.prog (sFieldAddr T_erratalaw35_Op x3 1) fun t11 =>
   readK Try.prog (sLoad T_int t11) w1 fun t12 =>
   upK Try.prog (sCall F_marks_Marks_Idle #[m0, t12, (.bool true)]) w1 fun t13 w2 =>
   K t13 w2)
  (pureK Try.prog (sBin .eql T_int (.tmp 7) (.const (.int .i64 3)) t7 (.int .i64 3)) fun t15 =>
   ifB t15
   (pureK Try.prog (sFieldAddr T_erratalaw35_Op x3 1) fun t17 =>
    readK Try.prog (sLoad T_int t17) w1 fun t18 =>
    upK Try.prog (sCall F_marks_Marks_Idle #[m0, t18, (.bool false)]) w1 fun t19 w3 =>
    K t19 w3)
   (pureK Try.prog (sFieldAddr T_erratalaw35_Op x3 1) fun t21 =>
    readK Try.prog (sLoad T_int t21) w1 fun t22 =>
    pureK Try.prog (sFieldAddr T_erratalaw35_Op x3 2) fun t23 =>
    readK Try.prog (sLoad T_int t23) w1 fun t24 =>
    upK Try.prog (sCall F_marks_Marks_Note #[m0, t22, t24]) w1 fun t25 w4 =>
    K t25 w4))
theorem erratalaw35_do.pt_eq : erratalaw35_do.pt = fun m0 x1 w K => FN Try.prog Try.f12 (bodyOf Try.f12) [4] [m0, x1] w K := by kernel_rfl
theorem erratalaw35_do.call {m0 x1 : Value} {w : World} {K : Value → World → Prop} (h : erratalaw35_do.pt m0 x1 w K) : Calls Try.prog F_erratalaw35_do #[m0, x1] w (retK K) :=
  calls_FN (args := [m0, x1]) Try.func12 (by kernel_rfl) (by rw [erratalaw35_do.pt_eq] at h; exact h)
theorem erratalaw35_do.up {m0 x1 : Value} {w : World} {K : Value → World → Prop} (h : Calls Try.prog F_erratalaw35_do #[m0, x1] w (retK K)) : upK Try.prog (sCall F_erratalaw35_do #[m0, x1]) w K :=
  up_call (fn := Try.f12) Try.func12 (by kernel_rfl) (by kernel_rfl) h

/-- (*errata/marks.Marks).Of -/
def marks_Marks_Of.pt (m0 i1 : Value) (w : World) (K : Value → World → Prop) : Prop :=
  upK Try.prog (sCall F_marks_Marks_has #[m0, i1]) w fun t8 w1 =>
  pureK Try.prog (sUn .not t8) fun t9 =>
  ifB t9
  (K (.tuple #[(.int .i64 (-1)), (.bool false)]) w1)
  (pureK Try.prog (sNil m0) fun t11 =>
   pureK Try.prog (sFieldAddr T_marks_Marks t11 0) fun t12 =>
   readK Try.prog (sLoad T_s_marks_input t12) (tick w1) fun t13 =>
   pureK Try.prog (sIdxAddr T_s_marks_input t13 i1) fun t15 =>
   pureK Try.prog (sFieldAddr T_marks_input t15 0) fun t16 =>
   readK Try.prog (sLoad T_int t16) (tick w1) fun t17 =>
   pureK Try.prog (sNil m0) fun t19 =>
   pureK Try.prog (sFieldAddr T_marks_Marks t19 0) fun t20 =>
   readK Try.prog (sLoad T_s_marks_input t20) (tick w1) fun t21 =>
   pureK Try.prog (sIdxAddr T_s_marks_input t21 i1) fun t23 =>
   pureK Try.prog (sFieldAddr T_marks_input t23 1) fun t24 =>
   readK Try.prog (sLoad T_bool t24) (tick w1) fun t25 =>
   K (.tuple #[t17, t25]) (tick w1))
theorem marks_Marks_Of.pt_eq : marks_Marks_Of.pt = fun m0 i1 w K => FN Try.prog Try.f13 (bodyOf Try.f13) [4, 5] [m0, i1] w K := by kernel_rfl
theorem marks_Marks_Of.call {m0 i1 : Value} {w : World} {K : Value → World → Prop} (h : marks_Marks_Of.pt m0 i1 w K) : Calls Try.prog F_marks_Marks_Of #[m0, i1] w (retK K) :=
  calls_FN (args := [m0, i1]) Try.func13 (by kernel_rfl) (by rw [marks_Marks_Of.pt_eq] at h; exact h)
theorem marks_Marks_Of.up {m0 i1 : Value} {w : World} {K : Value → World → Prop} (h : Calls Try.prog F_marks_Marks_Of #[m0, i1] w (retK K)) : upK Try.prog (sCall F_marks_Marks_Of #[m0, i1]) w K :=
  up_call (fn := Try.f13) Try.func13 (by kernel_rfl) (by kernel_rfl) h

/-- (*errata/marks.Marks).Idle -/
def marks_Marks_Idle.pt (m0 i1 on2 : Value) (w : World) (K : Value → World → Prop) : Prop :=
  upK Try.prog (sCall F_marks_Marks_has #[m0, i1]) w fun t9 w1 =>
  pureK Try.prog (sUn .not t9) fun t10 =>
  ifB t10
  (K (.int .i64 4) w1)
  (pureK Try.prog (sNil m0) fun t12 =>
   pureK Try.prog (sFieldAddr T_marks_Marks t12 0) fun t13 =>
   readK Try.prog (sLoad T_s_marks_input t13) w1 fun t14 =>
   pureK Try.prog (sIdxAddr T_s_marks_input t14 i1) fun t17 =>
   pureK Try.prog (sFieldAddr T_marks_input t17 1) fun t18 =>
   upK Try.prog (sStore T_bool t18 on2) w1 fun tu w2 =>
   upK Try.prog (sCall F_marks_Marks_settled #[m0]) w2 fun t21 w3 =>
   pureK Try.prog (sNil m0) fun t22 =>
   pureK Try.prog (sFieldAddr T_marks_Marks t22 1) fun t23 =>
   upK Try.prog (sStore T_int t23 t21) w3 fun tu_1 w4 =>
   K (.int .i64 0) w4)
theorem marks_Marks_Idle.pt_eq : marks_Marks_Idle.pt = fun m0 i1 on2 w K => FN Try.prog Try.f14 (bodyOf Try.f14) [6] [m0, i1, on2] w K := by kernel_rfl
theorem marks_Marks_Idle.call {m0 i1 on2 : Value} {w : World} {K : Value → World → Prop} (h : marks_Marks_Idle.pt m0 i1 on2 w K) : Calls Try.prog F_marks_Marks_Idle #[m0, i1, on2] w (retK K) :=
  calls_FN (args := [m0, i1, on2]) Try.func14 (by kernel_rfl) (by rw [marks_Marks_Idle.pt_eq] at h; exact h)
theorem marks_Marks_Idle.up {m0 i1 on2 : Value} {w : World} {K : Value → World → Prop} (h : Calls Try.prog F_marks_Marks_Idle #[m0, i1, on2] w (retK K)) : upK Try.prog (sCall F_marks_Marks_Idle #[m0, i1, on2]) w K :=
  up_call (fn := Try.f14) Try.func14 (by kernel_rfl) (by kernel_rfl) h

/-- slices.Repeat[[]errata/marks.input,errata/marks.input] -/
def slices_Repeat_s_marks_input_marks_input.pt (x0 count1 : Value) (w : World) (K : Value → World → Prop) : Prop :=
  pureK Try.prog (sBin .lss T_int (.tmp 9) (.const (.int .i64 0)) count1 (.int .i64 0)) fun t10 =>
  ifB t10
  (pureK Try.prog (sMkIface T_string (.string ⟨#[99, 97, 110, 110, 111, 116, 32, 98, 101, 32, 110, 101, 103, 97, 116, 105, 118, 101]⟩)) fun t11 =>
   False)
  (readK Try.prog (sBlt .len #[T_s_marks_input] T_int #[false] #[x0]) w fun t14 =>
   upK Try.prog (sConv T_int T_uint t14) w fun t15 w1 =>
   upK Try.prog (sConv T_int T_uint count1) w1 fun t17 w2 =>
   upK Try.prog (sCall F_math_bits_Mul #[t15, t17]) w2 fun t18 w3 =>
   pureK Try.prog (sExtract t18 0) fun t19 =>
   pureK Try.prog (sExtract t18 1) fun t20 =>
   pureK Try.prog (sBin .gtr T_uint (.tmp 21) (.const (.int .u64 0)) t19 (.int .u64 0)) fun t22 =>
   ifB t22
   (pureK Try.prog (sMkIface T_string (.string ⟨#[116, 104, 101, 32, 114, 101, 115, 117, 108, 116, 32, 111, 102, 32, 40, 108, 101, 110, 40, 120, 41, 32, 42, 32, 99, 111, 117, 110, 116, 41, 32, 111, 118, 101, 114, 102, 108, 111, 119, 115]⟩)) fun t27 =>
    False)
   (pureK Try.prog (sBin .gtr T_uint (.tmp 24) (.const (.int .u64 9223372036854775807)) t20 (.int .u64 9223372036854775807)) fun t25 =>
    ifB t25
    (pureK Try.prog (sMkIface T_string (.string ⟨#[116, 104, 101, 32, 114, 101, 115, 117, 108, 116, 32, 111, 102, 32, 40, 108, 101, 110, 40, 120, 41, 32, 42, 32, 99, 111, 117, 110, 116, 41, 32, 111, 118, 101, 114, 102, 108, 111, 119, 115]⟩)) fun t27_1 =>
     False)
    (upK Try.prog (sConv T_uint T_int t20) w3 fun t29 w4 =>
     upK Try.prog (sMkSlice T_s_marks_input t29 t29) w4 fun t30 w5 =>
     upK Try.prog (sBlt .copy #[T_s_marks_input, T_s_marks_input] T_int #[false, false] #[t30, x0]) w5 fun t33 w6 =>
     let J1 : World → Prop := fun w7 =>
     (K t30 w7)
     LOOP (X := Value × Unit) (fun x8 w8 next8 =>
      readK Try.prog (sBlt .len #[T_s_marks_input] T_int #[false] #[t30]) w8 fun t36 =>
      pureK Try.prog (sBin .lss T_int (.tmp 34) (.tmp 36) x8.1 t36) fun t37 =>
      ifB t37
      (pureK Try.prog (sSlice T_s_marks_input t30 (some x8.1) none none) fun t41 =>
       pureK Try.prog (sSlice T_s_marks_input t30 none (some x8.1) none) fun t44 =>
       upK Try.prog (sBlt .copy #[T_s_marks_input, T_s_marks_input] T_int #[false, false] #[t41, t44]) (tick w8) fun t45 w9 =>
       pureK Try.prog (sBin .add T_int (.tmp 38) (.tmp 45) x8.1 t45) fun t46 =>
       next8 (t46, ()) w9)
      (J1 w8))
     (t33, ()) w6)))
theorem slices_Repeat_s_marks_input_marks_input.pt_eq : slices_Repeat_s_marks_input_marks_input.pt = fun x0 count1 w K => FN Try.prog Try.f15 (bodyOf Try.f15) [4] [x0, count1] w K := by kernel_rfl
theorem slices_Repeat_s_marks_input_marks_input.call {x0 count1 : Value} {w : World} {K : Value → World → Prop} (h : slices_Repeat_s_marks_input_marks_input.pt x0 count1 w K) : Calls Try.prog F_slices_Repeat_s_marks_input_marks_input #[x0, count1] w (retK K) :=
  calls_FN (args := [x0, count1]) Try.func15 (by kernel_rfl) (by rw [slices_Repeat_s_marks_input_marks_input.pt_eq] at h; exact h)
theorem slices_Repeat_s_marks_input_marks_input.up {x0 count1 : Value} {w : World} {K : Value → World → Prop} (h : Calls Try.prog F_slices_Repeat_s_marks_input_marks_input #[x0, count1] w (retK K)) : upK Try.prog (sCall F_slices_Repeat_s_marks_input_marks_input #[x0, count1]) w K :=
  up_call (fn := Try.f15) Try.func15 (by kernel_rfl) (by kernel_rfl) h

/-- (*errata/marks.Marks).has -/
def marks_Marks_has.pt (m0 i1 : Value) (w : World) (K : Value → World → Prop) : Prop :=
  pureK Try.prog (sBin .geq T_int (.tmp 5) (.const (.int .i64 0)) i1 (.int .i64 0)) fun t6 =>
  ifB t6
  (pureK Try.prog (sNil m0) fun t10 =>
   pureK Try.prog (sFieldAddr T_marks_Marks t10 0) fun t11 =>
   readK Try.prog (sLoad T_s_marks_input t11) w fun t12 =>
   readK Try.prog (sBlt .len #[T_s_marks_input] T_int #[false] #[t12]) w fun t13 =>
   pureK Try.prog (sBin .lss T_int (.tmp 8) (.tmp 13) i1 t13) fun t14 =>
   K t14 w)
  (K (.bool false) w)
theorem marks_Marks_has.pt_eq : marks_Marks_has.pt = fun m0 i1 w K => FN Try.prog Try.f16 (bodyOf Try.f16) [4] [m0, i1] w K := by kernel_rfl
theorem marks_Marks_has.call {m0 i1 : Value} {w : World} {K : Value → World → Prop} (h : marks_Marks_has.pt m0 i1 w K) : Calls Try.prog F_marks_Marks_has #[m0, i1] w (retK K) :=
  calls_FN (args := [m0, i1]) Try.func16 (by kernel_rfl) (by rw [marks_Marks_has.pt_eq] at h; exact h)
theorem marks_Marks_has.up {m0 i1 : Value} {w : World} {K : Value → World → Prop} (h : Calls Try.prog F_marks_Marks_has #[m0, i1] w (retK K)) : upK Try.prog (sCall F_marks_Marks_has #[m0, i1]) w K :=
  up_call (fn := Try.f16) Try.func16 (by kernel_rfl) (by kernel_rfl) h

/-- (*errata/marks.Marks).settled -/
def marks_Marks_settled.pt (m0 : Value) (w : World) (K : Value → World → Prop) : Prop :=
  pureK Try.prog (sNil m0) fun t9 =>
  pureK Try.prog (sFieldAddr T_marks_Marks t9 0) fun t10 =>
  readK Try.prog (sLoad T_s_marks_input t10) w fun t11 =>
  readK Try.prog (sBlt .len #[T_s_marks_input] T_int #[false] #[t11]) w fun t12 =>
  LOOP (X := Value × Value × Unit) (fun x1 w1 next1 =>
   pureK Try.prog (sBin .lss T_int (.tmp 13) (.tmp 12) x1.2.1 t12) fun t14 =>
   ifB t14
   (let J1 : Value → World → Prop := fun l3 w2 =>
    (pureK Try.prog (sBin .add T_int (.tmp 13) (.const (.int .i64 1)) x1.2.1 (.int .i64 1)) fun t25 =>
     next1 (l3, t25, ()) w2)
    pureK Try.prog (sIdxAddr T_s_marks_input t11 x1.2.1) fun t15 =>
    readK Try.prog (sLoad T_marks_input t15) w1 fun t16 =>
    upK Try.prog (sAlloc T_marks_input) w1 fun x5 w3 =>
    upK Try.prog (sStore T_marks_input x5 t16) w3 fun tu w4 =>
    pureK Try.prog (sFieldAddr T_marks_input x5 1) fun t17 =>
    readK Try.prog (sLoad T_bool t17) w4 fun t18 =>
    pureK Try.prog (sUn .not t18) fun t19 =>
    ifB t19
    (pureK Try.prog (sFieldAddr T_marks_input x5 0) fun t21 =>
     readK Try.prog (sLoad T_int t21) w4 fun t22 =>
     upK Try.prog (sBuildSlice T_s_int 1 #[(0, t22)]) w4 fun t23 w5 =>
     upK Try.prog (sBlt .append #[T_s_int, T_s_int] T_s_int #[false, false] #[x1.1, t23]) w5 fun t24 w6 =>
     J1 t24 w6)
    (J1 x1.1 w4))
   (upK Try.prog (sCall F_marks_least_int #[x1.1]) w1 fun t28 w7 =>
    pureK Try.prog (sExtract t28 0) fun t29 =>
    pureK Try.prog (sExtract t28 1) fun t30 =>
    pureK Try.prog (sUn .not t30) fun t32 =>
    ifB t32
    (pureK Try.prog (sNil m0) fun t34 =>
     pureK Try.prog (sFieldAddr T_marks_Marks t34 1) fun t35 =>
     readK Try.prog (sLoad T_int t35) w7 fun t36 =>
     K t36 w7)
    (pureK Try.prog (sNil m0) fun t39 =>
     pureK Try.prog (sFieldAddr T_marks_Marks t39 1) fun t40 =>
     readK Try.prog (sLoad T_int t40) w7 fun t41 =>
     pureK Try.prog (sBlt .max #[T_int, T_int] T_int #[false, false] #[t29, t41]) fun t42 =>
     K t42 w7)))
  ((.slice none 0 0), (.int .i64 0), ()) w
theorem marks_Marks_settled.pt_eq : marks_Marks_settled.pt = fun m0 w K => FN Try.prog Try.f17 (bodyOf Try.f17) [2] [m0] w K := by kernel_rfl
theorem marks_Marks_settled.call {m0 : Value} {w : World} {K : Value → World → Prop} (h : marks_Marks_settled.pt m0 w K) : Calls Try.prog F_marks_Marks_settled #[m0] w (retK K) :=
  calls_FN (args := [m0]) Try.func17 (by kernel_rfl) (by rw [marks_Marks_settled.pt_eq] at h; exact h)
theorem marks_Marks_settled.up {m0 : Value} {w : World} {K : Value → World → Prop} (h : Calls Try.prog F_marks_Marks_settled #[m0] w (retK K)) : upK Try.prog (sCall F_marks_Marks_settled #[m0]) w K :=
  up_call (fn := Try.f17) Try.func17 (by kernel_rfl) (by kernel_rfl) h

/-- math/bits.Mul -/
def math_bits_Mul.pt (x0 y1 : Value) (w : World) (K : Value → World → Prop) : Prop :=
  upK Try.prog (sCall F_math_bits_Mul64 #[x0, y1]) w fun t25 w1 =>
  pureK Try.prog (sExtract t25 0) fun t26 =>
  pureK Try.prog (sExtract t25 1) fun t27 =>
  K (.tuple #[t26, t27]) w1
theorem math_bits_Mul.pt_eq : math_bits_Mul.pt = fun x0 y1 w K => FN Try.prog Try.f18 (bodyOf Try.f18) [] [x0, y1] w K := by kernel_rfl
theorem math_bits_Mul.call {x0 y1 : Value} {w : World} {K : Value → World → Prop} (h : math_bits_Mul.pt x0 y1 w K) : Calls Try.prog F_math_bits_Mul #[x0, y1] w (retK K) :=
  calls_FN (args := [x0, y1]) Try.func18 (by kernel_rfl) (by rw [math_bits_Mul.pt_eq] at h; exact h)
theorem math_bits_Mul.up {x0 y1 : Value} {w : World} {K : Value → World → Prop} (h : Calls Try.prog F_math_bits_Mul #[x0, y1] w (retK K)) : upK Try.prog (sCall F_math_bits_Mul #[x0, y1]) w K :=
  up_call (fn := Try.f18) Try.func18 (by kernel_rfl) (by kernel_rfl) h

/-- errata/marks.least[int] -/
def marks_least_int.pt (l0 : Value) (w : World) (K : Value → World → Prop) : Prop :=
  readK Try.prog (sBlt .len #[T_s_int] T_int #[false] #[l0]) w fun t5 =>
  pureK Try.prog (sBin .eql T_int (.tmp 5) (.const (.int .i64 0)) t5 (.int .i64 0)) fun t6 =>
  ifB t6
  (K (.tuple #[(.int .i64 0), (.bool false)]) w)
  (upK Try.prog (sCall F_slices_Min_s_int_int #[l0]) w fun t8 w1 =>
   K (.tuple #[t8, (.bool true)]) w1)
theorem marks_least_int.pt_eq : marks_least_int.pt = fun l0 w K => FN Try.prog Try.f19 (bodyOf Try.f19) [2, 3] [l0] w K := by kernel_rfl
theorem marks_least_int.call {l0 : Value} {w : World} {K : Value → World → Prop} (h : marks_least_int.pt l0 w K) : Calls Try.prog F_marks_least_int #[l0] w (retK K) :=
  calls_FN (args := [l0]) Try.func19 (by kernel_rfl) (by rw [marks_least_int.pt_eq] at h; exact h)
theorem marks_least_int.up {l0 : Value} {w : World} {K : Value → World → Prop} (h : Calls Try.prog F_marks_least_int #[l0] w (retK K)) : upK Try.prog (sCall F_marks_least_int #[l0]) w K :=
  up_call (fn := Try.f19) Try.func19 (by kernel_rfl) (by kernel_rfl) h

/-- math/bits.Mul32 -/
def math_bits_Mul32.pt (x0 y1 : Value) (w : World) (K : Value → World → Prop) : Prop :=
  upK Try.prog (sConv T_uint32 T_uint64 x0) w fun t8 w1 =>
  upK Try.prog (sConv T_uint32 T_uint64 y1) w1 fun t10 w2 =>
  pureK Try.prog (sBin .mul T_uint64 (.tmp 8) (.tmp 10) t8 t10) fun t11 =>
  pureK Try.prog (sBin .shr T_uint64 (.tmp 12) (.const (.int .u64 32)) t11 (.int .u64 32)) fun t13 =>
  upK Try.prog (sConv T_uint64 T_uint32 t13) w2 fun t14 w3 =>
  upK Try.prog (sConv T_uint64 T_uint32 t11) w3 fun t16 w4 =>
  K (.tuple #[t14, t16]) w4
theorem math_bits_Mul32.pt_eq : math_bits_Mul32.pt = fun x0 y1 w K => FN Try.prog Try.f20 (bodyOf Try.f20) [] [x0, y1] w K := by kernel_rfl
theorem math_bits_Mul32.call {x0 y1 : Value} {w : World} {K : Value → World → Prop} (h : math_bits_Mul32.pt x0 y1 w K) : Calls Try.prog F_math_bits_Mul32 #[x0, y1] w (retK K) :=
  calls_FN (args := [x0, y1]) Try.func20 (by kernel_rfl) (by rw [math_bits_Mul32.pt_eq] at h; exact h)
theorem math_bits_Mul32.up {x0 y1 : Value} {w : World} {K : Value → World → Prop} (h : Calls Try.prog F_math_bits_Mul32 #[x0, y1] w (retK K)) : upK Try.prog (sCall F_math_bits_Mul32 #[x0, y1]) w K :=
  up_call (fn := Try.f20) Try.func20 (by kernel_rfl) (by kernel_rfl) h

/-- math/bits.Mul64 -/
def math_bits_Mul64.pt (x0 y1 : Value) (w : World) (K : Value → World → Prop) : Prop :=
  pureK Try.prog (sBin .and T_uint64 (.tmp 14) (.const (.int .u64 4294967295)) x0 (.int .u64 4294967295)) fun t15 =>
  pureK Try.prog (sBin .shr T_uint64 (.tmp 16) (.const (.int .u64 32)) x0 (.int .u64 32)) fun t17 =>
  pureK Try.prog (sBin .and T_uint64 (.tmp 18) (.const (.int .u64 4294967295)) y1 (.int .u64 4294967295)) fun t19 =>
  pureK Try.prog (sBin .shr T_uint64 (.tmp 20) (.const (.int .u64 32)) y1 (.int .u64 32)) fun t21 =>
  pureK Try.prog (sBin .mul T_uint64 (.tmp 22) (.tmp 23) t15 t19) fun t24 =>
  pureK Try.prog (sBin .mul T_uint64 (.tmp 25) (.tmp 26) t17 t19) fun t27 =>
  pureK Try.prog (sBin .shr T_uint64 (.tmp 28) (.const (.int .u64 32)) t24 (.int .u64 32)) fun t29 =>
  pureK Try.prog (sBin .add T_uint64 (.tmp 27) (.tmp 29) t27 t29) fun t30 =>
  pureK Try.prog (sBin .and T_uint64 (.tmp 31) (.const (.int .u64 4294967295)) t30 (.int .u64 4294967295)) fun t32 =>
  pureK Try.prog (sBin .shr T_uint64 (.tmp 33) (.const (.int .u64 32)) t30 (.int .u64 32)) fun t34 =>
  pureK Try.prog (sBin .mul T_uint64 (.tmp 36) (.tmp 37) t15 t21) fun t38 =>
  pureK Try.prog (sBin .add T_uint64 (.tmp 35) (.tmp 38) t32 t38) fun t39 =>
  pureK Try.prog (sBin .mul T_uint64 (.tmp 40) (.tmp 41) t17 t21) fun t42 =>
  pureK Try.prog (sBin .add T_uint64 (.tmp 42) (.tmp 43) t42 t34) fun t44 =>
  pureK Try.prog (sBin .shr T_uint64 (.tmp 45) (.const (.int .u64 32)) t39 (.int .u64 32)) fun t46 =>
  pureK Try.prog (sBin .add T_uint64 (.tmp 44) (.tmp 46) t44 t46) fun t47 =>
  pureK Try.prog (sBin .mul T_uint64 (.tmp 48) (.tmp 49) x0 y1) fun t50 =>
  K (.tuple #[t47, t50]) w
theorem math_bits_Mul64.pt_eq : math_bits_Mul64.pt = fun x0 y1 w K => FN Try.prog Try.f21 (bodyOf Try.f21) [] [x0, y1] w K := by kernel_rfl
theorem math_bits_Mul64.call {x0 y1 : Value} {w : World} {K : Value → World → Prop} (h : math_bits_Mul64.pt x0 y1 w K) : Calls Try.prog F_math_bits_Mul64 #[x0, y1] w (retK K) :=
  calls_FN (args := [x0, y1]) Try.func21 (by kernel_rfl) (by rw [math_bits_Mul64.pt_eq] at h; exact h)
theorem math_bits_Mul64.up {x0 y1 : Value} {w : World} {K : Value → World → Prop} (h : Calls Try.prog F_math_bits_Mul64 #[x0, y1] w (retK K)) : upK Try.prog (sCall F_math_bits_Mul64 #[x0, y1]) w K :=
  up_call (fn := Try.f21) Try.func21 (by kernel_rfl) (by kernel_rfl) h

/-- slices.Min[[]int,int] -/
def slices_Min_s_int_int.pt (x0 : Value) (w : World) (K : Value → World → Prop) : Prop :=
  readK Try.prog (sBlt .len #[T_s_int] T_int #[false] #[x0]) w fun t6 =>
  pureK Try.prog (sBin .lss T_int (.tmp 6) (.const (.int .i64 1)) t6 (.int .i64 1)) fun t7 =>
  ifB t7
  (pureK Try.prog (sMkIface T_string (.string ⟨#[115, 108, 105, 99, 101, 115, 46, 77, 105, 110, 58, 32, 101, 109, 112, 116, 121, 32, 108, 105, 115, 116]⟩)) fun t8 =>
   False)
  (pureK Try.prog (sIdxAddr T_s_int x0 (.int .i64 0)) fun t10 =>
   readK Try.prog (sLoad T_int t10) w fun t11 =>
   LOOP (X := Value × Value × Unit) (fun x1 w1 next1 =>
    readK Try.prog (sBlt .len #[T_s_int] T_int #[false] #[x0]) w1 fun t14 =>
    pureK Try.prog (sBin .lss T_int (.tmp 12) (.tmp 14) x1.2.1 t14) fun t15 =>
    ifB t15
    (pureK Try.prog (sIdxAddr T_s_int x0 x1.2.1) fun t21 =>
     readK Try.prog (sLoad T_int t21) w1 fun t22 =>
     pureK Try.prog (sBlt .min #[T_int, T_int] T_int #[false, false] #[x1.1, t22]) fun t23 =>
     pureK Try.prog (sBin .add T_int (.tmp 16) (.const (.int .i64 1)) x1.2.1 (.int .i64 1)) fun t17 =>
     next1 (t23, t17, ()) w1)
    (K x1.1 w1))
   (t11, (.int .i64 1), ()) w)
theorem slices_Min_s_int_int.pt_eq : slices_Min_s_int_int.pt = fun x0 w K => FN Try.prog Try.f22 (bodyOf Try.f22) [2] [x0] w K := by kernel_rfl
theorem slices_Min_s_int_int.call {x0 : Value} {w : World} {K : Value → World → Prop} (h : slices_Min_s_int_int.pt x0 w K) : Calls Try.prog F_slices_Min_s_int_int #[x0] w (retK K) :=
  calls_FN (args := [x0]) Try.func22 (by kernel_rfl) (by rw [slices_Min_s_int_int.pt_eq] at h; exact h)
theorem slices_Min_s_int_int.up {x0 : Value} {w : World} {K : Value → World → Prop} (h : Calls Try.prog F_slices_Min_s_int_int #[x0] w (retK K)) : upK Try.prog (sCall F_slices_Min_s_int_int #[x0]) w K :=
  up_call (fn := Try.f22) Try.func22 (by kernel_rfl) (by kernel_rfl) h

end Go.Proofs.Ytncgdihcplhcoaa
