/-
  The reckoned conditions of the functions that this seat's statements reach, printed by program, each held against the translation by the kernel. No condition.
-/
import Derived.Test.YtmpnniicmmekmaaNames
namespace Go.Proofs.Ytmpnniicmmekmaa
set_option linter.unusedVariables false

/-- slices.Compact[[]int,int] -/
def slices_Compact_s_int_int.pt (s0 : Value) (w : World) (K : Value → World → Prop) : Prop :=
  readK Try.prog (sBlt .len #[T_s_int] T_int #[false] #[s0]) w fun t7 =>
  pureK Try.prog (sBin .lss T_int (.tmp 7) (.const (.int .i64 2)) t7 (.int .i64 2)) fun t8 =>
  ifB t8
  (K s0 w)
  (LOOP (X := Value × Unit) (fun x1 w1 next1 =>
    readK Try.prog (sBlt .len #[T_s_int] T_int #[false] #[s0]) w1 fun t12 =>
    pureK Try.prog (sBin .lss T_int (.tmp 10) (.tmp 12) x1.1 t12) fun t13 =>
    ifB t13
    (LETJ (X := Value × Unit) (fun y1 w2 =>
      pureK Try.prog (sBin .add T_int (.tmp 14) (.const (.int .i64 1)) y1.1 (.int .i64 1)) fun t15 =>
      next1 (t15, ()) w2)
     (fun J1 =>
      pureK Try.prog (sIdxAddr T_s_int s0 x1.1) fun t18 =>
      readK Try.prog (sLoad T_int t18) (tick w1) fun t19 =>
      pureK Try.prog (sBin .sub T_int (.tmp 21) (.const (.int .i64 1)) x1.1 (.int .i64 1)) fun t22 =>
      pureK Try.prog (sIdxAddr T_s_int s0 t22) fun t23 =>
      readK Try.prog (sLoad T_int t23) (tick w1) fun t24 =>
      pureK Try.prog (sBin .eql T_int (.tmp 19) (.tmp 24) t19 t24) fun t25 =>
      ifB t25
      (pureK Try.prog (sSlice T_s_int s0 (some x1.1) none none) fun t28 =>
       LOOP (X := Value × Value × Unit) (fun x3 w3 next3 =>
        readK Try.prog (sBlt .len #[T_s_int] T_int #[false] #[t28]) w3 fun t31 =>
        pureK Try.prog (sBin .lss T_int (.tmp 29) (.tmp 31) x3.2.1 t31) fun t32 =>
        ifB t32
        (LETJ (X := Value × Unit) (fun y2 w4 =>
          pureK Try.prog (sBin .add T_int (.tmp 33) (.const (.int .i64 1)) x3.2.1 (.int .i64 1)) fun t34 =>
          next3 (y2.1, t34, ()) w4)
         (fun J2 =>
          pureK Try.prog (sIdxAddr T_s_int t28 x3.2.1) fun t37 =>
          readK Try.prog (sLoad T_int t37) (tick w3) fun t38 =>
          pureK Try.prog (sBin .sub T_int (.tmp 40) (.const (.int .i64 1)) x3.2.1 (.int .i64 1)) fun t41 =>
          pureK Try.prog (sIdxAddr T_s_int t28 t41) fun t42 =>
          readK Try.prog (sLoad T_int t42) (tick w3) fun t43 =>
          pureK Try.prog (sBin .neq T_int (.tmp 38) (.tmp 43) t38 t43) fun t44 =>
          ifB t44
          (pureK Try.prog (sIdxAddr T_s_int t28 x3.2.1) fun t49 =>
           readK Try.prog (sLoad T_int t49) (tick w3) fun t50 =>
           pureK Try.prog (sIdxAddr T_s_int s0 x3.1) fun t51 =>
           upK Try.prog (sStore T_int t51 t50) (tick w3) fun tu w5 =>
           pureK Try.prog (sBin .add T_int (.tmp 52) (.const (.int .i64 1)) x3.1 (.int .i64 1)) fun t53 =>
           J2 (t53, ()) w5)
          (J2 (x3.1, ()) (tick w3))))
        (pureK Try.prog (sSlice T_s_int s0 (some x3.1) none none) fun t56 =>
         upK Try.prog (sBlt .clear #[T_s_int] T_ #[false] #[t56]) w3 fun tu_1 w6 =>
         pureK Try.prog (sSlice T_s_int s0 none (some x3.1) none) fun t59 =>
         K t59 w6))
       (x1.1, (.int .i64 1), ()) (tick w1))
      (J1 (x1.1, ()) (tick w1))))
    (K s0 w1))
   ((.int .i64 1), ()) w)
theorem slices_Compact_s_int_int.pt_eq : slices_Compact_s_int_int.pt = fun s0 w K => FN Try.prog Try.f38 (bodyOf Try.f38) [2] (.node none .leaf (.node none .leaf (.node none (.node none .leaf (.node none (.node none (.node none .leaf (.node (some [3]) (.node none (.node none .leaf (.node none (.node none .leaf (.node none (.node none .leaf (.node none (.node none (.node none .leaf (.node (some [3]) .leaf .leaf)) .leaf) .leaf)) .leaf)) .leaf)) .leaf) .leaf)) .leaf) .leaf)) .leaf))) [s0] w K := by kernel_rfl
theorem slices_Compact_s_int_int.call {s0 : Value} {w : World} {K : Value → World → Prop} (h : slices_Compact_s_int_int.pt s0 w K) : Calls Try.prog F_slices_Compact_s_int_int #[s0] w (retK K) :=
  calls_FN (args := [s0]) Try.func38 (by kernel_rfl) (by rw [slices_Compact_s_int_int.pt_eq] at h; exact h)
theorem slices_Compact_s_int_int.up {s0 : Value} {w : World} {K : Value → World → Prop} (h : Calls Try.prog F_slices_Compact_s_int_int #[s0] w (retK K)) : upK Try.prog (sCall F_slices_Compact_s_int_int #[s0]) w K :=
  up_call (fn := Try.f38) Try.func38 (by kernel_rfl) (by kernel_rfl) h

/-- errata/errataref03.CompareRows -/
def errataref03_CompareRows.pt (a0 b1 : Value) (w : World) (K : Value → World → Prop) : Prop :=
  LETJ (X := Unit) (fun y1 w1 =>
   readK Try.prog (sBlt .len #[T_s_api_Value] T_int #[false] #[a0]) w1 fun t32 =>
   readK Try.prog (sBlt .len #[T_s_api_Value] T_int #[false] #[b1]) w1 fun t34 =>
   pureK Try.prog (sBin .lss T_int (.tmp 32) (.tmp 34) t32 t34) fun t35 =>
   ifB t35
   (K (.int .i64 (-1)) w1)
   (readK Try.prog (sBlt .len #[T_s_api_Value] T_int #[false] #[a0]) w1 fun t37 =>
    readK Try.prog (sBlt .len #[T_s_api_Value] T_int #[false] #[b1]) w1 fun t39 =>
    pureK Try.prog (sBin .gtr T_int (.tmp 37) (.tmp 39) t37 t39) fun t40 =>
    ifB t40
    (K (.int .i64 1) w1)
    (K (.int .i64 0) w1)))
  (fun J1 =>
   LOOP (X := Value × Unit) (fun x2 w2 next2 =>
    readK Try.prog (sBlt .len #[T_s_api_Value] T_int #[false] #[a0]) w2 fun t9 =>
    pureK Try.prog (sBin .lss T_int (.tmp 7) (.tmp 9) x2.1 t9) fun t10 =>
    ifB t10
    (readK Try.prog (sBlt .len #[T_s_api_Value] T_int #[false] #[b1]) w2 fun t14 =>
     pureK Try.prog (sBin .lss T_int (.tmp 12) (.tmp 14) x2.1 t14) fun t15 =>
     ifB t15
     (pureK Try.prog (sIdxAddr T_s_api_Value a0 x2.1) fun t21 =>
      readK Try.prog (sLoad T_api_Value t21) (tick w2) fun t22 =>
      pureK Try.prog (sIdxAddr T_s_api_Value b1 x2.1) fun t25 =>
      readK Try.prog (sLoad T_api_Value t25) (tick w2) fun t26 =>
      upK Try.prog (sCall F_errataref03_Compare #[t22, t26]) (tick w2) fun t27 w3 =>
      pureK Try.prog (sBin .neq T_int (.tmp 28) (.const (.int .i64 0)) t27 (.int .i64 0)) fun t29 =>
      ifB t29
      (K t27 w3)
      (pureK Try.prog (sBin .add T_int (.tmp 17) (.const (.int .i64 1)) x2.1 (.int .i64 1)) fun t18 =>
       next2 (t18, ()) w3))
     (J1 (()) w2))
    (J1 (()) w2))
   ((.int .i64 0), ()) w)
theorem errataref03_CompareRows.pt_eq : errataref03_CompareRows.pt = fun a0 b1 w K => FN Try.prog Try.f39 (bodyOf Try.f39) [4] (.node none .leaf (.node (some []) .leaf .leaf)) [a0, b1] w K := by kernel_rfl
theorem errataref03_CompareRows.call {a0 b1 : Value} {w : World} {K : Value → World → Prop} (h : errataref03_CompareRows.pt a0 b1 w K) : Calls Try.prog F_errataref03_CompareRows #[a0, b1] w (retK K) :=
  calls_FN (args := [a0, b1]) Try.func39 (by kernel_rfl) (by rw [errataref03_CompareRows.pt_eq] at h; exact h)
theorem errataref03_CompareRows.up {a0 b1 : Value} {w : World} {K : Value → World → Prop} (h : Calls Try.prog F_errataref03_CompareRows #[a0, b1] w (retK K)) : upK Try.prog (sCall F_errataref03_CompareRows #[a0, b1]) w K :=
  up_call (fn := Try.f39) Try.func39 (by kernel_rfl) (by kernel_rfl) h

/-- slices.pdqsortOrdered[int] -/
def slices_pdqsortOrdered_int.pt (data0 a1 b2 limit3 : Value) (w : World) (K : Value → World → Prop) : Prop :=
  LOOP (X := Value × Value × Value × Value × Value × Unit) (fun x1 w1 next1 =>
   pureK Try.prog (sBin .sub T_int (.tmp 19) (.tmp 20) x1.2.2.2.2.1 x1.2.1) fun t21 =>
   pureK Try.prog (sBin .leq T_int (.tmp 22) (.const (.int .i64 12)) t21 (.int .i64 12)) fun t23 =>
   ifB t23
   (upK Try.prog (sCall F_slices_insertionSortOrdered_int #[data0, x1.2.1, x1.2.2.2.2.1]) w1 fun t27 w2 =>
    K (.tuple #[]) w2)
   (pureK Try.prog (sBin .eql T_int (.tmp 28) (.const (.int .i64 0)) x1.1 (.int .i64 0)) fun t29 =>
    ifB t29
    (upK Try.prog (sCall F_slices_heapSortOrdered_int #[data0, x1.2.1, x1.2.2.2.2.1]) w1 fun t33 w3 =>
     K (.tuple #[]) w3)
    (LETJ (X := Value × Unit) (fun y1 w4 =>
      upK Try.prog (sCall F_slices_choosePivotOrdered_int #[data0, x1.2.1, x1.2.2.2.2.1]) w4 fun t46 w5 =>
      pureK Try.prog (sExtract t46 0) fun t47 =>
      pureK Try.prog (sExtract t46 1) fun t48 =>
      LETJ (X := Value × Value × Unit) (fun y2 w6 =>
       LETJ (X := Unit) (fun y3 w7 =>
        LETJ (X := Value × Unit) (fun y4 w8 =>
         upK Try.prog (sCall F_slices_partitionOrdered_int #[data0, y4.1, x1.2.2.2.2.1, y2.1]) w8 fun t99 w9 =>
         pureK Try.prog (sExtract t99 0) fun t100 =>
         pureK Try.prog (sExtract t99 1) fun t101 =>
         pureK Try.prog (sBin .sub T_int (.tmp 103) (.tmp 104) t100 y4.1) fun t105 =>
         pureK Try.prog (sBin .sub T_int (.tmp 106) (.tmp 107) x1.2.2.2.2.1 t100) fun t108 =>
         pureK Try.prog (sBin .quo T_int (.tmp 109) (.const (.int .i64 8)) t21 (.int .i64 8)) fun t110 =>
         pureK Try.prog (sBin .lss T_int (.tmp 111) (.tmp 112) t105 t108) fun t113 =>
         ifB t113
         (pureK Try.prog (sBin .geq T_int (.tmp 114) (.tmp 115) t105 t110) fun t116 =>
          upK Try.prog (sCall F_slices_pdqsortOrdered_int #[data0, y4.1, t100, y1.1]) w9 fun t121 w10 =>
          pureK Try.prog (sBin .add T_int (.tmp 122) (.const (.int .i64 1)) t100 (.int .i64 1)) fun t123 =>
          next1 (y1.1, t123, t101, t116, x1.2.2.2.2.1, ()) w10)
         (pureK Try.prog (sBin .geq T_int (.tmp 124) (.tmp 125) t108 t110) fun t126 =>
          pureK Try.prog (sBin .add T_int (.tmp 128) (.const (.int .i64 1)) t100 (.int .i64 1)) fun t129 =>
          upK Try.prog (sCall F_slices_pdqsortOrdered_int #[data0, t129, x1.2.2.2.2.1, y1.1]) w9 fun t132 w11 =>
          next1 (y1.1, y4.1, t101, t126, t100, ()) w11))
        (fun J4 =>
         pureK Try.prog (sBin .gtr T_int (.tmp 73) (.const (.int .i64 0)) x1.2.1 (.int .i64 0)) fun t74 =>
         ifB t74
         (pureK Try.prog (sBin .sub T_int (.tmp 77) (.const (.int .i64 1)) x1.2.1 (.int .i64 1)) fun t78 =>
          pureK Try.prog (sIdxAddr T_s_int data0 t78) fun t79 =>
          readK Try.prog (sLoad T_int t79) (tick w7) fun t80 =>
          pureK Try.prog (sIdxAddr T_s_int data0 y2.1) fun t83 =>
          readK Try.prog (sLoad T_int t83) (tick w7) fun t84 =>
          upK Try.prog (sCall F_cmp_Less_int #[t80, t84]) (tick w7) fun t85 w12 =>
          pureK Try.prog (sUn .not t85) fun t86 =>
          ifB t86
          (upK Try.prog (sCall F_slices_partitionEqualOrdered_int #[data0, x1.2.1, x1.2.2.2.2.1, y2.1]) w12 fun t92 w13 =>
           next1 (y1.1, t92, x1.2.2.1, x1.2.2.2.1, x1.2.2.2.2.1, ()) w13)
          (J4 (x1.2.1, ()) w12))
         (J4 (x1.2.1, ()) (tick w7))))
       (fun J3 =>
        ifB x1.2.2.2.1
        (ifB x1.2.2.1
         (pureK Try.prog (sBin .eql T_slices_sortedHint (.tmp 66) (.const (.int .i64 1)) y2.2.1 (.int .i64 1)) fun t67 =>
          ifB t67
          (upK Try.prog (sCall F_slices_partialInsertionSortOrdered_int #[data0, x1.2.1, x1.2.2.2.2.1]) w6 fun t72 w14 =>
           ifB t72
           (K (.tuple #[]) w14)
           (J3 (()) w14))
          (J3 (()) w6))
         (J3 (()) w6))
        (J3 (()) w6)))
      (fun J2 =>
       pureK Try.prog (sBin .eql T_slices_sortedHint (.tmp 49) (.const (.int .i64 2)) t48 (.int .i64 2)) fun t50 =>
       ifB t50
       (upK Try.prog (sCall F_slices_reverseRangeOrdered_int #[data0, x1.2.1, x1.2.2.2.2.1]) w5 fun t54 w15 =>
        pureK Try.prog (sBin .sub T_int (.tmp 55) (.const (.int .i64 1)) x1.2.2.2.2.1 (.int .i64 1)) fun t56 =>
        pureK Try.prog (sBin .sub T_int (.tmp 57) (.tmp 58) t47 x1.2.1) fun t59 =>
        pureK Try.prog (sBin .sub T_int (.tmp 56) (.tmp 59) t56 t59) fun t60 =>
        J2 (t60, (.int .i64 1), ()) w15)
       (J2 (t47, t48, ()) w5)))
     (fun J1 =>
      pureK Try.prog (sUn .not x1.2.2.2.1) fun t35 =>
      ifB t35
      (upK Try.prog (sCall F_slices_breakPatternsOrdered_int #[data0, x1.2.1, x1.2.2.2.2.1]) w1 fun t39 w16 =>
       pureK Try.prog (sBin .sub T_int (.tmp 40) (.const (.int .i64 1)) x1.1 (.int .i64 1)) fun t41 =>
       J1 (t41, ()) w16)
      (J1 (x1.1, ()) w1)))))
  (limit3, a1, (.bool true), (.bool true), b2, ()) w
theorem slices_pdqsortOrdered_int.pt_eq : slices_pdqsortOrdered_int.pt = fun data0 a1 b2 limit3 w K => FN Try.prog Try.f40 (bodyOf Try.f40) [] (.node none .leaf (.node none .leaf (.node none (.node none (.node none (.node none .leaf (.node none .leaf (.node none .leaf (.node (some [3]) .leaf (.node none .leaf (.node (some [11, 12]) .leaf (.node (some []) .leaf (.node (some [1]) .leaf .leaf)))))))) .leaf) .leaf) .leaf))) [data0, a1, b2, limit3] w K := by kernel_rfl
theorem slices_pdqsortOrdered_int.call {data0 a1 b2 limit3 : Value} {w : World} {K : Value → World → Prop} (h : slices_pdqsortOrdered_int.pt data0 a1 b2 limit3 w K) : Calls Try.prog F_slices_pdqsortOrdered_int #[data0, a1, b2, limit3] w (retK K) :=
  calls_FN (args := [data0, a1, b2, limit3]) Try.func40 (by kernel_rfl) (by rw [slices_pdqsortOrdered_int.pt_eq] at h; exact h)
theorem slices_pdqsortOrdered_int.up {data0 a1 b2 limit3 : Value} {w : World} {K : Value → World → Prop} (h : Calls Try.prog F_slices_pdqsortOrdered_int #[data0, a1, b2, limit3] w (retK K)) : upK Try.prog (sCall F_slices_pdqsortOrdered_int #[data0, a1, b2, limit3]) w K :=
  up_call (fn := Try.f40) Try.func40 (by kernel_rfl) (by kernel_rfl) h

/-- math/bits.Len -/
def math_bits_Len.pt (x0 : Value) (w : World) (K : Value → World → Prop) : Prop :=
  upK Try.prog (sCall F_math_bits_Len64 #[x0]) w fun t7 w1 =>
  K t7 w1
theorem math_bits_Len.pt_eq : math_bits_Len.pt = fun x0 w K => FN Try.prog Try.f41 (bodyOf Try.f41) [2] .leaf [x0] w K := by kernel_rfl
theorem math_bits_Len.call {x0 : Value} {w : World} {K : Value → World → Prop} (h : math_bits_Len.pt x0 w K) : Calls Try.prog F_math_bits_Len #[x0] w (retK K) :=
  calls_FN (args := [x0]) Try.func41 (by kernel_rfl) (by rw [math_bits_Len.pt_eq] at h; exact h)
theorem math_bits_Len.up {x0 : Value} {w : World} {K : Value → World → Prop} (h : Calls Try.prog F_math_bits_Len #[x0] w (retK K)) : upK Try.prog (sCall F_math_bits_Len #[x0]) w K :=
  up_call (fn := Try.f41) Try.func41 (by kernel_rfl) (by kernel_rfl) h

/-- errata/errataref03.Compare -/
def errataref03_Compare.pt (a0 b1 : Value) (w : World) (K : Value → World → Prop) : Prop :=
  upK Try.prog (sBox T_api_Value a0) w fun a2 w1 =>
  upK Try.prog (sBox T_api_Value b1) w1 fun b3 w2 =>
  pureK Try.prog (sFieldAddr T_api_Value a2 0) fun t5 =>
  readK Try.prog (sLoad T_int t5) w2 fun t6 =>
  pureK Try.prog (sFieldAddr T_api_Value b3 0) fun t7 =>
  readK Try.prog (sLoad T_int t7) w2 fun t8 =>
  pureK Try.prog (sBin .lss T_int (.tmp 6) (.tmp 8) t6 t8) fun t9 =>
  ifB t9
  (K (.int .i64 (-1)) w2)
  (pureK Try.prog (sFieldAddr T_api_Value a2 0) fun t10 =>
   readK Try.prog (sLoad T_int t10) w2 fun t11 =>
   pureK Try.prog (sFieldAddr T_api_Value b3 0) fun t12 =>
   readK Try.prog (sLoad T_int t12) w2 fun t13 =>
   pureK Try.prog (sBin .gtr T_int (.tmp 11) (.tmp 13) t11 t13) fun t14 =>
   ifB t14
   (K (.int .i64 1) w2)
   (pureK Try.prog (sFieldAddr T_api_Value a2 1) fun t15 =>
    readK Try.prog (sLoad T_int t15) w2 fun t16 =>
    pureK Try.prog (sFieldAddr T_api_Value b3 1) fun t17 =>
    readK Try.prog (sLoad T_int t17) w2 fun t18 =>
    pureK Try.prog (sBin .lss T_int (.tmp 16) (.tmp 18) t16 t18) fun t19 =>
    ifB t19
    (K (.int .i64 (-1)) w2)
    (pureK Try.prog (sFieldAddr T_api_Value a2 1) fun t20 =>
     readK Try.prog (sLoad T_int t20) w2 fun t21 =>
     pureK Try.prog (sFieldAddr T_api_Value b3 1) fun t22 =>
     readK Try.prog (sLoad T_int t22) w2 fun t23 =>
     pureK Try.prog (sBin .gtr T_int (.tmp 21) (.tmp 23) t21 t23) fun t24 =>
     ifB t24
     (K (.int .i64 1) w2)
     (pureK Try.prog (sFieldAddr T_api_Value a2 2) fun t25 =>
      readK Try.prog (sLoad T_string t25) w2 fun t26 =>
      pureK Try.prog (sFieldAddr T_api_Value b3 2) fun t27 =>
      readK Try.prog (sLoad T_string t27) w2 fun t28 =>
      pureK Try.prog (sBin .lss T_string (.tmp 26) (.tmp 28) t26 t28) fun t29 =>
      ifB t29
      (K (.int .i64 (-1)) w2)
      (pureK Try.prog (sFieldAddr T_api_Value a2 2) fun t30 =>
       readK Try.prog (sLoad T_string t30) w2 fun t31 =>
       pureK Try.prog (sFieldAddr T_api_Value b3 2) fun t32 =>
       readK Try.prog (sLoad T_string t32) w2 fun t33 =>
       pureK Try.prog (sBin .gtr T_string (.tmp 31) (.tmp 33) t31 t33) fun t34 =>
       ifB t34
       (K (.int .i64 1) w2)
       (K (.int .i64 0) w2))))))
theorem errataref03_Compare.pt_eq : errataref03_Compare.pt = fun a0 b1 w K => FN Try.prog Try.f42 (bodyOf Try.f42) [4] .leaf [a0, b1] w K := by kernel_rfl
theorem errataref03_Compare.call {a0 b1 : Value} {w : World} {K : Value → World → Prop} (h : errataref03_Compare.pt a0 b1 w K) : Calls Try.prog F_errataref03_Compare #[a0, b1] w (retK K) :=
  calls_FN (args := [a0, b1]) Try.func42 (by kernel_rfl) (by rw [errataref03_Compare.pt_eq] at h; exact h)
theorem errataref03_Compare.up {a0 b1 : Value} {w : World} {K : Value → World → Prop} (h : Calls Try.prog F_errataref03_Compare #[a0, b1] w (retK K)) : upK Try.prog (sCall F_errataref03_Compare #[a0, b1]) w K :=
  up_call (fn := Try.f42) Try.func42 (by kernel_rfl) (by kernel_rfl) h

/-- slices.insertionSortOrdered[int] -/
def slices_insertionSortOrdered_int.pt (data0 a1 b2 : Value) (w : World) (K : Value → World → Prop) : Prop :=
  pureK Try.prog (sBin .add T_int (.tmp 8) (.const (.int .i64 1)) a1 (.int .i64 1)) fun t9 =>
  LOOP (X := Value × Unit) (fun x1 w1 next1 =>
   pureK Try.prog (sBin .lss T_int (.tmp 10) (.tmp 11) x1.1 b2) fun t12 =>
   ifB t12
   (LETJ (X := Unit) (fun y1 w2 =>
     pureK Try.prog (sBin .add T_int (.tmp 13) (.const (.int .i64 1)) x1.1 (.int .i64 1)) fun t14 =>
     next1 (t14, ()) w2)
    (fun J1 =>
     LOOP (X := Value × Unit) (fun x3 w3 next3 =>
      pureK Try.prog (sBin .gtr T_int (.tmp 16) (.tmp 17) x3.1 a1) fun t18 =>
      ifB t18
      (pureK Try.prog (sIdxAddr T_s_int data0 x3.1) fun t22 =>
       readK Try.prog (sLoad T_int t22) (tick w3) fun t23 =>
       pureK Try.prog (sBin .sub T_int (.tmp 25) (.const (.int .i64 1)) x3.1 (.int .i64 1)) fun t26 =>
       pureK Try.prog (sIdxAddr T_s_int data0 t26) fun t27 =>
       readK Try.prog (sLoad T_int t27) (tick w3) fun t28 =>
       upK Try.prog (sCall F_cmp_Less_int #[t23, t28]) (tick w3) fun t29 w4 =>
       ifB t29
       (pureK Try.prog (sBin .sub T_int (.tmp 36) (.const (.int .i64 1)) x3.1 (.int .i64 1)) fun t37 =>
        pureK Try.prog (sBin .sub T_int (.tmp 39) (.const (.int .i64 1)) x3.1 (.int .i64 1)) fun t40 =>
        pureK Try.prog (sIdxAddr T_s_int data0 t40) fun t41 =>
        readK Try.prog (sLoad T_int t41) (tick w4) fun t42 =>
        pureK Try.prog (sIdxAddr T_s_int data0 x3.1) fun t45 =>
        readK Try.prog (sLoad T_int t45) (tick w4) fun t46 =>
        pureK Try.prog (sIdxAddr T_s_int data0 x3.1) fun t47 =>
        upK Try.prog (sStore T_int t47 t42) (tick w4) fun tu w5 =>
        pureK Try.prog (sIdxAddr T_s_int data0 t37) fun t48 =>
        upK Try.prog (sStore T_int t48 t46) w5 fun tu_1 w6 =>
        pureK Try.prog (sBin .sub T_int (.tmp 31) (.const (.int .i64 1)) x3.1 (.int .i64 1)) fun t32 =>
        next3 (t32, ()) w6)
       (J1 (()) w4))
      (J1 (()) (tick w3)))
     (x1.1, ()) w1))
   (K (.tuple #[]) w1))
  (t9, ()) w
theorem slices_insertionSortOrdered_int.pt_eq : slices_insertionSortOrdered_int.pt = fun data0 a1 b2 w K => FN Try.prog Try.f43 (bodyOf Try.f43) [] (.node none .leaf (.node none (.node none (.node none .leaf (.node (some []) .leaf .leaf)) .leaf) .leaf)) [data0, a1, b2] w K := by kernel_rfl
theorem slices_insertionSortOrdered_int.call {data0 a1 b2 : Value} {w : World} {K : Value → World → Prop} (h : slices_insertionSortOrdered_int.pt data0 a1 b2 w K) : Calls Try.prog F_slices_insertionSortOrdered_int #[data0, a1, b2] w (retK K) :=
  calls_FN (args := [data0, a1, b2]) Try.func43 (by kernel_rfl) (by rw [slices_insertionSortOrdered_int.pt_eq] at h; exact h)
theorem slices_insertionSortOrdered_int.up {data0 a1 b2 : Value} {w : World} {K : Value → World → Prop} (h : Calls Try.prog F_slices_insertionSortOrdered_int #[data0, a1, b2] w (retK K)) : upK Try.prog (sCall F_slices_insertionSortOrdered_int #[data0, a1, b2]) w K :=
  up_call (fn := Try.f43) Try.func43 (by kernel_rfl) (by kernel_rfl) h

/-- slices.heapSortOrdered[int] -/
def slices_heapSortOrdered_int.pt (data0 a1 b2 : Value) (w : World) (K : Value → World → Prop) : Prop :=
  pureK Try.prog (sBin .sub T_int (.tmp 12) (.tmp 13) b2 a1) fun t14 =>
  pureK Try.prog (sBin .sub T_int (.tmp 15) (.const (.int .i64 1)) t14 (.int .i64 1)) fun t16 =>
  pureK Try.prog (sBin .quo T_int (.tmp 16) (.const (.int .i64 2)) t16 (.int .i64 2)) fun t17 =>
  LOOP (X := Value × Unit) (fun x1 w1 next1 =>
   pureK Try.prog (sBin .geq T_int (.tmp 18) (.const (.int .i64 0)) x1.1 (.int .i64 0)) fun t19 =>
   ifB t19
   (upK Try.prog (sCall F_slices_siftDownOrdered_int #[data0, x1.1, t14, a1]) w1 fun t26 w2 =>
    pureK Try.prog (sBin .sub T_int (.tmp 20) (.const (.int .i64 1)) x1.1 (.int .i64 1)) fun t21 =>
    next1 (t21, ()) w2)
   (pureK Try.prog (sBin .sub T_int (.tmp 27) (.const (.int .i64 1)) t14 (.int .i64 1)) fun t28 =>
    LOOP (X := Value × Unit) (fun x3 w3 next3 =>
     pureK Try.prog (sBin .geq T_int (.tmp 29) (.const (.int .i64 0)) x3.1 (.int .i64 0)) fun t30 =>
     ifB t30
     (pureK Try.prog (sBin .add T_int (.tmp 36) (.tmp 37) a1 x3.1) fun t38 =>
      pureK Try.prog (sBin .add T_int (.tmp 40) (.tmp 41) a1 x3.1) fun t42 =>
      pureK Try.prog (sIdxAddr T_s_int data0 t42) fun t43 =>
      readK Try.prog (sLoad T_int t43) (tick w3) fun t44 =>
      pureK Try.prog (sIdxAddr T_s_int data0 a1) fun t47 =>
      readK Try.prog (sLoad T_int t47) (tick w3) fun t48 =>
      pureK Try.prog (sIdxAddr T_s_int data0 a1) fun t49 =>
      upK Try.prog (sStore T_int t49 t44) (tick w3) fun tu w4 =>
      pureK Try.prog (sIdxAddr T_s_int data0 t38) fun t50 =>
      upK Try.prog (sStore T_int t50 t48) w4 fun tu_1 w5 =>
      upK Try.prog (sCall F_slices_siftDownOrdered_int #[data0, (.int .i64 0), x3.1, a1]) w5 fun t55 w6 =>
      pureK Try.prog (sBin .sub T_int (.tmp 31) (.const (.int .i64 1)) x3.1 (.int .i64 1)) fun t32 =>
      next3 (t32, ()) w6)
     (K (.tuple #[]) w3))
    (t28, ()) w1))
  (t17, ()) w
theorem slices_heapSortOrdered_int.pt_eq : slices_heapSortOrdered_int.pt = fun data0 a1 b2 w K => FN Try.prog Try.f44 (bodyOf Try.f44) [] .leaf [data0, a1, b2] w K := by kernel_rfl
theorem slices_heapSortOrdered_int.call {data0 a1 b2 : Value} {w : World} {K : Value → World → Prop} (h : slices_heapSortOrdered_int.pt data0 a1 b2 w K) : Calls Try.prog F_slices_heapSortOrdered_int #[data0, a1, b2] w (retK K) :=
  calls_FN (args := [data0, a1, b2]) Try.func44 (by kernel_rfl) (by rw [slices_heapSortOrdered_int.pt_eq] at h; exact h)
theorem slices_heapSortOrdered_int.up {data0 a1 b2 : Value} {w : World} {K : Value → World → Prop} (h : Calls Try.prog F_slices_heapSortOrdered_int #[data0, a1, b2] w (retK K)) : upK Try.prog (sCall F_slices_heapSortOrdered_int #[data0, a1, b2]) w K :=
  up_call (fn := Try.f44) Try.func44 (by kernel_rfl) (by kernel_rfl) h

/-- slices.breakPatternsOrdered[int] -/
def slices_breakPatternsOrdered_int.pt (data0 a1 b2 : Value) (w : World) (K : Value → World → Prop) : Prop :=
  pureK Try.prog (sBin .sub T_int (.tmp 11) (.tmp 12) b2 a1) fun t13 =>
  pureK Try.prog (sBin .geq T_int (.tmp 14) (.const (.int .i64 8)) t13 (.int .i64 8)) fun t15 =>
  ifB t15
  (upK Try.prog (sConv T_int T_slices_xorshift t13) w fun t17 w1 =>
   upK Try.prog (sAlloc T_slices_xorshift) w1 fun random7 w2 =>
   upK Try.prog (sStore T_slices_xorshift random7 t17) w2 fun tu w3 =>
   upK Try.prog (sCall F_slices_nextPowerOfTwo #[t13]) w3 fun t19 w4 =>
   pureK Try.prog (sBin .quo T_int (.tmp 21) (.const (.int .i64 4)) t13 (.int .i64 4)) fun t22 =>
   pureK Try.prog (sBin .mul T_int (.tmp 22) (.const (.int .i64 2)) t22 (.int .i64 2)) fun t23 =>
   pureK Try.prog (sBin .add T_int (.tmp 20) (.tmp 23) a1 t23) fun t24 =>
   pureK Try.prog (sBin .sub T_int (.tmp 24) (.const (.int .i64 1)) t24 (.int .i64 1)) fun t25 =>
   LOOP (X := Value × Unit) (fun x5 w5 next5 =>
    pureK Try.prog (sBin .quo T_int (.tmp 28) (.const (.int .i64 4)) t13 (.int .i64 4)) fun t29 =>
    pureK Try.prog (sBin .mul T_int (.tmp 29) (.const (.int .i64 2)) t29 (.int .i64 2)) fun t30 =>
    pureK Try.prog (sBin .add T_int (.tmp 27) (.tmp 30) a1 t30) fun t31 =>
    pureK Try.prog (sBin .add T_int (.tmp 31) (.const (.int .i64 1)) t31 (.int .i64 1)) fun t32 =>
    pureK Try.prog (sBin .leq T_int (.tmp 26) (.tmp 32) x5.1 t32) fun t33 =>
    ifB t33
    (upK Try.prog (sCall F_slices_xorshift_Next #[random7]) w5 fun t36 w6 =>
     pureK Try.prog (sBin .sub T_uint (.tmp 37) (.const (.int .u64 1)) t19 (.int .u64 1)) fun t38 =>
     pureK Try.prog (sBin .and T_uint (.tmp 36) (.tmp 38) t36 t38) fun t39 =>
     upK Try.prog (sConv T_uint T_int t39) w6 fun t40 w7 =>
     LETJ (X := Value × Unit) (fun y1 w8 =>
      pureK Try.prog (sBin .add T_int (.tmp 50) (.tmp 51) a1 y1.1) fun t52 =>
      pureK Try.prog (sBin .add T_int (.tmp 54) (.tmp 55) a1 y1.1) fun t56 =>
      pureK Try.prog (sIdxAddr T_s_int data0 t56) fun t57 =>
      readK Try.prog (sLoad T_int t57) (tick w8) fun t58 =>
      pureK Try.prog (sIdxAddr T_s_int data0 x5.1) fun t61 =>
      readK Try.prog (sLoad T_int t61) (tick w8) fun t62 =>
      pureK Try.prog (sIdxAddr T_s_int data0 x5.1) fun t63 =>
      upK Try.prog (sStore T_int t63 t58) (tick w8) fun tu_1 w9 =>
      pureK Try.prog (sIdxAddr T_s_int data0 t52) fun t64 =>
      upK Try.prog (sStore T_int t64 t62) w9 fun tu_2 w10 =>
      pureK Try.prog (sBin .add T_int (.tmp 34) (.const (.int .i64 1)) x5.1 (.int .i64 1)) fun t35 =>
      next5 (t35, ()) w10)
     (fun J1 =>
      pureK Try.prog (sBin .geq T_int (.tmp 41) (.tmp 42) t40 t13) fun t43 =>
      ifB t43
      (pureK Try.prog (sBin .sub T_int (.tmp 44) (.tmp 45) t40 t13) fun t46 =>
       J1 (t46, ()) w7)
      (J1 (t40, ()) w7)))
    (K (.tuple #[]) w5))
   (t25, ()) w4)
  (K (.tuple #[]) w)
theorem slices_breakPatternsOrdered_int.pt_eq : slices_breakPatternsOrdered_int.pt = fun data0 a1 b2 w K => FN Try.prog Try.f45 (bodyOf Try.f45) [] (.node none .leaf (.node none .leaf (.node none (.node none .leaf (.node none .leaf (.node none .leaf (.node none (.node none (.node none .leaf (.node none (.node none (.node none .leaf (.node (some [10]) .leaf .leaf)) .leaf) .leaf)) .leaf) .leaf)))) .leaf))) [data0, a1, b2] w K := by kernel_rfl
theorem slices_breakPatternsOrdered_int.call {data0 a1 b2 : Value} {w : World} {K : Value → World → Prop} (h : slices_breakPatternsOrdered_int.pt data0 a1 b2 w K) : Calls Try.prog F_slices_breakPatternsOrdered_int #[data0, a1, b2] w (retK K) :=
  calls_FN (args := [data0, a1, b2]) Try.func45 (by kernel_rfl) (by rw [slices_breakPatternsOrdered_int.pt_eq] at h; exact h)
theorem slices_breakPatternsOrdered_int.up {data0 a1 b2 : Value} {w : World} {K : Value → World → Prop} (h : Calls Try.prog F_slices_breakPatternsOrdered_int #[data0, a1, b2] w (retK K)) : upK Try.prog (sCall F_slices_breakPatternsOrdered_int #[data0, a1, b2]) w K :=
  up_call (fn := Try.f45) Try.func45 (by kernel_rfl) (by kernel_rfl) h

/-- slices.choosePivotOrdered[int] -/
def slices_choosePivotOrdered_int.pt (data0 a1 b2 : Value) (w : World) (K : Value → World → Prop) : Prop :=
  pureK Try.prog (sBin .sub T_int (.tmp 13) (.tmp 14) b2 a1) fun t15 =>
  upK Try.prog (sAlloc T_int) w fun swaps9 w1 =>
  pureK Try.prog (sBin .quo T_int (.tmp 17) (.const (.int .i64 4)) t15 (.int .i64 4)) fun t18 =>
  pureK Try.prog (sBin .mul T_int (.tmp 18) (.const (.int .i64 1)) t18 (.int .i64 1)) fun t19 =>
  pureK Try.prog (sBin .add T_int (.tmp 16) (.tmp 19) a1 t19) fun t20 =>
  pureK Try.prog (sBin .quo T_int (.tmp 22) (.const (.int .i64 4)) t15 (.int .i64 4)) fun t23 =>
  pureK Try.prog (sBin .mul T_int (.tmp 23) (.const (.int .i64 2)) t23 (.int .i64 2)) fun t24 =>
  pureK Try.prog (sBin .add T_int (.tmp 21) (.tmp 24) a1 t24) fun t25 =>
  pureK Try.prog (sBin .quo T_int (.tmp 27) (.const (.int .i64 4)) t15 (.int .i64 4)) fun t28 =>
  pureK Try.prog (sBin .mul T_int (.tmp 28) (.const (.int .i64 3)) t28 (.int .i64 3)) fun t29 =>
  pureK Try.prog (sBin .add T_int (.tmp 26) (.tmp 29) a1 t29) fun t30 =>
  LETJ (X := Value × Unit) (fun y1 w2 =>
   readK Try.prog (sLoad T_int swaps9) w2 fun t49 =>
   pureK Try.prog (sBin .eql T_int (.tmp 49) (.const (.int .i64 0)) t49 (.int .i64 0)) fun t52 =>
   ifB t52
   (K (.tuple #[y1.1, (.int .i64 1)]) w2)
   (pureK Try.prog (sBin .eql T_int (.tmp 49) (.const (.int .i64 12)) t49 (.int .i64 12)) fun t55 =>
    ifB t55
    (K (.tuple #[y1.1, (.int .i64 2)]) w2)
    (K (.tuple #[y1.1, (.int .i64 0)]) w2)))
  (fun J1 =>
   pureK Try.prog (sBin .geq T_int (.tmp 31) (.const (.int .i64 8)) t15 (.int .i64 8)) fun t32 =>
   ifB t32
   (LETJ (X := Value × Value × Value × Unit) (fun y2 w3 =>
     upK Try.prog (sCall F_slices_medianOrdered_int #[data0, y2.1, y2.2.1, y2.2.2.1, swaps9]) w3 fun t48 w4 =>
     J1 (t48, ()) w4)
    (fun J2 =>
     pureK Try.prog (sBin .geq T_int (.tmp 33) (.const (.int .i64 50)) t15 (.int .i64 50)) fun t34 =>
     ifB t34
     (upK Try.prog (sCall F_slices_medianAdjacentOrdered_int #[data0, t20, swaps9]) w1 fun t37 w5 =>
      upK Try.prog (sCall F_slices_medianAdjacentOrdered_int #[data0, t25, swaps9]) w5 fun t40 w6 =>
      upK Try.prog (sCall F_slices_medianAdjacentOrdered_int #[data0, t30, swaps9]) w6 fun t43 w7 =>
      J2 (t37, t40, t43, ()) w7)
     (J2 (t20, t25, t30, ()) w1)))
   (J1 (t25, ()) w1))
theorem slices_choosePivotOrdered_int.pt_eq : slices_choosePivotOrdered_int.pt = fun data0 a1 b2 w K => FN Try.prog Try.f46 (bodyOf Try.f46) [] (.node none .leaf (.node none .leaf (.node none .leaf (.node none .leaf (.node none .leaf (.node none .leaf (.node (some [11]) (.node none .leaf (.node none (.node (some [10, 11, 12]) .leaf .leaf) .leaf)) .leaf))))))) [data0, a1, b2] w K := by kernel_rfl
theorem slices_choosePivotOrdered_int.call {data0 a1 b2 : Value} {w : World} {K : Value → World → Prop} (h : slices_choosePivotOrdered_int.pt data0 a1 b2 w K) : Calls Try.prog F_slices_choosePivotOrdered_int #[data0, a1, b2] w (retK K) :=
  calls_FN (args := [data0, a1, b2]) Try.func46 (by kernel_rfl) (by rw [slices_choosePivotOrdered_int.pt_eq] at h; exact h)
theorem slices_choosePivotOrdered_int.up {data0 a1 b2 : Value} {w : World} {K : Value → World → Prop} (h : Calls Try.prog F_slices_choosePivotOrdered_int #[data0, a1, b2] w (retK K)) : upK Try.prog (sCall F_slices_choosePivotOrdered_int #[data0, a1, b2]) w K :=
  up_call (fn := Try.f46) Try.func46 (by kernel_rfl) (by kernel_rfl) h

/-- slices.reverseRangeOrdered[int] -/
def slices_reverseRangeOrdered_int.pt (data0 a1 b2 : Value) (w : World) (K : Value → World → Prop) : Prop :=
  pureK Try.prog (sBin .sub T_int (.tmp 9) (.const (.int .i64 1)) b2 (.int .i64 1)) fun t10 =>
  LOOP (X := Value × Value × Unit) (fun x1 w1 next1 =>
   pureK Try.prog (sBin .lss T_int (.tmp 11) (.tmp 12) x1.1 x1.2.1) fun t13 =>
   ifB t13
   (pureK Try.prog (sIdxAddr T_s_int data0 x1.2.1) fun t20 =>
    readK Try.prog (sLoad T_int t20) (tick w1) fun t21 =>
    pureK Try.prog (sIdxAddr T_s_int data0 x1.1) fun t24 =>
    readK Try.prog (sLoad T_int t24) (tick w1) fun t25 =>
    pureK Try.prog (sIdxAddr T_s_int data0 x1.1) fun t26 =>
    upK Try.prog (sStore T_int t26 t21) (tick w1) fun tu w2 =>
    pureK Try.prog (sIdxAddr T_s_int data0 x1.2.1) fun t27 =>
    upK Try.prog (sStore T_int t27 t25) w2 fun tu_1 w3 =>
    pureK Try.prog (sBin .add T_int (.tmp 28) (.const (.int .i64 1)) x1.1 (.int .i64 1)) fun t29 =>
    pureK Try.prog (sBin .sub T_int (.tmp 30) (.const (.int .i64 1)) x1.2.1 (.int .i64 1)) fun t31 =>
    next1 (t29, t31, ()) w3)
   (K (.tuple #[]) w1))
  (a1, t10, ()) w
theorem slices_reverseRangeOrdered_int.pt_eq : slices_reverseRangeOrdered_int.pt = fun data0 a1 b2 w K => FN Try.prog Try.f47 (bodyOf Try.f47) [] .leaf [data0, a1, b2] w K := by kernel_rfl
theorem slices_reverseRangeOrdered_int.call {data0 a1 b2 : Value} {w : World} {K : Value → World → Prop} (h : slices_reverseRangeOrdered_int.pt data0 a1 b2 w K) : Calls Try.prog F_slices_reverseRangeOrdered_int #[data0, a1, b2] w (retK K) :=
  calls_FN (args := [data0, a1, b2]) Try.func47 (by kernel_rfl) (by rw [slices_reverseRangeOrdered_int.pt_eq] at h; exact h)
theorem slices_reverseRangeOrdered_int.up {data0 a1 b2 : Value} {w : World} {K : Value → World → Prop} (h : Calls Try.prog F_slices_reverseRangeOrdered_int #[data0, a1, b2] w (retK K)) : upK Try.prog (sCall F_slices_reverseRangeOrdered_int #[data0, a1, b2]) w K :=
  up_call (fn := Try.f47) Try.func47 (by kernel_rfl) (by kernel_rfl) h

/-- slices.partialInsertionSortOrdered[int] -/
def slices_partialInsertionSortOrdered_int.pt (data0 a1 b2 : Value) (w : World) (K : Value → World → Prop) : Prop :=
  pureK Try.prog (sBin .add T_int (.tmp 11) (.const (.int .i64 1)) a1 (.int .i64 1)) fun t12 =>
  LOOP (X := Value × Value × Unit) (fun x1 w1 next1 =>
   pureK Try.prog (sBin .lss T_int (.tmp 13) (.const (.int .i64 5)) x1.2.1 (.int .i64 5)) fun t14 =>
   ifB t14
   (LETJ (X := Value × Unit) (fun y1 w2 =>
     pureK Try.prog (sBin .add T_int (.tmp 15) (.const (.int .i64 1)) x1.2.1 (.int .i64 1)) fun t16 =>
     next1 (y1.1, t16, ()) w2)
    (fun J1 =>
     LETJ (X := Value × Unit) (fun y2 w3 =>
      pureK Try.prog (sBin .eql T_int (.tmp 35) (.tmp 36) y2.1 b2) fun t37 =>
      ifB t37
      (K (.bool true) w3)
      (pureK Try.prog (sBin .sub T_int (.tmp 38) (.tmp 39) b2 a1) fun t40 =>
       pureK Try.prog (sBin .lss T_int (.tmp 40) (.const (.int .i64 50)) t40 (.int .i64 50)) fun t41 =>
       ifB t41
       (K (.bool false) w3)
       (pureK Try.prog (sBin .sub T_int (.tmp 45) (.const (.int .i64 1)) y2.1 (.int .i64 1)) fun t46 =>
        pureK Try.prog (sBin .sub T_int (.tmp 48) (.const (.int .i64 1)) y2.1 (.int .i64 1)) fun t49 =>
        pureK Try.prog (sIdxAddr T_s_int data0 t49) fun t50 =>
        readK Try.prog (sLoad T_int t50) (tick w3) fun t51 =>
        pureK Try.prog (sIdxAddr T_s_int data0 y2.1) fun t54 =>
        readK Try.prog (sLoad T_int t54) (tick w3) fun t55 =>
        pureK Try.prog (sIdxAddr T_s_int data0 y2.1) fun t56 =>
        upK Try.prog (sStore T_int t56 t51) (tick w3) fun tu w4 =>
        pureK Try.prog (sIdxAddr T_s_int data0 t46) fun t57 =>
        upK Try.prog (sStore T_int t57 t55) w4 fun tu_1 w5 =>
        LETJ (X := Unit) (fun y3 w6 =>
         pureK Try.prog (sBin .sub T_int (.tmp 95) (.tmp 96) b2 y2.1) fun t97 =>
         pureK Try.prog (sBin .geq T_int (.tmp 97) (.const (.int .i64 2)) t97 (.int .i64 2)) fun t98 =>
         ifB t98
         (pureK Try.prog (sBin .add T_int (.tmp 99) (.const (.int .i64 1)) y2.1 (.int .i64 1)) fun t100 =>
          LOOP (X := Value × Unit) (fun x7 w7 next7 =>
           pureK Try.prog (sBin .lss T_int (.tmp 101) (.tmp 102) x7.1 b2) fun t103 =>
           ifB t103
           (pureK Try.prog (sIdxAddr T_s_int data0 x7.1) fun t108 =>
            readK Try.prog (sLoad T_int t108) (tick w7) fun t109 =>
            pureK Try.prog (sBin .sub T_int (.tmp 111) (.const (.int .i64 1)) x7.1 (.int .i64 1)) fun t112 =>
            pureK Try.prog (sIdxAddr T_s_int data0 t112) fun t113 =>
            readK Try.prog (sLoad T_int t113) (tick w7) fun t114 =>
            upK Try.prog (sCall F_cmp_Less_int #[t109, t114]) (tick w7) fun t115 w8 =>
            pureK Try.prog (sUn .not t115) fun t116 =>
            ifB t116
            (J1 (y2.1, ()) w8)
            (pureK Try.prog (sBin .sub T_int (.tmp 120) (.const (.int .i64 1)) x7.1 (.int .i64 1)) fun t121 =>
             pureK Try.prog (sBin .sub T_int (.tmp 123) (.const (.int .i64 1)) x7.1 (.int .i64 1)) fun t124 =>
             pureK Try.prog (sIdxAddr T_s_int data0 t124) fun t125 =>
             readK Try.prog (sLoad T_int t125) (tick w8) fun t126 =>
             pureK Try.prog (sIdxAddr T_s_int data0 x7.1) fun t129 =>
             readK Try.prog (sLoad T_int t129) (tick w8) fun t130 =>
             pureK Try.prog (sIdxAddr T_s_int data0 x7.1) fun t131 =>
             upK Try.prog (sStore T_int t131 t126) (tick w8) fun tu_2 w9 =>
             pureK Try.prog (sIdxAddr T_s_int data0 t121) fun t132 =>
             upK Try.prog (sStore T_int t132 t130) w9 fun tu_3 w10 =>
             pureK Try.prog (sBin .add T_int (.tmp 104) (.const (.int .i64 1)) x7.1 (.int .i64 1)) fun t105 =>
             next7 (t105, ()) w10))
           (J1 (y2.1, ()) w7))
          (t100, ()) w6)
         (J1 (y2.1, ()) w6))
        (fun J3 =>
         pureK Try.prog (sBin .sub T_int (.tmp 58) (.tmp 59) y2.1 a1) fun t60 =>
         pureK Try.prog (sBin .geq T_int (.tmp 60) (.const (.int .i64 2)) t60 (.int .i64 2)) fun t61 =>
         ifB t61
         (pureK Try.prog (sBin .sub T_int (.tmp 62) (.const (.int .i64 1)) y2.1 (.int .i64 1)) fun t63 =>
          LOOP (X := Value × Unit) (fun x11 w11 next11 =>
           pureK Try.prog (sBin .geq T_int (.tmp 64) (.const (.int .i64 1)) x11.1 (.int .i64 1)) fun t65 =>
           ifB t65
           (pureK Try.prog (sIdxAddr T_s_int data0 x11.1) fun t70 =>
            readK Try.prog (sLoad T_int t70) (tick w11) fun t71 =>
            pureK Try.prog (sBin .sub T_int (.tmp 73) (.const (.int .i64 1)) x11.1 (.int .i64 1)) fun t74 =>
            pureK Try.prog (sIdxAddr T_s_int data0 t74) fun t75 =>
            readK Try.prog (sLoad T_int t75) (tick w11) fun t76 =>
            upK Try.prog (sCall F_cmp_Less_int #[t71, t76]) (tick w11) fun t77 w12 =>
            pureK Try.prog (sUn .not t77) fun t78 =>
            ifB t78
            (J3 (()) w12)
            (pureK Try.prog (sBin .sub T_int (.tmp 82) (.const (.int .i64 1)) x11.1 (.int .i64 1)) fun t83 =>
             pureK Try.prog (sBin .sub T_int (.tmp 85) (.const (.int .i64 1)) x11.1 (.int .i64 1)) fun t86 =>
             pureK Try.prog (sIdxAddr T_s_int data0 t86) fun t87 =>
             readK Try.prog (sLoad T_int t87) (tick w12) fun t88 =>
             pureK Try.prog (sIdxAddr T_s_int data0 x11.1) fun t91 =>
             readK Try.prog (sLoad T_int t91) (tick w12) fun t92 =>
             pureK Try.prog (sIdxAddr T_s_int data0 x11.1) fun t93 =>
             upK Try.prog (sStore T_int t93 t88) (tick w12) fun tu_4 w13 =>
             pureK Try.prog (sIdxAddr T_s_int data0 t83) fun t94 =>
             upK Try.prog (sStore T_int t94 t92) w13 fun tu_5 w14 =>
             pureK Try.prog (sBin .sub T_int (.tmp 66) (.const (.int .i64 1)) x11.1 (.int .i64 1)) fun t67 =>
             next11 (t67, ()) w14))
           (J3 (()) w11))
          (t63, ()) w5)
         (J3 (()) w5)))))
     (fun J2 =>
      LOOP (X := Value × Unit) (fun x15 w15 next15 =>
       pureK Try.prog (sBin .lss T_int (.tmp 17) (.tmp 18) x15.1 b2) fun t19 =>
       ifB t19
       (pureK Try.prog (sIdxAddr T_s_int data0 x15.1) fun t23 =>
        readK Try.prog (sLoad T_int t23) (tick w15) fun t24 =>
        pureK Try.prog (sBin .sub T_int (.tmp 26) (.const (.int .i64 1)) x15.1 (.int .i64 1)) fun t27 =>
        pureK Try.prog (sIdxAddr T_s_int data0 t27) fun t28 =>
        readK Try.prog (sLoad T_int t28) (tick w15) fun t29 =>
        upK Try.prog (sCall F_cmp_Less_int #[t24, t29]) (tick w15) fun t30 w16 =>
        pureK Try.prog (sUn .not t30) fun t31 =>
        ifB t31
        (pureK Try.prog (sBin .add T_int (.tmp 33) (.const (.int .i64 1)) x15.1 (.int .i64 1)) fun t34 =>
         next15 (t34, ()) w16)
        (J2 (x15.1, ()) w16))
       (J2 (x15.1, ()) (tick w15)))
      (x1.1, ()) w1)))
   (K (.bool false) w1))
  (t12, (.int .i64 0), ()) w
theorem slices_partialInsertionSortOrdered_int.pt_eq : slices_partialInsertionSortOrdered_int.pt = fun data0 a1 b2 w K => FN Try.prog Try.f48 (bodyOf Try.f48) [6] (.node none .leaf (.node none .leaf (.node none (.node none .leaf (.node none (.node none (.node none .leaf (.node (some [7]) (.node none (.node (some [7]) .leaf (.node none .leaf (.node none .leaf (.node none .leaf (.node (some []) .leaf .leaf))))) .leaf) .leaf)) .leaf) .leaf)) .leaf))) [data0, a1, b2] w K := by kernel_rfl
theorem slices_partialInsertionSortOrdered_int.call {data0 a1 b2 : Value} {w : World} {K : Value → World → Prop} (h : slices_partialInsertionSortOrdered_int.pt data0 a1 b2 w K) : Calls Try.prog F_slices_partialInsertionSortOrdered_int #[data0, a1, b2] w (retK K) :=
  calls_FN (args := [data0, a1, b2]) Try.func48 (by kernel_rfl) (by rw [slices_partialInsertionSortOrdered_int.pt_eq] at h; exact h)
theorem slices_partialInsertionSortOrdered_int.up {data0 a1 b2 : Value} {w : World} {K : Value → World → Prop} (h : Calls Try.prog F_slices_partialInsertionSortOrdered_int #[data0, a1, b2] w (retK K)) : upK Try.prog (sCall F_slices_partialInsertionSortOrdered_int #[data0, a1, b2]) w K :=
  up_call (fn := Try.f48) Try.func48 (by kernel_rfl) (by kernel_rfl) h

/-- cmp.Less[int] -/
def cmp_Less_int.pt (x0 y1 : Value) (w : World) (K : Value → World → Prop) : Prop :=
  upK Try.prog (sCall F_cmp_isNaN_int #[x0]) w fun t6 w1 =>
  ifB t6
  (upK Try.prog (sCall F_cmp_isNaN_int #[y1]) w1 fun t9 w2 =>
   pureK Try.prog (sUn .not t9) fun t10 =>
   ifB t10
   (K (.bool true) w2)
   (pureK Try.prog (sBin .lss T_int (.tmp 13) (.tmp 14) x0 y1) fun t15 =>
    K t15 w2))
  (pureK Try.prog (sBin .lss T_int (.tmp 13) (.tmp 14) x0 y1) fun t15_1 =>
   K t15_1 w1)
theorem cmp_Less_int.pt_eq : cmp_Less_int.pt = fun x0 y1 w K => FN Try.prog Try.f49 (bodyOf Try.f49) [4] .leaf [x0, y1] w K := by kernel_rfl
theorem cmp_Less_int.call {x0 y1 : Value} {w : World} {K : Value → World → Prop} (h : cmp_Less_int.pt x0 y1 w K) : Calls Try.prog F_cmp_Less_int #[x0, y1] w (retK K) :=
  calls_FN (args := [x0, y1]) Try.func49 (by kernel_rfl) (by rw [cmp_Less_int.pt_eq] at h; exact h)
theorem cmp_Less_int.up {x0 y1 : Value} {w : World} {K : Value → World → Prop} (h : Calls Try.prog F_cmp_Less_int #[x0, y1] w (retK K)) : upK Try.prog (sCall F_cmp_Less_int #[x0, y1]) w K :=
  up_call (fn := Try.f49) Try.func49 (by kernel_rfl) (by kernel_rfl) h

/-- slices.partitionEqualOrdered[int] -/
def slices_partitionEqualOrdered_int.pt (data0 a1 b2 pivot3 : Value) (w : World) (K : Value → World → Prop) : Prop :=
  pureK Try.prog (sIdxAddr T_s_int data0 pivot3) fun t17 =>
  readK Try.prog (sLoad T_int t17) (tick w) fun t18 =>
  pureK Try.prog (sIdxAddr T_s_int data0 a1) fun t21 =>
  readK Try.prog (sLoad T_int t21) (tick w) fun t22 =>
  pureK Try.prog (sIdxAddr T_s_int data0 a1) fun t23 =>
  upK Try.prog (sStore T_int t23 t18) (tick w) fun tu w1 =>
  pureK Try.prog (sIdxAddr T_s_int data0 pivot3) fun t24 =>
  upK Try.prog (sStore T_int t24 t22) w1 fun tu_1 w2 =>
  pureK Try.prog (sBin .add T_int (.tmp 25) (.const (.int .i64 1)) a1 (.int .i64 1)) fun t26 =>
  pureK Try.prog (sBin .sub T_int (.tmp 27) (.const (.int .i64 1)) b2 (.int .i64 1)) fun t28 =>
  LETJ (X := Value × Unit) (fun y1 w3 =>
   K y1.1 w3)
  (fun J1 =>
   LOOP (X := Value × Value × Unit) (fun x4 w4 next4 =>
    LETJ (X := Value × Unit) (fun y2 w5 =>
     LETJ (X := Value × Unit) (fun y3 w6 =>
      pureK Try.prog (sBin .gtr T_int (.tmp 62) (.tmp 63) y2.1 y3.1) fun t64 =>
      ifB t64
      (J1 (y2.1, ()) w6)
      (pureK Try.prog (sIdxAddr T_s_int data0 y3.1) fun t71 =>
       readK Try.prog (sLoad T_int t71) (tick w6) fun t72 =>
       pureK Try.prog (sIdxAddr T_s_int data0 y2.1) fun t75 =>
       readK Try.prog (sLoad T_int t75) (tick w6) fun t76 =>
       pureK Try.prog (sIdxAddr T_s_int data0 y2.1) fun t77 =>
       upK Try.prog (sStore T_int t77 t72) (tick w6) fun tu_2 w7 =>
       pureK Try.prog (sIdxAddr T_s_int data0 y3.1) fun t78 =>
       upK Try.prog (sStore T_int t78 t76) w7 fun tu_3 w8 =>
       pureK Try.prog (sBin .add T_int (.tmp 79) (.const (.int .i64 1)) y2.1 (.int .i64 1)) fun t80 =>
       pureK Try.prog (sBin .sub T_int (.tmp 81) (.const (.int .i64 1)) y3.1 (.int .i64 1)) fun t82 =>
       next4 (t80, t82, ()) w8))
     (fun J3 =>
      LOOP (X := Value × Unit) (fun x9 w9 next9 =>
       pureK Try.prog (sBin .leq T_int (.tmp 46) (.tmp 47) y2.1 x9.1) fun t48 =>
       ifB t48
       (pureK Try.prog (sIdxAddr T_s_int data0 a1) fun t52 =>
        readK Try.prog (sLoad T_int t52) (tick w9) fun t53 =>
        pureK Try.prog (sIdxAddr T_s_int data0 x9.1) fun t56 =>
        readK Try.prog (sLoad T_int t56) (tick w9) fun t57 =>
        upK Try.prog (sCall F_cmp_Less_int #[t53, t57]) (tick w9) fun t58 w10 =>
        ifB t58
        (pureK Try.prog (sBin .sub T_int (.tmp 60) (.const (.int .i64 1)) x9.1 (.int .i64 1)) fun t61 =>
         next9 (t61, ()) w10)
        (J3 (x9.1, ()) w10))
       (J3 (x9.1, ()) (tick w9)))
      (x4.2.1, ()) w5))
    (fun J2 =>
     LOOP (X := Value × Unit) (fun x11 w11 next11 =>
      pureK Try.prog (sBin .leq T_int (.tmp 29) (.tmp 30) x11.1 x4.2.1) fun t31 =>
      ifB t31
      (pureK Try.prog (sIdxAddr T_s_int data0 a1) fun t35 =>
       readK Try.prog (sLoad T_int t35) (tick w11) fun t36 =>
       pureK Try.prog (sIdxAddr T_s_int data0 x11.1) fun t39 =>
       readK Try.prog (sLoad T_int t39) (tick w11) fun t40 =>
       upK Try.prog (sCall F_cmp_Less_int #[t36, t40]) (tick w11) fun t41 w12 =>
       pureK Try.prog (sUn .not t41) fun t42 =>
       ifB t42
       (pureK Try.prog (sBin .add T_int (.tmp 44) (.const (.int .i64 1)) x11.1 (.int .i64 1)) fun t45 =>
        next11 (t45, ()) w12)
       (J2 (x11.1, ()) w12))
      (J2 (x11.1, ()) (tick w11)))
     (x4.1, ()) w4))
   (t26, t28, ()) w2)
theorem slices_partitionEqualOrdered_int.pt_eq : slices_partitionEqualOrdered_int.pt = fun data0 a1 b2 pivot3 w K => FN Try.prog Try.f50 (bodyOf Try.f50) [] (.node none .leaf (.node none .leaf (.node none .leaf (.node (some [9]) (.node none (.node none (.node none (.node (some [9]) .leaf (.node (some [10]) .leaf .leaf)) .leaf) .leaf) .leaf) .leaf)))) [data0, a1, b2, pivot3] w K := by kernel_rfl
theorem slices_partitionEqualOrdered_int.call {data0 a1 b2 pivot3 : Value} {w : World} {K : Value → World → Prop} (h : slices_partitionEqualOrdered_int.pt data0 a1 b2 pivot3 w K) : Calls Try.prog F_slices_partitionEqualOrdered_int #[data0, a1, b2, pivot3] w (retK K) :=
  calls_FN (args := [data0, a1, b2, pivot3]) Try.func50 (by kernel_rfl) (by rw [slices_partitionEqualOrdered_int.pt_eq] at h; exact h)
theorem slices_partitionEqualOrdered_int.up {data0 a1 b2 pivot3 : Value} {w : World} {K : Value → World → Prop} (h : Calls Try.prog F_slices_partitionEqualOrdered_int #[data0, a1, b2, pivot3] w (retK K)) : upK Try.prog (sCall F_slices_partitionEqualOrdered_int #[data0, a1, b2, pivot3]) w K :=
  up_call (fn := Try.f50) Try.func50 (by kernel_rfl) (by kernel_rfl) h

/-- slices.partitionOrdered[int] -/
def slices_partitionOrdered_int.pt (data0 a1 b2 pivot3 : Value) (w : World) (K : Value → World → Prop) : Prop :=
  pureK Try.prog (sIdxAddr T_s_int data0 pivot3) fun t18 =>
  readK Try.prog (sLoad T_int t18) (tick w) fun t19 =>
  pureK Try.prog (sIdxAddr T_s_int data0 a1) fun t22 =>
  readK Try.prog (sLoad T_int t22) (tick w) fun t23 =>
  pureK Try.prog (sIdxAddr T_s_int data0 a1) fun t24 =>
  upK Try.prog (sStore T_int t24 t19) (tick w) fun tu w1 =>
  pureK Try.prog (sIdxAddr T_s_int data0 pivot3) fun t25 =>
  upK Try.prog (sStore T_int t25 t23) w1 fun tu_1 w2 =>
  pureK Try.prog (sBin .add T_int (.tmp 26) (.const (.int .i64 1)) a1 (.int .i64 1)) fun t27 =>
  pureK Try.prog (sBin .sub T_int (.tmp 28) (.const (.int .i64 1)) b2 (.int .i64 1)) fun t29 =>
  LETJ (X := Value × Unit) (fun y1 w3 =>
   LETJ (X := Value × Unit) (fun y2 w4 =>
    pureK Try.prog (sBin .gtr T_int (.tmp 63) (.tmp 64) y1.1 y2.1) fun t65 =>
    ifB t65
    (pureK Try.prog (sIdxAddr T_s_int data0 a1) fun t72 =>
     readK Try.prog (sLoad T_int t72) (tick w4) fun t73 =>
     pureK Try.prog (sIdxAddr T_s_int data0 y2.1) fun t76 =>
     readK Try.prog (sLoad T_int t76) (tick w4) fun t77 =>
     pureK Try.prog (sIdxAddr T_s_int data0 y2.1) fun t78 =>
     upK Try.prog (sStore T_int t78 t73) (tick w4) fun tu_2 w5 =>
     pureK Try.prog (sIdxAddr T_s_int data0 a1) fun t79 =>
     upK Try.prog (sStore T_int t79 t77) w5 fun tu_3 w6 =>
     K (.tuple #[y2.1, (.bool true)]) w6)
    (pureK Try.prog (sIdxAddr T_s_int data0 y2.1) fun t87 =>
     readK Try.prog (sLoad T_int t87) (tick w4) fun t88 =>
     pureK Try.prog (sIdxAddr T_s_int data0 y1.1) fun t91 =>
     readK Try.prog (sLoad T_int t91) (tick w4) fun t92 =>
     pureK Try.prog (sIdxAddr T_s_int data0 y1.1) fun t93 =>
     upK Try.prog (sStore T_int t93 t88) (tick w4) fun tu_4 w7 =>
     pureK Try.prog (sIdxAddr T_s_int data0 y2.1) fun t94 =>
     upK Try.prog (sStore T_int t94 t92) w7 fun tu_5 w8 =>
     pureK Try.prog (sBin .add T_int (.tmp 95) (.const (.int .i64 1)) y1.1 (.int .i64 1)) fun t96 =>
     pureK Try.prog (sBin .sub T_int (.tmp 97) (.const (.int .i64 1)) y2.1 (.int .i64 1)) fun t98 =>
     LETJ (X := Value × Unit) (fun y3 w9 =>
      pureK Try.prog (sIdxAddr T_s_int data0 a1) fun t159 =>
      readK Try.prog (sLoad T_int t159) (tick w9) fun t160 =>
      pureK Try.prog (sIdxAddr T_s_int data0 y3.1) fun t163 =>
      readK Try.prog (sLoad T_int t163) (tick w9) fun t164 =>
      pureK Try.prog (sIdxAddr T_s_int data0 y3.1) fun t165 =>
      upK Try.prog (sStore T_int t165 t160) (tick w9) fun tu_6 w10 =>
      pureK Try.prog (sIdxAddr T_s_int data0 a1) fun t166 =>
      upK Try.prog (sStore T_int t166 t164) w10 fun tu_7 w11 =>
      K (.tuple #[y3.1, (.bool false)]) w11)
     (fun J3 =>
      LOOP (X := Value × Value × Unit) (fun x12 w12 next12 =>
       LETJ (X := Value × Unit) (fun y4 w13 =>
        LETJ (X := Value × Unit) (fun y5 w14 =>
         pureK Try.prog (sBin .gtr T_int (.tmp 132) (.tmp 133) y4.1 y5.1) fun t134 =>
         ifB t134
         (J3 (y5.1, ()) w14)
         (pureK Try.prog (sIdxAddr T_s_int data0 y5.1) fun t141 =>
          readK Try.prog (sLoad T_int t141) (tick w14) fun t142 =>
          pureK Try.prog (sIdxAddr T_s_int data0 y4.1) fun t145 =>
          readK Try.prog (sLoad T_int t145) (tick w14) fun t146 =>
          pureK Try.prog (sIdxAddr T_s_int data0 y4.1) fun t147 =>
          upK Try.prog (sStore T_int t147 t142) (tick w14) fun tu_8 w15 =>
          pureK Try.prog (sIdxAddr T_s_int data0 y5.1) fun t148 =>
          upK Try.prog (sStore T_int t148 t146) w15 fun tu_9 w16 =>
          pureK Try.prog (sBin .add T_int (.tmp 149) (.const (.int .i64 1)) y4.1 (.int .i64 1)) fun t150 =>
          pureK Try.prog (sBin .sub T_int (.tmp 151) (.const (.int .i64 1)) y5.1 (.int .i64 1)) fun t152 =>
          next12 (t150, t152, ()) w16))
        (fun J5 =>
         LOOP (X := Value × Unit) (fun x17 w17 next17 =>
          pureK Try.prog (sBin .leq T_int (.tmp 115) (.tmp 116) y4.1 x17.1) fun t117 =>
          ifB t117
          (pureK Try.prog (sIdxAddr T_s_int data0 x17.1) fun t121 =>
           readK Try.prog (sLoad T_int t121) (tick w17) fun t122 =>
           pureK Try.prog (sIdxAddr T_s_int data0 a1) fun t125 =>
           readK Try.prog (sLoad T_int t125) (tick w17) fun t126 =>
           upK Try.prog (sCall F_cmp_Less_int #[t122, t126]) (tick w17) fun t127 w18 =>
           pureK Try.prog (sUn .not t127) fun t128 =>
           ifB t128
           (pureK Try.prog (sBin .sub T_int (.tmp 130) (.const (.int .i64 1)) x17.1 (.int .i64 1)) fun t131 =>
            next17 (t131, ()) w18)
           (J5 (x17.1, ()) w18))
          (J5 (x17.1, ()) (tick w17)))
         (x12.2.1, ()) w13))
       (fun J4 =>
        LOOP (X := Value × Unit) (fun x19 w19 next19 =>
         pureK Try.prog (sBin .leq T_int (.tmp 99) (.tmp 100) x19.1 x12.2.1) fun t101 =>
         ifB t101
         (pureK Try.prog (sIdxAddr T_s_int data0 x19.1) fun t105 =>
          readK Try.prog (sLoad T_int t105) (tick w19) fun t106 =>
          pureK Try.prog (sIdxAddr T_s_int data0 a1) fun t109 =>
          readK Try.prog (sLoad T_int t109) (tick w19) fun t110 =>
          upK Try.prog (sCall F_cmp_Less_int #[t106, t110]) (tick w19) fun t111 w20 =>
          ifB t111
          (pureK Try.prog (sBin .add T_int (.tmp 113) (.const (.int .i64 1)) x19.1 (.int .i64 1)) fun t114 =>
           next19 (t114, ()) w20)
          (J4 (x19.1, ()) w20))
         (J4 (x19.1, ()) (tick w19)))
        (x12.1, ()) w12))
      (t96, t98, ()) w8)))
   (fun J2 =>
    LOOP (X := Value × Unit) (fun x21 w21 next21 =>
     pureK Try.prog (sBin .leq T_int (.tmp 46) (.tmp 47) y1.1 x21.1) fun t48 =>
     ifB t48
     (pureK Try.prog (sIdxAddr T_s_int data0 x21.1) fun t52 =>
      readK Try.prog (sLoad T_int t52) (tick w21) fun t53 =>
      pureK Try.prog (sIdxAddr T_s_int data0 a1) fun t56 =>
      readK Try.prog (sLoad T_int t56) (tick w21) fun t57 =>
      upK Try.prog (sCall F_cmp_Less_int #[t53, t57]) (tick w21) fun t58 w22 =>
      pureK Try.prog (sUn .not t58) fun t59 =>
      ifB t59
      (pureK Try.prog (sBin .sub T_int (.tmp 61) (.const (.int .i64 1)) x21.1 (.int .i64 1)) fun t62 =>
       next21 (t62, ()) w22)
      (J2 (x21.1, ()) w22))
     (J2 (x21.1, ()) (tick w21)))
    (t29, ()) w3))
  (fun J1 =>
   LOOP (X := Value × Unit) (fun x23 w23 next23 =>
    pureK Try.prog (sBin .leq T_int (.tmp 30) (.tmp 31) x23.1 t29) fun t32 =>
    ifB t32
    (pureK Try.prog (sIdxAddr T_s_int data0 x23.1) fun t36 =>
     readK Try.prog (sLoad T_int t36) (tick w23) fun t37 =>
     pureK Try.prog (sIdxAddr T_s_int data0 a1) fun t40 =>
     readK Try.prog (sLoad T_int t40) (tick w23) fun t41 =>
     upK Try.prog (sCall F_cmp_Less_int #[t37, t41]) (tick w23) fun t42 w24 =>
     ifB t42
     (pureK Try.prog (sBin .add T_int (.tmp 44) (.const (.int .i64 1)) x23.1 (.int .i64 1)) fun t45 =>
      next23 (t45, ()) w24)
     (J1 (x23.1, ()) w24))
    (J1 (x23.1, ()) (tick w23)))
   (t27, ()) w2)
theorem slices_partitionOrdered_int.pt_eq : slices_partitionOrdered_int.pt = fun data0 a1 b2 pivot3 w K => FN Try.prog Try.f51 (bodyOf Try.f51) [] (.node none .leaf (.node none .leaf (.node none .leaf (.node (some [10]) .leaf (.node (some [11]) .leaf (.node none .leaf (.node none .leaf (.node none .leaf (.node none .leaf (.node (some [11]) (.node none (.node none (.node none (.node (some [10]) .leaf (.node (some [11]) .leaf .leaf)) .leaf) .leaf) .leaf) .leaf)))))))))) [data0, a1, b2, pivot3] w K := by kernel_rfl
theorem slices_partitionOrdered_int.call {data0 a1 b2 pivot3 : Value} {w : World} {K : Value → World → Prop} (h : slices_partitionOrdered_int.pt data0 a1 b2 pivot3 w K) : Calls Try.prog F_slices_partitionOrdered_int #[data0, a1, b2, pivot3] w (retK K) :=
  calls_FN (args := [data0, a1, b2, pivot3]) Try.func51 (by kernel_rfl) (by rw [slices_partitionOrdered_int.pt_eq] at h; exact h)
theorem slices_partitionOrdered_int.up {data0 a1 b2 pivot3 : Value} {w : World} {K : Value → World → Prop} (h : Calls Try.prog F_slices_partitionOrdered_int #[data0, a1, b2, pivot3] w (retK K)) : upK Try.prog (sCall F_slices_partitionOrdered_int #[data0, a1, b2, pivot3]) w K :=
  up_call (fn := Try.f51) Try.func51 (by kernel_rfl) (by kernel_rfl) h

/-- math/bits.Len32 -/
def math_bits_Len32.pt (x0 : Value) (w : World) (K : Value → World → Prop) : Prop :=
  LETJ (X := Value × Value × Unit) (fun y1 w1 =>
   LETJ (X := Value × Value × Unit) (fun y2 w2 =>
    upK Try.prog (sConv T_uint32 T_uint8 y2.1) w2 fun t15 w3 =>
    pureK Try.prog (sIdx T_string (.string ⟨#[0, 1, 2, 2, 3, 3, 3, 3, 4, 4, 4, 4, 4, 4, 4, 4, 5, 5, 5, 5, 5, 5, 5, 5, 5, 5, 5, 5, 5, 5, 5, 5, 6, 6, 6, 6, 6, 6, 6, 6, 6, 6, 6, 6, 6, 6, 6, 6, 6, 6, 6, 6, 6, 6, 6, 6, 6, 6, 6, 6, 6, 6, 6, 6, 7, 7, 7, 7, 7, 7, 7, 7, 7, 7, 7, 7, 7, 7, 7, 7, 7, 7, 7, 7, 7, 7, 7, 7, 7, 7, 7, 7, 7, 7, 7, 7, 7, 7, 7, 7, 7, 7, 7, 7, 7, 7, 7, 7, 7, 7, 7, 7, 7, 7, 7, 7, 7, 7, 7, 7, 7, 7, 7, 7, 7, 7, 7, 7, 8, 8, 8, 8, 8, 8, 8, 8, 8, 8, 8, 8, 8, 8, 8, 8, 8, 8, 8, 8, 8, 8, 8, 8, 8, 8, 8, 8, 8, 8, 8, 8, 8, 8, 8, 8, 8, 8, 8, 8, 8, 8, 8, 8, 8, 8, 8, 8, 8, 8, 8, 8, 8, 8, 8, 8, 8, 8, 8, 8, 8, 8, 8, 8, 8, 8, 8, 8, 8, 8, 8, 8, 8, 8, 8, 8, 8, 8, 8, 8, 8, 8, 8, 8, 8, 8, 8, 8, 8, 8, 8, 8, 8, 8, 8, 8, 8, 8, 8, 8, 8, 8, 8, 8, 8, 8, 8, 8, 8, 8, 8, 8, 8, 8, 8, 8, 8, 8, 8, 8, 8, 8, 8, 8, 8, 8, 8, 8]⟩) t15) fun t16 =>
    upK Try.prog (sConv T_uint8 T_int t16) w3 fun t17 w4 =>
    pureK Try.prog (sBin .add T_int (.tmp 13) (.tmp 17) y2.2.1 t17) fun t18 =>
    K t18 w4)
   (fun J2 =>
    pureK Try.prog (sBin .geq T_uint32 (.tmp 7) (.const (.int .u32 256)) y1.1 (.int .u32 256)) fun t8 =>
    ifB t8
    (pureK Try.prog (sBin .shr T_uint32 (.tmp 9) (.const (.int .u64 8)) y1.1 (.int .u64 8)) fun t10 =>
     pureK Try.prog (sBin .add T_int (.tmp 11) (.const (.int .i64 8)) y1.2.1 (.int .i64 8)) fun t12 =>
     J2 (t10, t12, ()) w1)
    (J2 (y1.1, y1.2.1, ()) w1)))
  (fun J1 =>
   pureK Try.prog (sBin .geq T_uint32 (.tmp 3) (.const (.int .u32 65536)) x0 (.int .u32 65536)) fun t4 =>
   ifB t4
   (pureK Try.prog (sBin .shr T_uint32 (.tmp 5) (.const (.int .u64 16)) x0 (.int .u64 16)) fun t6 =>
    J1 (t6, (.int .i64 16), ()) w)
   (J1 (x0, (.int .i64 0), ()) w))
theorem math_bits_Len32.pt_eq : math_bits_Len32.pt = fun x0 w K => FN Try.prog Try.f52 (bodyOf Try.f52) [] (.node none .leaf (.node (some [0, 2]) .leaf (.node (some [0, 2]) .leaf .leaf))) [x0] w K := by kernel_rfl
theorem math_bits_Len32.call {x0 : Value} {w : World} {K : Value → World → Prop} (h : math_bits_Len32.pt x0 w K) : Calls Try.prog F_math_bits_Len32 #[x0] w (retK K) :=
  calls_FN (args := [x0]) Try.func52 (by kernel_rfl) (by rw [math_bits_Len32.pt_eq] at h; exact h)
theorem math_bits_Len32.up {x0 : Value} {w : World} {K : Value → World → Prop} (h : Calls Try.prog F_math_bits_Len32 #[x0] w (retK K)) : upK Try.prog (sCall F_math_bits_Len32 #[x0]) w K :=
  up_call (fn := Try.f52) Try.func52 (by kernel_rfl) (by kernel_rfl) h

/-- math/bits.Len64 -/
def math_bits_Len64.pt (x0 : Value) (w : World) (K : Value → World → Prop) : Prop :=
  LETJ (X := Value × Value × Unit) (fun y1 w1 =>
   LETJ (X := Value × Value × Unit) (fun y2 w2 =>
    LETJ (X := Value × Value × Unit) (fun y3 w3 =>
     upK Try.prog (sConv T_uint64 T_uint8 y3.1) w3 fun t21 w4 =>
     pureK Try.prog (sIdx T_string (.string ⟨#[0, 1, 2, 2, 3, 3, 3, 3, 4, 4, 4, 4, 4, 4, 4, 4, 5, 5, 5, 5, 5, 5, 5, 5, 5, 5, 5, 5, 5, 5, 5, 5, 6, 6, 6, 6, 6, 6, 6, 6, 6, 6, 6, 6, 6, 6, 6, 6, 6, 6, 6, 6, 6, 6, 6, 6, 6, 6, 6, 6, 6, 6, 6, 6, 7, 7, 7, 7, 7, 7, 7, 7, 7, 7, 7, 7, 7, 7, 7, 7, 7, 7, 7, 7, 7, 7, 7, 7, 7, 7, 7, 7, 7, 7, 7, 7, 7, 7, 7, 7, 7, 7, 7, 7, 7, 7, 7, 7, 7, 7, 7, 7, 7, 7, 7, 7, 7, 7, 7, 7, 7, 7, 7, 7, 7, 7, 7, 7, 8, 8, 8, 8, 8, 8, 8, 8, 8, 8, 8, 8, 8, 8, 8, 8, 8, 8, 8, 8, 8, 8, 8, 8, 8, 8, 8, 8, 8, 8, 8, 8, 8, 8, 8, 8, 8, 8, 8, 8, 8, 8, 8, 8, 8, 8, 8, 8, 8, 8, 8, 8, 8, 8, 8, 8, 8, 8, 8, 8, 8, 8, 8, 8, 8, 8, 8, 8, 8, 8, 8, 8, 8, 8, 8, 8, 8, 8, 8, 8, 8, 8, 8, 8, 8, 8, 8, 8, 8, 8, 8, 8, 8, 8, 8, 8, 8, 8, 8, 8, 8, 8, 8, 8, 8, 8, 8, 8, 8, 8, 8, 8, 8, 8, 8, 8, 8, 8, 8, 8, 8, 8, 8, 8, 8, 8, 8, 8]⟩) t21) fun t22 =>
     upK Try.prog (sConv T_uint8 T_int t22) w4 fun t23 w5 =>
     pureK Try.prog (sBin .add T_int (.tmp 19) (.tmp 23) y3.2.1 t23) fun t24 =>
     K t24 w5)
    (fun J3 =>
     pureK Try.prog (sBin .geq T_uint64 (.tmp 13) (.const (.int .u64 256)) y2.1 (.int .u64 256)) fun t14 =>
     ifB t14
     (pureK Try.prog (sBin .shr T_uint64 (.tmp 15) (.const (.int .u64 8)) y2.1 (.int .u64 8)) fun t16 =>
      pureK Try.prog (sBin .add T_int (.tmp 17) (.const (.int .i64 8)) y2.2.1 (.int .i64 8)) fun t18 =>
      J3 (t16, t18, ()) w2)
     (J3 (y2.1, y2.2.1, ()) w2)))
   (fun J2 =>
    pureK Try.prog (sBin .geq T_uint64 (.tmp 7) (.const (.int .u64 65536)) y1.1 (.int .u64 65536)) fun t8 =>
    ifB t8
    (pureK Try.prog (sBin .shr T_uint64 (.tmp 9) (.const (.int .u64 16)) y1.1 (.int .u64 16)) fun t10 =>
     pureK Try.prog (sBin .add T_int (.tmp 11) (.const (.int .i64 16)) y1.2.1 (.int .i64 16)) fun t12 =>
     J2 (t10, t12, ()) w1)
    (J2 (y1.1, y1.2.1, ()) w1)))
  (fun J1 =>
   pureK Try.prog (sBin .geq T_uint64 (.tmp 3) (.const (.int .u64 4294967296)) x0 (.int .u64 4294967296)) fun t4 =>
   ifB t4
   (pureK Try.prog (sBin .shr T_uint64 (.tmp 5) (.const (.int .u64 32)) x0 (.int .u64 32)) fun t6 =>
    J1 (t6, (.int .i64 32), ()) w)
   (J1 (x0, (.int .i64 0), ()) w))
theorem math_bits_Len64.pt_eq : math_bits_Len64.pt = fun x0 w K => FN Try.prog Try.f53 (bodyOf Try.f53) [] (.node none .leaf (.node (some [0, 2]) .leaf (.node (some [0, 2]) .leaf (.node (some [0, 2]) .leaf .leaf)))) [x0] w K := by kernel_rfl
theorem math_bits_Len64.call {x0 : Value} {w : World} {K : Value → World → Prop} (h : math_bits_Len64.pt x0 w K) : Calls Try.prog F_math_bits_Len64 #[x0] w (retK K) :=
  calls_FN (args := [x0]) Try.func53 (by kernel_rfl) (by rw [math_bits_Len64.pt_eq] at h; exact h)
theorem math_bits_Len64.up {x0 : Value} {w : World} {K : Value → World → Prop} (h : Calls Try.prog F_math_bits_Len64 #[x0] w (retK K)) : upK Try.prog (sCall F_math_bits_Len64 #[x0]) w K :=
  up_call (fn := Try.f53) Try.func53 (by kernel_rfl) (by kernel_rfl) h

/-- slices.siftDownOrdered[int] -/
def slices_siftDownOrdered_int.pt (data0 lo1 hi2 first3 : Value) (w : World) (K : Value → World → Prop) : Prop :=
  LOOP (X := Value × Unit) (fun x1 w1 next1 =>
   pureK Try.prog (sBin .mul T_int (.const (.int .i64 2)) (.tmp 11) (.int .i64 2) x1.1) fun t12 =>
   pureK Try.prog (sBin .add T_int (.tmp 12) (.const (.int .i64 1)) t12 (.int .i64 1)) fun t13 =>
   pureK Try.prog (sBin .geq T_int (.tmp 14) (.tmp 15) t13 hi2) fun t16 =>
   ifB t16
   (K (.tuple #[]) w1)
   (LETJ (X := Value × Unit) (fun y1 w2 =>
     pureK Try.prog (sBin .add T_int (.tmp 40) (.tmp 41) first3 x1.1) fun t42 =>
     pureK Try.prog (sIdxAddr T_s_int data0 t42) fun t43 =>
     readK Try.prog (sLoad T_int t43) (tick w2) fun t44 =>
     pureK Try.prog (sBin .add T_int (.tmp 46) (.tmp 47) first3 y1.1) fun t48 =>
     pureK Try.prog (sIdxAddr T_s_int data0 t48) fun t49 =>
     readK Try.prog (sLoad T_int t49) (tick w2) fun t50 =>
     upK Try.prog (sCall F_cmp_Less_int #[t44, t50]) (tick w2) fun t51 w3 =>
     pureK Try.prog (sUn .not t51) fun t52 =>
     ifB t52
     (K (.tuple #[]) w3)
     (pureK Try.prog (sBin .add T_int (.tmp 54) (.tmp 55) first3 x1.1) fun t56 =>
      pureK Try.prog (sBin .add T_int (.tmp 58) (.tmp 59) first3 y1.1) fun t60 =>
      pureK Try.prog (sBin .add T_int (.tmp 62) (.tmp 63) first3 y1.1) fun t64 =>
      pureK Try.prog (sIdxAddr T_s_int data0 t64) fun t65 =>
      readK Try.prog (sLoad T_int t65) (tick w3) fun t66 =>
      pureK Try.prog (sBin .add T_int (.tmp 68) (.tmp 69) first3 x1.1) fun t70 =>
      pureK Try.prog (sIdxAddr T_s_int data0 t70) fun t71 =>
      readK Try.prog (sLoad T_int t71) (tick w3) fun t72 =>
      pureK Try.prog (sIdxAddr T_s_int data0 t56) fun t73 =>
      upK Try.prog (sStore T_int t73 t66) (tick w3) fun tu w4 =>
      pureK Try.prog (sIdxAddr T_s_int data0 t60) fun t74 =>
      upK Try.prog (sStore T_int t74 t72) w4 fun tu_1 w5 =>
      next1 (y1.1, ()) w5))
    (fun J1 =>
     pureK Try.prog (sBin .add T_int (.tmp 17) (.const (.int .i64 1)) t13 (.int .i64 1)) fun t18 =>
     pureK Try.prog (sBin .lss T_int (.tmp 18) (.tmp 19) t18 hi2) fun t20 =>
     ifB t20
     (pureK Try.prog (sBin .add T_int (.tmp 23) (.tmp 24) first3 t13) fun t25 =>
      pureK Try.prog (sIdxAddr T_s_int data0 t25) fun t26 =>
      readK Try.prog (sLoad T_int t26) (tick w1) fun t27 =>
      pureK Try.prog (sBin .add T_int (.tmp 29) (.tmp 30) first3 t13) fun t31 =>
      pureK Try.prog (sBin .add T_int (.tmp 31) (.const (.int .i64 1)) t31 (.int .i64 1)) fun t32 =>
      pureK Try.prog (sIdxAddr T_s_int data0 t32) fun t33 =>
      readK Try.prog (sLoad T_int t33) (tick w1) fun t34 =>
      upK Try.prog (sCall F_cmp_Less_int #[t27, t34]) (tick w1) fun t35 w6 =>
      ifB t35
      (pureK Try.prog (sBin .add T_int (.tmp 37) (.const (.int .i64 1)) t13 (.int .i64 1)) fun t38 =>
       J1 (t38, ()) w6)
      (J1 (t13, ()) w6))
     (J1 (t13, ()) (tick w1)))))
  (lo1, ()) w
theorem slices_siftDownOrdered_int.pt_eq : slices_siftDownOrdered_int.pt = fun data0 lo1 hi2 first3 w K => FN Try.prog Try.f54 (bodyOf Try.f54) [] (.node none .leaf (.node none (.node none (.node none (.node none .leaf (.node none .leaf (.node (some [9]) .leaf .leaf))) .leaf) .leaf) .leaf)) [data0, lo1, hi2, first3] w K := by kernel_rfl
theorem slices_siftDownOrdered_int.call {data0 lo1 hi2 first3 : Value} {w : World} {K : Value → World → Prop} (h : slices_siftDownOrdered_int.pt data0 lo1 hi2 first3 w K) : Calls Try.prog F_slices_siftDownOrdered_int #[data0, lo1, hi2, first3] w (retK K) :=
  calls_FN (args := [data0, lo1, hi2, first3]) Try.func54 (by kernel_rfl) (by rw [slices_siftDownOrdered_int.pt_eq] at h; exact h)
theorem slices_siftDownOrdered_int.up {data0 lo1 hi2 first3 : Value} {w : World} {K : Value → World → Prop} (h : Calls Try.prog F_slices_siftDownOrdered_int #[data0, lo1, hi2, first3] w (retK K)) : upK Try.prog (sCall F_slices_siftDownOrdered_int #[data0, lo1, hi2, first3]) w K :=
  up_call (fn := Try.f54) Try.func54 (by kernel_rfl) (by kernel_rfl) h

/-- slices.nextPowerOfTwo -/
def slices_nextPowerOfTwo.pt (length0 : Value) (w : World) (K : Value → World → Prop) : Prop :=
  upK Try.prog (sConv T_int T_uint length0) w fun t4 w1 =>
  upK Try.prog (sCall F_math_bits_Len #[t4]) w1 fun t5 w2 =>
  pureK Try.prog (sBin .shl T_uint (.const (.int .u64 1)) (.tmp 5) (.int .u64 1) t5) fun t6 =>
  K t6 w2
theorem slices_nextPowerOfTwo.pt_eq : slices_nextPowerOfTwo.pt = fun length0 w K => FN Try.prog Try.f55 (bodyOf Try.f55) [2] .leaf [length0] w K := by kernel_rfl
theorem slices_nextPowerOfTwo.call {length0 : Value} {w : World} {K : Value → World → Prop} (h : slices_nextPowerOfTwo.pt length0 w K) : Calls Try.prog F_slices_nextPowerOfTwo #[length0] w (retK K) :=
  calls_FN (args := [length0]) Try.func55 (by kernel_rfl) (by rw [slices_nextPowerOfTwo.pt_eq] at h; exact h)
theorem slices_nextPowerOfTwo.up {length0 : Value} {w : World} {K : Value → World → Prop} (h : Calls Try.prog F_slices_nextPowerOfTwo #[length0] w (retK K)) : upK Try.prog (sCall F_slices_nextPowerOfTwo #[length0]) w K :=
  up_call (fn := Try.f55) Try.func55 (by kernel_rfl) (by kernel_rfl) h

/-- (*slices.xorshift).Next -/
def slices_xorshift_Next.pt (r0 : Value) (w : World) (K : Value → World → Prop) : Prop :=
  pureK Try.prog (sNil r0) fun t4 =>
  readK Try.prog (sLoad T_slices_xorshift t4) (tick w) fun t5 =>
  pureK Try.prog (sNil r0) fun t7 =>
  readK Try.prog (sLoad T_slices_xorshift t7) (tick w) fun t8 =>
  pureK Try.prog (sBin .shl T_slices_xorshift (.tmp 8) (.const (.int .u64 13)) t8 (.int .u64 13)) fun t9 =>
  pureK Try.prog (sBin .xor T_slices_xorshift (.tmp 5) (.tmp 9) t5 t9) fun t10 =>
  pureK Try.prog (sNil r0) fun t11 =>
  upK Try.prog (sStore T_slices_xorshift t11 t10) (tick w) fun tu w1 =>
  pureK Try.prog (sNil r0) fun t13 =>
  readK Try.prog (sLoad T_slices_xorshift t13) (tick w1) fun t14 =>
  pureK Try.prog (sNil r0) fun t16 =>
  readK Try.prog (sLoad T_slices_xorshift t16) (tick w1) fun t17 =>
  pureK Try.prog (sBin .shr T_slices_xorshift (.tmp 17) (.const (.int .u64 7)) t17 (.int .u64 7)) fun t18 =>
  pureK Try.prog (sBin .xor T_slices_xorshift (.tmp 14) (.tmp 18) t14 t18) fun t19 =>
  pureK Try.prog (sNil r0) fun t20 =>
  upK Try.prog (sStore T_slices_xorshift t20 t19) (tick w1) fun tu_1 w2 =>
  pureK Try.prog (sNil r0) fun t22 =>
  readK Try.prog (sLoad T_slices_xorshift t22) (tick w2) fun t23 =>
  pureK Try.prog (sNil r0) fun t25 =>
  readK Try.prog (sLoad T_slices_xorshift t25) (tick w2) fun t26 =>
  pureK Try.prog (sBin .shl T_slices_xorshift (.tmp 26) (.const (.int .u64 17)) t26 (.int .u64 17)) fun t27 =>
  pureK Try.prog (sBin .xor T_slices_xorshift (.tmp 23) (.tmp 27) t23 t27) fun t28 =>
  pureK Try.prog (sNil r0) fun t29 =>
  upK Try.prog (sStore T_slices_xorshift t29 t28) (tick w2) fun tu_2 w3 =>
  pureK Try.prog (sNil r0) fun t31 =>
  readK Try.prog (sLoad T_slices_xorshift t31) w3 fun t32 =>
  K t32 w3
theorem slices_xorshift_Next.pt_eq : slices_xorshift_Next.pt = fun r0 w K => FN Try.prog Try.f56 (bodyOf Try.f56) [2] .leaf [r0] w K := by kernel_rfl
theorem slices_xorshift_Next.call {r0 : Value} {w : World} {K : Value → World → Prop} (h : slices_xorshift_Next.pt r0 w K) : Calls Try.prog F_slices_xorshift_Next #[r0] w (retK K) :=
  calls_FN (args := [r0]) Try.func56 (by kernel_rfl) (by rw [slices_xorshift_Next.pt_eq] at h; exact h)
theorem slices_xorshift_Next.up {r0 : Value} {w : World} {K : Value → World → Prop} (h : Calls Try.prog F_slices_xorshift_Next #[r0] w (retK K)) : upK Try.prog (sCall F_slices_xorshift_Next #[r0]) w K :=
  up_call (fn := Try.f56) Try.func56 (by kernel_rfl) (by kernel_rfl) h

/-- slices.medianAdjacentOrdered[int] -/
def slices_medianAdjacentOrdered_int.pt (data0 a1 swaps2 : Value) (w : World) (K : Value → World → Prop) : Prop :=
  pureK Try.prog (sBin .sub T_int (.tmp 8) (.const (.int .i64 1)) a1 (.int .i64 1)) fun t9 =>
  pureK Try.prog (sBin .add T_int (.tmp 11) (.const (.int .i64 1)) a1 (.int .i64 1)) fun t12 =>
  upK Try.prog (sCall F_slices_medianOrdered_int #[data0, t9, a1, t12, swaps2]) w fun t14 w1 =>
  K t14 w1
theorem slices_medianAdjacentOrdered_int.pt_eq : slices_medianAdjacentOrdered_int.pt = fun data0 a1 swaps2 w K => FN Try.prog Try.f57 (bodyOf Try.f57) [6] .leaf [data0, a1, swaps2] w K := by kernel_rfl
theorem slices_medianAdjacentOrdered_int.call {data0 a1 swaps2 : Value} {w : World} {K : Value → World → Prop} (h : slices_medianAdjacentOrdered_int.pt data0 a1 swaps2 w K) : Calls Try.prog F_slices_medianAdjacentOrdered_int #[data0, a1, swaps2] w (retK K) :=
  calls_FN (args := [data0, a1, swaps2]) Try.func57 (by kernel_rfl) (by rw [slices_medianAdjacentOrdered_int.pt_eq] at h; exact h)
theorem slices_medianAdjacentOrdered_int.up {data0 a1 swaps2 : Value} {w : World} {K : Value → World → Prop} (h : Calls Try.prog F_slices_medianAdjacentOrdered_int #[data0, a1, swaps2] w (retK K)) : upK Try.prog (sCall F_slices_medianAdjacentOrdered_int #[data0, a1, swaps2]) w K :=
  up_call (fn := Try.f57) Try.func57 (by kernel_rfl) (by kernel_rfl) h

/-- slices.medianOrdered[int] -/
def slices_medianOrdered_int.pt (data0 a1 b2 c3 swaps4 : Value) (w : World) (K : Value → World → Prop) : Prop :=
  upK Try.prog (sCall F_slices_order2Ordered_int #[data0, a1, b2, swaps4]) w fun t16 w1 =>
  pureK Try.prog (sExtract t16 0) fun t17 =>
  pureK Try.prog (sExtract t16 1) fun t18 =>
  upK Try.prog (sCall F_slices_order2Ordered_int #[data0, t18, c3, swaps4]) w1 fun t24 w2 =>
  pureK Try.prog (sExtract t24 0) fun t25 =>
  pureK Try.prog (sExtract t24 1) fun t26 =>
  upK Try.prog (sCall F_slices_order2Ordered_int #[data0, t17, t25, swaps4]) w2 fun t32 w3 =>
  pureK Try.prog (sExtract t32 0) fun t33 =>
  pureK Try.prog (sExtract t32 1) fun t34 =>
  K t34 w3
theorem slices_medianOrdered_int.pt_eq : slices_medianOrdered_int.pt = fun data0 a1 b2 c3 swaps4 w K => FN Try.prog Try.f58 (bodyOf Try.f58) [10] .leaf [data0, a1, b2, c3, swaps4] w K := by kernel_rfl
theorem slices_medianOrdered_int.call {data0 a1 b2 c3 swaps4 : Value} {w : World} {K : Value → World → Prop} (h : slices_medianOrdered_int.pt data0 a1 b2 c3 swaps4 w K) : Calls Try.prog F_slices_medianOrdered_int #[data0, a1, b2, c3, swaps4] w (retK K) :=
  calls_FN (args := [data0, a1, b2, c3, swaps4]) Try.func58 (by kernel_rfl) (by rw [slices_medianOrdered_int.pt_eq] at h; exact h)
theorem slices_medianOrdered_int.up {data0 a1 b2 c3 swaps4 : Value} {w : World} {K : Value → World → Prop} (h : Calls Try.prog F_slices_medianOrdered_int #[data0, a1, b2, c3, swaps4] w (retK K)) : upK Try.prog (sCall F_slices_medianOrdered_int #[data0, a1, b2, c3, swaps4]) w K :=
  up_call (fn := Try.f58) Try.func58 (by kernel_rfl) (by kernel_rfl) h

/-- cmp.isNaN[int] -/
def cmp_isNaN_int.pt (x0 : Value) (w : World) (K : Value → World → Prop) : Prop :=
  pureK Try.prog (sBin .neq T_int (.tmp 3) (.tmp 4) x0 x0) fun t5 =>
  K t5 w
theorem cmp_isNaN_int.pt_eq : cmp_isNaN_int.pt = fun x0 w K => FN Try.prog Try.f59 (bodyOf Try.f59) [2] .leaf [x0] w K := by kernel_rfl
theorem cmp_isNaN_int.call {x0 : Value} {w : World} {K : Value → World → Prop} (h : cmp_isNaN_int.pt x0 w K) : Calls Try.prog F_cmp_isNaN_int #[x0] w (retK K) :=
  calls_FN (args := [x0]) Try.func59 (by kernel_rfl) (by rw [cmp_isNaN_int.pt_eq] at h; exact h)
theorem cmp_isNaN_int.up {x0 : Value} {w : World} {K : Value → World → Prop} (h : Calls Try.prog F_cmp_isNaN_int #[x0] w (retK K)) : upK Try.prog (sCall F_cmp_isNaN_int #[x0]) w K :=
  up_call (fn := Try.f59) Try.func59 (by kernel_rfl) (by kernel_rfl) h

/-- slices.order2Ordered[int] -/
def slices_order2Ordered_int.pt (data0 a1 b2 swaps3 : Value) (w : World) (K : Value → World → Prop) : Prop :=
  pureK Try.prog (sIdxAddr T_s_int data0 b2) fun t12 =>
  readK Try.prog (sLoad T_int t12) (tick w) fun t13 =>
  pureK Try.prog (sIdxAddr T_s_int data0 a1) fun t16 =>
  readK Try.prog (sLoad T_int t16) (tick w) fun t17 =>
  upK Try.prog (sCall F_cmp_Less_int #[t13, t17]) (tick w) fun t18 w1 =>
  ifB t18
  (pureK Try.prog (sNil swaps3) fun t20 =>
   readK Try.prog (sLoad T_int t20) w1 fun t21 =>
   pureK Try.prog (sBin .add T_int (.tmp 21) (.const (.int .i64 1)) t21 (.int .i64 1)) fun t22 =>
   pureK Try.prog (sNil swaps3) fun t23 =>
   upK Try.prog (sStore T_int t23 t22) w1 fun tu w2 =>
   K (.tuple #[b2, a1]) w2)
  (K (.tuple #[a1, b2]) w1)
theorem slices_order2Ordered_int.pt_eq : slices_order2Ordered_int.pt = fun data0 a1 b2 swaps3 w K => FN Try.prog Try.f60 (bodyOf Try.f60) [8, 9] .leaf [data0, a1, b2, swaps3] w K := by kernel_rfl
theorem slices_order2Ordered_int.call {data0 a1 b2 swaps3 : Value} {w : World} {K : Value → World → Prop} (h : slices_order2Ordered_int.pt data0 a1 b2 swaps3 w K) : Calls Try.prog F_slices_order2Ordered_int #[data0, a1, b2, swaps3] w (retK K) :=
  calls_FN (args := [data0, a1, b2, swaps3]) Try.func60 (by kernel_rfl) (by rw [slices_order2Ordered_int.pt_eq] at h; exact h)
theorem slices_order2Ordered_int.up {data0 a1 b2 swaps3 : Value} {w : World} {K : Value → World → Prop} (h : Calls Try.prog F_slices_order2Ordered_int #[data0, a1, b2, swaps3] w (retK K)) : upK Try.prog (sCall F_slices_order2Ordered_int #[data0, a1, b2, swaps3]) w K :=
  up_call (fn := Try.f60) Try.func60 (by kernel_rfl) (by kernel_rfl) h

end Go.Proofs.Ytmpnniicmmekmaa
