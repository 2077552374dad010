/-
  The reckoned conditions of the functions that this seat's statements reach, printed by program, each held against the translation by the kernel. No condition.
-/
import Derived.Test.YtmllhipiahlihaaGreatDoorNames
namespace Go.Proofs.YtmllhipiahlihaaGreatDoor
set_option linter.unusedVariables false
set_option maxRecDepth 100000

/-- errata/erratalaw12.RetainTells -/
def erratalaw12_RetainTells.pt (part0 l1 from2 most3 time4 : Value) (w : World) (K : Value → World → Prop) : Prop :=
  upK Tryz.prog (sCall F_erratalaw12_small #[]) w fun t16 w1 =>
  upK Tryz.prog (sCall F_erratalaw12_few #[l1]) w1 fun t18 w2 =>
  pureK Tryz.prog (sUn .not t18) fun t19 =>
  ifB t19
  (K t16 w2)
  (upK Tryz.prog (sCall F_retain_New #[part0]) w2 fun t22 w3 =>
   upK Tryz.prog (sCall F_errataref12_New #[part0]) w3 fun t24 w4 =>
   LOOP (X := Value × Value × Value × Unit) (fun lv5 w5 next5 =>
    readK Tryz.prog (sBlt .len #[T_s_erratalaw12_Op] T_int #[false] #[l1]) w5 fun t27 =>
    pureK Tryz.prog (sBin .lss T_int (.tmp 25) (.tmp 27) lv5.2.2.1 t27) fun t28 =>
    ifB t28
    (LETJ (X := Value × Unit) (fun jv1 w6 =>
      ifB jv1.1
      (K (.bool false) w6)
      (pureK Tryz.prog (sIdxAddr T_s_erratalaw12_Op l1 lv5.2.2.1) fun t39 =>
       readK Tryz.prog (sLoad T_erratalaw12_Op t39) w6 fun t40 =>
       upK Tryz.prog (sAlloc T_erratalaw12_Op) w6 fun o15 w7 =>
       upK Tryz.prog (sStore T_erratalaw12_Op o15 t40) w7 fun tu w8 =>
       LETJ (X := Unit) (fun jv2 w9 =>
        LETJ (X := Value × Value × Unit) (fun jv3 w10 =>
         LETJ (X := Value × Unit) (fun jv4 w11 =>
          ifB jv4.1
          (K (.bool false) w11)
          (pureK Tryz.prog (sBin .add T_int (.tmp 29) (.const (.int .i64 1)) lv5.2.2.1 (.int .i64 1)) fun t30 =>
           next5 (jv3.1, jv3.2.1, t30, ()) w11))
         (fun J4 =>
          upK Tryz.prog (sCall F_retain_Store_Part #[jv3.1]) (tick w10) fun t103 w12 =>
          pureK Tryz.prog (sBin .neq T_int (.tmp 103) (.tmp 104) t103 part0) fun t105 =>
          ifB t105
          (J4 ((.bool true), ()) w12)
          (pureK Tryz.prog (sNil jv3.2.1) fun t110 =>
           pureK Tryz.prog (sFieldAddr T_errataref12_Store t110 3) fun t111 =>
           readK Tryz.prog (sLoad T_int t111) w12 fun t112 =>
           upK Tryz.prog (sCall F_retain_Store_First #[jv3.1]) w12 fun t108 w13 =>
           Is Tryz.prog (sLoad T_int t111) t112 w13 ∧ pureK Tryz.prog (sBin .neq T_int (.tmp 108) (.tmp 112) t108 t112) fun t113 =>
           ifB t113
           (J4 ((.bool true), ()) w13)
           (upK Tryz.prog (sCall F_retain_Store_Next #[jv3.1]) w13 fun t117 w14 =>
            upK Tryz.prog (sCall F_errataref12_Store_Next #[jv3.2.1]) w14 fun t119 w15 =>
            pureK Tryz.prog (sBin .neq T_int (.tmp 117) (.tmp 119) t117 t119) fun t120 =>
            ifB t120
            (J4 ((.bool true), ()) w15)
            (upK Tryz.prog (sCall F_retain_Store_Horizon #[jv3.1]) w15 fun t124 w16 =>
             upK Tryz.prog (sCall F_errataref12_Store_Least #[jv3.2.1]) w16 fun t126 w17 =>
             pureK Tryz.prog (sBin .neq T_int (.tmp 124) (.tmp 126) t124 t126) fun t127 =>
             ifB t127
             (J4 ((.bool true), ()) w17)
             (upK Tryz.prog (sCall F_retain_Store_Bytes #[jv3.1]) w17 fun t131 w18 =>
              Is Tryz.prog (sLoad T_int t111) t112 w18 ∧ upK Tryz.prog (sCall F_errataref12_Store_Bytes #[jv3.2.1]) w18 fun t133 w19 =>
              Is Tryz.prog (sLoad T_int t111) t112 w19 ∧ pureK Tryz.prog (sBin .neq T_string (.tmp 131) (.tmp 133) t131 t133) fun t134 =>
              ifB t134
              (J4 ((.bool true), ()) w19)
              (upK Tryz.prog (sCall F_retain_Store_Slice #[jv3.1, from2, most3]) w19 fun t140 w20 =>
               Is Tryz.prog (sLoad T_int t111) t112 w20 ∧ upK Tryz.prog (sCall F_errataref12_Store_Slice #[jv3.2.1, from2, most3]) w20 fun t144 w21 =>
               Is Tryz.prog (sLoad T_int t111) t112 w21 ∧ upK Tryz.prog (sCall F_errataref12_Same #[t140, t144]) w21 fun t145 w22 =>
               Is Tryz.prog (sLoad T_int t111) t112 w22 ∧ pureK Tryz.prog (sUn .not t145) fun t146 =>
               ifB t146
               (J4 ((.bool true), ()) w22)
               (upK Tryz.prog (sCall F_retain_Store_From #[jv3.1, time4]) w22 fun t151 w23 =>
                Is Tryz.prog (sLoad T_int t111) t112 w23 ∧ upK Tryz.prog (sCall F_errataref12_Store_From #[jv3.2.1, time4]) w23 fun t154 w24 =>
                Is Tryz.prog (sLoad T_int t111) t112 w24 ∧ upK Tryz.prog (sCall F_errataref12_Same #[t151, t154]) w24 fun t155 w25 =>
                Is Tryz.prog (sLoad T_int t111) t112 w25 ∧ pureK Tryz.prog (sUn .not t155) fun t156 =>
                J4 (t156, ()) w25))))))))
        (fun J3 =>
         pureK Tryz.prog (sFieldAddr T_erratalaw12_Op o15 0) fun t47 =>
         readK Tryz.prog (sLoad T_int t47) w9 fun t48 =>
         upK Tryz.prog (sCall F_erratalaw12_pick #[t48, (.int .i64 5)]) w9 fun t49 w26 =>
         LETJ (X := Value × Unit) (fun jv5 w27 =>
          ifB jv5.1
          (pureK Tryz.prog (sFieldAddr T_erratalaw12_Op o15 1) fun t72 =>
           readK Tryz.prog (sLoad T_api_Event t72) (tick w27) fun t73 =>
           pureK Tryz.prog (sFieldAddr T_erratalaw12_Op o15 1) fun t76 =>
           readK Tryz.prog (sLoad T_api_Event t76) (tick w27) fun t77 =>
           upK Tryz.prog (sCall F_retain_Store_Add #[lv5.1, t73]) (tick w27) fun t74 w28 =>
           Is Tryz.prog (sLoad T_api_Event t76) t77 w28 ∧ upK Tryz.prog (sCall F_errataref12_Store_Add #[lv5.2.1, t77]) w28 fun t78 w29 =>
           pureK Tryz.prog (sBin .neq T_api_Errno (.tmp 74) (.tmp 78) t74 t78) fun t79 =>
           ifB t79
           (K (.bool false) w29)
           (J3 (lv5.1, lv5.2.1, ()) w29))
          (pureK Tryz.prog (sBin .eql T_int (.tmp 49) (.const (.int .i64 2)) t49 (.int .i64 2)) fun t81 =>
           ifB t81
           (pureK Tryz.prog (sFieldAddr T_erratalaw12_Op o15 3) fun t83 =>
            readK Tryz.prog (sLoad T_int t83) (tick w27) fun t84 =>
            pureK Tryz.prog (sFieldAddr T_erratalaw12_Op o15 3) fun t87 =>
            readK Tryz.prog (sLoad T_int t87) (tick w27) fun t88 =>
            upK Tryz.prog (sCall F_retain_Store_Drop #[lv5.1, t84]) (tick w27) fun t85 w30 =>
            Is Tryz.prog (sLoad T_int t87) t88 w30 ∧ upK Tryz.prog (sCall F_errataref12_Store_Drop #[lv5.2.1, t88]) w30 fun t89 w31 =>
            pureK Tryz.prog (sBin .neq T_int (.tmp 85) (.tmp 89) t85 t89) fun t90 =>
            ifB t90
            (K (.bool false) w31)
            (J3 (lv5.1, lv5.2.1, ()) w31))
           (pureK Tryz.prog (sBin .eql T_int (.tmp 49) (.const (.int .i64 3)) t49 (.int .i64 3)) fun t92 =>
            ifB t92
            (pureK Tryz.prog (sFieldAddr T_erratalaw12_Op o15 3) fun t94 =>
             readK Tryz.prog (sLoad T_int t94) (tick w27) fun t95 =>
             pureK Tryz.prog (sFieldAddr T_erratalaw12_Op o15 3) fun t98 =>
             readK Tryz.prog (sLoad T_int t98) (tick w27) fun t99 =>
             upK Tryz.prog (sCall F_retain_Store_Trim #[lv5.1, t95]) (tick w27) fun t96 w32 =>
             Is Tryz.prog (sLoad T_int t98) t99 w32 ∧ upK Tryz.prog (sCall F_errataref12_Store_Trim #[lv5.2.1, t99]) w32 fun t100 w33 =>
             pureK Tryz.prog (sBin .neq T_int (.tmp 96) (.tmp 100) t96 t100) fun t101 =>
             ifB t101
             (K (.bool false) w33)
             (J3 (lv5.1, lv5.2.1, ()) w33))
            (upK Tryz.prog (sCall F_retain_Store_Bytes #[lv5.1]) w27 fun t52 w34 =>
             upK Tryz.prog (sCall F_retain_Read #[t52]) w34 fun t53 w35 =>
             pureK Tryz.prog (sExtract t53 0) fun t54 =>
             pureK Tryz.prog (sExtract t53 1) fun t55 =>
             upK Tryz.prog (sCall F_errataref12_Store_Bytes #[lv5.2.1]) w35 fun t58 w36 =>
             upK Tryz.prog (sCall F_errataref12_Read #[t58]) w36 fun t59 w37 =>
             pureK Tryz.prog (sExtract t59 0) fun t60 =>
             pureK Tryz.prog (sExtract t59 1) fun t61 =>
             LETJ (X := Value × Unit) (fun jv6 w38 =>
              ifB jv6.1
              (K (.bool false) w38)
              (J3 (t54, t60, ()) w38))
             (fun J6 =>
              pureK Tryz.prog (sBin .eql T_p_retain_Store (.tmp 62) (.const (.pointer none)) t54 (.pointer none)) fun t63 =>
              ifB t63
              (J6 ((.bool true), ()) w37)
              (pureK Tryz.prog (sBin .eql T_p_errataref12_Store (.tmp 65) (.const (.pointer none)) t60 (.pointer none)) fun t66 =>
               J6 (t66, ()) w37))))))
         (fun J5 =>
          pureK Tryz.prog (sBin .eql T_int (.tmp 49) (.const (.int .i64 0)) t49 (.int .i64 0)) fun t69 =>
          ifB t69
          (J5 (t69, ()) w26)
          (pureK Tryz.prog (sBin .eql T_int (.tmp 49) (.const (.int .i64 1)) t49 (.int .i64 1)) fun t70 =>
           J5 (t70, ()) w26))))
       (fun J2 =>
        pureK Tryz.prog (sFieldAddr T_erratalaw12_Op o15 2) fun t41 =>
        readK Tryz.prog (sLoad T_bool t41) w8 fun t42 =>
        ifB t42
        (upK Tryz.prog (sCall F_errataref12_Store_Next #[lv5.2.1]) w8 fun t44 w39 =>
         pureK Tryz.prog (sFieldAddr T_erratalaw12_Op o15 1) fun t45 =>
         pureK Tryz.prog (sFieldAddr T_api_Event t45 1) fun t46 =>
         upK Tryz.prog (sStore T_int t46 t44) w39 fun tu_1 w40 =>
         J2 (()) w40)
        (J2 (()) w8))))
     (fun J1 =>
      pureK Tryz.prog (sBin .eql T_p_retain_Store (.tmp 31) (.const (.pointer none)) lv5.1 (.pointer none)) fun t32 =>
      ifB t32
      (J1 ((.bool true), ()) w5)
      (pureK Tryz.prog (sBin .eql T_p_errataref12_Store (.tmp 34) (.const (.pointer none)) lv5.2.1 (.pointer none)) fun t35 =>
       J1 (t35, ()) w5)))
    (K t16 w5))
   (t22, t24, (.int .i64 0), ()) w4)
theorem erratalaw12_RetainTells.pt_eq : erratalaw12_RetainTells.pt = fun part0 l1 from2 most3 time4 w K => FN Tryz.prog Tryz.f3 (bodyOf Tryz.f3) [10] (.node none .leaf (.node none .leaf (.node none .leaf (.node none .leaf (.node none .leaf (.node none (.node none .leaf (.node none (.node none (.node none .leaf (.node none (.node none (.node none (.node (some [36]) .leaf .leaf) (.node none .leaf (.node (some []) .leaf (.node (some [12, 13]) (.node none .leaf (.node none (.node (some [68]) .leaf (.node none .leaf (.node none .leaf (.node none .leaf (.node none .leaf (.node none .leaf (.node none .leaf (.node none .leaf (.node (some [67]) .leaf .leaf))))))))) .leaf)) (.node (some [157]) .leaf .leaf))))) .leaf) .leaf)) .leaf) .leaf)) .leaf)))))) [part0, l1, from2, most3, time4] w K := by kernel_rfl
theorem erratalaw12_RetainTells.call {part0 l1 from2 most3 time4 : Value} {w : World} {K : Value → World → Prop} (h : erratalaw12_RetainTells.pt part0 l1 from2 most3 time4 w K) : Calls Tryz.prog F_erratalaw12_RetainTells #[part0, l1, from2, most3, time4] w (retK K) :=
  calls_FN (args := [part0, l1, from2, most3, time4]) Tryz.func3 (by kernel_rfl) (by rw [erratalaw12_RetainTells.pt_eq] at h; exact h)
theorem erratalaw12_RetainTells.up {part0 l1 from2 most3 time4 : Value} {w : World} {K : Value → World → Prop} (h : Calls Tryz.prog F_erratalaw12_RetainTells #[part0, l1, from2, most3, time4] w (retK K)) : upK Tryz.prog (sCall F_erratalaw12_RetainTells #[part0, l1, from2, most3, time4]) w K :=
  up_call (fn := Tryz.f3) Tryz.func3 (by kernel_rfl) (by kernel_rfl) h

/-- errata/erratalaw12.small -/
def erratalaw12_small.pt (w : World) (K : Value → World → Prop) : Prop :=
  upK Tryz.prog (sCall F_retain_New #[(.int .i64 2)]) w fun t8 w1 =>
  pureK Tryz.prog (sBin .eql T_p_retain_Store (.tmp 9) (.const (.pointer none)) t8 (.pointer none)) fun t10 =>
  ifB t10
  (K (.bool false) w1)
  (upK Tryz.prog (sBuildSlice T_s_int 3 #[(0, (.int .i64 5)), (1, (.int .i64 9)), (2, (.int .i64 7))]) w1 fun t11 w2 =>
   LOOP (X := Value × Unit) (fun lv3 w3 next3 =>
    pureK Tryz.prog (sBin .lss T_int (.tmp 12) (.const (.int .i64 3)) lv3.1 (.int .i64 3)) fun t13 =>
    ifB t13
    (pureK Tryz.prog (sIdxAddr T_s_int t11 lv3.1) fun t20 =>
     readK Tryz.prog (sLoad T_int t20) w3 fun t21 =>
     pureK Tryz.prog (sBuild T_api_Event #[(0, (.int .i64 2)), (1, lv3.1), (2, (.string ⟨#[97]⟩)), (4, t21)]) fun t22 =>
     upK Tryz.prog (sCall F_retain_Store_Add #[t8, t22]) w3 fun t23 w4 =>
     pureK Tryz.prog (sBin .neq T_api_Errno (.tmp 23) (.const (.int .i64 0)) t23 (.int .i64 0)) fun t24 =>
     ifB t24
     (K (.bool false) w4)
     (pureK Tryz.prog (sBin .add T_int (.tmp 14) (.const (.int .i64 1)) lv3.1 (.int .i64 1)) fun t15 =>
      next3 (t15, ()) w4))
    (upK Tryz.prog (sCall F_retain_Store_Copy #[t8]) w3 fun t26 w5 =>
     pureK Tryz.prog (sBin .eql T_p_retain_Store (.tmp 27) (.const (.pointer none)) t26 (.pointer none)) fun t28 =>
     ifB t28
     (K (.bool false) w5)
     (upK Tryz.prog (sCall F_retain_Store_Next #[t8]) w5 fun t30 w6 =>
      pureK Tryz.prog (sBin .eql T_int (.tmp 30) (.const (.int .i64 3)) t30 (.int .i64 3)) fun t31 =>
      ifB t31
      (upK Tryz.prog (sCall F_retain_Store_Drop #[t8, (.int .i64 2)]) w6 fun t34 w7 =>
       pureK Tryz.prog (sBin .eql T_int (.tmp 34) (.const (.int .i64 2)) t34 (.int .i64 2)) fun t35 =>
       ifB t35
       (upK Tryz.prog (sCall F_retain_Store_First #[t8]) w7 fun t39 w8 =>
        pureK Tryz.prog (sBin .eql T_int (.tmp 39) (.const (.int .i64 2)) t39 (.int .i64 2)) fun t40 =>
        ifB t40
        (upK Tryz.prog (sCall F_retain_Store_Horizon #[t8]) w8 fun t44 w9 =>
         pureK Tryz.prog (sBin .eql T_int (.tmp 44) (.const (.int .i64 10)) t44 (.int .i64 10)) fun t45 =>
         upK Tryz.prog (sCall F_retain_Store_From #[t8, (.int .i64 0)]) w9 fun t48 w10 =>
         upK Tryz.prog (sCall F_retain_Store_Slice #[t8, (.int .i64 0), (.int .i64 9)]) w10 fun t50 w11 =>
         ifB t45
         (readK Tryz.prog (sBlt .len #[T_s_api_Event] T_int #[false] #[t48]) w11 fun t54 =>
          pureK Tryz.prog (sBin .eql T_int (.tmp 54) (.const (.int .i64 1)) t54 (.int .i64 1)) fun t55 =>
          ifB t55
          (readK Tryz.prog (sBlt .len #[T_s_api_Event] T_int #[false] #[t50]) w11 fun t59 =>
           pureK Tryz.prog (sBin .eql T_int (.tmp 59) (.const (.int .i64 1)) t59 (.int .i64 1)) fun t60 =>
           ifB t60
           (pureK Tryz.prog (sIdxAddr T_s_api_Event t48 (.int .i64 0)) fun t64 =>
            pureK Tryz.prog (sFieldAddr T_api_Event t64 1) fun t65 =>
            readK Tryz.prog (sLoad T_int t65) w11 fun t66 =>
            pureK Tryz.prog (sBin .eql T_int (.tmp 66) (.const (.int .i64 2)) t66 (.int .i64 2)) fun t67 =>
            ifB t67
            (pureK Tryz.prog (sIdxAddr T_s_api_Event t50 (.int .i64 0)) fun t71 =>
             pureK Tryz.prog (sFieldAddr T_api_Event t71 4) fun t72 =>
             readK Tryz.prog (sLoad T_int t72) w11 fun t73 =>
             pureK Tryz.prog (sBin .eql T_int (.tmp 73) (.const (.int .i64 7)) t73 (.int .i64 7)) fun t74 =>
             ifB t74
             (upK Tryz.prog (sCall F_retain_Store_Trim #[t26, (.int .i64 8)]) w11 fun t78 w12 =>
              pureK Tryz.prog (sBin .eql T_int (.tmp 78) (.const (.int .i64 1)) t78 (.int .i64 1)) fun t79 =>
              ifB t79
              (upK Tryz.prog (sCall F_retain_Store_Horizon #[t26]) w12 fun t83 w13 =>
               pureK Tryz.prog (sBin .eql T_int (.tmp 83) (.const (.int .i64 6)) t83 (.int .i64 6)) fun t84 =>
               ifB t84
               (upK Tryz.prog (sCall F_retain_Store_Part #[t26]) w13 fun t88 w14 =>
                pureK Tryz.prog (sBin .eql T_int (.tmp 88) (.const (.int .i64 2)) t88 (.int .i64 2)) fun t89 =>
                K t89 w14)
               (K (.bool false) w13))
              (K (.bool false) w12))
             (K (.bool false) w11))
            (K (.bool false) w11))
           (K (.bool false) w11))
          (K (.bool false) w11))
         (K (.bool false) w11))
        (upK Tryz.prog (sCall F_retain_Store_From #[t8, (.int .i64 0)]) w8 fun t48_1 w15 =>
         upK Tryz.prog (sCall F_retain_Store_Slice #[t8, (.int .i64 0), (.int .i64 9)]) w15 fun t50_1 w16 =>
         K (.bool false) w16))
       (upK Tryz.prog (sCall F_retain_Store_From #[t8, (.int .i64 0)]) w7 fun t48_2 w17 =>
        upK Tryz.prog (sCall F_retain_Store_Slice #[t8, (.int .i64 0), (.int .i64 9)]) w17 fun t50_2 w18 =>
        K (.bool false) w18))
      (upK Tryz.prog (sCall F_retain_Store_From #[t8, (.int .i64 0)]) w6 fun t48_3 w19 =>
       upK Tryz.prog (sCall F_retain_Store_Slice #[t8, (.int .i64 0), (.int .i64 9)]) w19 fun t50_3 w20 =>
       K (.bool false) w20))))
   ((.int .i64 0), ()) w2)
theorem erratalaw12_small.pt_eq : erratalaw12_small.pt = fun  w K => FN Tryz.prog Tryz.f4 (bodyOf Tryz.f4) [0] .leaf [] w K := by kernel_rfl
theorem erratalaw12_small.call {w : World} {K : Value → World → Prop} (h : erratalaw12_small.pt  w K) : Calls Tryz.prog F_erratalaw12_small #[] w (retK K) :=
  calls_FN (args := []) Tryz.func4 (by kernel_rfl) (by rw [erratalaw12_small.pt_eq] at h; exact h)
theorem erratalaw12_small.up {w : World} {K : Value → World → Prop} (h : Calls Tryz.prog F_erratalaw12_small #[] w (retK K)) : upK Tryz.prog (sCall F_erratalaw12_small #[]) w K :=
  up_call (fn := Tryz.f4) Tryz.func4 (by kernel_rfl) (by kernel_rfl) h

/-- errata/erratalaw12.few -/
def erratalaw12_few.pt (l0 : Value) (w : World) (K : Value → World → Prop) : Prop :=
  LOOP (X := Value × Unit) (fun lv1 w1 next1 =>
   readK Tryz.prog (sBlt .len #[T_s_erratalaw12_Op] T_int #[false] #[l0]) w1 fun t6 =>
   pureK Tryz.prog (sBin .lss T_int (.tmp 4) (.tmp 6) lv1.1 t6) fun t7 =>
   ifB t7
   (pureK Tryz.prog (sIdxAddr T_s_erratalaw12_Op l0 lv1.1) fun t12 =>
    pureK Tryz.prog (sFieldAddr T_erratalaw12_Op t12 1) fun t13 =>
    readK Tryz.prog (sLoad T_api_Event t13) w1 fun t14 =>
    upK Tryz.prog (sBuildSlice T_s_api_Event 1 #[(0, t14)]) w1 fun t15 w2 =>
    upK Tryz.prog (sCall F_errataref12_Few #[t15, (.int .i64 1)]) w2 fun t16 w3 =>
    pureK Tryz.prog (sUn .not t16) fun t17 =>
    ifB t17
    (K (.bool false) w3)
    (pureK Tryz.prog (sBin .add T_int (.tmp 8) (.const (.int .i64 1)) lv1.1 (.int .i64 1)) fun t9 =>
     next1 (t9, ()) w3))
   (readK Tryz.prog (sBlt .len #[T_s_erratalaw12_Op] T_int #[false] #[l0]) w1 fun t19 =>
    pureK Tryz.prog (sBin .leq T_int (.tmp 19) (.const (.int .i64 60)) t19 (.int .i64 60)) fun t20 =>
    K t20 w1))
  ((.int .i64 0), ()) w
theorem erratalaw12_few.pt_eq : erratalaw12_few.pt = fun l0 w K => FN Tryz.prog Tryz.f5 (bodyOf Tryz.f5) [2] .leaf [l0] w K := by kernel_rfl
theorem erratalaw12_few.call {l0 : Value} {w : World} {K : Value → World → Prop} (h : erratalaw12_few.pt l0 w K) : Calls Tryz.prog F_erratalaw12_few #[l0] w (retK K) :=
  calls_FN (args := [l0]) Tryz.func5 (by kernel_rfl) (by rw [erratalaw12_few.pt_eq] at h; exact h)
theorem erratalaw12_few.up {l0 : Value} {w : World} {K : Value → World → Prop} (h : Calls Tryz.prog F_erratalaw12_few #[l0] w (retK K)) : upK Tryz.prog (sCall F_erratalaw12_few #[l0]) w K :=
  up_call (fn := Tryz.f5) Tryz.func5 (by kernel_rfl) (by kernel_rfl) h

/-- errata/retain.New -/
def retain_New.pt (part0 : Value) (w : World) (K : Value → World → Prop) : Prop :=
  pureK Tryz.prog (sBuild T_retain_Store #[(0, part0)]) fun t4 =>
  upK Tryz.prog (sBox T_retain_Store t4) w fun t5 w1 =>
  K t5 w1
theorem retain_New.pt_eq : retain_New.pt = fun part0 w K => FN Tryz.prog Tryz.f6 (bodyOf Tryz.f6) [2] .leaf [part0] w K := by kernel_rfl
theorem retain_New.call {part0 : Value} {w : World} {K : Value → World → Prop} (h : retain_New.pt part0 w K) : Calls Tryz.prog F_retain_New #[part0] w (retK K) :=
  calls_FN (args := [part0]) Tryz.func6 (by kernel_rfl) (by rw [retain_New.pt_eq] at h; exact h)
theorem retain_New.up {part0 : Value} {w : World} {K : Value → World → Prop} (h : Calls Tryz.prog F_retain_New #[part0] w (retK K)) : upK Tryz.prog (sCall F_retain_New #[part0]) w K :=
  up_call (fn := Tryz.f6) Tryz.func6 (by kernel_rfl) (by kernel_rfl) h

/-- errata/errataref12.New -/
def errataref12_New.pt (part0 : Value) (w : World) (K : Value → World → Prop) : Prop :=
  pureK Tryz.prog (sBuild T_errataref12_Store #[(0, part0)]) fun t4 =>
  upK Tryz.prog (sBox T_errataref12_Store t4) w fun t5 w1 =>
  K t5 w1
theorem errataref12_New.pt_eq : errataref12_New.pt = fun part0 w K => FN Tryz.prog Tryz.f7 (bodyOf Tryz.f7) [2] .leaf [part0] w K := by kernel_rfl
theorem errataref12_New.call {part0 : Value} {w : World} {K : Value → World → Prop} (h : errataref12_New.pt part0 w K) : Calls Tryz.prog F_errataref12_New #[part0] w (retK K) :=
  calls_FN (args := [part0]) Tryz.func7 (by kernel_rfl) (by rw [errataref12_New.pt_eq] at h; exact h)
theorem errataref12_New.up {part0 : Value} {w : World} {K : Value → World → Prop} (h : Calls Tryz.prog F_errataref12_New #[part0] w (retK K)) : upK Tryz.prog (sCall F_errataref12_New #[part0]) w K :=
  up_call (fn := Tryz.f7) Tryz.func7 (by kernel_rfl) (by kernel_rfl) h

/-- (*errata/errataref12.Store).Next -/
def errataref12_Store_Next.pt (s0 : Value) (w : World) (K : Value → World → Prop) : Prop :=
  pureK Tryz.prog (sNil s0) fun t4 =>
  pureK Tryz.prog (sFieldAddr T_errataref12_Store t4 2) fun t5 =>
  readK Tryz.prog (sLoad T_int t5) (tick w) fun t6 =>
  pureK Tryz.prog (sNil s0) fun t8 =>
  pureK Tryz.prog (sFieldAddr T_errataref12_Store t8 1) fun t9 =>
  readK Tryz.prog (sLoad T_s_api_Event t9) (tick w) fun t10 =>
  readK Tryz.prog (sBlt .len #[T_s_api_Event] T_int #[false] #[t10]) (tick w) fun t11 =>
  pureK Tryz.prog (sBin .add T_int (.tmp 6) (.tmp 11) t6 t11) fun t12 =>
  K t12 (tick w)
theorem errataref12_Store_Next.pt_eq : errataref12_Store_Next.pt = fun s0 w K => FN Tryz.prog Tryz.f8 (bodyOf Tryz.f8) [2] .leaf [s0] w K := by kernel_rfl
theorem errataref12_Store_Next.call {s0 : Value} {w : World} {K : Value → World → Prop} (h : errataref12_Store_Next.pt s0 w K) : Calls Tryz.prog F_errataref12_Store_Next #[s0] w (retK K) :=
  calls_FN (args := [s0]) Tryz.func8 (by kernel_rfl) (by rw [errataref12_Store_Next.pt_eq] at h; exact h)
theorem errataref12_Store_Next.up {s0 : Value} {w : World} {K : Value → World → Prop} (h : Calls Tryz.prog F_errataref12_Store_Next #[s0] w (retK K)) : upK Tryz.prog (sCall F_errataref12_Store_Next #[s0]) w K :=
  up_call (fn := Tryz.f8) Tryz.func8 (by kernel_rfl) (by kernel_rfl) h

/-- errata/erratalaw12.pick -/
def erratalaw12_pick.pt (n0 m1 : Value) (w : World) (K : Value → World → Prop) : Prop :=
  pureK Tryz.prog (sBin .rem T_int (.tmp 5) (.tmp 6) n0 m1) fun t7 =>
  LETJ (X := Value × Unit) (fun jv1 w1 =>
   K jv1.1 w1)
  (fun J1 =>
   pureK Tryz.prog (sBin .lss T_int (.tmp 8) (.const (.int .i64 0)) t7 (.int .i64 0)) fun t9 =>
   ifB t9
   (pureK Tryz.prog (sBin .add T_int (.tmp 10) (.tmp 11) t7 m1) fun t12 =>
    J1 (t12, ()) w)
   (J1 (t7, ()) w))
theorem erratalaw12_pick.pt_eq : erratalaw12_pick.pt = fun n0 m1 w K => FN Tryz.prog Tryz.f9 (bodyOf Tryz.f9) [4] (.node none .leaf (.node none .leaf (.node (some [0]) .leaf .leaf))) [n0, m1] w K := by kernel_rfl
theorem erratalaw12_pick.call {n0 m1 : Value} {w : World} {K : Value → World → Prop} (h : erratalaw12_pick.pt n0 m1 w K) : Calls Tryz.prog F_erratalaw12_pick #[n0, m1] w (retK K) :=
  calls_FN (args := [n0, m1]) Tryz.func9 (by kernel_rfl) (by rw [erratalaw12_pick.pt_eq] at h; exact h)
theorem erratalaw12_pick.up {n0 m1 : Value} {w : World} {K : Value → World → Prop} (h : Calls Tryz.prog F_erratalaw12_pick #[n0, m1] w (retK K)) : upK Tryz.prog (sCall F_erratalaw12_pick #[n0, m1]) w K :=
  up_call (fn := Tryz.f9) Tryz.func9 (by kernel_rfl) (by kernel_rfl) h

/-- (*errata/retain.Store).Add -/
def retain_Store_Add.pt (s0 e1 : Value) (w : World) (K : Value → World → Prop) : Prop :=
  upK Tryz.prog (sBox T_api_Event e1) w fun e3 w1 =>
  readK Tryz.prog (sLoad T_api_Event e3) w1 fun t7 =>
  upK Tryz.prog (sCall F_retain_Store_right #[s0, t7]) w1 fun t8 w2 =>
  pureK Tryz.prog (sUn .not t8) fun t9 =>
  ifB t9
  (K (.int .i64 1) w2)
  (pureK Tryz.prog (sFieldAddr T_api_Event e3 5) fun t11 =>
   readK Tryz.prog (sLoad T_s_api_Value t11) w2 fun t12 =>
   upK Tryz.prog (sCall F_value_RightRow #[t12]) w2 fun t13 w3 =>
   pureK Tryz.prog (sUn .not t13) fun t14 =>
   ifB t14
   (K (.int .i64 16) w3)
   (pureK Tryz.prog (sFieldAddr T_api_Event e3 1) fun t16 =>
    readK Tryz.prog (sLoad T_int t16) (tick w3) fun t17 =>
    upK Tryz.prog (sCall F_retain_Store_Next #[s0]) (tick w3) fun t19 w4 =>
    Is Tryz.prog (sLoad T_int t16) t17 w4 ∧ pureK Tryz.prog (sBin .neq T_int (.tmp 17) (.tmp 19) t17 t19) fun t20 =>
    ifB t20
    (K (.int .i64 25) w4)
    (pureK Tryz.prog (sNil s0) fun t23 =>
     pureK Tryz.prog (sFieldAddr T_retain_Store t23 3) fun t24 =>
     readK Tryz.prog (sLoad T_s_api_Event t24) w4 fun t25 =>
     readK Tryz.prog (sBlt .len #[T_s_api_Event] T_int #[false] #[t25]) w4 fun t26 =>
     pureK Tryz.prog (sBin .geq T_int (.tmp 26) (.const (.int .i64 2000)) t26 (.int .i64 2000)) fun t27 =>
     ifB t27
     (K (.int .i64 6) w4)
     (pureK Tryz.prog (sNil s0) fun t30 =>
      pureK Tryz.prog (sFieldAddr T_retain_Store t30 3) fun t31 =>
      readK Tryz.prog (sLoad T_s_api_Event t31) (tick w4) fun t32 =>
      readK Tryz.prog (sLoad T_api_Event e3) (tick w4) fun t33 =>
      upK Tryz.prog (sCall F_retain_event #[t33]) (tick w4) fun t34 w5 =>
      Is Tryz.prog (sLoad T_s_api_Event t31) t32 w5 ∧ upK Tryz.prog (sBuildSlice T_s_api_Event 1 #[(0, t34)]) w5 fun t35 w6 =>
      Is Tryz.prog (sLoad T_s_api_Event t31) t32 w6 ∧ upK Tryz.prog (sBlt .append #[T_s_api_Event, T_s_api_Event] T_s_api_Event #[false, false] #[t32, t35]) w6 fun t36 w7 =>
      pureK Tryz.prog (sNil s0) fun t37 =>
      pureK Tryz.prog (sFieldAddr T_retain_Store t37 3) fun t38 =>
      upK Tryz.prog (sStore T_s_api_Event t38 t36) w7 fun tu w8 =>
      K (.int .i64 0) w8))))
theorem retain_Store_Add.pt_eq : retain_Store_Add.pt = fun s0 e1 w K => FN Tryz.prog Tryz.f10 (bodyOf Tryz.f10) [4] .leaf [s0, e1] w K := by kernel_rfl
theorem retain_Store_Add.call {s0 e1 : Value} {w : World} {K : Value → World → Prop} (h : retain_Store_Add.pt s0 e1 w K) : Calls Tryz.prog F_retain_Store_Add #[s0, e1] w (retK K) :=
  calls_FN (args := [s0, e1]) Tryz.func10 (by kernel_rfl) (by rw [retain_Store_Add.pt_eq] at h; exact h)
theorem retain_Store_Add.up {s0 e1 : Value} {w : World} {K : Value → World → Prop} (h : Calls Tryz.prog F_retain_Store_Add #[s0, e1] w (retK K)) : upK Tryz.prog (sCall F_retain_Store_Add #[s0, e1]) w K :=
  up_call (fn := Tryz.f10) Tryz.func10 (by kernel_rfl) (by kernel_rfl) h

/-- (*errata/errataref12.Store).Add -/
def errataref12_Store_Add.pt (s0 e1 : Value) (w : World) (K : Value → World → Prop) : Prop :=
  upK Tryz.prog (sBox T_api_Event e1) w fun e3 w1 =>
  pureK Tryz.prog (sFieldAddr T_api_Event e3 0) fun t5 =>
  readK Tryz.prog (sLoad T_int t5) (tick w1) fun t6 =>
  pureK Tryz.prog (sNil s0) fun t8 =>
  pureK Tryz.prog (sFieldAddr T_errataref12_Store t8 0) fun t9 =>
  readK Tryz.prog (sLoad T_int t9) (tick w1) fun t10 =>
  pureK Tryz.prog (sBin .neq T_int (.tmp 6) (.tmp 10) t6 t10) fun t11 =>
  ifB t11
  (K (.int .i64 1) (tick w1))
  (pureK Tryz.prog (sFieldAddr T_api_Event e3 2) fun t13 =>
   readK Tryz.prog (sLoad T_string t13) (tick w1) fun t14 =>
   readK Tryz.prog (sBlt .len #[T_string] T_int #[false] #[t14]) (tick w1) fun t15 =>
   pureK Tryz.prog (sBin .gtr T_int (.tmp 15) (.const (.int .i64 200)) t15 (.int .i64 200)) fun t16 =>
   ifB t16
   (K (.int .i64 1) (tick w1))
   (pureK Tryz.prog (sFieldAddr T_api_Event e3 3) fun t19 =>
    readK Tryz.prog (sLoad T_int t19) (tick w1) fun t20 =>
    pureK Tryz.prog (sBin .lss T_int (.tmp 20) (.const (.int .i64 0)) t20 (.int .i64 0)) fun t21 =>
    ifB t21
    (K (.int .i64 1) (tick w1))
    (pureK Tryz.prog (sFieldAddr T_api_Event e3 4) fun t24 =>
     readK Tryz.prog (sLoad T_int t24) (tick w1) fun t25 =>
     pureK Tryz.prog (sBin .lss T_int (.tmp 25) (.const (.int .i64 0)) t25 (.int .i64 0)) fun t26 =>
     ifB t26
     (K (.int .i64 1) (tick w1))
     (pureK Tryz.prog (sFieldAddr T_api_Event e3 4) fun t29 =>
      readK Tryz.prog (sLoad T_int t29) (tick w1) fun t30 =>
      pureK Tryz.prog (sBin .gtr T_int (.tmp 30) (.const (.int .i64 1099511627776)) t30 (.int .i64 1099511627776)) fun t31 =>
      ifB t31
      (K (.int .i64 1) (tick w1))
      (pureK Tryz.prog (sFieldAddr T_api_Event e3 5) fun t33 =>
       readK Tryz.prog (sLoad T_s_api_Value t33) (tick w1) fun t34 =>
       upK Tryz.prog (sCall F_errataref03_RightRow #[t34]) (tick w1) fun t35 w2 =>
       pureK Tryz.prog (sUn .not t35) fun t36 =>
       ifB t36
       (K (.int .i64 16) w2)
       (pureK Tryz.prog (sFieldAddr T_api_Event e3 1) fun t37 =>
        readK Tryz.prog (sLoad T_int t37) (tick w2) fun t38 =>
        upK Tryz.prog (sCall F_errataref12_Store_Next #[s0]) (tick w2) fun t40 w3 =>
        Is Tryz.prog (sLoad T_int t37) t38 w3 ∧ pureK Tryz.prog (sBin .neq T_int (.tmp 38) (.tmp 40) t38 t40) fun t41 =>
        ifB t41
        (K (.int .i64 25) w3)
        (pureK Tryz.prog (sNil s0) fun t45 =>
         pureK Tryz.prog (sFieldAddr T_errataref12_Store t45 3) fun t46 =>
         readK Tryz.prog (sLoad T_int t46) (tick w3) fun t47 =>
         upK Tryz.prog (sCall F_errataref12_Store_Next #[s0]) (tick w3) fun t43 w4 =>
         Is Tryz.prog (sLoad T_int t46) t47 w4 ∧ pureK Tryz.prog (sBin .sub T_int (.tmp 43) (.tmp 47) t43 t47) fun t48 =>
         pureK Tryz.prog (sBin .geq T_int (.tmp 48) (.const (.int .i64 2000)) t48 (.int .i64 2000)) fun t49 =>
         ifB t49
         (K (.int .i64 6) w4)
         (pureK Tryz.prog (sNil s0) fun t52 =>
          pureK Tryz.prog (sFieldAddr T_errataref12_Store t52 1) fun t53 =>
          readK Tryz.prog (sLoad T_s_api_Event t53) (tick w4) fun t54 =>
          readK Tryz.prog (sLoad T_api_Event e3) (tick w4) fun t55 =>
          upK Tryz.prog (sBuildSlice T_s_api_Event 1 #[(0, t55)]) (tick w4) fun t56 w5 =>
          Is Tryz.prog (sLoad T_s_api_Event t53) t54 w5 ∧ upK Tryz.prog (sBlt .append #[T_s_api_Event, T_s_api_Event] T_s_api_Event #[false, false] #[t54, t56]) w5 fun t57 w6 =>
          pureK Tryz.prog (sNil s0) fun t58 =>
          pureK Tryz.prog (sFieldAddr T_errataref12_Store t58 1) fun t59 =>
          upK Tryz.prog (sStore T_s_api_Event t59 t57) w6 fun tu w7 =>
          K (.int .i64 0) w7))))))))
theorem errataref12_Store_Add.pt_eq : errataref12_Store_Add.pt = fun s0 e1 w K => FN Tryz.prog Tryz.f11 (bodyOf Tryz.f11) [4] .leaf [s0, e1] w K := by kernel_rfl
theorem errataref12_Store_Add.call {s0 e1 : Value} {w : World} {K : Value → World → Prop} (h : errataref12_Store_Add.pt s0 e1 w K) : Calls Tryz.prog F_errataref12_Store_Add #[s0, e1] w (retK K) :=
  calls_FN (args := [s0, e1]) Tryz.func11 (by kernel_rfl) (by rw [errataref12_Store_Add.pt_eq] at h; exact h)
theorem errataref12_Store_Add.up {s0 e1 : Value} {w : World} {K : Value → World → Prop} (h : Calls Tryz.prog F_errataref12_Store_Add #[s0, e1] w (retK K)) : upK Tryz.prog (sCall F_errataref12_Store_Add #[s0, e1]) w K :=
  up_call (fn := Tryz.f11) Tryz.func11 (by kernel_rfl) (by kernel_rfl) h

/-- (*errata/retain.Store).Drop -/
def retain_Store_Drop.pt (s0 pos1 : Value) (w : World) (K : Value → World → Prop) : Prop :=
  upK Tryz.prog (sCall F_retain_Store_place #[s0, pos1]) w fun t8 w1 =>
  upK Tryz.prog (sCall F_retain_Store_cut #[s0, t8]) w1 fun t9 w2 =>
  K t9 w2
theorem retain_Store_Drop.pt_eq : retain_Store_Drop.pt = fun s0 pos1 w K => FN Tryz.prog Tryz.f12 (bodyOf Tryz.f12) [4] .leaf [s0, pos1] w K := by kernel_rfl
theorem retain_Store_Drop.call {s0 pos1 : Value} {w : World} {K : Value → World → Prop} (h : retain_Store_Drop.pt s0 pos1 w K) : Calls Tryz.prog F_retain_Store_Drop #[s0, pos1] w (retK K) :=
  calls_FN (args := [s0, pos1]) Tryz.func12 (by kernel_rfl) (by rw [retain_Store_Drop.pt_eq] at h; exact h)
theorem retain_Store_Drop.up {s0 pos1 : Value} {w : World} {K : Value → World → Prop} (h : Calls Tryz.prog F_retain_Store_Drop #[s0, pos1] w (retK K)) : upK Tryz.prog (sCall F_retain_Store_Drop #[s0, pos1]) w K :=
  up_call (fn := Tryz.f12) Tryz.func12 (by kernel_rfl) (by kernel_rfl) h

/-- (*errata/errataref12.Store).Drop -/
def errataref12_Store_Drop.pt (s0 pos1 : Value) (w : World) (K : Value → World → Prop) : Prop :=
  pureK Tryz.prog (sNil s0) fun t7 =>
  pureK Tryz.prog (sFieldAddr T_errataref12_Store t7 3) fun t8 =>
  readK Tryz.prog (sLoad T_int t8) w fun t9 =>
  pureK Tryz.prog (sNil s0) fun t12 =>
  pureK Tryz.prog (sFieldAddr T_errataref12_Store t12 3) fun t13 =>
  readK Tryz.prog (sLoad T_int t13) (tick w) fun t14 =>
  upK Tryz.prog (sCall F_errataref12_Store_Next #[s0]) (tick w) fun t17 w1 =>
  Is Tryz.prog (sLoad T_int t13) t14 w1 ∧ pureK Tryz.prog (sBlt .min #[T_int, T_int] T_int #[false, false] #[pos1, t17]) fun t18 =>
  pureK Tryz.prog (sBlt .max #[T_int, T_int] T_int #[false, false] #[t14, t18]) fun t19 =>
  pureK Tryz.prog (sNil s0) fun t20 =>
  pureK Tryz.prog (sFieldAddr T_errataref12_Store t20 3) fun t21 =>
  upK Tryz.prog (sStore T_int t21 t19) w1 fun tu w2 =>
  pureK Tryz.prog (sNil s0) fun t23 =>
  pureK Tryz.prog (sFieldAddr T_errataref12_Store t23 3) fun t24 =>
  readK Tryz.prog (sLoad T_int t24) w2 fun t25 =>
  pureK Tryz.prog (sBin .sub T_int (.tmp 25) (.tmp 26) t25 t9) fun t27 =>
  K t27 w2
theorem errataref12_Store_Drop.pt_eq : errataref12_Store_Drop.pt = fun s0 pos1 w K => FN Tryz.prog Tryz.f13 (bodyOf Tryz.f13) [4] .leaf [s0, pos1] w K := by kernel_rfl
theorem errataref12_Store_Drop.call {s0 pos1 : Value} {w : World} {K : Value → World → Prop} (h : errataref12_Store_Drop.pt s0 pos1 w K) : Calls Tryz.prog F_errataref12_Store_Drop #[s0, pos1] w (retK K) :=
  calls_FN (args := [s0, pos1]) Tryz.func13 (by kernel_rfl) (by rw [errataref12_Store_Drop.pt_eq] at h; exact h)
theorem errataref12_Store_Drop.up {s0 pos1 : Value} {w : World} {K : Value → World → Prop} (h : Calls Tryz.prog F_errataref12_Store_Drop #[s0, pos1] w (retK K)) : upK Tryz.prog (sCall F_errataref12_Store_Drop #[s0, pos1]) w K :=
  up_call (fn := Tryz.f13) Tryz.func13 (by kernel_rfl) (by kernel_rfl) h

/-- (*errata/retain.Store).Trim -/
def retain_Store_Trim.pt (s0 time1 : Value) (w : World) (K : Value → World → Prop) : Prop :=
  upK Tryz.prog (sBox T_int time1) w fun time3 w1 =>
  pureK Tryz.prog (sNil s0) fun t7 =>
  pureK Tryz.prog (sFieldAddr T_retain_Store t7 3) fun t8 =>
  readK Tryz.prog (sLoad T_s_api_Event t8) w1 fun t9 =>
  pureK Tryz.prog (sMkFunc (.func F_retain_Store_Trim_1) #[] #[time3]) fun t10 =>
  upK Tryz.prog (sCall F_slices_IndexFunc_s_api_Event_api_Event #[t9, t10]) w1 fun t11 w2 =>
  LETJ (X := Value × Unit) (fun jv1 w3 =>
   upK Tryz.prog (sCall F_retain_Store_cut #[s0, jv1.1]) w3 fun t21 w4 =>
   K t21 w4)
  (fun J1 =>
   pureK Tryz.prog (sBin .lss T_int (.tmp 12) (.const (.int .i64 0)) t11 (.int .i64 0)) fun t13 =>
   ifB t13
   (pureK Tryz.prog (sNil s0) fun t15 =>
    pureK Tryz.prog (sFieldAddr T_retain_Store t15 3) fun t16 =>
    readK Tryz.prog (sLoad T_s_api_Event t16) w2 fun t17 =>
    readK Tryz.prog (sBlt .len #[T_s_api_Event] T_int #[false] #[t17]) w2 fun t18 =>
    J1 (t18, ()) w2)
   (J1 (t11, ()) w2))
theorem retain_Store_Trim.pt_eq : retain_Store_Trim.pt = fun s0 time1 w K => FN Tryz.prog Tryz.f14 (bodyOf Tryz.f14) [4] (.node none .leaf (.node none .leaf (.node (some [5]) .leaf .leaf))) [s0, time1] w K := by kernel_rfl
theorem retain_Store_Trim.call {s0 time1 : Value} {w : World} {K : Value → World → Prop} (h : retain_Store_Trim.pt s0 time1 w K) : Calls Tryz.prog F_retain_Store_Trim #[s0, time1] w (retK K) :=
  calls_FN (args := [s0, time1]) Tryz.func14 (by kernel_rfl) (by rw [retain_Store_Trim.pt_eq] at h; exact h)
theorem retain_Store_Trim.up {s0 time1 : Value} {w : World} {K : Value → World → Prop} (h : Calls Tryz.prog F_retain_Store_Trim #[s0, time1] w (retK K)) : upK Tryz.prog (sCall F_retain_Store_Trim #[s0, time1]) w K :=
  up_call (fn := Tryz.f14) Tryz.func14 (by kernel_rfl) (by kernel_rfl) h

/-- (*errata/errataref12.Store).Trim -/
def errataref12_Store_Trim.pt (s0 time1 : Value) (w : World) (K : Value → World → Prop) : Prop :=
  upK Tryz.prog (sCall F_errataref12_Store_Kept #[s0]) w fun t8 w1 =>
  LETJ (X := Value × Unit) (fun jv1 w2 =>
   pureK Tryz.prog (sNil s0) fun t30 =>
   pureK Tryz.prog (sFieldAddr T_errataref12_Store t30 3) fun t31 =>
   readK Tryz.prog (sLoad T_int t31) w2 fun t32 =>
   pureK Tryz.prog (sBin .add T_int (.tmp 32) (.tmp 33) t32 jv1.1) fun t34 =>
   upK Tryz.prog (sCall F_errataref12_Store_Drop #[s0, t34]) w2 fun t35 w3 =>
   K t35 w3)
  (fun J1 =>
   LOOP (X := Value × Unit) (fun lv4 w4 next4 =>
    readK Tryz.prog (sBlt .len #[T_s_api_Event] T_int #[false] #[t8]) w4 fun t11 =>
    pureK Tryz.prog (sBin .lss T_int (.tmp 9) (.tmp 11) lv4.1 t11) fun t12 =>
    ifB t12
    (readK Tryz.prog (sBlt .len #[T_s_api_Event] T_int #[false] #[t8]) w4 fun t17 =>
     pureK Tryz.prog (sBin .sub T_int (.tmp 17) (.const (.int .i64 1)) t17 (.int .i64 1)) fun t18 =>
     pureK Tryz.prog (sBlt .min #[T_int, T_int] T_int #[false, false] #[lv4.1, t18]) fun t19 =>
     pureK Tryz.prog (sIdxAddr T_s_api_Event t8 t19) fun t20 =>
     pureK Tryz.prog (sFieldAddr T_api_Event t20 4) fun t21 =>
     readK Tryz.prog (sLoad T_int t21) w4 fun t22 =>
     pureK Tryz.prog (sBin .lss T_int (.tmp 22) (.tmp 23) t22 time1) fun t24 =>
     ifB t24
     (pureK Tryz.prog (sBin .add T_int (.tmp 26) (.const (.int .i64 1)) lv4.1 (.int .i64 1)) fun t27 =>
      next4 (t27, ()) w4)
     (J1 (lv4.1, ()) w4))
    (J1 (lv4.1, ()) w4))
   ((.int .i64 0), ()) w1)
theorem errataref12_Store_Trim.pt_eq : errataref12_Store_Trim.pt = fun s0 time1 w K => FN Tryz.prog Tryz.f15 (bodyOf Tryz.f15) [4] (.node none .leaf (.node none .leaf (.node none .leaf (.node (some [6]) .leaf .leaf)))) [s0, time1] w K := by kernel_rfl
theorem errataref12_Store_Trim.call {s0 time1 : Value} {w : World} {K : Value → World → Prop} (h : errataref12_Store_Trim.pt s0 time1 w K) : Calls Tryz.prog F_errataref12_Store_Trim #[s0, time1] w (retK K) :=
  calls_FN (args := [s0, time1]) Tryz.func15 (by kernel_rfl) (by rw [errataref12_Store_Trim.pt_eq] at h; exact h)
theorem errataref12_Store_Trim.up {s0 time1 : Value} {w : World} {K : Value → World → Prop} (h : Calls Tryz.prog F_errataref12_Store_Trim #[s0, time1] w (retK K)) : upK Tryz.prog (sCall F_errataref12_Store_Trim #[s0, time1]) w K :=
  up_call (fn := Tryz.f15) Tryz.func15 (by kernel_rfl) (by kernel_rfl) h

/-- errata/retain.Read -/
def retain_Read.pt (b0 : Value) (w : World) (K : Value → World → Prop) : Prop :=
  upK Tryz.prog (sCall F_wire_Open #[b0]) w fun t11 w1 =>
  upK Tryz.prog (sCall F_wire_Reader_Int #[t11]) w1 fun t13 w2 =>
  upK Tryz.prog (sCall F_retain_New #[t13]) w2 fun t14 w3 =>
  upK Tryz.prog (sCall F_wire_Reader_Int #[t11]) w3 fun t18 w4 =>
  upK Tryz.prog (sCall F_wire_Reader_Int #[t11]) w4 fun t20 w5 =>
  pureK Tryz.prog (sNil t14) fun t21 =>
  pureK Tryz.prog (sFieldAddr T_retain_Store t21 1) fun t22 =>
  upK Tryz.prog (sStore T_int t22 t18) w5 fun tu w6 =>
  pureK Tryz.prog (sNil t14) fun t23 =>
  pureK Tryz.prog (sFieldAddr T_retain_Store t23 2) fun t24 =>
  upK Tryz.prog (sStore T_int t24 t20) w6 fun tu_1 w7 =>
  upK Tryz.prog (sCall F_wire_Reader_Num #[t11]) w7 fun t26 w8 =>
  pureK Tryz.prog (sNil t14) fun t28 =>
  pureK Tryz.prog (sFieldAddr T_retain_Store t28 1) fun t29 =>
  readK Tryz.prog (sLoad T_int t29) (tick w8) fun t30 =>
  pureK Tryz.prog (sBin .lss T_int (.tmp 30) (.const (.int .i64 0)) t30 (.int .i64 0)) fun t31 =>
  ifB t31
  (K (.tuple #[(.pointer none), (.bool false)]) (tick w8))
  (pureK Tryz.prog (sNil t14) fun t34 =>
   pureK Tryz.prog (sFieldAddr T_retain_Store t34 1) fun t35 =>
   readK Tryz.prog (sLoad T_int t35) (tick w8) fun t36 =>
   pureK Tryz.prog (sBin .gtr T_int (.tmp 36) (.const (.int .i64 1152921504606846976)) t36 (.int .i64 1152921504606846976)) fun t37 =>
   ifB t37
   (K (.tuple #[(.pointer none), (.bool false)]) (tick w8))
   (pureK Tryz.prog (sNil t14) fun t41 =>
    pureK Tryz.prog (sFieldAddr T_retain_Store t41 2) fun t42 =>
    readK Tryz.prog (sLoad T_int t42) (tick w8) fun t43 =>
    pureK Tryz.prog (sBin .lss T_int (.tmp 43) (.const (.int .i64 0)) t43 (.int .i64 0)) fun t44 =>
    ifB t44
    (K (.tuple #[(.pointer none), (.bool false)]) (tick w8))
    (pureK Tryz.prog (sNil t14) fun t48 =>
     pureK Tryz.prog (sFieldAddr T_retain_Store t48 2) fun t49 =>
     readK Tryz.prog (sLoad T_int t49) (tick w8) fun t50 =>
     pureK Tryz.prog (sBin .gtr T_int (.tmp 50) (.const (.int .i64 1099511627777)) t50 (.int .i64 1099511627777)) fun t51 =>
     ifB t51
     (K (.tuple #[(.pointer none), (.bool false)]) (tick w8))
     (pureK Tryz.prog (sNil t14) fun t55 =>
      pureK Tryz.prog (sFieldAddr T_retain_Store t55 2) fun t56 =>
      readK Tryz.prog (sLoad T_int t56) (tick w8) fun t57 =>
      pureK Tryz.prog (sBin .eql T_int (.tmp 57) (.const (.int .i64 0)) t57 (.int .i64 0)) fun t58 =>
      pureK Tryz.prog (sNil t14) fun t60 =>
      pureK Tryz.prog (sFieldAddr T_retain_Store t60 1) fun t61 =>
      readK Tryz.prog (sLoad T_int t61) (tick w8) fun t62 =>
      pureK Tryz.prog (sBin .eql T_int (.tmp 62) (.const (.int .i64 0)) t62 (.int .i64 0)) fun t63 =>
      pureK Tryz.prog (sBin .neq T_bool (.tmp 58) (.tmp 63) t58 t63) fun t64 =>
      ifB t64
      (K (.tuple #[(.pointer none), (.bool false)]) (tick w8))
      (pureK Tryz.prog (sBin .gtr T_int (.tmp 67) (.const (.int .i64 2000)) t26 (.int .i64 2000)) fun t68 =>
       ifB t68
       (K (.tuple #[(.pointer none), (.bool false)]) (tick w8))
       (LOOP (X := Value × Unit) (fun lv9 w9 next9 =>
         pureK Tryz.prog (sBin .lss T_int (.tmp 71) (.tmp 70) lv9.1 t26) fun t72 =>
         ifB t72
         (LETJ (X := Value × Unit) (fun jv1 w10 =>
           upK Tryz.prog (sCall F_wire_Reader_Text #[t11]) w10 fun t88 w11 =>
           upK Tryz.prog (sCall F_value_ReadRow #[t88]) w11 fun t89 w12 =>
           pureK Tryz.prog (sExtract t89 0) fun t90 =>
           pureK Tryz.prog (sExtract t89 1) fun t91 =>
           pureK Tryz.prog (sFieldAddr T_api_Event jv1.1 5) fun t93 =>
           upK Tryz.prog (sStore T_s_api_Value t93 t90) w12 fun tu_2 w13 =>
           pureK Tryz.prog (sUn .not t91) fun t95 =>
           ifB t95
           (K (.tuple #[(.pointer none), (.bool false)]) w13)
           (readK Tryz.prog (sLoad T_api_Event jv1.1) w13 fun t98 =>
            upK Tryz.prog (sCall F_retain_Store_Add #[t14, t98]) w13 fun t99 w14 =>
            pureK Tryz.prog (sBin .neq T_api_Errno (.tmp 99) (.const (.int .i64 0)) t99 (.int .i64 0)) fun t100 =>
            ifB t100
            (K (.tuple #[(.pointer none), (.bool false)]) w14)
            (pureK Tryz.prog (sBin .add T_int (.tmp 71) (.const (.int .i64 1)) lv9.1 (.int .i64 1)) fun t102 =>
             next9 (t102, ()) w14)))
          (fun J1 =>
           pureK Tryz.prog (sNil t14) fun t74 =>
           pureK Tryz.prog (sFieldAddr T_retain_Store t74 0) fun t75 =>
           readK Tryz.prog (sLoad T_int t75) (tick w9) fun t76 =>
           ((upK Tryz.prog (sCall F_retain_Store_Next #[t14]) (tick w9) fun t78 w15 =>
             Is Tryz.prog (sLoad T_int t75) t76 w15 ∧ ((upK Tryz.prog (sCall F_wire_Reader_Text #[t11]) w15 fun t80 w16 =>
               Is Tryz.prog (sLoad T_int t75) t76 w16 ∧ ((upK Tryz.prog (sCall F_wire_Reader_Int #[t11]) w16 fun t82 w17 =>
                 Is Tryz.prog (sLoad T_int t75) t76 w17 ∧ ((upK Tryz.prog (sCall F_wire_Reader_Int #[t11]) w17 fun t84 w18 =>
                   Is Tryz.prog (sLoad T_int t75) t76 w18 ∧ pureK Tryz.prog (sBuild T_api_Event #[(0, t76), (1, t78), (2, t80), (3, t82), (4, t84)]) fun t85 =>
                   upK Tryz.prog (sAlloc T_api_Event) w18 fun e7 w19 =>
                   Is Tryz.prog (sLoad T_int t75) t76 w19 ∧ upK Tryz.prog (sStore T_api_Event e7 t85) w19 fun tu_3 w20 =>
                   J1 (e7, ()) w20)
                  ∧ (upK Tryz.prog (sAlloc T_api_Event) w17 fun e7_1 w21 =>
                   Is Tryz.prog (sLoad T_int t75) t76 w21 ∧ upK Tryz.prog (sCall F_wire_Reader_Int #[t11]) w21 fun t84_1 w22 =>
                   Is Tryz.prog (sLoad T_int t75) t76 w22 ∧ pureK Tryz.prog (sBuild T_api_Event #[(0, t76), (1, t78), (2, t80), (3, t82), (4, t84_1)]) fun t85_1 =>
                   upK Tryz.prog (sStore T_api_Event e7_1 t85_1) w22 fun tu_4 w23 =>
                   J1 (e7_1, ()) w23)))
                ∧ (upK Tryz.prog (sAlloc T_api_Event) w16 fun e7_2 w24 =>
                 Is Tryz.prog (sLoad T_int t75) t76 w24 ∧ upK Tryz.prog (sCall F_wire_Reader_Int #[t11]) w24 fun t82_1 w25 =>
                 Is Tryz.prog (sLoad T_int t75) t76 w25 ∧ upK Tryz.prog (sCall F_wire_Reader_Int #[t11]) w25 fun t84_2 w26 =>
                 Is Tryz.prog (sLoad T_int t75) t76 w26 ∧ pureK Tryz.prog (sBuild T_api_Event #[(0, t76), (1, t78), (2, t80), (3, t82_1), (4, t84_2)]) fun t85_2 =>
                 upK Tryz.prog (sStore T_api_Event e7_2 t85_2) w26 fun tu_5 w27 =>
                 J1 (e7_2, ()) w27)))
              ∧ (upK Tryz.prog (sAlloc T_api_Event) w15 fun e7_3 w28 =>
               Is Tryz.prog (sLoad T_int t75) t76 w28 ∧ upK Tryz.prog (sCall F_wire_Reader_Text #[t11]) w28 fun t80_1 w29 =>
               Is Tryz.prog (sLoad T_int t75) t76 w29 ∧ upK Tryz.prog (sCall F_wire_Reader_Int #[t11]) w29 fun t82_2 w30 =>
               Is Tryz.prog (sLoad T_int t75) t76 w30 ∧ upK Tryz.prog (sCall F_wire_Reader_Int #[t11]) w30 fun t84_3 w31 =>
               Is Tryz.prog (sLoad T_int t75) t76 w31 ∧ pureK Tryz.prog (sBuild T_api_Event #[(0, t76), (1, t78), (2, t80_1), (3, t82_2), (4, t84_3)]) fun t85_3 =>
               upK Tryz.prog (sStore T_api_Event e7_3 t85_3) w31 fun tu_6 w32 =>
               J1 (e7_3, ()) w32)))
            ∧ (upK Tryz.prog (sAlloc T_api_Event) (tick w9) fun e7_4 w33 =>
             Is Tryz.prog (sLoad T_int t75) t76 w33 ∧ upK Tryz.prog (sCall F_retain_Store_Next #[t14]) w33 fun t78_1 w34 =>
             Is Tryz.prog (sLoad T_int t75) t76 w34 ∧ upK Tryz.prog (sCall F_wire_Reader_Text #[t11]) w34 fun t80_2 w35 =>
             Is Tryz.prog (sLoad T_int t75) t76 w35 ∧ upK Tryz.prog (sCall F_wire_Reader_Int #[t11]) w35 fun t82_3 w36 =>
             Is Tryz.prog (sLoad T_int t75) t76 w36 ∧ upK Tryz.prog (sCall F_wire_Reader_Int #[t11]) w36 fun t84_4 w37 =>
             Is Tryz.prog (sLoad T_int t75) t76 w37 ∧ pureK Tryz.prog (sBuild T_api_Event #[(0, t76), (1, t78_1), (2, t80_2), (3, t82_3), (4, t84_4)]) fun t85_4 =>
             upK Tryz.prog (sStore T_api_Event e7_4 t85_4) w37 fun tu_7 w38 =>
             J1 (e7_4, ()) w38))))
         (upK Tryz.prog (sCall F_wire_Reader_Done #[t11]) w9 fun t104 w39 =>
          pureK Tryz.prog (sUn .not t104) fun t105 =>
          ifB t105
          (K (.tuple #[(.pointer none), (.bool false)]) w39)
          (K (.tuple #[t14, (.bool true)]) w39)))
        ((.int .i64 0), ()) (tick w8)))))))
theorem retain_Read.pt_eq : retain_Read.pt = fun b0 w K => FN Tryz.prog Tryz.f16 (bodyOf Tryz.f16) [2, 3] (.node none .leaf (.node none .leaf (.node none .leaf (.node none .leaf (.node none .leaf (.node none .leaf (.node none (.node none .leaf (.node none (.node none (.node none .leaf (.node none .leaf (.node none (.node none (.node (some [7]) .leaf .leaf) .leaf) .leaf))) .leaf) .leaf)) .leaf))))))) [b0] w K := by kernel_rfl
theorem retain_Read.call {b0 : Value} {w : World} {K : Value → World → Prop} (h : retain_Read.pt b0 w K) : Calls Tryz.prog F_retain_Read #[b0] w (retK K) :=
  calls_FN (args := [b0]) Tryz.func16 (by kernel_rfl) (by rw [retain_Read.pt_eq] at h; exact h)
theorem retain_Read.up {b0 : Value} {w : World} {K : Value → World → Prop} (h : Calls Tryz.prog F_retain_Read #[b0] w (retK K)) : upK Tryz.prog (sCall F_retain_Read #[b0]) w K :=
  up_call (fn := Tryz.f16) Tryz.func16 (by kernel_rfl) (by kernel_rfl) h

/-- (*errata/retain.Store).Bytes -/
def retain_Store_Bytes.pt (s0 : Value) (w : World) (K : Value → World → Prop) : Prop :=
  upK Tryz.prog (sAlloc T_strings_Builder) w fun b3 w1 =>
  pureK Tryz.prog (sNil s0) fun t7 =>
  pureK Tryz.prog (sFieldAddr T_retain_Store t7 0) fun t8 =>
  readK Tryz.prog (sLoad T_int t8) (tick w1) fun t9 =>
  pureK Tryz.prog (sNil s0) fun t12 =>
  pureK Tryz.prog (sFieldAddr T_retain_Store t12 1) fun t13 =>
  readK Tryz.prog (sLoad T_int t13) (tick w1) fun t14 =>
  pureK Tryz.prog (sNil s0) fun t18 =>
  pureK Tryz.prog (sFieldAddr T_retain_Store t18 2) fun t19 =>
  readK Tryz.prog (sLoad T_int t19) (tick w1) fun t20 =>
  pureK Tryz.prog (sNil s0) fun t24 =>
  pureK Tryz.prog (sFieldAddr T_retain_Store t24 3) fun t25 =>
  readK Tryz.prog (sLoad T_s_api_Event t25) (tick w1) fun t26 =>
  readK Tryz.prog (sBlt .len #[T_s_api_Event] T_int #[false] #[t26]) (tick w1) fun t27 =>
  upK Tryz.prog (sCall F_wire_Int #[t9]) (tick w1) fun t10 w2 =>
  Is Tryz.prog (sBlt .len #[T_s_api_Event] T_int #[false] #[t26]) t27 w2 ∧ Is Tryz.prog (sLoad T_s_api_Event t25) t26 w2 ∧ Is Tryz.prog (sLoad T_int t19) t20 w2 ∧ Is Tryz.prog (sLoad T_int t13) t14 w2 ∧ upK Tryz.prog (sCall F_wire_Int #[t14]) w2 fun t15 w3 =>
  Is Tryz.prog (sBlt .len #[T_s_api_Event] T_int #[false] #[t26]) t27 w3 ∧ Is Tryz.prog (sLoad T_s_api_Event t25) t26 w3 ∧ Is Tryz.prog (sLoad T_int t19) t20 w3 ∧ pureK Tryz.prog (sBin .add T_string (.tmp 10) (.tmp 15) t10 t15) fun t16 =>
  upK Tryz.prog (sCall F_wire_Int #[t20]) w3 fun t21 w4 =>
  Is Tryz.prog (sBlt .len #[T_s_api_Event] T_int #[false] #[t26]) t27 w4 ∧ Is Tryz.prog (sLoad T_s_api_Event t25) t26 w4 ∧ pureK Tryz.prog (sBin .add T_string (.tmp 16) (.tmp 21) t16 t21) fun t22 =>
  upK Tryz.prog (sCall F_wire_Num #[t27]) w4 fun t28 w5 =>
  pureK Tryz.prog (sBin .add T_string (.tmp 22) (.tmp 28) t22 t28) fun t29 =>
  upK Tryz.prog (sCall F_strings_Builder_WriteString #[b3, t29]) w5 fun t30 w6 =>
  pureK Tryz.prog (sNil s0) fun t32 =>
  pureK Tryz.prog (sFieldAddr T_retain_Store t32 3) fun t33 =>
  readK Tryz.prog (sLoad T_s_api_Event t33) w6 fun t34 =>
  readK Tryz.prog (sBlt .len #[T_s_api_Event] T_int #[false] #[t34]) w6 fun t35 =>
  LOOP (X := Value × Unit) (fun lv7 w7 next7 =>
   pureK Tryz.prog (sBin .lss T_int (.tmp 36) (.tmp 35) lv7.1 t35) fun t37 =>
   ifB t37
   (pureK Tryz.prog (sIdxAddr T_s_api_Event t34 lv7.1) fun t38 =>
    readK Tryz.prog (sLoad T_api_Event t38) w7 fun t39 =>
    upK Tryz.prog (sAlloc T_api_Event) w7 fun e5 w8 =>
    upK Tryz.prog (sStore T_api_Event e5 t39) w8 fun tu w9 =>
    pureK Tryz.prog (sFieldAddr T_api_Event e5 2) fun t40 =>
    readK Tryz.prog (sLoad T_string t40) (tick w9) fun t41 =>
    pureK Tryz.prog (sFieldAddr T_api_Event e5 3) fun t43 =>
    readK Tryz.prog (sLoad T_int t43) (tick w9) fun t44 =>
    pureK Tryz.prog (sFieldAddr T_api_Event e5 4) fun t47 =>
    readK Tryz.prog (sLoad T_int t47) (tick w9) fun t48 =>
    pureK Tryz.prog (sFieldAddr T_api_Event e5 5) fun t51 =>
    readK Tryz.prog (sLoad T_s_api_Value t51) (tick w9) fun t52 =>
    upK Tryz.prog (sCall F_wire_Text #[t41]) (tick w9) fun t42 w10 =>
    Is Tryz.prog (sLoad T_s_api_Value t51) t52 w10 ∧ Is Tryz.prog (sLoad T_int t47) t48 w10 ∧ Is Tryz.prog (sLoad T_int t43) t44 w10 ∧ upK Tryz.prog (sCall F_wire_Int #[t44]) w10 fun t45 w11 =>
    Is Tryz.prog (sLoad T_s_api_Value t51) t52 w11 ∧ Is Tryz.prog (sLoad T_int t47) t48 w11 ∧ pureK Tryz.prog (sBin .add T_string (.tmp 42) (.tmp 45) t42 t45) fun t46 =>
    upK Tryz.prog (sCall F_wire_Int #[t48]) w11 fun t49 w12 =>
    Is Tryz.prog (sLoad T_s_api_Value t51) t52 w12 ∧ pureK Tryz.prog (sBin .add T_string (.tmp 46) (.tmp 49) t46 t49) fun t50 =>
    upK Tryz.prog (sCall F_value_RowBytes #[t52]) w12 fun t53 w13 =>
    upK Tryz.prog (sCall F_wire_Text #[t53]) w13 fun t54 w14 =>
    pureK Tryz.prog (sBin .add T_string (.tmp 50) (.tmp 54) t50 t54) fun t55 =>
    upK Tryz.prog (sCall F_strings_Builder_WriteString #[b3, t55]) w14 fun t56 w15 =>
    pureK Tryz.prog (sBin .add T_int (.tmp 36) (.const (.int .i64 1)) lv7.1 (.int .i64 1)) fun t57 =>
    next7 (t57, ()) w15)
   (upK Tryz.prog (sCall F_strings_Builder_String #[b3]) w7 fun t58 w16 =>
    K t58 w16))
  ((.int .i64 0), ()) w6
theorem retain_Store_Bytes.pt_eq : retain_Store_Bytes.pt = fun s0 w K => FN Tryz.prog Tryz.f17 (bodyOf Tryz.f17) [2] .leaf [s0] w K := by kernel_rfl
theorem retain_Store_Bytes.call {s0 : Value} {w : World} {K : Value → World → Prop} (h : retain_Store_Bytes.pt s0 w K) : Calls Tryz.prog F_retain_Store_Bytes #[s0] w (retK K) :=
  calls_FN (args := [s0]) Tryz.func17 (by kernel_rfl) (by rw [retain_Store_Bytes.pt_eq] at h; exact h)
theorem retain_Store_Bytes.up {s0 : Value} {w : World} {K : Value → World → Prop} (h : Calls Tryz.prog F_retain_Store_Bytes #[s0] w (retK K)) : upK Tryz.prog (sCall F_retain_Store_Bytes #[s0]) w K :=
  up_call (fn := Tryz.f17) Tryz.func17 (by kernel_rfl) (by kernel_rfl) h

/-- errata/errataref12.Read -/
def errataref12_Read.pt (b0 : Value) (w : World) (K : Value → World → Prop) : Prop :=
  upK Tryz.prog (sCall F_errataref01_Open #[b0]) w fun t12 w1 =>
  upK Tryz.prog (sCall F_errataref01_Reader_Int #[t12]) w1 fun t14 w2 =>
  upK Tryz.prog (sCall F_errataref12_New #[t14]) w2 fun t15 w3 =>
  upK Tryz.prog (sCall F_errataref01_Reader_Int #[t12]) w3 fun t18 w4 =>
  pureK Tryz.prog (sNil t15) fun t19 =>
  pureK Tryz.prog (sFieldAddr T_errataref12_Store t19 3) fun t20 =>
  upK Tryz.prog (sStore T_int t20 t18) w4 fun tu w5 =>
  pureK Tryz.prog (sNil t15) fun t23 =>
  pureK Tryz.prog (sFieldAddr T_errataref12_Store t23 3) fun t24 =>
  readK Tryz.prog (sLoad T_int t24) w5 fun t25 =>
  pureK Tryz.prog (sNil t15) fun t26 =>
  pureK Tryz.prog (sFieldAddr T_errataref12_Store t26 2) fun t27 =>
  upK Tryz.prog (sStore T_int t27 t25) w5 fun tu_1 w6 =>
  upK Tryz.prog (sCall F_errataref01_Reader_Int #[t12]) w6 fun t30 w7 =>
  pureK Tryz.prog (sNil t15) fun t31 =>
  pureK Tryz.prog (sFieldAddr T_errataref12_Store t31 4) fun t32 =>
  upK Tryz.prog (sStore T_int t32 t30) w7 fun tu_2 w8 =>
  upK Tryz.prog (sCall F_errataref01_Reader_Num #[t12]) w8 fun t34 w9 =>
  pureK Tryz.prog (sNil t15) fun t36 =>
  pureK Tryz.prog (sFieldAddr T_errataref12_Store t36 3) fun t37 =>
  readK Tryz.prog (sLoad T_int t37) (tick w9) fun t38 =>
  pureK Tryz.prog (sBin .lss T_int (.tmp 38) (.const (.int .i64 0)) t38 (.int .i64 0)) fun t39 =>
  ifB t39
  (K (.tuple #[(.pointer none), (.bool false)]) (tick w9))
  (pureK Tryz.prog (sNil t15) fun t42 =>
   pureK Tryz.prog (sFieldAddr T_errataref12_Store t42 3) fun t43 =>
   readK Tryz.prog (sLoad T_int t43) (tick w9) fun t44 =>
   pureK Tryz.prog (sBin .gtr T_int (.tmp 44) (.const (.int .i64 1152921504606846976)) t44 (.int .i64 1152921504606846976)) fun t45 =>
   ifB t45
   (K (.tuple #[(.pointer none), (.bool false)]) (tick w9))
   (pureK Tryz.prog (sNil t15) fun t49 =>
    pureK Tryz.prog (sFieldAddr T_errataref12_Store t49 4) fun t50 =>
    readK Tryz.prog (sLoad T_int t50) (tick w9) fun t51 =>
    pureK Tryz.prog (sBin .lss T_int (.tmp 51) (.const (.int .i64 0)) t51 (.int .i64 0)) fun t52 =>
    ifB t52
    (K (.tuple #[(.pointer none), (.bool false)]) (tick w9))
    (pureK Tryz.prog (sNil t15) fun t56 =>
     pureK Tryz.prog (sFieldAddr T_errataref12_Store t56 4) fun t57 =>
     readK Tryz.prog (sLoad T_int t57) (tick w9) fun t58 =>
     pureK Tryz.prog (sBin .gtr T_int (.tmp 58) (.const (.int .i64 1099511627777)) t58 (.int .i64 1099511627777)) fun t59 =>
     ifB t59
     (K (.tuple #[(.pointer none), (.bool false)]) (tick w9))
     (pureK Tryz.prog (sNil t15) fun t63 =>
      pureK Tryz.prog (sFieldAddr T_errataref12_Store t63 4) fun t64 =>
      readK Tryz.prog (sLoad T_int t64) (tick w9) fun t65 =>
      pureK Tryz.prog (sBin .eql T_int (.tmp 65) (.const (.int .i64 0)) t65 (.int .i64 0)) fun t66 =>
      pureK Tryz.prog (sNil t15) fun t68 =>
      pureK Tryz.prog (sFieldAddr T_errataref12_Store t68 3) fun t69 =>
      readK Tryz.prog (sLoad T_int t69) (tick w9) fun t70 =>
      pureK Tryz.prog (sBin .eql T_int (.tmp 70) (.const (.int .i64 0)) t70 (.int .i64 0)) fun t71 =>
      pureK Tryz.prog (sBin .neq T_bool (.tmp 66) (.tmp 71) t66 t71) fun t72 =>
      ifB t72
      (K (.tuple #[(.pointer none), (.bool false)]) (tick w9))
      (pureK Tryz.prog (sBin .gtr T_int (.tmp 75) (.const (.int .i64 2000)) t34 (.int .i64 2000)) fun t76 =>
       ifB t76
       (K (.tuple #[(.pointer none), (.bool false)]) (tick w9))
       (LOOP (X := Value × Unit) (fun lv10 w10 next10 =>
         pureK Tryz.prog (sBin .lss T_int (.tmp 78) (.tmp 79) lv10.1 t34) fun t80 =>
         ifB t80
         (LETJ (X := Value × Unit) (fun jv1 w11 =>
           upK Tryz.prog (sCall F_errataref01_Reader_Text #[t12]) w11 fun t91 w12 =>
           pureK Tryz.prog (sFieldAddr T_api_Event jv1.1 2) fun t92 =>
           upK Tryz.prog (sStore T_string t92 t91) w12 fun tu_3 w13 =>
           upK Tryz.prog (sCall F_errataref01_Reader_Int #[t12]) w13 fun t94 w14 =>
           pureK Tryz.prog (sFieldAddr T_api_Event jv1.1 3) fun t95 =>
           upK Tryz.prog (sStore T_int t95 t94) w14 fun tu_4 w15 =>
           upK Tryz.prog (sCall F_errataref01_Reader_Int #[t12]) w15 fun t97 w16 =>
           pureK Tryz.prog (sFieldAddr T_api_Event jv1.1 4) fun t98 =>
           upK Tryz.prog (sStore T_int t98 t97) w16 fun tu_5 w17 =>
           upK Tryz.prog (sCall F_errataref01_Reader_Text #[t12]) w17 fun t101 w18 =>
           upK Tryz.prog (sCall F_errataref03_ReadRow #[t101]) w18 fun t102 w19 =>
           pureK Tryz.prog (sExtract t102 0) fun t103 =>
           pureK Tryz.prog (sExtract t102 1) fun t104 =>
           pureK Tryz.prog (sFieldAddr T_api_Event jv1.1 5) fun t106 =>
           upK Tryz.prog (sStore T_s_api_Value t106 t103) w19 fun tu_6 w20 =>
           pureK Tryz.prog (sUn .not t104) fun t108 =>
           ifB t108
           (K (.tuple #[(.pointer none), (.bool false)]) w20)
           (readK Tryz.prog (sLoad T_api_Event jv1.1) w20 fun t110 =>
            upK Tryz.prog (sCall F_errataref12_Store_Add #[t15, t110]) w20 fun t111 w21 =>
            pureK Tryz.prog (sBin .neq T_api_Errno (.tmp 111) (.const (.int .i64 0)) t111 (.int .i64 0)) fun t112 =>
            ifB t112
            (K (.tuple #[(.pointer none), (.bool false)]) w21)
            (pureK Tryz.prog (sBin .add T_int (.tmp 81) (.const (.int .i64 1)) lv10.1 (.int .i64 1)) fun t82 =>
             next10 (t82, ()) w21)))
          (fun J1 =>
           pureK Tryz.prog (sNil t15) fun t84 =>
           pureK Tryz.prog (sFieldAddr T_errataref12_Store t84 0) fun t85 =>
           readK Tryz.prog (sLoad T_int t85) (tick w10) fun t86 =>
           ((upK Tryz.prog (sCall F_errataref12_Store_Next #[t15]) (tick w10) fun t88 w22 =>
             Is Tryz.prog (sLoad T_int t85) t86 w22 ∧ pureK Tryz.prog (sBuild T_api_Event #[(0, t86), (1, t88)]) fun t89 =>
             upK Tryz.prog (sAlloc T_api_Event) w22 fun e8 w23 =>
             Is Tryz.prog (sLoad T_int t85) t86 w23 ∧ upK Tryz.prog (sStore T_api_Event e8 t89) w23 fun tu_7 w24 =>
             J1 (e8, ()) w24)
            ∧ (upK Tryz.prog (sAlloc T_api_Event) (tick w10) fun e8_1 w25 =>
             Is Tryz.prog (sLoad T_int t85) t86 w25 ∧ upK Tryz.prog (sCall F_errataref12_Store_Next #[t15]) w25 fun t88_1 w26 =>
             Is Tryz.prog (sLoad T_int t85) t86 w26 ∧ pureK Tryz.prog (sBuild T_api_Event #[(0, t86), (1, t88_1)]) fun t89_1 =>
             upK Tryz.prog (sStore T_api_Event e8_1 t89_1) w26 fun tu_8 w27 =>
             J1 (e8_1, ()) w27))))
         (upK Tryz.prog (sCall F_errataref01_Reader_Done #[t12]) w10 fun t114 w28 =>
          pureK Tryz.prog (sUn .not t114) fun t115 =>
          ifB t115
          (K (.tuple #[(.pointer none), (.bool false)]) w28)
          (K (.tuple #[t15, (.bool true)]) w28)))
        ((.int .i64 0), ()) (tick w9)))))))
theorem errataref12_Read.pt_eq : errataref12_Read.pt = fun b0 w K => FN Tryz.prog Tryz.f18 (bodyOf Tryz.f18) [2, 3] (.node none .leaf (.node none .leaf (.node none .leaf (.node none .leaf (.node none .leaf (.node none .leaf (.node none .leaf (.node none .leaf (.node none (.node none .leaf (.node none (.node none (.node none .leaf (.node none (.node none (.node (some [8]) .leaf .leaf) .leaf) .leaf)) .leaf) .leaf)) .leaf))))))))) [b0] w K := by kernel_rfl
theorem errataref12_Read.call {b0 : Value} {w : World} {K : Value → World → Prop} (h : errataref12_Read.pt b0 w K) : Calls Tryz.prog F_errataref12_Read #[b0] w (retK K) :=
  calls_FN (args := [b0]) Tryz.func18 (by kernel_rfl) (by rw [errataref12_Read.pt_eq] at h; exact h)
theorem errataref12_Read.up {b0 : Value} {w : World} {K : Value → World → Prop} (h : Calls Tryz.prog F_errataref12_Read #[b0] w (retK K)) : upK Tryz.prog (sCall F_errataref12_Read #[b0]) w K :=
  up_call (fn := Tryz.f18) Tryz.func18 (by kernel_rfl) (by kernel_rfl) h

/-- (*errata/errataref12.Store).Bytes -/
def errataref12_Store_Bytes.pt (s0 : Value) (w : World) (K : Value → World → Prop) : Prop :=
  upK Tryz.prog (sCall F_errataref12_Store_Kept #[s0]) w fun t7 w1 =>
  pureK Tryz.prog (sNil s0) fun t9 =>
  pureK Tryz.prog (sFieldAddr T_errataref12_Store t9 0) fun t10 =>
  readK Tryz.prog (sLoad T_int t10) (tick w1) fun t11 =>
  pureK Tryz.prog (sNil s0) fun t14 =>
  pureK Tryz.prog (sFieldAddr T_errataref12_Store t14 3) fun t15 =>
  readK Tryz.prog (sLoad T_int t15) (tick w1) fun t16 =>
  readK Tryz.prog (sBlt .len #[T_s_api_Event] T_int #[false] #[t7]) (tick w1) fun t24 =>
  upK Tryz.prog (sCall F_errataref01_Int #[t11]) (tick w1) fun t12 w2 =>
  Is Tryz.prog (sBlt .len #[T_s_api_Event] T_int #[false] #[t7]) t24 w2 ∧ Is Tryz.prog (sLoad T_int t15) t16 w2 ∧ upK Tryz.prog (sCall F_errataref01_Int #[t16]) w2 fun t17 w3 =>
  Is Tryz.prog (sBlt .len #[T_s_api_Event] T_int #[false] #[t7]) t24 w3 ∧ pureK Tryz.prog (sBin .add T_string (.tmp 12) (.tmp 17) t12 t17) fun t18 =>
  upK Tryz.prog (sCall F_errataref12_Store_Least #[s0]) w3 fun t20 w4 =>
  Is Tryz.prog (sBlt .len #[T_s_api_Event] T_int #[false] #[t7]) t24 w4 ∧ upK Tryz.prog (sCall F_errataref01_Int #[t20]) w4 fun t21 w5 =>
  Is Tryz.prog (sBlt .len #[T_s_api_Event] T_int #[false] #[t7]) t24 w5 ∧ pureK Tryz.prog (sBin .add T_string (.tmp 18) (.tmp 21) t18 t21) fun t22 =>
  upK Tryz.prog (sCall F_errataref01_Num #[t24]) w5 fun t25 w6 =>
  pureK Tryz.prog (sBin .add T_string (.tmp 22) (.tmp 25) t22 t25) fun t26 =>
  LOOP (X := Value × Value × Unit) (fun lv7 w7 next7 =>
   readK Tryz.prog (sBlt .len #[T_s_api_Event] T_int #[false] #[t7]) w7 fun t29 =>
   pureK Tryz.prog (sBin .lss T_int (.tmp 27) (.tmp 29) lv7.2.1 t29) fun t30 =>
   ifB t30
   (pureK Tryz.prog (sIdxAddr T_s_api_Event t7 lv7.2.1) fun t36 =>
    pureK Tryz.prog (sFieldAddr T_api_Event t36 2) fun t37 =>
    readK Tryz.prog (sLoad T_string t37) (tick w7) fun t38 =>
    pureK Tryz.prog (sIdxAddr T_s_api_Event t7 lv7.2.1) fun t43 =>
    pureK Tryz.prog (sFieldAddr T_api_Event t43 3) fun t44 =>
    readK Tryz.prog (sLoad T_int t44) (tick w7) fun t45 =>
    pureK Tryz.prog (sIdxAddr T_s_api_Event t7 lv7.2.1) fun t50 =>
    pureK Tryz.prog (sFieldAddr T_api_Event t50 4) fun t51 =>
    readK Tryz.prog (sLoad T_int t51) (tick w7) fun t52 =>
    pureK Tryz.prog (sIdxAddr T_s_api_Event t7 lv7.2.1) fun t57 =>
    pureK Tryz.prog (sFieldAddr T_api_Event t57 5) fun t58 =>
    readK Tryz.prog (sLoad T_s_api_Value t58) (tick w7) fun t59 =>
    upK Tryz.prog (sCall F_errataref01_Text #[t38]) (tick w7) fun t39 w8 =>
    Is Tryz.prog (sLoad T_s_api_Value t58) t59 w8 ∧ Is Tryz.prog (sLoad T_int t51) t52 w8 ∧ Is Tryz.prog (sLoad T_int t44) t45 w8 ∧ pureK Tryz.prog (sBin .add T_string (.tmp 33) (.tmp 39) lv7.1 t39) fun t40 =>
    upK Tryz.prog (sCall F_errataref01_Int #[t45]) w8 fun t46 w9 =>
    Is Tryz.prog (sLoad T_s_api_Value t58) t59 w9 ∧ Is Tryz.prog (sLoad T_int t51) t52 w9 ∧ pureK Tryz.prog (sBin .add T_string (.tmp 40) (.tmp 46) t40 t46) fun t47 =>
    upK Tryz.prog (sCall F_errataref01_Int #[t52]) w9 fun t53 w10 =>
    Is Tryz.prog (sLoad T_s_api_Value t58) t59 w10 ∧ pureK Tryz.prog (sBin .add T_string (.tmp 47) (.tmp 53) t47 t53) fun t54 =>
    upK Tryz.prog (sCall F_errataref03_RowBytes #[t59]) w10 fun t60 w11 =>
    upK Tryz.prog (sCall F_errataref01_Text #[t60]) w11 fun t61 w12 =>
    pureK Tryz.prog (sBin .add T_string (.tmp 54) (.tmp 61) t54 t61) fun t62 =>
    pureK Tryz.prog (sBin .add T_int (.tmp 31) (.const (.int .i64 1)) lv7.2.1 (.int .i64 1)) fun t32 =>
    next7 (t62, t32, ()) w12)
   (K lv7.1 w7))
  (t26, (.int .i64 0), ()) w6
theorem errataref12_Store_Bytes.pt_eq : errataref12_Store_Bytes.pt = fun s0 w K => FN Tryz.prog Tryz.f19 (bodyOf Tryz.f19) [2] .leaf [s0] w K := by kernel_rfl
theorem errataref12_Store_Bytes.call {s0 : Value} {w : World} {K : Value → World → Prop} (h : errataref12_Store_Bytes.pt s0 w K) : Calls Tryz.prog F_errataref12_Store_Bytes #[s0] w (retK K) :=
  calls_FN (args := [s0]) Tryz.func19 (by kernel_rfl) (by rw [errataref12_Store_Bytes.pt_eq] at h; exact h)
theorem errataref12_Store_Bytes.up {s0 : Value} {w : World} {K : Value → World → Prop} (h : Calls Tryz.prog F_errataref12_Store_Bytes #[s0] w (retK K)) : upK Tryz.prog (sCall F_errataref12_Store_Bytes #[s0]) w K :=
  up_call (fn := Tryz.f19) Tryz.func19 (by kernel_rfl) (by kernel_rfl) h

/-- (*errata/retain.Store).Part -/
def retain_Store_Part.pt (s0 : Value) (w : World) (K : Value → World → Prop) : Prop :=
  pureK Tryz.prog (sNil s0) fun t4 =>
  pureK Tryz.prog (sFieldAddr T_retain_Store t4 0) fun t5 =>
  readK Tryz.prog (sLoad T_int t5) w fun t6 =>
  K t6 w
theorem retain_Store_Part.pt_eq : retain_Store_Part.pt = fun s0 w K => FN Tryz.prog Tryz.f20 (bodyOf Tryz.f20) [2] .leaf [s0] w K := by kernel_rfl
theorem retain_Store_Part.call {s0 : Value} {w : World} {K : Value → World → Prop} (h : retain_Store_Part.pt s0 w K) : Calls Tryz.prog F_retain_Store_Part #[s0] w (retK K) :=
  calls_FN (args := [s0]) Tryz.func20 (by kernel_rfl) (by rw [retain_Store_Part.pt_eq] at h; exact h)
theorem retain_Store_Part.up {s0 : Value} {w : World} {K : Value → World → Prop} (h : Calls Tryz.prog F_retain_Store_Part #[s0] w (retK K)) : upK Tryz.prog (sCall F_retain_Store_Part #[s0]) w K :=
  up_call (fn := Tryz.f20) Tryz.func20 (by kernel_rfl) (by kernel_rfl) h

/-- (*errata/retain.Store).First -/
def retain_Store_First.pt (s0 : Value) (w : World) (K : Value → World → Prop) : Prop :=
  pureK Tryz.prog (sNil s0) fun t4 =>
  pureK Tryz.prog (sFieldAddr T_retain_Store t4 1) fun t5 =>
  readK Tryz.prog (sLoad T_int t5) w fun t6 =>
  K t6 w
theorem retain_Store_First.pt_eq : retain_Store_First.pt = fun s0 w K => FN Tryz.prog Tryz.f21 (bodyOf Tryz.f21) [2] .leaf [s0] w K := by kernel_rfl
theorem retain_Store_First.call {s0 : Value} {w : World} {K : Value → World → Prop} (h : retain_Store_First.pt s0 w K) : Calls Tryz.prog F_retain_Store_First #[s0] w (retK K) :=
  calls_FN (args := [s0]) Tryz.func21 (by kernel_rfl) (by rw [retain_Store_First.pt_eq] at h; exact h)
theorem retain_Store_First.up {s0 : Value} {w : World} {K : Value → World → Prop} (h : Calls Tryz.prog F_retain_Store_First #[s0] w (retK K)) : upK Tryz.prog (sCall F_retain_Store_First #[s0]) w K :=
  up_call (fn := Tryz.f21) Tryz.func21 (by kernel_rfl) (by kernel_rfl) h

/-- (*errata/retain.Store).Next -/
def retain_Store_Next.pt (s0 : Value) (w : World) (K : Value → World → Prop) : Prop :=
  pureK Tryz.prog (sNil s0) fun t4 =>
  pureK Tryz.prog (sFieldAddr T_retain_Store t4 1) fun t5 =>
  readK Tryz.prog (sLoad T_int t5) (tick w) fun t6 =>
  pureK Tryz.prog (sNil s0) fun t8 =>
  pureK Tryz.prog (sFieldAddr T_retain_Store t8 3) fun t9 =>
  readK Tryz.prog (sLoad T_s_api_Event t9) (tick w) fun t10 =>
  readK Tryz.prog (sBlt .len #[T_s_api_Event] T_int #[false] #[t10]) (tick w) fun t11 =>
  pureK Tryz.prog (sBin .add T_int (.tmp 6) (.tmp 11) t6 t11) fun t12 =>
  K t12 (tick w)
theorem retain_Store_Next.pt_eq : retain_Store_Next.pt = fun s0 w K => FN Tryz.prog Tryz.f22 (bodyOf Tryz.f22) [2] .leaf [s0] w K := by kernel_rfl
theorem retain_Store_Next.call {s0 : Value} {w : World} {K : Value → World → Prop} (h : retain_Store_Next.pt s0 w K) : Calls Tryz.prog F_retain_Store_Next #[s0] w (retK K) :=
  calls_FN (args := [s0]) Tryz.func22 (by kernel_rfl) (by rw [retain_Store_Next.pt_eq] at h; exact h)
theorem retain_Store_Next.up {s0 : Value} {w : World} {K : Value → World → Prop} (h : Calls Tryz.prog F_retain_Store_Next #[s0] w (retK K)) : upK Tryz.prog (sCall F_retain_Store_Next #[s0]) w K :=
  up_call (fn := Tryz.f22) Tryz.func22 (by kernel_rfl) (by kernel_rfl) h

/-- (*errata/retain.Store).Horizon -/
def retain_Store_Horizon.pt (s0 : Value) (w : World) (K : Value → World → Prop) : Prop :=
  pureK Tryz.prog (sNil s0) fun t4 =>
  pureK Tryz.prog (sFieldAddr T_retain_Store t4 2) fun t5 =>
  readK Tryz.prog (sLoad T_int t5) w fun t6 =>
  K t6 w
theorem retain_Store_Horizon.pt_eq : retain_Store_Horizon.pt = fun s0 w K => FN Tryz.prog Tryz.f23 (bodyOf Tryz.f23) [2] .leaf [s0] w K := by kernel_rfl
theorem retain_Store_Horizon.call {s0 : Value} {w : World} {K : Value → World → Prop} (h : retain_Store_Horizon.pt s0 w K) : Calls Tryz.prog F_retain_Store_Horizon #[s0] w (retK K) :=
  calls_FN (args := [s0]) Tryz.func23 (by kernel_rfl) (by rw [retain_Store_Horizon.pt_eq] at h; exact h)
theorem retain_Store_Horizon.up {s0 : Value} {w : World} {K : Value → World → Prop} (h : Calls Tryz.prog F_retain_Store_Horizon #[s0] w (retK K)) : upK Tryz.prog (sCall F_retain_Store_Horizon #[s0]) w K :=
  up_call (fn := Tryz.f23) Tryz.func23 (by kernel_rfl) (by kernel_rfl) h

/-- (*errata/errataref12.Store).Least -/
def errataref12_Store_Least.pt (s0 : Value) (w : World) (K : Value → World → Prop) : Prop :=
  pureK Tryz.prog (sNil s0) fun t6 =>
  pureK Tryz.prog (sFieldAddr T_errataref12_Store t6 4) fun t7 =>
  readK Tryz.prog (sLoad T_int t7) w fun t8 =>
  LOOP (X := Value × Value × Unit) (fun lv1 w1 next1 =>
   pureK Tryz.prog (sNil s0) fun t11 =>
   pureK Tryz.prog (sFieldAddr T_errataref12_Store t11 3) fun t12 =>
   readK Tryz.prog (sLoad T_int t12) (tick w1) fun t13 =>
   pureK Tryz.prog (sNil s0) fun t15 =>
   pureK Tryz.prog (sFieldAddr T_errataref12_Store t15 2) fun t16 =>
   readK Tryz.prog (sLoad T_int t16) (tick w1) fun t17 =>
   pureK Tryz.prog (sBin .sub T_int (.tmp 13) (.tmp 17) t13 t17) fun t18 =>
   pureK Tryz.prog (sBin .lss T_int (.tmp 9) (.tmp 18) lv1.2.1 t18) fun t19 =>
   ifB t19
   (pureK Tryz.prog (sNil s0) fun t24 =>
    pureK Tryz.prog (sFieldAddr T_errataref12_Store t24 1) fun t25 =>
    readK Tryz.prog (sLoad T_s_api_Event t25) (tick w1) fun t26 =>
    pureK Tryz.prog (sIdxAddr T_s_api_Event t26 lv1.2.1) fun t28 =>
    pureK Tryz.prog (sFieldAddr T_api_Event t28 4) fun t29 =>
    readK Tryz.prog (sLoad T_int t29) (tick w1) fun t30 =>
    pureK Tryz.prog (sBin .add T_int (.tmp 30) (.const (.int .i64 1)) t30 (.int .i64 1)) fun t31 =>
    pureK Tryz.prog (sBlt .max #[T_int, T_int] T_int #[false, false] #[lv1.1, t31]) fun t32 =>
    pureK Tryz.prog (sBin .add T_int (.tmp 20) (.const (.int .i64 1)) lv1.2.1 (.int .i64 1)) fun t21 =>
    next1 (t32, t21, ()) (tick w1))
   (K lv1.1 (tick w1)))
  (t8, (.int .i64 0), ()) w
theorem errataref12_Store_Least.pt_eq : errataref12_Store_Least.pt = fun s0 w K => FN Tryz.prog Tryz.f24 (bodyOf Tryz.f24) [2] .leaf [s0] w K := by kernel_rfl
theorem errataref12_Store_Least.call {s0 : Value} {w : World} {K : Value → World → Prop} (h : errataref12_Store_Least.pt s0 w K) : Calls Tryz.prog F_errataref12_Store_Least #[s0] w (retK K) :=
  calls_FN (args := [s0]) Tryz.func24 (by kernel_rfl) (by rw [errataref12_Store_Least.pt_eq] at h; exact h)
theorem errataref12_Store_Least.up {s0 : Value} {w : World} {K : Value → World → Prop} (h : Calls Tryz.prog F_errataref12_Store_Least #[s0] w (retK K)) : upK Tryz.prog (sCall F_errataref12_Store_Least #[s0]) w K :=
  up_call (fn := Tryz.f24) Tryz.func24 (by kernel_rfl) (by kernel_rfl) h

/-- errata/errataref12.Same -/
def errataref12_Same.pt (a0 b1 : Value) (w : World) (K : Value → World → Prop) : Prop :=
  readK Tryz.prog (sBlt .len #[T_s_api_Event] T_int #[false] #[a0]) w fun t9 =>
  readK Tryz.prog (sBlt .len #[T_s_api_Event] T_int #[false] #[b1]) w fun t11 =>
  pureK Tryz.prog (sBin .neq T_int (.tmp 9) (.tmp 11) t9 t11) fun t12 =>
  ifB t12
  (K (.bool false) w)
  (LOOP (X := Value × Unit) (fun lv1 w1 next1 =>
    readK Tryz.prog (sBlt .len #[T_s_api_Event] T_int #[false] #[a0]) w1 fun t15 =>
    pureK Tryz.prog (sBin .lss T_int (.tmp 13) (.tmp 15) lv1.1 t15) fun t16 =>
    ifB t16
    (pureK Tryz.prog (sIdxAddr T_s_api_Event a0 lv1.1) fun t21 =>
     readK Tryz.prog (sLoad T_api_Event t21) w1 fun t22 =>
     upK Tryz.prog (sAlloc T_api_Event) w1 fun x6 w2 =>
     upK Tryz.prog (sStore T_api_Event x6 t22) w2 fun tu w3 =>
     pureK Tryz.prog (sIdxAddr T_s_api_Event b1 lv1.1) fun t25 =>
     readK Tryz.prog (sLoad T_api_Event t25) w3 fun t26 =>
     upK Tryz.prog (sAlloc T_api_Event) w3 fun vy7 w4 =>
     upK Tryz.prog (sStore T_api_Event vy7 t26) w4 fun tu_1 w5 =>
     pureK Tryz.prog (sFieldAddr T_api_Event x6 0) fun t27 =>
     readK Tryz.prog (sLoad T_int t27) w5 fun t28 =>
     pureK Tryz.prog (sFieldAddr T_api_Event vy7 0) fun t29 =>
     readK Tryz.prog (sLoad T_int t29) w5 fun t30 =>
     pureK Tryz.prog (sBin .neq T_int (.tmp 28) (.tmp 30) t28 t30) fun t31 =>
     ifB t31
     (K (.bool false) w5)
     (pureK Tryz.prog (sFieldAddr T_api_Event x6 1) fun t33 =>
      readK Tryz.prog (sLoad T_int t33) w5 fun t34 =>
      pureK Tryz.prog (sFieldAddr T_api_Event vy7 1) fun t35 =>
      readK Tryz.prog (sLoad T_int t35) w5 fun t36 =>
      pureK Tryz.prog (sBin .neq T_int (.tmp 34) (.tmp 36) t34 t36) fun t37 =>
      ifB t37
      (K (.bool false) w5)
      (pureK Tryz.prog (sFieldAddr T_api_Event x6 2) fun t40 =>
       readK Tryz.prog (sLoad T_string t40) w5 fun t41 =>
       pureK Tryz.prog (sFieldAddr T_api_Event vy7 2) fun t42 =>
       readK Tryz.prog (sLoad T_string t42) w5 fun t43 =>
       pureK Tryz.prog (sBin .neq T_string (.tmp 41) (.tmp 43) t41 t43) fun t44 =>
       ifB t44
       (K (.bool false) w5)
       (pureK Tryz.prog (sFieldAddr T_api_Event x6 3) fun t47 =>
        readK Tryz.prog (sLoad T_int t47) w5 fun t48 =>
        pureK Tryz.prog (sFieldAddr T_api_Event vy7 3) fun t49 =>
        readK Tryz.prog (sLoad T_int t49) w5 fun t50 =>
        pureK Tryz.prog (sBin .neq T_int (.tmp 48) (.tmp 50) t48 t50) fun t51 =>
        ifB t51
        (K (.bool false) w5)
        (pureK Tryz.prog (sFieldAddr T_api_Event x6 4) fun t54 =>
         readK Tryz.prog (sLoad T_int t54) w5 fun t55 =>
         pureK Tryz.prog (sFieldAddr T_api_Event vy7 4) fun t56 =>
         readK Tryz.prog (sLoad T_int t56) w5 fun t57 =>
         pureK Tryz.prog (sBin .neq T_int (.tmp 55) (.tmp 57) t55 t57) fun t58 =>
         ifB t58
         (K (.bool false) w5)
         (pureK Tryz.prog (sFieldAddr T_api_Event x6 5) fun t61 =>
          readK Tryz.prog (sLoad T_s_api_Value t61) w5 fun t62 =>
          pureK Tryz.prog (sFieldAddr T_api_Event vy7 5) fun t63 =>
          readK Tryz.prog (sLoad T_s_api_Value t63) w5 fun t64 =>
          upK Tryz.prog (sCall F_errataref03_Same #[t62, t64]) w5 fun t65 w6 =>
          pureK Tryz.prog (sUn .not t65) fun t66 =>
          ifB t66
          (K (.bool false) w6)
          (pureK Tryz.prog (sBin .add T_int (.tmp 17) (.const (.int .i64 1)) lv1.1 (.int .i64 1)) fun t18 =>
           next1 (t18, ()) w6)))))))
    (K (.bool true) w1))
   ((.int .i64 0), ()) w)
theorem errataref12_Same.pt_eq : errataref12_Same.pt = fun a0 b1 w K => FN Tryz.prog Tryz.f25 (bodyOf Tryz.f25) [4] .leaf [a0, b1] w K := by kernel_rfl
theorem errataref12_Same.call {a0 b1 : Value} {w : World} {K : Value → World → Prop} (h : errataref12_Same.pt a0 b1 w K) : Calls Tryz.prog F_errataref12_Same #[a0, b1] w (retK K) :=
  calls_FN (args := [a0, b1]) Tryz.func25 (by kernel_rfl) (by rw [errataref12_Same.pt_eq] at h; exact h)
theorem errataref12_Same.up {a0 b1 : Value} {w : World} {K : Value → World → Prop} (h : Calls Tryz.prog F_errataref12_Same #[a0, b1] w (retK K)) : upK Tryz.prog (sCall F_errataref12_Same #[a0, b1]) w K :=
  up_call (fn := Tryz.f25) Tryz.func25 (by kernel_rfl) (by kernel_rfl) h

/-- (*errata/retain.Store).Slice -/
def retain_Store_Slice.pt (s0 from1 most2 : Value) (w : World) (K : Value → World → Prop) : Prop :=
  upK Tryz.prog (sCall F_retain_Store_place #[s0, from1]) w fun t10 w1 =>
  pureK Tryz.prog (sNil s0) fun t12 =>
  pureK Tryz.prog (sFieldAddr T_retain_Store t12 3) fun t13 =>
  readK Tryz.prog (sLoad T_s_api_Event t13) (tick w1) fun t14 =>
  pureK Tryz.prog (sNil s0) fun t19 =>
  pureK Tryz.prog (sFieldAddr T_retain_Store t19 3) fun t20 =>
  readK Tryz.prog (sLoad T_s_api_Event t20) (tick w1) fun t21 =>
  readK Tryz.prog (sBlt .len #[T_s_api_Event] T_int #[false] #[t21]) (tick w1) fun t22 =>
  pureK Tryz.prog (sBin .sub T_int (.tmp 22) (.tmp 23) t22 t10) fun t24 =>
  pureK Tryz.prog (sBlt .min #[T_int, T_int] T_int #[false, false] #[most2, t24]) fun t25 =>
  pureK Tryz.prog (sBlt .max #[T_int, T_int] T_int #[true, false] #[(.int .i64 0), t25]) fun t26 =>
  pureK Tryz.prog (sBin .add T_int (.tmp 16) (.tmp 26) t10 t26) fun t27 =>
  pureK Tryz.prog (sSlice T_s_api_Event t14 (some t10) (some t27) none) fun t28 =>
  upK Tryz.prog (sCall F_retain_copied_api_Event #[t28, (.func (.func 34) #[] #[])]) (tick w1) fun t29 w2 =>
  Is Tryz.prog (sLoad T_s_api_Event t20) t21 w2 ∧ K t29 w2
theorem retain_Store_Slice.pt_eq : retain_Store_Slice.pt = fun s0 from1 most2 w K => FN Tryz.prog Tryz.f26 (bodyOf Tryz.f26) [6] .leaf [s0, from1, most2] w K := by kernel_rfl
theorem retain_Store_Slice.call {s0 from1 most2 : Value} {w : World} {K : Value → World → Prop} (h : retain_Store_Slice.pt s0 from1 most2 w K) : Calls Tryz.prog F_retain_Store_Slice #[s0, from1, most2] w (retK K) :=
  calls_FN (args := [s0, from1, most2]) Tryz.func26 (by kernel_rfl) (by rw [retain_Store_Slice.pt_eq] at h; exact h)
theorem retain_Store_Slice.up {s0 from1 most2 : Value} {w : World} {K : Value → World → Prop} (h : Calls Tryz.prog F_retain_Store_Slice #[s0, from1, most2] w (retK K)) : upK Tryz.prog (sCall F_retain_Store_Slice #[s0, from1, most2]) w K :=
  up_call (fn := Tryz.f26) Tryz.func26 (by kernel_rfl) (by kernel_rfl) h

/-- (*errata/errataref12.Store).Slice -/
def errataref12_Store_Slice.pt (s0 from1 most2 : Value) (w : World) (K : Value → World → Prop) : Prop :=
  upK Tryz.prog (sCall F_errataref12_Store_Kept #[s0]) w fun t11 w1 =>
  LETJ (X := Value × Unit) (fun jv1 w2 =>
   K jv1.1 w2)
  (fun J1 =>
   LOOP (X := Value × Value × Unit) (fun lv3 w3 next3 =>
    readK Tryz.prog (sBlt .len #[T_s_api_Event] T_int #[false] #[t11]) w3 fun t14 =>
    pureK Tryz.prog (sBin .lss T_int (.tmp 12) (.tmp 14) lv3.2.1 t14) fun t15 =>
    ifB t15
    (readK Tryz.prog (sBlt .len #[T_s_api_Event] T_int #[false] #[lv3.1]) w3 fun t18 =>
     pureK Tryz.prog (sBin .lss T_int (.tmp 18) (.tmp 19) t18 most2) fun t20 =>
     ifB t20
     (LETJ (X := Value × Unit) (fun jv2 w4 =>
       pureK Tryz.prog (sBin .add T_int (.tmp 22) (.const (.int .i64 1)) lv3.2.1 (.int .i64 1)) fun t23 =>
       next3 (jv2.1, t23, ()) w4)
      (fun J2 =>
       pureK Tryz.prog (sIdxAddr T_s_api_Event t11 lv3.2.1) fun t26 =>
       pureK Tryz.prog (sFieldAddr T_api_Event t26 1) fun t27 =>
       readK Tryz.prog (sLoad T_int t27) w3 fun t28 =>
       pureK Tryz.prog (sBin .geq T_int (.tmp 28) (.tmp 29) t28 from1) fun t30 =>
       ifB t30
       (pureK Tryz.prog (sIdxAddr T_s_api_Event t11 lv3.2.1) fun t34 =>
        readK Tryz.prog (sLoad T_api_Event t34) w3 fun t35 =>
        upK Tryz.prog (sBuildSlice T_s_api_Event 1 #[(0, t35)]) w3 fun t36 w5 =>
        upK Tryz.prog (sBlt .append #[T_s_api_Event, T_s_api_Event] T_s_api_Event #[false, false] #[lv3.1, t36]) w5 fun t37 w6 =>
        J2 (t37, ()) w6)
       (J2 (lv3.1, ()) w3)))
     (J1 (lv3.1, ()) w3))
    (J1 (lv3.1, ()) w3))
   ((.slice none 0 0), (.int .i64 0), ()) w1)
theorem errataref12_Store_Slice.pt_eq : errataref12_Store_Slice.pt = fun s0 from1 most2 w K => FN Tryz.prog Tryz.f27 (bodyOf Tryz.f27) [6] (.node none .leaf (.node none .leaf (.node none .leaf (.node (some [7]) (.node none .leaf (.node none (.node none (.node none .leaf (.node (some [7]) .leaf .leaf)) .leaf) .leaf)) .leaf)))) [s0, from1, most2] w K := by kernel_rfl
theorem errataref12_Store_Slice.call {s0 from1 most2 : Value} {w : World} {K : Value → World → Prop} (h : errataref12_Store_Slice.pt s0 from1 most2 w K) : Calls Tryz.prog F_errataref12_Store_Slice #[s0, from1, most2] w (retK K) :=
  calls_FN (args := [s0, from1, most2]) Tryz.func27 (by kernel_rfl) (by rw [errataref12_Store_Slice.pt_eq] at h; exact h)
theorem errataref12_Store_Slice.up {s0 from1 most2 : Value} {w : World} {K : Value → World → Prop} (h : Calls Tryz.prog F_errataref12_Store_Slice #[s0, from1, most2] w (retK K)) : upK Tryz.prog (sCall F_errataref12_Store_Slice #[s0, from1, most2]) w K :=
  up_call (fn := Tryz.f27) Tryz.func27 (by kernel_rfl) (by kernel_rfl) h

/-- (*errata/retain.Store).From -/
def retain_Store_From.pt (s0 time1 : Value) (w : World) (K : Value → World → Prop) : Prop :=
  pureK Tryz.prog (sNil s0) fun t9 =>
  pureK Tryz.prog (sFieldAddr T_retain_Store t9 3) fun t10 =>
  readK Tryz.prog (sLoad T_s_api_Event t10) w fun t11 =>
  readK Tryz.prog (sBlt .len #[T_s_api_Event] T_int #[false] #[t11]) w fun t12 =>
  LOOP (X := Value × Value × Unit) (fun lv1 w1 next1 =>
   pureK Tryz.prog (sBin .lss T_int (.tmp 13) (.tmp 12) lv1.2.1 t12) fun t14 =>
   ifB t14
   (LETJ (X := Value × Unit) (fun jv1 w2 =>
     pureK Tryz.prog (sBin .add T_int (.tmp 13) (.const (.int .i64 1)) lv1.2.1 (.int .i64 1)) fun t26 =>
     next1 (jv1.1, t26, ()) w2)
    (fun J1 =>
     pureK Tryz.prog (sIdxAddr T_s_api_Event t11 lv1.2.1) fun t15 =>
     readK Tryz.prog (sLoad T_api_Event t15) w1 fun t16 =>
     upK Tryz.prog (sAlloc T_api_Event) w1 fun e7 w3 =>
     upK Tryz.prog (sStore T_api_Event e7 t16) w3 fun tu w4 =>
     pureK Tryz.prog (sFieldAddr T_api_Event e7 4) fun t17 =>
     readK Tryz.prog (sLoad T_int t17) w4 fun t18 =>
     pureK Tryz.prog (sBin .geq T_int (.tmp 18) (.tmp 19) t18 time1) fun t20 =>
     ifB t20
     (readK Tryz.prog (sLoad T_api_Event e7) w4 fun t22 =>
      upK Tryz.prog (sCall F_retain_event #[t22]) w4 fun t23 w5 =>
      upK Tryz.prog (sBuildSlice T_s_api_Event 1 #[(0, t23)]) w5 fun t24 w6 =>
      upK Tryz.prog (sBlt .append #[T_s_api_Event, T_s_api_Event] T_s_api_Event #[false, false] #[lv1.1, t24]) w6 fun t25 w7 =>
      J1 (t25, ()) w7)
     (J1 (lv1.1, ()) w4)))
   (K lv1.1 w1))
  ((.slice none 0 0), (.int .i64 0), ()) w
theorem retain_Store_From.pt_eq : retain_Store_From.pt = fun s0 time1 w K => FN Tryz.prog Tryz.f28 (bodyOf Tryz.f28) [4] (.node none .leaf (.node none .leaf (.node none (.node none .leaf (.node none (.node none (.node none .leaf (.node none .leaf (.node (some [5]) .leaf .leaf))) .leaf) .leaf)) .leaf))) [s0, time1] w K := by kernel_rfl
theorem retain_Store_From.call {s0 time1 : Value} {w : World} {K : Value → World → Prop} (h : retain_Store_From.pt s0 time1 w K) : Calls Tryz.prog F_retain_Store_From #[s0, time1] w (retK K) :=
  calls_FN (args := [s0, time1]) Tryz.func28 (by kernel_rfl) (by rw [retain_Store_From.pt_eq] at h; exact h)
theorem retain_Store_From.up {s0 time1 : Value} {w : World} {K : Value → World → Prop} (h : Calls Tryz.prog F_retain_Store_From #[s0, time1] w (retK K)) : upK Tryz.prog (sCall F_retain_Store_From #[s0, time1]) w K :=
  up_call (fn := Tryz.f28) Tryz.func28 (by kernel_rfl) (by kernel_rfl) h

/-- (*errata/errataref12.Store).From -/
def errataref12_Store_From.pt (s0 time1 : Value) (w : World) (K : Value → World → Prop) : Prop :=
  upK Tryz.prog (sCall F_errataref12_Store_Kept #[s0]) w fun t9 w1 =>
  LOOP (X := Value × Value × Unit) (fun lv2 w2 next2 =>
   readK Tryz.prog (sBlt .len #[T_s_api_Event] T_int #[false] #[t9]) w2 fun t12 =>
   pureK Tryz.prog (sBin .lss T_int (.tmp 10) (.tmp 12) lv2.2.1 t12) fun t13 =>
   ifB t13
   (LETJ (X := Value × Unit) (fun jv1 w3 =>
     pureK Tryz.prog (sBin .add T_int (.tmp 14) (.const (.int .i64 1)) lv2.2.1 (.int .i64 1)) fun t15 =>
     next2 (jv1.1, t15, ()) w3)
    (fun J1 =>
     pureK Tryz.prog (sIdxAddr T_s_api_Event t9 lv2.2.1) fun t18 =>
     pureK Tryz.prog (sFieldAddr T_api_Event t18 4) fun t19 =>
     readK Tryz.prog (sLoad T_int t19) w2 fun t20 =>
     pureK Tryz.prog (sBin .geq T_int (.tmp 20) (.tmp 21) t20 time1) fun t22 =>
     ifB t22
     (pureK Tryz.prog (sIdxAddr T_s_api_Event t9 lv2.2.1) fun t26 =>
      readK Tryz.prog (sLoad T_api_Event t26) w2 fun t27 =>
      upK Tryz.prog (sBuildSlice T_s_api_Event 1 #[(0, t27)]) w2 fun t28 w4 =>
      upK Tryz.prog (sBlt .append #[T_s_api_Event, T_s_api_Event] T_s_api_Event #[false, false] #[lv2.1, t28]) w4 fun t29 w5 =>
      J1 (t29, ()) w5)
     (J1 (lv2.1, ()) w2)))
   (K lv2.1 w2))
  ((.slice none 0 0), (.int .i64 0), ()) w1
theorem errataref12_Store_From.pt_eq : errataref12_Store_From.pt = fun s0 time1 w K => FN Tryz.prog Tryz.f29 (bodyOf Tryz.f29) [4] (.node none .leaf (.node none .leaf (.node none .leaf (.node none (.node none .leaf (.node none (.node none (.node none .leaf (.node (some [5]) .leaf .leaf)) .leaf) .leaf)) .leaf)))) [s0, time1] w K := by kernel_rfl
theorem errataref12_Store_From.call {s0 time1 : Value} {w : World} {K : Value → World → Prop} (h : errataref12_Store_From.pt s0 time1 w K) : Calls Tryz.prog F_errataref12_Store_From #[s0, time1] w (retK K) :=
  calls_FN (args := [s0, time1]) Tryz.func29 (by kernel_rfl) (by rw [errataref12_Store_From.pt_eq] at h; exact h)
theorem errataref12_Store_From.up {s0 time1 : Value} {w : World} {K : Value → World → Prop} (h : Calls Tryz.prog F_errataref12_Store_From #[s0, time1] w (retK K)) : upK Tryz.prog (sCall F_errataref12_Store_From #[s0, time1]) w K :=
  up_call (fn := Tryz.f29) Tryz.func29 (by kernel_rfl) (by kernel_rfl) h

/-- (*errata/retain.Store).Copy -/
def retain_Store_Copy.pt (s0 : Value) (w : World) (K : Value → World → Prop) : Prop :=
  pureK Tryz.prog (sNil s0) fun t5 =>
  readK Tryz.prog (sLoad T_retain_Store t5) w fun t6 =>
  upK Tryz.prog (sAlloc T_retain_Store) w fun c3 w1 =>
  upK Tryz.prog (sStore T_retain_Store c3 t6) w1 fun tu w2 =>
  pureK Tryz.prog (sNil s0) fun t8 =>
  pureK Tryz.prog (sFieldAddr T_retain_Store t8 3) fun t9 =>
  readK Tryz.prog (sLoad T_s_api_Event t9) w2 fun t10 =>
  upK Tryz.prog (sCall F_retain_copied_api_Event #[t10, (.func (.func 34) #[] #[])]) w2 fun t11 w3 =>
  pureK Tryz.prog (sFieldAddr T_retain_Store c3 3) fun t12 =>
  upK Tryz.prog (sStore T_s_api_Event t12 t11) w3 fun tu_1 w4 =>
  K c3 w4
theorem retain_Store_Copy.pt_eq : retain_Store_Copy.pt = fun s0 w K => FN Tryz.prog Tryz.f30 (bodyOf Tryz.f30) [2] .leaf [s0] w K := by kernel_rfl
theorem retain_Store_Copy.call {s0 : Value} {w : World} {K : Value → World → Prop} (h : retain_Store_Copy.pt s0 w K) : Calls Tryz.prog F_retain_Store_Copy #[s0] w (retK K) :=
  calls_FN (args := [s0]) Tryz.func30 (by kernel_rfl) (by rw [retain_Store_Copy.pt_eq] at h; exact h)
theorem retain_Store_Copy.up {s0 : Value} {w : World} {K : Value → World → Prop} (h : Calls Tryz.prog F_retain_Store_Copy #[s0] w (retK K)) : upK Tryz.prog (sCall F_retain_Store_Copy #[s0]) w K :=
  up_call (fn := Tryz.f30) Tryz.func30 (by kernel_rfl) (by kernel_rfl) h

/-- errata/errataref12.Few -/
def errataref12_Few.pt (l0 n1 : Value) (w : World) (K : Value → World → Prop) : Prop :=
  LOOP (X := Value × Unit) (fun lv1 w1 next1 =>
   readK Tryz.prog (sBlt .len #[T_s_api_Event] T_int #[false] #[l0]) w1 fun t9 =>
   pureK Tryz.prog (sBin .lss T_int (.tmp 7) (.tmp 9) lv1.1 t9) fun t10 =>
   ifB t10
   (LETJ (X := Unit) (fun jv1 w2 =>
     pureK Tryz.prog (sBin .add T_int (.tmp 11) (.const (.int .i64 1)) lv1.1 (.int .i64 1)) fun t12 =>
     next1 (t12, ()) w2)
    (fun J1 =>
     pureK Tryz.prog (sIdxAddr T_s_api_Event l0 lv1.1) fun t15 =>
     pureK Tryz.prog (sFieldAddr T_api_Event t15 5) fun t16 =>
     readK Tryz.prog (sLoad T_s_api_Value t16) w1 fun t17 =>
     readK Tryz.prog (sBlt .len #[T_s_api_Value] T_int #[false] #[t17]) w1 fun t18 =>
     pureK Tryz.prog (sBin .gtr T_int (.tmp 18) (.const (.int .i64 13)) t18 (.int .i64 13)) fun t19 =>
     ifB t19
     (K (.bool false) w1)
     (pureK Tryz.prog (sIdxAddr T_s_api_Event l0 lv1.1) fun t23 =>
      pureK Tryz.prog (sFieldAddr T_api_Event t23 2) fun t24 =>
      readK Tryz.prog (sLoad T_string t24) w1 fun t25 =>
      readK Tryz.prog (sBlt .len #[T_string] T_int #[false] #[t25]) w1 fun t26 =>
      pureK Tryz.prog (sBin .gtr T_int (.tmp 26) (.const (.int .i64 300)) t26 (.int .i64 300)) fun t27 =>
      ifB t27
      (K (.bool false) w1)
      (LOOP (X := Value × Unit) (fun lv3 w3 next3 =>
        pureK Tryz.prog (sIdxAddr T_s_api_Event l0 lv1.1) fun t32 =>
        pureK Tryz.prog (sFieldAddr T_api_Event t32 5) fun t33 =>
        readK Tryz.prog (sLoad T_s_api_Value t33) w3 fun t34 =>
        readK Tryz.prog (sBlt .len #[T_s_api_Value] T_int #[false] #[t34]) w3 fun t35 =>
        pureK Tryz.prog (sBin .lss T_int (.tmp 29) (.tmp 35) lv3.1 t35) fun t36 =>
        ifB t36
        (pureK Tryz.prog (sIdxAddr T_s_api_Event l0 lv1.1) fun t41 =>
         pureK Tryz.prog (sFieldAddr T_api_Event t41 5) fun t42 =>
         readK Tryz.prog (sLoad T_s_api_Value t42) w3 fun t43 =>
         pureK Tryz.prog (sIdxAddr T_s_api_Value t43 lv3.1) fun t45 =>
         pureK Tryz.prog (sFieldAddr T_api_Value t45 2) fun t46 =>
         readK Tryz.prog (sLoad T_string t46) w3 fun t47 =>
         readK Tryz.prog (sBlt .len #[T_string] T_int #[false] #[t47]) w3 fun t48 =>
         pureK Tryz.prog (sBin .gtr T_int (.tmp 48) (.const (.int .i64 300)) t48 (.int .i64 300)) fun t49 =>
         ifB t49
         (K (.bool false) w3)
         (pureK Tryz.prog (sBin .add T_int (.tmp 37) (.const (.int .i64 1)) lv3.1 (.int .i64 1)) fun t38 =>
          next3 (t38, ()) w3))
        (J1 (()) w3))
       ((.int .i64 0), ()) w1))))
   (readK Tryz.prog (sBlt .len #[T_s_api_Event] T_int #[false] #[l0]) w1 fun t51 =>
    pureK Tryz.prog (sBin .leq T_int (.tmp 51) (.tmp 52) t51 n1) fun t53 =>
    K t53 w1))
  ((.int .i64 0), ()) w
theorem errataref12_Few.pt_eq : errataref12_Few.pt = fun l0 n1 w K => FN Tryz.prog Tryz.f31 (bodyOf Tryz.f31) [4] (.node none .leaf (.node none (.node none .leaf (.node none (.node none (.node none .leaf (.node (some []) .leaf .leaf)) .leaf) .leaf)) .leaf)) [l0, n1] w K := by kernel_rfl
theorem errataref12_Few.call {l0 n1 : Value} {w : World} {K : Value → World → Prop} (h : errataref12_Few.pt l0 n1 w K) : Calls Tryz.prog F_errataref12_Few #[l0, n1] w (retK K) :=
  calls_FN (args := [l0, n1]) Tryz.func31 (by kernel_rfl) (by rw [errataref12_Few.pt_eq] at h; exact h)
theorem errataref12_Few.up {l0 n1 : Value} {w : World} {K : Value → World → Prop} (h : Calls Tryz.prog F_errataref12_Few #[l0, n1] w (retK K)) : upK Tryz.prog (sCall F_errataref12_Few #[l0, n1]) w K :=
  up_call (fn := Tryz.f31) Tryz.func31 (by kernel_rfl) (by kernel_rfl) h

/-- (*errata/retain.Store).right -/
def retain_Store_right.pt (s0 e1 : Value) (w : World) (K : Value → World → Prop) : Prop :=
  upK Tryz.prog (sBox T_api_Event e1) w fun e3 w1 =>
  pureK Tryz.prog (sFieldAddr T_api_Event e3 0) fun t5 =>
  readK Tryz.prog (sLoad T_int t5) (tick w1) fun t6 =>
  pureK Tryz.prog (sNil s0) fun t8 =>
  pureK Tryz.prog (sFieldAddr T_retain_Store t8 0) fun t9 =>
  readK Tryz.prog (sLoad T_int t9) (tick w1) fun t10 =>
  pureK Tryz.prog (sBin .eql T_int (.tmp 6) (.tmp 10) t6 t10) fun t11 =>
  ifB t11
  (pureK Tryz.prog (sFieldAddr T_api_Event e3 2) fun t13 =>
   readK Tryz.prog (sLoad T_string t13) (tick w1) fun t14 =>
   readK Tryz.prog (sBlt .len #[T_string] T_int #[false] #[t14]) (tick w1) fun t15 =>
   pureK Tryz.prog (sBin .leq T_int (.tmp 15) (.const (.int .i64 200)) t15 (.int .i64 200)) fun t16 =>
   ifB t16
   (pureK Tryz.prog (sFieldAddr T_api_Event e3 3) fun t19 =>
    readK Tryz.prog (sLoad T_int t19) (tick w1) fun t20 =>
    pureK Tryz.prog (sBin .geq T_int (.tmp 20) (.const (.int .i64 0)) t20 (.int .i64 0)) fun t21 =>
    ifB t21
    (pureK Tryz.prog (sFieldAddr T_api_Event e3 4) fun t24 =>
     readK Tryz.prog (sLoad T_int t24) (tick w1) fun t25 =>
     pureK Tryz.prog (sBin .geq T_int (.tmp 25) (.const (.int .i64 0)) t25 (.int .i64 0)) fun t26 =>
     ifB t26
     (pureK Tryz.prog (sFieldAddr T_api_Event e3 4) fun t29 =>
      readK Tryz.prog (sLoad T_int t29) (tick w1) fun t30 =>
      pureK Tryz.prog (sBin .leq T_int (.tmp 30) (.const (.int .i64 1099511627776)) t30 (.int .i64 1099511627776)) fun t31 =>
      K t31 (tick w1))
     (K (.bool false) (tick w1)))
    (K (.bool false) (tick w1)))
   (K (.bool false) (tick w1)))
  (K (.bool false) (tick w1))
theorem retain_Store_right.pt_eq : retain_Store_right.pt = fun s0 e1 w K => FN Tryz.prog Tryz.f32 (bodyOf Tryz.f32) [4] .leaf [s0, e1] w K := by kernel_rfl
theorem retain_Store_right.call {s0 e1 : Value} {w : World} {K : Value → World → Prop} (h : retain_Store_right.pt s0 e1 w K) : Calls Tryz.prog F_retain_Store_right #[s0, e1] w (retK K) :=
  calls_FN (args := [s0, e1]) Tryz.func32 (by kernel_rfl) (by rw [retain_Store_right.pt_eq] at h; exact h)
theorem retain_Store_right.up {s0 e1 : Value} {w : World} {K : Value → World → Prop} (h : Calls Tryz.prog F_retain_Store_right #[s0, e1] w (retK K)) : upK Tryz.prog (sCall F_retain_Store_right #[s0, e1]) w K :=
  up_call (fn := Tryz.f32) Tryz.func32 (by kernel_rfl) (by kernel_rfl) h

/-- errata/value.RightRow -/
def value_RightRow.pt (r0 : Value) (w : World) (K : Value → World → Prop) : Prop :=
  readK Tryz.prog (sBlt .len #[T_s_api_Value] T_int #[false] #[r0]) w fun t4 =>
  pureK Tryz.prog (sBin .leq T_int (.tmp 4) (.const (.int .i64 12)) t4 (.int .i64 12)) fun t5 =>
  ifB t5
  (upK Tryz.prog (sCall F_value_all #[r0]) w fun t8 w1 =>
   K t8 w1)
  (K (.bool false) w)
theorem value_RightRow.pt_eq : value_RightRow.pt = fun r0 w K => FN Tryz.prog Tryz.f33 (bodyOf Tryz.f33) [2] .leaf [r0] w K := by kernel_rfl
theorem value_RightRow.call {r0 : Value} {w : World} {K : Value → World → Prop} (h : value_RightRow.pt r0 w K) : Calls Tryz.prog F_value_RightRow #[r0] w (retK K) :=
  calls_FN (args := [r0]) Tryz.func33 (by kernel_rfl) (by rw [value_RightRow.pt_eq] at h; exact h)
theorem value_RightRow.up {r0 : Value} {w : World} {K : Value → World → Prop} (h : Calls Tryz.prog F_value_RightRow #[r0] w (retK K)) : upK Tryz.prog (sCall F_value_RightRow #[r0]) w K :=
  up_call (fn := Tryz.f33) Tryz.func33 (by kernel_rfl) (by kernel_rfl) h

/-- errata/retain.event -/
def retain_event.pt (e0 : Value) (w : World) (K : Value → World → Prop) : Prop :=
  upK Tryz.prog (sBox T_api_Event e0) w fun e1 w1 =>
  upK Tryz.prog (sAlloc T_api_Event) w1 fun t2 w2 =>
  pureK Tryz.prog (sFieldAddr T_api_Event e1 5) fun t3 =>
  readK Tryz.prog (sLoad T_s_api_Value t3) w2 fun t4 =>
  upK Tryz.prog (sCall F_slices_Clone_s_api_Value_api_Value #[t4]) w2 fun t5 w3 =>
  pureK Tryz.prog (sFieldAddr T_api_Event e1 5) fun t6 =>
  upK Tryz.prog (sStore T_s_api_Value t6 t5) w3 fun tu w4 =>
  readK Tryz.prog (sLoad T_api_Event e1) w4 fun t7 =>
  upK Tryz.prog (sStore T_api_Event t2 t7) w4 fun tu_1 w5 =>
  readV Tryz.prog (do loadVar T_api_Event (← asAddr t2)) w5 fun t2_1 =>
  K t2_1 w5
theorem retain_event.pt_eq : retain_event.pt = fun e0 w K => FN Tryz.prog Tryz.f34 (bodyOf Tryz.f34) [] .leaf [e0] w K := by kernel_rfl
theorem retain_event.call {e0 : Value} {w : World} {K : Value → World → Prop} (h : retain_event.pt e0 w K) : Calls Tryz.prog F_retain_event #[e0] w (retK K) :=
  calls_FN (args := [e0]) Tryz.func34 (by kernel_rfl) (by rw [retain_event.pt_eq] at h; exact h)
theorem retain_event.up {e0 : Value} {w : World} {K : Value → World → Prop} (h : Calls Tryz.prog F_retain_event #[e0] w (retK K)) : upK Tryz.prog (sCall F_retain_event #[e0]) w K :=
  up_call (fn := Tryz.f34) Tryz.func34 (by kernel_rfl) (by kernel_rfl) h

/-- errata/errataref03.RightRow -/
def errataref03_RightRow.pt (r0 : Value) (w : World) (K : Value → World → Prop) : Prop :=
  readK Tryz.prog (sBlt .len #[T_s_api_Value] T_int #[false] #[r0]) w fun t4 =>
  pureK Tryz.prog (sBin .leq T_int (.tmp 4) (.const (.int .i64 12)) t4 (.int .i64 12)) fun t5 =>
  ifB t5
  (upK Tryz.prog (sCall F_errataref03_All #[r0]) w fun t8 w1 =>
   K t8 w1)
  (K (.bool false) w)
theorem errataref03_RightRow.pt_eq : errataref03_RightRow.pt = fun r0 w K => FN Tryz.prog Tryz.f35 (bodyOf Tryz.f35) [2] .leaf [r0] w K := by kernel_rfl
theorem errataref03_RightRow.call {r0 : Value} {w : World} {K : Value → World → Prop} (h : errataref03_RightRow.pt r0 w K) : Calls Tryz.prog F_errataref03_RightRow #[r0] w (retK K) :=
  calls_FN (args := [r0]) Tryz.func35 (by kernel_rfl) (by rw [errataref03_RightRow.pt_eq] at h; exact h)
theorem errataref03_RightRow.up {r0 : Value} {w : World} {K : Value → World → Prop} (h : Calls Tryz.prog F_errataref03_RightRow #[r0] w (retK K)) : upK Tryz.prog (sCall F_errataref03_RightRow #[r0]) w K :=
  up_call (fn := Tryz.f35) Tryz.func35 (by kernel_rfl) (by kernel_rfl) h

/-- (*errata/retain.Store).cut -/
def retain_Store_cut.pt (s0 n1 : Value) (w : World) (K : Value → World → Prop) : Prop :=
  LOOP (X := Value × Unit) (fun lv1 w1 next1 =>
   pureK Tryz.prog (sBin .lss T_int (.tmp 7) (.tmp 6) lv1.1 n1) fun t8 =>
   ifB t8
   (pureK Tryz.prog (sNil s0) fun t12 =>
    pureK Tryz.prog (sFieldAddr T_retain_Store t12 2) fun t13 =>
    readK Tryz.prog (sLoad T_int t13) (tick w1) fun t14 =>
    pureK Tryz.prog (sNil s0) fun t16 =>
    pureK Tryz.prog (sFieldAddr T_retain_Store t16 3) fun t17 =>
    readK Tryz.prog (sLoad T_s_api_Event t17) (tick w1) fun t18 =>
    pureK Tryz.prog (sIdxAddr T_s_api_Event t18 lv1.1) fun t20 =>
    pureK Tryz.prog (sFieldAddr T_api_Event t20 4) fun t21 =>
    readK Tryz.prog (sLoad T_int t21) (tick w1) fun t22 =>
    pureK Tryz.prog (sBin .add T_int (.tmp 22) (.const (.int .i64 1)) t22 (.int .i64 1)) fun t23 =>
    pureK Tryz.prog (sBlt .max #[T_int, T_int] T_int #[false, false] #[t14, t23]) fun t24 =>
    pureK Tryz.prog (sNil s0) fun t25 =>
    pureK Tryz.prog (sFieldAddr T_retain_Store t25 2) fun t26 =>
    upK Tryz.prog (sStore T_int t26 t24) (tick w1) fun tu w2 =>
    pureK Tryz.prog (sBin .add T_int (.tmp 7) (.const (.int .i64 1)) lv1.1 (.int .i64 1)) fun t27 =>
    next1 (t27, ()) w2)
   (pureK Tryz.prog (sNil s0) fun t30 =>
    pureK Tryz.prog (sFieldAddr T_retain_Store t30 3) fun t31 =>
    readK Tryz.prog (sLoad T_s_api_Event t31) w1 fun t32 =>
    pureK Tryz.prog (sSlice T_s_api_Event t32 (some n1) none none) fun t34 =>
    upK Tryz.prog (sCall F_slices_Clone_s_api_Event_api_Event #[t34]) w1 fun t35 w3 =>
    pureK Tryz.prog (sNil s0) fun t36 =>
    pureK Tryz.prog (sFieldAddr T_retain_Store t36 3) fun t37 =>
    upK Tryz.prog (sStore T_s_api_Event t37 t35) w3 fun tu_1 w4 =>
    pureK Tryz.prog (sNil s0) fun t39 =>
    pureK Tryz.prog (sFieldAddr T_retain_Store t39 1) fun t40 =>
    readK Tryz.prog (sLoad T_int t40) w4 fun t41 =>
    pureK Tryz.prog (sBin .add T_int (.tmp 41) (.tmp 42) t41 n1) fun t43 =>
    pureK Tryz.prog (sNil s0) fun t44 =>
    pureK Tryz.prog (sFieldAddr T_retain_Store t44 1) fun t45 =>
    upK Tryz.prog (sStore T_int t45 t43) w4 fun tu_2 w5 =>
    K n1 w5))
  ((.int .i64 0), ()) w
theorem retain_Store_cut.pt_eq : retain_Store_cut.pt = fun s0 n1 w K => FN Tryz.prog Tryz.f36 (bodyOf Tryz.f36) [4] .leaf [s0, n1] w K := by kernel_rfl
theorem retain_Store_cut.call {s0 n1 : Value} {w : World} {K : Value → World → Prop} (h : retain_Store_cut.pt s0 n1 w K) : Calls Tryz.prog F_retain_Store_cut #[s0, n1] w (retK K) :=
  calls_FN (args := [s0, n1]) Tryz.func36 (by kernel_rfl) (by rw [retain_Store_cut.pt_eq] at h; exact h)
theorem retain_Store_cut.up {s0 n1 : Value} {w : World} {K : Value → World → Prop} (h : Calls Tryz.prog F_retain_Store_cut #[s0, n1] w (retK K)) : upK Tryz.prog (sCall F_retain_Store_cut #[s0, n1]) w K :=
  up_call (fn := Tryz.f36) Tryz.func36 (by kernel_rfl) (by kernel_rfl) h

/-- (*errata/retain.Store).place -/
def retain_Store_place.pt (s0 pos1 : Value) (w : World) (K : Value → World → Prop) : Prop :=
  pureK Tryz.prog (sNil s0) fun t7 =>
  pureK Tryz.prog (sFieldAddr T_retain_Store t7 1) fun t8 =>
  readK Tryz.prog (sLoad T_int t8) (tick w) fun t9 =>
  pureK Tryz.prog (sBlt .max #[T_int, T_int] T_int #[false, false] #[pos1, t9]) fun t10 =>
  pureK Tryz.prog (sNil s0) fun t15 =>
  pureK Tryz.prog (sFieldAddr T_retain_Store t15 1) fun t16 =>
  readK Tryz.prog (sLoad T_int t16) (tick w) fun t17 =>
  upK Tryz.prog (sCall F_retain_Store_Next #[s0]) (tick w) fun t12 w1 =>
  Is Tryz.prog (sLoad T_int t16) t17 w1 ∧ Is Tryz.prog (sLoad T_int t8) t9 w1 ∧ pureK Tryz.prog (sBlt .min #[T_int, T_int] T_int #[false, false] #[t10, t12]) fun t13 =>
  pureK Tryz.prog (sBin .sub T_int (.tmp 13) (.tmp 17) t13 t17) fun t18 =>
  K t18 w1
theorem retain_Store_place.pt_eq : retain_Store_place.pt = fun s0 pos1 w K => FN Tryz.prog Tryz.f37 (bodyOf Tryz.f37) [4] .leaf [s0, pos1] w K := by kernel_rfl
theorem retain_Store_place.call {s0 pos1 : Value} {w : World} {K : Value → World → Prop} (h : retain_Store_place.pt s0 pos1 w K) : Calls Tryz.prog F_retain_Store_place #[s0, pos1] w (retK K) :=
  calls_FN (args := [s0, pos1]) Tryz.func37 (by kernel_rfl) (by rw [retain_Store_place.pt_eq] at h; exact h)
theorem retain_Store_place.up {s0 pos1 : Value} {w : World} {K : Value → World → Prop} (h : Calls Tryz.prog F_retain_Store_place #[s0, pos1] w (retK K)) : upK Tryz.prog (sCall F_retain_Store_place #[s0, pos1]) w K :=
  up_call (fn := Tryz.f37) Tryz.func37 (by kernel_rfl) (by kernel_rfl) h

/-- slices.IndexFunc[[]errata/api.Event,errata/api.Event] -/
def slices_IndexFunc_s_api_Event_api_Event.pt (s0 f1 : Value) (w : World) (K : Value → World → Prop) : Prop :=
  readK Tryz.prog (sBlt .len #[T_s_api_Event] T_int #[false] #[s0]) w fun t7 =>
  LOOP (X := Value × Unit) (fun lv1 w1 next1 =>
   pureK Tryz.prog (sBin .lss T_int (.tmp 8) (.tmp 7) lv1.1 t7) fun t9 =>
   ifB t9
   (pureK Tryz.prog (sIdxAddr T_s_api_Event s0 lv1.1) fun t14 =>
    readK Tryz.prog (sLoad T_api_Event t14) w1 fun t15 =>
    upK Tryz.prog (sCallV f1 #[t15]) w1 fun t16 w2 =>
    ifB t16
    (K lv1.1 w2)
    (pureK Tryz.prog (sBin .add T_int (.tmp 8) (.const (.int .i64 1)) lv1.1 (.int .i64 1)) fun t18 =>
     next1 (t18, ()) w2))
   (K (.int .i64 (-1)) w1))
  ((.int .i64 0), ()) w
theorem slices_IndexFunc_s_api_Event_api_Event.pt_eq : slices_IndexFunc_s_api_Event_api_Event.pt = fun s0 f1 w K => FN Tryz.prog Tryz.f38 (bodyOf Tryz.f38) [4] .leaf [s0, f1] w K := by kernel_rfl
theorem slices_IndexFunc_s_api_Event_api_Event.call {s0 f1 : Value} {w : World} {K : Value → World → Prop} (h : slices_IndexFunc_s_api_Event_api_Event.pt s0 f1 w K) : Calls Tryz.prog F_slices_IndexFunc_s_api_Event_api_Event #[s0, f1] w (retK K) :=
  calls_FN (args := [s0, f1]) Tryz.func38 (by kernel_rfl) (by rw [slices_IndexFunc_s_api_Event_api_Event.pt_eq] at h; exact h)
theorem slices_IndexFunc_s_api_Event_api_Event.up {s0 f1 : Value} {w : World} {K : Value → World → Prop} (h : Calls Tryz.prog F_slices_IndexFunc_s_api_Event_api_Event #[s0, f1] w (retK K)) : upK Tryz.prog (sCall F_slices_IndexFunc_s_api_Event_api_Event #[s0, f1]) w K :=
  up_call (fn := Tryz.f38) Tryz.func38 (by kernel_rfl) (by kernel_rfl) h

/-- (*errata/retain.Store).Trim$1 -/
def retain_Store_Trim_1.pt (e0 t1 : Value) (w : World) (K : Value → World → Prop) : Prop :=
  upK Tryz.prog (sBox T_api_Event e0) w fun e2 w1 =>
  pureK Tryz.prog (sFieldAddr T_api_Event e2 4) fun t4 =>
  readK Tryz.prog (sLoad T_int t4) w1 fun t5 =>
  readK Tryz.prog (sLoad T_int t1) w1 fun t6 =>
  pureK Tryz.prog (sBin .geq T_int (.tmp 5) (.tmp 6) t5 t6) fun t7 =>
  K t7 w1
theorem retain_Store_Trim_1.pt_eq : retain_Store_Trim_1.pt = fun e0 t1 w K => FN Tryz.prog Tryz.f39 (bodyOf Tryz.f39) [3] .leaf [e0, t1] w K := by kernel_rfl
theorem retain_Store_Trim_1.call {e0 t1 : Value} {w : World} {K : Value → World → Prop} (h : retain_Store_Trim_1.pt e0 t1 w K) : Calls Tryz.prog F_retain_Store_Trim_1 #[e0, t1] w (retK K) :=
  calls_FN (args := [e0, t1]) Tryz.func39 (by kernel_rfl) (by rw [retain_Store_Trim_1.pt_eq] at h; exact h)
theorem retain_Store_Trim_1.up {e0 t1 : Value} {w : World} {K : Value → World → Prop} (h : Calls Tryz.prog F_retain_Store_Trim_1 #[e0, t1] w (retK K)) : upK Tryz.prog (sCall F_retain_Store_Trim_1 #[e0, t1]) w K :=
  up_call (fn := Tryz.f39) Tryz.func39 (by kernel_rfl) (by kernel_rfl) h

/-- (*errata/errataref12.Store).Kept -/
def errataref12_Store_Kept.pt (s0 : Value) (w : World) (K : Value → World → Prop) : Prop :=
  pureK Tryz.prog (sNil s0) fun t5 =>
  pureK Tryz.prog (sFieldAddr T_errataref12_Store t5 1) fun t6 =>
  readK Tryz.prog (sLoad T_s_api_Event t6) (tick w) fun t7 =>
  pureK Tryz.prog (sNil s0) fun t9 =>
  pureK Tryz.prog (sFieldAddr T_errataref12_Store t9 3) fun t10 =>
  readK Tryz.prog (sLoad T_int t10) (tick w) fun t11 =>
  pureK Tryz.prog (sNil s0) fun t13 =>
  pureK Tryz.prog (sFieldAddr T_errataref12_Store t13 2) fun t14 =>
  readK Tryz.prog (sLoad T_int t14) (tick w) fun t15 =>
  pureK Tryz.prog (sBin .sub T_int (.tmp 11) (.tmp 15) t11 t15) fun t16 =>
  pureK Tryz.prog (sSlice T_s_api_Event t7 (some t16) none none) fun t17 =>
  upK Tryz.prog (sBuildSlice T_s_api_Event 0 #[]) (tick w) fun t3 w1 =>
  Is Tryz.prog (sLoad T_int t14) t15 w1 ∧ Is Tryz.prog (sLoad T_int t10) t11 w1 ∧ Is Tryz.prog (sLoad T_s_api_Event t6) t7 w1 ∧ upK Tryz.prog (sBlt .append #[T_s_api_Event, T_s_api_Event] T_s_api_Event #[false, false] #[t3, t17]) w1 fun t18 w2 =>
  K t18 w2
theorem errataref12_Store_Kept.pt_eq : errataref12_Store_Kept.pt = fun s0 w K => FN Tryz.prog Tryz.f40 (bodyOf Tryz.f40) [2] .leaf [s0] w K := by kernel_rfl
theorem errataref12_Store_Kept.call {s0 : Value} {w : World} {K : Value → World → Prop} (h : errataref12_Store_Kept.pt s0 w K) : Calls Tryz.prog F_errataref12_Store_Kept #[s0] w (retK K) :=
  calls_FN (args := [s0]) Tryz.func40 (by kernel_rfl) (by rw [errataref12_Store_Kept.pt_eq] at h; exact h)
theorem errataref12_Store_Kept.up {s0 : Value} {w : World} {K : Value → World → Prop} (h : Calls Tryz.prog F_errataref12_Store_Kept #[s0] w (retK K)) : upK Tryz.prog (sCall F_errataref12_Store_Kept #[s0]) w K :=
  up_call (fn := Tryz.f40) Tryz.func40 (by kernel_rfl) (by kernel_rfl) h

/-- errata/wire.Open -/
def wire_Open.pt (s0 : Value) (w : World) (K : Value → World → Prop) : Prop :=
  pureK Tryz.prog (sBuild T_wire_Reader #[(0, s0)]) fun t4 =>
  upK Tryz.prog (sBox T_wire_Reader t4) w fun t5 w1 =>
  K t5 w1
theorem wire_Open.pt_eq : wire_Open.pt = fun s0 w K => FN Tryz.prog Tryz.f41 (bodyOf Tryz.f41) [2] .leaf [s0] w K := by kernel_rfl
theorem wire_Open.call {s0 : Value} {w : World} {K : Value → World → Prop} (h : wire_Open.pt s0 w K) : Calls Tryz.prog F_wire_Open #[s0] w (retK K) :=
  calls_FN (args := [s0]) Tryz.func41 (by kernel_rfl) (by rw [wire_Open.pt_eq] at h; exact h)
theorem wire_Open.up {s0 : Value} {w : World} {K : Value → World → Prop} (h : Calls Tryz.prog F_wire_Open #[s0] w (retK K)) : upK Tryz.prog (sCall F_wire_Open #[s0]) w K :=
  up_call (fn := Tryz.f41) Tryz.func41 (by kernel_rfl) (by kernel_rfl) h

/-- (*errata/wire.Reader).Int -/
def wire_Reader_Int.pt (r0 : Value) (w : World) (K : Value → World → Prop) : Prop :=
  upK Tryz.prog (sCall F_wire_Reader_number #[r0, (.int .u8 59), (.int .i64 (-9223372036854775808))]) w fun t4 w1 =>
  K t4 w1
theorem wire_Reader_Int.pt_eq : wire_Reader_Int.pt = fun r0 w K => FN Tryz.prog Tryz.f42 (bodyOf Tryz.f42) [2] .leaf [r0] w K := by kernel_rfl
theorem wire_Reader_Int.call {r0 : Value} {w : World} {K : Value → World → Prop} (h : wire_Reader_Int.pt r0 w K) : Calls Tryz.prog F_wire_Reader_Int #[r0] w (retK K) :=
  calls_FN (args := [r0]) Tryz.func42 (by kernel_rfl) (by rw [wire_Reader_Int.pt_eq] at h; exact h)
theorem wire_Reader_Int.up {r0 : Value} {w : World} {K : Value → World → Prop} (h : Calls Tryz.prog F_wire_Reader_Int #[r0] w (retK K)) : upK Tryz.prog (sCall F_wire_Reader_Int #[r0]) w K :=
  up_call (fn := Tryz.f42) Tryz.func42 (by kernel_rfl) (by kernel_rfl) h

/-- (*errata/wire.Reader).Num -/
def wire_Reader_Num.pt (r0 : Value) (w : World) (K : Value → World → Prop) : Prop :=
  upK Tryz.prog (sCall F_wire_Reader_number #[r0, (.int .u8 59), (.int .i64 0)]) w fun t4 w1 =>
  K t4 w1
theorem wire_Reader_Num.pt_eq : wire_Reader_Num.pt = fun r0 w K => FN Tryz.prog Tryz.f43 (bodyOf Tryz.f43) [2] .leaf [r0] w K := by kernel_rfl
theorem wire_Reader_Num.call {r0 : Value} {w : World} {K : Value → World → Prop} (h : wire_Reader_Num.pt r0 w K) : Calls Tryz.prog F_wire_Reader_Num #[r0] w (retK K) :=
  calls_FN (args := [r0]) Tryz.func43 (by kernel_rfl) (by rw [wire_Reader_Num.pt_eq] at h; exact h)
theorem wire_Reader_Num.up {r0 : Value} {w : World} {K : Value → World → Prop} (h : Calls Tryz.prog F_wire_Reader_Num #[r0] w (retK K)) : upK Tryz.prog (sCall F_wire_Reader_Num #[r0]) w K :=
  up_call (fn := Tryz.f43) Tryz.func43 (by kernel_rfl) (by kernel_rfl) h

/-- (*errata/wire.Reader).Text -/
def wire_Reader_Text.pt (r0 : Value) (w : World) (K : Value → World → Prop) : Prop :=
  upK Tryz.prog (sCall F_wire_Reader_number #[r0, (.int .u8 58), (.int .i64 0)]) w fun t6 w1 =>
  pureK Tryz.prog (sNil r0) fun t9 =>
  pureK Tryz.prog (sFieldAddr T_wire_Reader t9 0) fun t10 =>
  readK Tryz.prog (sLoad T_string t10) w1 fun t11 =>
  readK Tryz.prog (sBlt .len #[T_string] T_int #[false] #[t11]) w1 fun t12 =>
  pureK Tryz.prog (sBin .gtr T_int (.tmp 7) (.tmp 12) t6 t12) fun t13 =>
  ifB t13
  (upK Tryz.prog (sCall F_wire_Reader_fail #[r0]) w1 fun t15 w2 =>
   K (.string ⟨#[]⟩) w2)
  (pureK Tryz.prog (sNil r0) fun t17 =>
   pureK Tryz.prog (sFieldAddr T_wire_Reader t17 0) fun t18 =>
   readK Tryz.prog (sLoad T_string t18) w1 fun t19 =>
   pureK Tryz.prog (sSlice T_string t19 none (some t6) none) fun t21 =>
   pureK Tryz.prog (sNil r0) fun t24 =>
   pureK Tryz.prog (sFieldAddr T_wire_Reader t24 0) fun t25 =>
   readK Tryz.prog (sLoad T_string t25) w1 fun t26 =>
   pureK Tryz.prog (sSlice T_string t26 (some t6) none none) fun t28 =>
   pureK Tryz.prog (sNil r0) fun t29 =>
   pureK Tryz.prog (sFieldAddr T_wire_Reader t29 0) fun t30 =>
   upK Tryz.prog (sStore T_string t30 t28) w1 fun tu w3 =>
   upK Tryz.prog (sCall F_wire_Reader_close #[r0, (.string ⟨#[44]⟩)]) w3 fun t32 w4 =>
   pureK Tryz.prog (sNil r0) fun t34 =>
   pureK Tryz.prog (sFieldAddr T_wire_Reader t34 1) fun t35 =>
   readK Tryz.prog (sLoad T_bool t35) w4 fun t36 =>
   ifB t36
   (K (.string ⟨#[]⟩) w4)
   (K t21 w4))
theorem wire_Reader_Text.pt_eq : wire_Reader_Text.pt = fun r0 w K => FN Tryz.prog Tryz.f44 (bodyOf Tryz.f44) [2] .leaf [r0] w K := by kernel_rfl
theorem wire_Reader_Text.call {r0 : Value} {w : World} {K : Value → World → Prop} (h : wire_Reader_Text.pt r0 w K) : Calls Tryz.prog F_wire_Reader_Text #[r0] w (retK K) :=
  calls_FN (args := [r0]) Tryz.func44 (by kernel_rfl) (by rw [wire_Reader_Text.pt_eq] at h; exact h)
theorem wire_Reader_Text.up {r0 : Value} {w : World} {K : Value → World → Prop} (h : Calls Tryz.prog F_wire_Reader_Text #[r0] w (retK K)) : upK Tryz.prog (sCall F_wire_Reader_Text #[r0]) w K :=
  up_call (fn := Tryz.f44) Tryz.func44 (by kernel_rfl) (by kernel_rfl) h

/-- errata/value.ReadRow -/
def value_ReadRow.pt (s0 : Value) (w : World) (K : Value → World → Prop) : Prop :=
  upK Tryz.prog (sCall F_wire_Open #[s0]) w fun t8 w1 =>
  upK Tryz.prog (sCall F_wire_Reader_Num #[t8]) w1 fun t10 w2 =>
  LOOP (X := Value × Value × Unit) (fun lv3 w3 next3 =>
   pureK Tryz.prog (sBin .gtr T_int (.tmp 11) (.const (.int .i64 0)) lv3.2.1 (.int .i64 0)) fun t12 =>
   ifB t12
   (upK Tryz.prog (sCall F_wire_Reader_Left #[t8]) w3 fun t16 w4 =>
    pureK Tryz.prog (sBin .eql T_int (.tmp 16) (.const (.int .i64 0)) t16 (.int .i64 0)) fun t17 =>
    ifB t17
    (K (.tuple #[(.slice none 0 0), (.bool false)]) w4)
    (upK Tryz.prog (sCall F_value_take #[t8]) w4 fun t20 w5 =>
     upK Tryz.prog (sBuildSlice T_s_api_Value 1 #[(0, t20)]) w5 fun t21 w6 =>
     upK Tryz.prog (sBlt .append #[T_s_api_Value, T_s_api_Value] T_s_api_Value #[false, false] #[lv3.1, t21]) w6 fun t22 w7 =>
     pureK Tryz.prog (sBin .sub T_int (.tmp 13) (.const (.int .i64 1)) lv3.2.1 (.int .i64 1)) fun t14 =>
     next3 (t22, t14, ()) w7))
   (upK Tryz.prog (sCall F_wire_Reader_Done #[t8]) w3 fun t24 w8 =>
    pureK Tryz.prog (sUn .not t24) fun t25 =>
    ifB t25
    (K (.tuple #[(.slice none 0 0), (.bool false)]) w8)
    (K (.tuple #[lv3.1, (.bool true)]) w8)))
  ((.slice none 0 0), t10, ()) w2
theorem value_ReadRow.pt_eq : value_ReadRow.pt = fun s0 w K => FN Tryz.prog Tryz.f45 (bodyOf Tryz.f45) [2, 3] .leaf [s0] w K := by kernel_rfl
theorem value_ReadRow.call {s0 : Value} {w : World} {K : Value → World → Prop} (h : value_ReadRow.pt s0 w K) : Calls Tryz.prog F_value_ReadRow #[s0] w (retK K) :=
  calls_FN (args := [s0]) Tryz.func45 (by kernel_rfl) (by rw [value_ReadRow.pt_eq] at h; exact h)
theorem value_ReadRow.up {s0 : Value} {w : World} {K : Value → World → Prop} (h : Calls Tryz.prog F_value_ReadRow #[s0] w (retK K)) : upK Tryz.prog (sCall F_value_ReadRow #[s0]) w K :=
  up_call (fn := Tryz.f45) Tryz.func45 (by kernel_rfl) (by kernel_rfl) h

/-- (*errata/wire.Reader).Done -/
def wire_Reader_Done.pt (r0 : Value) (w : World) (K : Value → World → Prop) : Prop :=
  pureK Tryz.prog (sNil r0) fun t4 =>
  pureK Tryz.prog (sFieldAddr T_wire_Reader t4 1) fun t5 =>
  readK Tryz.prog (sLoad T_bool t5) w fun t6 =>
  pureK Tryz.prog (sUn .not t6) fun t7 =>
  ifB t7
  (pureK Tryz.prog (sNil r0) fun t10 =>
   pureK Tryz.prog (sFieldAddr T_wire_Reader t10 0) fun t11 =>
   readK Tryz.prog (sLoad T_string t11) w fun t12 =>
   pureK Tryz.prog (sBin .eql T_string (.tmp 12) (.const (.string ⟨#[]⟩)) t12 (.string ⟨#[]⟩)) fun t13 =>
   K t13 w)
  (K (.bool false) w)
theorem wire_Reader_Done.pt_eq : wire_Reader_Done.pt = fun r0 w K => FN Tryz.prog Tryz.f46 (bodyOf Tryz.f46) [2] .leaf [r0] w K := by kernel_rfl
theorem wire_Reader_Done.call {r0 : Value} {w : World} {K : Value → World → Prop} (h : wire_Reader_Done.pt r0 w K) : Calls Tryz.prog F_wire_Reader_Done #[r0] w (retK K) :=
  calls_FN (args := [r0]) Tryz.func46 (by kernel_rfl) (by rw [wire_Reader_Done.pt_eq] at h; exact h)
theorem wire_Reader_Done.up {r0 : Value} {w : World} {K : Value → World → Prop} (h : Calls Tryz.prog F_wire_Reader_Done #[r0] w (retK K)) : upK Tryz.prog (sCall F_wire_Reader_Done #[r0]) w K :=
  up_call (fn := Tryz.f46) Tryz.func46 (by kernel_rfl) (by kernel_rfl) h

/-- (*strings.Builder).WriteString -/
def strings_Builder_WriteString.pt (b0 s1 : Value) (w : World) (K : Value → World → Prop) : Prop :=
  upK Tryz.prog (sCall F_strings_Builder_copyCheck #[b0]) w fun t7 w1 =>
  pureK Tryz.prog (sNil b0) fun t10 =>
  pureK Tryz.prog (sFieldAddr T_strings_Builder t10 1) fun t11 =>
  readK Tryz.prog (sLoad T_s_uint8 t11) w1 fun t12 =>
  upK Tryz.prog (sBlt .append #[T_s_uint8, T_string] T_s_uint8 #[false, false] #[t12, s1]) w1 fun t14 w2 =>
  pureK Tryz.prog (sNil b0) fun t15 =>
  pureK Tryz.prog (sFieldAddr T_strings_Builder t15 1) fun t16 =>
  upK Tryz.prog (sStore T_s_uint8 t16 t14) w2 fun tu w3 =>
  readK Tryz.prog (sBlt .len #[T_string] T_int #[false] #[s1]) w3 fun t18 =>
  K (.tuple #[t18, .nilIface]) w3
theorem strings_Builder_WriteString.pt_eq : strings_Builder_WriteString.pt = fun b0 s1 w K => FN Tryz.prog Tryz.f47 (bodyOf Tryz.f47) [4, 5] .leaf [b0, s1] w K := by kernel_rfl
theorem strings_Builder_WriteString.call {b0 s1 : Value} {w : World} {K : Value → World → Prop} (h : strings_Builder_WriteString.pt b0 s1 w K) : Calls Tryz.prog F_strings_Builder_WriteString #[b0, s1] w (retK K) :=
  calls_FN (args := [b0, s1]) Tryz.func47 (by kernel_rfl) (by rw [strings_Builder_WriteString.pt_eq] at h; exact h)
theorem strings_Builder_WriteString.up {b0 s1 : Value} {w : World} {K : Value → World → Prop} (h : Calls Tryz.prog F_strings_Builder_WriteString #[b0, s1] w (retK K)) : upK Tryz.prog (sCall F_strings_Builder_WriteString #[b0, s1]) w K :=
  up_call (fn := Tryz.f47) Tryz.func47 (by kernel_rfl) (by kernel_rfl) h

/-- errata/wire.Int -/
def wire_Int.pt (n0 : Value) (w : World) (K : Value → World → Prop) : Prop :=
  upK Tryz.prog (sCall F_strconv_Itoa #[n0]) w fun t4 w1 =>
  pureK Tryz.prog (sBin .add T_string (.tmp 4) (.const (.string ⟨#[59]⟩)) t4 (.string ⟨#[59]⟩)) fun t5 =>
  K t5 w1
theorem wire_Int.pt_eq : wire_Int.pt = fun n0 w K => FN Tryz.prog Tryz.f48 (bodyOf Tryz.f48) [2] .leaf [n0] w K := by kernel_rfl
theorem wire_Int.call {n0 : Value} {w : World} {K : Value → World → Prop} (h : wire_Int.pt n0 w K) : Calls Tryz.prog F_wire_Int #[n0] w (retK K) :=
  calls_FN (args := [n0]) Tryz.func48 (by kernel_rfl) (by rw [wire_Int.pt_eq] at h; exact h)
theorem wire_Int.up {n0 : Value} {w : World} {K : Value → World → Prop} (h : Calls Tryz.prog F_wire_Int #[n0] w (retK K)) : upK Tryz.prog (sCall F_wire_Int #[n0]) w K :=
  up_call (fn := Tryz.f48) Tryz.func48 (by kernel_rfl) (by kernel_rfl) h

/-- errata/wire.Num -/
def wire_Num.pt (n0 : Value) (w : World) (K : Value → World → Prop) : Prop :=
  pureK Tryz.prog (sBin .lss T_int (.tmp 3) (.const (.int .i64 0)) n0 (.int .i64 0)) fun t4 =>
  ifB t4
  (K (.string ⟨#[]⟩) w)
  (upK Tryz.prog (sCall F_wire_Int #[n0]) w fun t6 w1 =>
   K t6 w1)
theorem wire_Num.pt_eq : wire_Num.pt = fun n0 w K => FN Tryz.prog Tryz.f49 (bodyOf Tryz.f49) [2] .leaf [n0] w K := by kernel_rfl
theorem wire_Num.call {n0 : Value} {w : World} {K : Value → World → Prop} (h : wire_Num.pt n0 w K) : Calls Tryz.prog F_wire_Num #[n0] w (retK K) :=
  calls_FN (args := [n0]) Tryz.func49 (by kernel_rfl) (by rw [wire_Num.pt_eq] at h; exact h)
theorem wire_Num.up {n0 : Value} {w : World} {K : Value → World → Prop} (h : Calls Tryz.prog F_wire_Num #[n0] w (retK K)) : upK Tryz.prog (sCall F_wire_Num #[n0]) w K :=
  up_call (fn := Tryz.f49) Tryz.func49 (by kernel_rfl) (by kernel_rfl) h

/-- errata/wire.Text -/
def wire_Text.pt (s0 : Value) (w : World) (K : Value → World → Prop) : Prop :=
  readK Tryz.prog (sBlt .len #[T_string] T_int #[false] #[s0]) w fun t4 =>
  upK Tryz.prog (sCall F_strconv_Itoa #[t4]) w fun t5 w1 =>
  pureK Tryz.prog (sBin .add T_string (.tmp 5) (.const (.string ⟨#[58]⟩)) t5 (.string ⟨#[58]⟩)) fun t6 =>
  pureK Tryz.prog (sBin .add T_string (.tmp 6) (.tmp 7) t6 s0) fun t8 =>
  pureK Tryz.prog (sBin .add T_string (.tmp 8) (.const (.string ⟨#[44]⟩)) t8 (.string ⟨#[44]⟩)) fun t9 =>
  K t9 w1
theorem wire_Text.pt_eq : wire_Text.pt = fun s0 w K => FN Tryz.prog Tryz.f50 (bodyOf Tryz.f50) [2] .leaf [s0] w K := by kernel_rfl
theorem wire_Text.call {s0 : Value} {w : World} {K : Value → World → Prop} (h : wire_Text.pt s0 w K) : Calls Tryz.prog F_wire_Text #[s0] w (retK K) :=
  calls_FN (args := [s0]) Tryz.func50 (by kernel_rfl) (by rw [wire_Text.pt_eq] at h; exact h)
theorem wire_Text.up {s0 : Value} {w : World} {K : Value → World → Prop} (h : Calls Tryz.prog F_wire_Text #[s0] w (retK K)) : upK Tryz.prog (sCall F_wire_Text #[s0]) w K :=
  up_call (fn := Tryz.f50) Tryz.func50 (by kernel_rfl) (by kernel_rfl) h

/-- errata/value.RowBytes -/
def value_RowBytes.pt (r0 : Value) (w : World) (K : Value → World → Prop) : Prop :=
  upK Tryz.prog (sAlloc T_strings_Builder) w fun b3 w1 =>
  readK Tryz.prog (sBlt .len #[T_s_api_Value] T_int #[false] #[r0]) w1 fun t7 =>
  upK Tryz.prog (sCall F_wire_Num #[t7]) w1 fun t8 w2 =>
  upK Tryz.prog (sCall F_strings_Builder_WriteString #[b3, t8]) w2 fun t9 w3 =>
  readK Tryz.prog (sBlt .len #[T_s_api_Value] T_int #[false] #[r0]) w3 fun t11 =>
  LOOP (X := Value × Unit) (fun lv4 w4 next4 =>
   pureK Tryz.prog (sBin .lss T_int (.tmp 12) (.tmp 11) lv4.1 t11) fun t13 =>
   ifB t13
   (pureK Tryz.prog (sIdxAddr T_s_api_Value r0 lv4.1) fun t14 =>
    readK Tryz.prog (sLoad T_api_Value t14) w4 fun t15 =>
    upK Tryz.prog (sAlloc T_api_Value) w4 fun v5 w5 =>
    upK Tryz.prog (sStore T_api_Value v5 t15) w5 fun tu w6 =>
    readK Tryz.prog (sLoad T_api_Value v5) w6 fun t16 =>
    upK Tryz.prog (sCall F_value_Bytes #[t16]) w6 fun t17 w7 =>
    upK Tryz.prog (sCall F_strings_Builder_WriteString #[b3, t17]) w7 fun t18 w8 =>
    pureK Tryz.prog (sBin .add T_int (.tmp 12) (.const (.int .i64 1)) lv4.1 (.int .i64 1)) fun t19 =>
    next4 (t19, ()) w8)
   (upK Tryz.prog (sCall F_strings_Builder_String #[b3]) w4 fun t20 w9 =>
    K t20 w9))
  ((.int .i64 0), ()) w3
theorem value_RowBytes.pt_eq : value_RowBytes.pt = fun r0 w K => FN Tryz.prog Tryz.f51 (bodyOf Tryz.f51) [2] .leaf [r0] w K := by kernel_rfl
theorem value_RowBytes.call {r0 : Value} {w : World} {K : Value → World → Prop} (h : value_RowBytes.pt r0 w K) : Calls Tryz.prog F_value_RowBytes #[r0] w (retK K) :=
  calls_FN (args := [r0]) Tryz.func51 (by kernel_rfl) (by rw [value_RowBytes.pt_eq] at h; exact h)
theorem value_RowBytes.up {r0 : Value} {w : World} {K : Value → World → Prop} (h : Calls Tryz.prog F_value_RowBytes #[r0] w (retK K)) : upK Tryz.prog (sCall F_value_RowBytes #[r0]) w K :=
  up_call (fn := Tryz.f51) Tryz.func51 (by kernel_rfl) (by kernel_rfl) h

/-- (*strings.Builder).String -/
theorem strings_Builder_String.up {p0 : Value} {w : World} {K : Value → World → Prop} (h : Calls Tryz.prog F_strings_Builder_String #[p0] w (retK K)) : upK Tryz.prog (sCall F_strings_Builder_String #[p0]) w K :=
  up_call (fn := Tryz.f52) Tryz.func52 (by kernel_rfl) (by kernel_rfl) h

end Go.Proofs.YtmllhipiahlihaaGreatDoor
