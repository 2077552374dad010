/-
  The reckoned conditions of the functions that this seat's statements reach, printed by program, each held against the translation by the kernel. No condition.
-/
import Derived.Test.YtmllhipiahlihaaDoorNames
namespace Go.Proofs.YtmllhipiahlihaaDoor
set_option linter.unusedVariables false
set_option maxRecDepth 100000

/-- errata/erratalaw12.RetainBack -/
def erratalaw12_RetainBack.pt (part0 l1 b2 : Value) (w : World) (K : Value → World → Prop) : Prop :=
  upK Tryd.prog (sCall F_erratalaw12_small #[]) w fun t15 w1 =>
  upK Tryd.prog (sCall F_erratalaw12_few #[l1]) w1 fun t17 w2 =>
  pureK Tryd.prog (sUn .not t17) fun t18 =>
  ifB t18
  (K t15 w2)
  (readK Tryd.prog (sBlt .len #[T_string] T_int #[false] #[b2]) w2 fun t21 =>
   pureK Tryd.prog (sBin .gtr T_int (.tmp 21) (.const (.int .i64 2000)) t21 (.int .i64 2000)) fun t22 =>
   ifB t22
   (K t15 w2)
   (upK Tryd.prog (sCall F_retain_New #[part0]) w2 fun t26 w3 =>
    pureK Tryd.prog (sBin .eql T_p_retain_Store (.tmp 27) (.const (.pointer none)) t26 (.pointer none)) fun t28 =>
    ifB t28
    (K (.bool false) w3)
    (LOOP (X := Value × Unit) (fun lv4 w4 next4 =>
      readK Tryd.prog (sBlt .len #[T_s_erratalaw12_Op] T_int #[false] #[l1]) w4 fun t31 =>
      pureK Tryd.prog (sBin .lss T_int (.tmp 29) (.tmp 31) lv4.1 t31) fun t32 =>
      ifB t32
      (LETJ (X := Unit) (fun jv1 w5 =>
        pureK Tryd.prog (sBin .add T_int (.tmp 33) (.const (.int .i64 1)) lv4.1 (.int .i64 1)) fun t34 =>
        next4 (t34, ()) w5)
       (fun J1 =>
        pureK Tryd.prog (sIdxAddr T_s_erratalaw12_Op l1 lv4.1) fun t37 =>
        readK Tryd.prog (sLoad T_erratalaw12_Op t37) w4 fun t38 =>
        upK Tryd.prog (sAlloc T_erratalaw12_Op) w4 fun o10 w6 =>
        upK Tryd.prog (sStore T_erratalaw12_Op o10 t38) w6 fun tu w7 =>
        LETJ (X := Unit) (fun jv2 w8 =>
         pureK Tryd.prog (sFieldAddr T_erratalaw12_Op o10 0) fun t45 =>
         readK Tryd.prog (sLoad T_int t45) w8 fun t46 =>
         upK Tryd.prog (sCall F_erratalaw12_pick #[t46, (.int .i64 5)]) w8 fun t47 w9 =>
         LETJ (X := Value × Unit) (fun jv3 w10 =>
          ifB jv3.1
          (pureK Tryd.prog (sFieldAddr T_erratalaw12_Op o10 1) fun t52 =>
           readK Tryd.prog (sLoad T_api_Event t52) w10 fun t53 =>
           upK Tryd.prog (sCall F_retain_Store_Add #[t26, t53]) w10 fun t54 w11 =>
           J1 (()) w11)
          (pureK Tryd.prog (sBin .eql T_int (.tmp 47) (.const (.int .i64 2)) t47 (.int .i64 2)) fun t56 =>
           ifB t56
           (pureK Tryd.prog (sFieldAddr T_erratalaw12_Op o10 3) fun t58 =>
            readK Tryd.prog (sLoad T_int t58) w10 fun t59 =>
            upK Tryd.prog (sCall F_retain_Store_Drop #[t26, t59]) w10 fun t60 w12 =>
            J1 (()) w12)
           (pureK Tryd.prog (sBin .eql T_int (.tmp 47) (.const (.int .i64 3)) t47 (.int .i64 3)) fun t62 =>
            ifB t62
            (pureK Tryd.prog (sFieldAddr T_erratalaw12_Op o10 3) fun t64 =>
             readK Tryd.prog (sLoad T_int t64) w10 fun t65 =>
             upK Tryd.prog (sCall F_retain_Store_Trim #[t26, t65]) w10 fun t66 w13 =>
             J1 (()) w13)
            (J1 (()) w10))))
         (fun J3 =>
          pureK Tryd.prog (sBin .eql T_int (.tmp 47) (.const (.int .i64 0)) t47 (.int .i64 0)) fun t49 =>
          ifB t49
          (J3 (t49, ()) w9)
          (pureK Tryd.prog (sBin .eql T_int (.tmp 47) (.const (.int .i64 1)) t47 (.int .i64 1)) fun t50 =>
           J3 (t50, ()) w9)))
        (fun J2 =>
         pureK Tryd.prog (sFieldAddr T_erratalaw12_Op o10 2) fun t39 =>
         readK Tryd.prog (sLoad T_bool t39) w7 fun t40 =>
         ifB t40
         (upK Tryd.prog (sCall F_retain_Store_Next #[t26]) w7 fun t42 w14 =>
          pureK Tryd.prog (sFieldAddr T_erratalaw12_Op o10 1) fun t43 =>
          pureK Tryd.prog (sFieldAddr T_api_Event t43 1) fun t44 =>
          upK Tryd.prog (sStore T_int t44 t42) w14 fun tu_1 w15 =>
          J2 (()) w15)
         (J2 (()) w7))))
      (upK Tryd.prog (sCall F_retain_Store_Bytes #[t26]) w4 fun t69 w16 =>
       upK Tryd.prog (sCall F_retain_Read #[t69]) w16 fun t70 w17 =>
       pureK Tryd.prog (sExtract t70 0) fun t71 =>
       pureK Tryd.prog (sExtract t70 1) fun t72 =>
       pureK Tryd.prog (sBin .eql T_p_retain_Store (.tmp 73) (.const (.pointer none)) t71 (.pointer none)) fun t74 =>
       ifB t74
       (K (.bool false) w17)
       (pureK Tryd.prog (sUn .not t72) fun t77 =>
        ifB t77
        (K (.bool false) w17)
        (upK Tryd.prog (sCall F_retain_Read #[b2]) w17 fun t81 w18 =>
         pureK Tryd.prog (sExtract t81 0) fun t82 =>
         pureK Tryd.prog (sExtract t81 1) fun t83 =>
         pureK Tryd.prog (sBin .neq T_p_retain_Store (.tmp 85) (.const (.pointer none)) t82 (.pointer none)) fun t86 =>
         pureK Tryd.prog (sBin .neq T_bool (.tmp 84) (.tmp 86) t83 t86) fun t87 =>
         ifB t87
         (K (.bool false) w18)
         (LETJ (X := Unit) (fun jv4 w19 =>
           ifB t15
           (upK Tryd.prog (sCall F_retain_Store_Bytes #[t71]) w19 fun t99 w20 =>
            upK Tryd.prog (sCall F_retain_Store_Bytes #[t26]) w20 fun t101 w21 =>
            pureK Tryd.prog (sBin .eql T_string (.tmp 99) (.tmp 101) t99 t101) fun t102 =>
            ifB t102
            (upK Tryd.prog (sCall F_retain_Store_First #[t71]) w21 fun t106 w22 =>
             upK Tryd.prog (sCall F_retain_Store_First #[t26]) w22 fun t108 w23 =>
             pureK Tryd.prog (sBin .eql T_int (.tmp 106) (.tmp 108) t106 t108) fun t109 =>
             ifB t109
             (upK Tryd.prog (sCall F_retain_Store_Next #[t71]) w23 fun t113 w24 =>
              upK Tryd.prog (sCall F_retain_Store_Next #[t26]) w24 fun t115 w25 =>
              pureK Tryd.prog (sBin .eql T_int (.tmp 113) (.tmp 115) t113 t115) fun t116 =>
              ifB t116
              (upK Tryd.prog (sCall F_retain_Store_Horizon #[t71]) w25 fun t120 w26 =>
               upK Tryd.prog (sCall F_retain_Store_Horizon #[t26]) w26 fun t122 w27 =>
               pureK Tryd.prog (sBin .eql T_int (.tmp 120) (.tmp 122) t120 t122) fun t123 =>
               K t123 w27)
              (K (.bool false) w25))
             (K (.bool false) w23))
            (K (.bool false) w21))
           (K (.bool false) w19))
          (fun J4 =>
           pureK Tryd.prog (sBin .neq T_p_retain_Store (.tmp 88) (.const (.pointer none)) t82 (.pointer none)) fun t89 =>
           ifB t89
           (upK Tryd.prog (sCall F_retain_Store_Bytes #[t82]) w18 fun t92 w28 =>
            pureK Tryd.prog (sBin .neq T_string (.tmp 92) (.tmp 93) t92 b2) fun t94 =>
            ifB t94
            (K (.bool false) w28)
            (J4 (()) w28))
           (J4 (()) w18)))))))
     ((.int .i64 0), ()) w3)))
theorem erratalaw12_RetainBack.pt_eq : erratalaw12_RetainBack.pt = fun part0 l1 b2 w K => FN Tryd.prog Tryd.f3 (bodyOf Tryd.f3) [6] (.node none .leaf (.node none .leaf (.node none .leaf (.node none .leaf (.node none .leaf (.node none (.node none .leaf (.node none (.node none (.node none .leaf (.node (some []) (.node none (.node none .leaf (.node (some []) .leaf (.node none .leaf (.node none (.node (some [48]) .leaf .leaf) .leaf)))) .leaf) .leaf)) .leaf) .leaf)) (.node none .leaf (.node none .leaf (.node none .leaf (.node none .leaf (.node (some []) .leaf .leaf))))))))))) [part0, l1, b2] w K := by kernel_rfl
theorem erratalaw12_RetainBack.call {part0 l1 b2 : Value} {w : World} {K : Value → World → Prop} (h : erratalaw12_RetainBack.pt part0 l1 b2 w K) : Calls Tryd.prog F_erratalaw12_RetainBack #[part0, l1, b2] w (retK K) :=
  calls_FN (args := [part0, l1, b2]) Tryd.func3 (by kernel_rfl) (by rw [erratalaw12_RetainBack.pt_eq] at h; exact h)
theorem erratalaw12_RetainBack.up {part0 l1 b2 : Value} {w : World} {K : Value → World → Prop} (h : Calls Tryd.prog F_erratalaw12_RetainBack #[part0, l1, b2] w (retK K)) : upK Tryd.prog (sCall F_erratalaw12_RetainBack #[part0, l1, b2]) w K :=
  up_call (fn := Tryd.f3) Tryd.func3 (by kernel_rfl) (by kernel_rfl) h

/-- errata/erratalaw12.small -/
def erratalaw12_small.pt (w : World) (K : Value → World → Prop) : Prop :=
  upK Tryd.prog (sCall F_retain_New #[(.int .i64 2)]) w fun t8 w1 =>
  pureK Tryd.prog (sBin .eql T_p_retain_Store (.tmp 9) (.const (.pointer none)) t8 (.pointer none)) fun t10 =>
  ifB t10
  (K (.bool false) w1)
  (upK Tryd.prog (sBuildSlice T_s_int 3 #[(0, (.int .i64 5)), (1, (.int .i64 9)), (2, (.int .i64 7))]) w1 fun t11 w2 =>
   LOOP (X := Value × Unit) (fun lv3 w3 next3 =>
    pureK Tryd.prog (sBin .lss T_int (.tmp 12) (.const (.int .i64 3)) lv3.1 (.int .i64 3)) fun t13 =>
    ifB t13
    (pureK Tryd.prog (sIdxAddr T_s_int t11 lv3.1) fun t20 =>
     readK Tryd.prog (sLoad T_int t20) w3 fun t21 =>
     pureK Tryd.prog (sBuild T_api_Event #[(0, (.int .i64 2)), (1, lv3.1), (2, (.string ⟨#[97]⟩)), (4, t21)]) fun t22 =>
     upK Tryd.prog (sCall F_retain_Store_Add #[t8, t22]) w3 fun t23 w4 =>
     pureK Tryd.prog (sBin .neq T_api_Errno (.tmp 23) (.const (.int .i64 0)) t23 (.int .i64 0)) fun t24 =>
     ifB t24
     (K (.bool false) w4)
     (pureK Tryd.prog (sBin .add T_int (.tmp 14) (.const (.int .i64 1)) lv3.1 (.int .i64 1)) fun t15 =>
      next3 (t15, ()) w4))
    (upK Tryd.prog (sCall F_retain_Store_Copy #[t8]) w3 fun t26 w5 =>
     pureK Tryd.prog (sBin .eql T_p_retain_Store (.tmp 27) (.const (.pointer none)) t26 (.pointer none)) fun t28 =>
     ifB t28
     (K (.bool false) w5)
     (upK Tryd.prog (sCall F_retain_Store_Next #[t8]) w5 fun t30 w6 =>
      pureK Tryd.prog (sBin .eql T_int (.tmp 30) (.const (.int .i64 3)) t30 (.int .i64 3)) fun t31 =>
      ifB t31
      (upK Tryd.prog (sCall F_retain_Store_Drop #[t8, (.int .i64 2)]) w6 fun t34 w7 =>
       pureK Tryd.prog (sBin .eql T_int (.tmp 34) (.const (.int .i64 2)) t34 (.int .i64 2)) fun t35 =>
       ifB t35
       (upK Tryd.prog (sCall F_retain_Store_First #[t8]) w7 fun t39 w8 =>
        pureK Tryd.prog (sBin .eql T_int (.tmp 39) (.const (.int .i64 2)) t39 (.int .i64 2)) fun t40 =>
        ifB t40
        (upK Tryd.prog (sCall F_retain_Store_Horizon #[t8]) w8 fun t44 w9 =>
         pureK Tryd.prog (sBin .eql T_int (.tmp 44) (.const (.int .i64 10)) t44 (.int .i64 10)) fun t45 =>
         upK Tryd.prog (sCall F_retain_Store_From #[t8, (.int .i64 0)]) w9 fun t48 w10 =>
         upK Tryd.prog (sCall F_retain_Store_Slice #[t8, (.int .i64 0), (.int .i64 9)]) w10 fun t50 w11 =>
         ifB t45
         (readK Tryd.prog (sBlt .len #[T_s_api_Event] T_int #[false] #[t48]) w11 fun t54 =>
          pureK Tryd.prog (sBin .eql T_int (.tmp 54) (.const (.int .i64 1)) t54 (.int .i64 1)) fun t55 =>
          ifB t55
          (readK Tryd.prog (sBlt .len #[T_s_api_Event] T_int #[false] #[t50]) w11 fun t59 =>
           pureK Tryd.prog (sBin .eql T_int (.tmp 59) (.const (.int .i64 1)) t59 (.int .i64 1)) fun t60 =>
           ifB t60
           (pureK Tryd.prog (sIdxAddr T_s_api_Event t48 (.int .i64 0)) fun t64 =>
            pureK Tryd.prog (sFieldAddr T_api_Event t64 1) fun t65 =>
            readK Tryd.prog (sLoad T_int t65) w11 fun t66 =>
            pureK Tryd.prog (sBin .eql T_int (.tmp 66) (.const (.int .i64 2)) t66 (.int .i64 2)) fun t67 =>
            ifB t67
            (pureK Tryd.prog (sIdxAddr T_s_api_Event t50 (.int .i64 0)) fun t71 =>
             pureK Tryd.prog (sFieldAddr T_api_Event t71 4) fun t72 =>
             readK Tryd.prog (sLoad T_int t72) w11 fun t73 =>
             pureK Tryd.prog (sBin .eql T_int (.tmp 73) (.const (.int .i64 7)) t73 (.int .i64 7)) fun t74 =>
             ifB t74
             (upK Tryd.prog (sCall F_retain_Store_Trim #[t26, (.int .i64 8)]) w11 fun t78 w12 =>
              pureK Tryd.prog (sBin .eql T_int (.tmp 78) (.const (.int .i64 1)) t78 (.int .i64 1)) fun t79 =>
              ifB t79
              (upK Tryd.prog (sCall F_retain_Store_Horizon #[t26]) w12 fun t83 w13 =>
               pureK Tryd.prog (sBin .eql T_int (.tmp 83) (.const (.int .i64 6)) t83 (.int .i64 6)) fun t84 =>
               ifB t84
               (upK Tryd.prog (sCall F_retain_Store_Part #[t26]) w13 fun t88 w14 =>
                pureK Tryd.prog (sBin .eql T_int (.tmp 88) (.const (.int .i64 2)) t88 (.int .i64 2)) fun t89 =>
                K t89 w14)
               (K (.bool false) w13))
              (K (.bool false) w12))
             (K (.bool false) w11))
            (K (.bool false) w11))
           (K (.bool false) w11))
          (K (.bool false) w11))
         (K (.bool false) w11))
        (upK Tryd.prog (sCall F_retain_Store_From #[t8, (.int .i64 0)]) w8 fun t48_1 w15 =>
         upK Tryd.prog (sCall F_retain_Store_Slice #[t8, (.int .i64 0), (.int .i64 9)]) w15 fun t50_1 w16 =>
         K (.bool false) w16))
       (upK Tryd.prog (sCall F_retain_Store_From #[t8, (.int .i64 0)]) w7 fun t48_2 w17 =>
        upK Tryd.prog (sCall F_retain_Store_Slice #[t8, (.int .i64 0), (.int .i64 9)]) w17 fun t50_2 w18 =>
        K (.bool false) w18))
      (upK Tryd.prog (sCall F_retain_Store_From #[t8, (.int .i64 0)]) w6 fun t48_3 w19 =>
       upK Tryd.prog (sCall F_retain_Store_Slice #[t8, (.int .i64 0), (.int .i64 9)]) w19 fun t50_3 w20 =>
       K (.bool false) w20))))
   ((.int .i64 0), ()) w2)
theorem erratalaw12_small.pt_eq : erratalaw12_small.pt = fun  w K => FN Tryd.prog Tryd.f4 (bodyOf Tryd.f4) [0] .leaf [] w K := by kernel_rfl
theorem erratalaw12_small.call {w : World} {K : Value → World → Prop} (h : erratalaw12_small.pt  w K) : Calls Tryd.prog F_erratalaw12_small #[] w (retK K) :=
  calls_FN (args := []) Tryd.func4 (by kernel_rfl) (by rw [erratalaw12_small.pt_eq] at h; exact h)
theorem erratalaw12_small.up {w : World} {K : Value → World → Prop} (h : Calls Tryd.prog F_erratalaw12_small #[] w (retK K)) : upK Tryd.prog (sCall F_erratalaw12_small #[]) w K :=
  up_call (fn := Tryd.f4) Tryd.func4 (by kernel_rfl) (by kernel_rfl) h

/-- errata/erratalaw12.few -/
def erratalaw12_few.pt (l0 : Value) (w : World) (K : Value → World → Prop) : Prop :=
  LOOP (X := Value × Unit) (fun lv1 w1 next1 =>
   readK Tryd.prog (sBlt .len #[T_s_erratalaw12_Op] T_int #[false] #[l0]) w1 fun t6 =>
   pureK Tryd.prog (sBin .lss T_int (.tmp 4) (.tmp 6) lv1.1 t6) fun t7 =>
   ifB t7
   (pureK Tryd.prog (sIdxAddr T_s_erratalaw12_Op l0 lv1.1) fun t12 =>
    pureK Tryd.prog (sFieldAddr T_erratalaw12_Op t12 1) fun t13 =>
    readK Tryd.prog (sLoad T_api_Event t13) w1 fun t14 =>
    upK Tryd.prog (sBuildSlice T_s_api_Event 1 #[(0, t14)]) w1 fun t15 w2 =>
    upK Tryd.prog (sCall F_errataref12_Few #[t15, (.int .i64 1)]) w2 fun t16 w3 =>
    pureK Tryd.prog (sUn .not t16) fun t17 =>
    ifB t17
    (K (.bool false) w3)
    (pureK Tryd.prog (sBin .add T_int (.tmp 8) (.const (.int .i64 1)) lv1.1 (.int .i64 1)) fun t9 =>
     next1 (t9, ()) w3))
   (readK Tryd.prog (sBlt .len #[T_s_erratalaw12_Op] T_int #[false] #[l0]) w1 fun t19 =>
    pureK Tryd.prog (sBin .leq T_int (.tmp 19) (.const (.int .i64 60)) t19 (.int .i64 60)) fun t20 =>
    K t20 w1))
  ((.int .i64 0), ()) w
theorem erratalaw12_few.pt_eq : erratalaw12_few.pt = fun l0 w K => FN Tryd.prog Tryd.f5 (bodyOf Tryd.f5) [2] .leaf [l0] w K := by kernel_rfl
theorem erratalaw12_few.call {l0 : Value} {w : World} {K : Value → World → Prop} (h : erratalaw12_few.pt l0 w K) : Calls Tryd.prog F_erratalaw12_few #[l0] w (retK K) :=
  calls_FN (args := [l0]) Tryd.func5 (by kernel_rfl) (by rw [erratalaw12_few.pt_eq] at h; exact h)
theorem erratalaw12_few.up {l0 : Value} {w : World} {K : Value → World → Prop} (h : Calls Tryd.prog F_erratalaw12_few #[l0] w (retK K)) : upK Tryd.prog (sCall F_erratalaw12_few #[l0]) w K :=
  up_call (fn := Tryd.f5) Tryd.func5 (by kernel_rfl) (by kernel_rfl) h

/-- errata/retain.New -/
def retain_New.pt (part0 : Value) (w : World) (K : Value → World → Prop) : Prop :=
  pureK Tryd.prog (sBuild T_retain_Store #[(0, part0)]) fun t4 =>
  upK Tryd.prog (sBox T_retain_Store t4) w fun t5 w1 =>
  K t5 w1
theorem retain_New.pt_eq : retain_New.pt = fun part0 w K => FN Tryd.prog Tryd.f6 (bodyOf Tryd.f6) [2] .leaf [part0] w K := by kernel_rfl
theorem retain_New.call {part0 : Value} {w : World} {K : Value → World → Prop} (h : retain_New.pt part0 w K) : Calls Tryd.prog F_retain_New #[part0] w (retK K) :=
  calls_FN (args := [part0]) Tryd.func6 (by kernel_rfl) (by rw [retain_New.pt_eq] at h; exact h)
theorem retain_New.up {part0 : Value} {w : World} {K : Value → World → Prop} (h : Calls Tryd.prog F_retain_New #[part0] w (retK K)) : upK Tryd.prog (sCall F_retain_New #[part0]) w K :=
  up_call (fn := Tryd.f6) Tryd.func6 (by kernel_rfl) (by kernel_rfl) h

/-- (*errata/retain.Store).Next -/
def retain_Store_Next.pt (s0 : Value) (w : World) (K : Value → World → Prop) : Prop :=
  pureK Tryd.prog (sNil s0) fun t4 =>
  pureK Tryd.prog (sFieldAddr T_retain_Store t4 1) fun t5 =>
  readK Tryd.prog (sLoad T_int t5) (tick w) fun t6 =>
  pureK Tryd.prog (sNil s0) fun t8 =>
  pureK Tryd.prog (sFieldAddr T_retain_Store t8 3) fun t9 =>
  readK Tryd.prog (sLoad T_s_api_Event t9) (tick w) fun t10 =>
  readK Tryd.prog (sBlt .len #[T_s_api_Event] T_int #[false] #[t10]) (tick w) fun t11 =>
  pureK Tryd.prog (sBin .add T_int (.tmp 6) (.tmp 11) t6 t11) fun t12 =>
  K t12 (tick w)
theorem retain_Store_Next.pt_eq : retain_Store_Next.pt = fun s0 w K => FN Tryd.prog Tryd.f7 (bodyOf Tryd.f7) [2] .leaf [s0] w K := by kernel_rfl
theorem retain_Store_Next.call {s0 : Value} {w : World} {K : Value → World → Prop} (h : retain_Store_Next.pt s0 w K) : Calls Tryd.prog F_retain_Store_Next #[s0] w (retK K) :=
  calls_FN (args := [s0]) Tryd.func7 (by kernel_rfl) (by rw [retain_Store_Next.pt_eq] at h; exact h)
theorem retain_Store_Next.up {s0 : Value} {w : World} {K : Value → World → Prop} (h : Calls Tryd.prog F_retain_Store_Next #[s0] w (retK K)) : upK Tryd.prog (sCall F_retain_Store_Next #[s0]) w K :=
  up_call (fn := Tryd.f7) Tryd.func7 (by kernel_rfl) (by kernel_rfl) h

/-- errata/erratalaw12.pick -/
def erratalaw12_pick.pt (n0 m1 : Value) (w : World) (K : Value → World → Prop) : Prop :=
  pureK Tryd.prog (sBin .rem T_int (.tmp 5) (.tmp 6) n0 m1) fun t7 =>
  LETJ (X := Value × Unit) (fun jv1 w1 =>
   K jv1.1 w1)
  (fun J1 =>
   pureK Tryd.prog (sBin .lss T_int (.tmp 8) (.const (.int .i64 0)) t7 (.int .i64 0)) fun t9 =>
   ifB t9
   (pureK Tryd.prog (sBin .add T_int (.tmp 10) (.tmp 11) t7 m1) fun t12 =>
    J1 (t12, ()) w)
   (J1 (t7, ()) w))
theorem erratalaw12_pick.pt_eq : erratalaw12_pick.pt = fun n0 m1 w K => FN Tryd.prog Tryd.f8 (bodyOf Tryd.f8) [4] (.node none .leaf (.node none .leaf (.node (some [0]) .leaf .leaf))) [n0, m1] w K := by kernel_rfl
theorem erratalaw12_pick.call {n0 m1 : Value} {w : World} {K : Value → World → Prop} (h : erratalaw12_pick.pt n0 m1 w K) : Calls Tryd.prog F_erratalaw12_pick #[n0, m1] w (retK K) :=
  calls_FN (args := [n0, m1]) Tryd.func8 (by kernel_rfl) (by rw [erratalaw12_pick.pt_eq] at h; exact h)
theorem erratalaw12_pick.up {n0 m1 : Value} {w : World} {K : Value → World → Prop} (h : Calls Tryd.prog F_erratalaw12_pick #[n0, m1] w (retK K)) : upK Tryd.prog (sCall F_erratalaw12_pick #[n0, m1]) w K :=
  up_call (fn := Tryd.f8) Tryd.func8 (by kernel_rfl) (by kernel_rfl) h

/-- (*errata/retain.Store).Add -/
def retain_Store_Add.pt (s0 e1 : Value) (w : World) (K : Value → World → Prop) : Prop :=
  upK Tryd.prog (sBox T_api_Event e1) w fun e3 w1 =>
  readK Tryd.prog (sLoad T_api_Event e3) w1 fun t7 =>
  upK Tryd.prog (sCall F_retain_Store_right #[s0, t7]) w1 fun t8 w2 =>
  pureK Tryd.prog (sUn .not t8) fun t9 =>
  ifB t9
  (K (.int .i64 1) w2)
  (pureK Tryd.prog (sFieldAddr T_api_Event e3 5) fun t11 =>
   readK Tryd.prog (sLoad T_s_api_Value t11) w2 fun t12 =>
   upK Tryd.prog (sCall F_value_RightRow #[t12]) w2 fun t13 w3 =>
   pureK Tryd.prog (sUn .not t13) fun t14 =>
   ifB t14
   (K (.int .i64 16) w3)
   (pureK Tryd.prog (sFieldAddr T_api_Event e3 1) fun t16 =>
    readK Tryd.prog (sLoad T_int t16) (tick w3) fun t17 =>
    upK Tryd.prog (sCall F_retain_Store_Next #[s0]) (tick w3) fun t19 w4 =>
    Is Tryd.prog (sLoad T_int t16) t17 w4 ∧ pureK Tryd.prog (sBin .neq T_int (.tmp 17) (.tmp 19) t17 t19) fun t20 =>
    ifB t20
    (K (.int .i64 25) w4)
    (pureK Tryd.prog (sNil s0) fun t23 =>
     pureK Tryd.prog (sFieldAddr T_retain_Store t23 3) fun t24 =>
     readK Tryd.prog (sLoad T_s_api_Event t24) w4 fun t25 =>
     readK Tryd.prog (sBlt .len #[T_s_api_Event] T_int #[false] #[t25]) w4 fun t26 =>
     pureK Tryd.prog (sBin .geq T_int (.tmp 26) (.const (.int .i64 2000)) t26 (.int .i64 2000)) fun t27 =>
     ifB t27
     (K (.int .i64 6) w4)
     (pureK Tryd.prog (sNil s0) fun t30 =>
      pureK Tryd.prog (sFieldAddr T_retain_Store t30 3) fun t31 =>
      readK Tryd.prog (sLoad T_s_api_Event t31) (tick w4) fun t32 =>
      readK Tryd.prog (sLoad T_api_Event e3) (tick w4) fun t33 =>
      upK Tryd.prog (sCall F_retain_event #[t33]) (tick w4) fun t34 w5 =>
      Is Tryd.prog (sLoad T_s_api_Event t31) t32 w5 ∧ upK Tryd.prog (sBuildSlice T_s_api_Event 1 #[(0, t34)]) w5 fun t35 w6 =>
      Is Tryd.prog (sLoad T_s_api_Event t31) t32 w6 ∧ upK Tryd.prog (sBlt .append #[T_s_api_Event, T_s_api_Event] T_s_api_Event #[false, false] #[t32, t35]) w6 fun t36 w7 =>
      pureK Tryd.prog (sNil s0) fun t37 =>
      pureK Tryd.prog (sFieldAddr T_retain_Store t37 3) fun t38 =>
      upK Tryd.prog (sStore T_s_api_Event t38 t36) w7 fun tu w8 =>
      K (.int .i64 0) w8))))
theorem retain_Store_Add.pt_eq : retain_Store_Add.pt = fun s0 e1 w K => FN Tryd.prog Tryd.f9 (bodyOf Tryd.f9) [4] .leaf [s0, e1] w K := by kernel_rfl
theorem retain_Store_Add.call {s0 e1 : Value} {w : World} {K : Value → World → Prop} (h : retain_Store_Add.pt s0 e1 w K) : Calls Tryd.prog F_retain_Store_Add #[s0, e1] w (retK K) :=
  calls_FN (args := [s0, e1]) Tryd.func9 (by kernel_rfl) (by rw [retain_Store_Add.pt_eq] at h; exact h)
theorem retain_Store_Add.up {s0 e1 : Value} {w : World} {K : Value → World → Prop} (h : Calls Tryd.prog F_retain_Store_Add #[s0, e1] w (retK K)) : upK Tryd.prog (sCall F_retain_Store_Add #[s0, e1]) w K :=
  up_call (fn := Tryd.f9) Tryd.func9 (by kernel_rfl) (by kernel_rfl) h

/-- (*errata/retain.Store).Drop -/
def retain_Store_Drop.pt (s0 pos1 : Value) (w : World) (K : Value → World → Prop) : Prop :=
  upK Tryd.prog (sCall F_retain_Store_place #[s0, pos1]) w fun t8 w1 =>
  upK Tryd.prog (sCall F_retain_Store_cut #[s0, t8]) w1 fun t9 w2 =>
  K t9 w2
theorem retain_Store_Drop.pt_eq : retain_Store_Drop.pt = fun s0 pos1 w K => FN Tryd.prog Tryd.f10 (bodyOf Tryd.f10) [4] .leaf [s0, pos1] w K := by kernel_rfl
theorem retain_Store_Drop.call {s0 pos1 : Value} {w : World} {K : Value → World → Prop} (h : retain_Store_Drop.pt s0 pos1 w K) : Calls Tryd.prog F_retain_Store_Drop #[s0, pos1] w (retK K) :=
  calls_FN (args := [s0, pos1]) Tryd.func10 (by kernel_rfl) (by rw [retain_Store_Drop.pt_eq] at h; exact h)
theorem retain_Store_Drop.up {s0 pos1 : Value} {w : World} {K : Value → World → Prop} (h : Calls Tryd.prog F_retain_Store_Drop #[s0, pos1] w (retK K)) : upK Tryd.prog (sCall F_retain_Store_Drop #[s0, pos1]) w K :=
  up_call (fn := Tryd.f10) Tryd.func10 (by kernel_rfl) (by kernel_rfl) h

/-- (*errata/retain.Store).Trim -/
def retain_Store_Trim.pt (s0 time1 : Value) (w : World) (K : Value → World → Prop) : Prop :=
  upK Tryd.prog (sBox T_int time1) w fun time3 w1 =>
  pureK Tryd.prog (sNil s0) fun t7 =>
  pureK Tryd.prog (sFieldAddr T_retain_Store t7 3) fun t8 =>
  readK Tryd.prog (sLoad T_s_api_Event t8) w1 fun t9 =>
  pureK Tryd.prog (sMkFunc (.func F_retain_Store_Trim_1) #[] #[time3]) fun t10 =>
  upK Tryd.prog (sCall F_slices_IndexFunc_s_api_Event_api_Event #[t9, t10]) w1 fun t11 w2 =>
  LETJ (X := Value × Unit) (fun jv1 w3 =>
   upK Tryd.prog (sCall F_retain_Store_cut #[s0, jv1.1]) w3 fun t21 w4 =>
   K t21 w4)
  (fun J1 =>
   pureK Tryd.prog (sBin .lss T_int (.tmp 12) (.const (.int .i64 0)) t11 (.int .i64 0)) fun t13 =>
   ifB t13
   (pureK Tryd.prog (sNil s0) fun t15 =>
    pureK Tryd.prog (sFieldAddr T_retain_Store t15 3) fun t16 =>
    readK Tryd.prog (sLoad T_s_api_Event t16) w2 fun t17 =>
    readK Tryd.prog (sBlt .len #[T_s_api_Event] T_int #[false] #[t17]) w2 fun t18 =>
    J1 (t18, ()) w2)
   (J1 (t11, ()) w2))
theorem retain_Store_Trim.pt_eq : retain_Store_Trim.pt = fun s0 time1 w K => FN Tryd.prog Tryd.f11 (bodyOf Tryd.f11) [4] (.node none .leaf (.node none .leaf (.node (some [5]) .leaf .leaf))) [s0, time1] w K := by kernel_rfl
theorem retain_Store_Trim.call {s0 time1 : Value} {w : World} {K : Value → World → Prop} (h : retain_Store_Trim.pt s0 time1 w K) : Calls Tryd.prog F_retain_Store_Trim #[s0, time1] w (retK K) :=
  calls_FN (args := [s0, time1]) Tryd.func11 (by kernel_rfl) (by rw [retain_Store_Trim.pt_eq] at h; exact h)
theorem retain_Store_Trim.up {s0 time1 : Value} {w : World} {K : Value → World → Prop} (h : Calls Tryd.prog F_retain_Store_Trim #[s0, time1] w (retK K)) : upK Tryd.prog (sCall F_retain_Store_Trim #[s0, time1]) w K :=
  up_call (fn := Tryd.f11) Tryd.func11 (by kernel_rfl) (by kernel_rfl) h

/-- errata/retain.Read -/
def retain_Read.pt (b0 : Value) (w : World) (K : Value → World → Prop) : Prop :=
  upK Tryd.prog (sCall F_wire_Open #[b0]) w fun t11 w1 =>
  upK Tryd.prog (sCall F_wire_Reader_Int #[t11]) w1 fun t13 w2 =>
  upK Tryd.prog (sCall F_retain_New #[t13]) w2 fun t14 w3 =>
  upK Tryd.prog (sCall F_wire_Reader_Int #[t11]) w3 fun t18 w4 =>
  upK Tryd.prog (sCall F_wire_Reader_Int #[t11]) w4 fun t20 w5 =>
  pureK Tryd.prog (sNil t14) fun t21 =>
  pureK Tryd.prog (sFieldAddr T_retain_Store t21 1) fun t22 =>
  upK Tryd.prog (sStore T_int t22 t18) w5 fun tu w6 =>
  pureK Tryd.prog (sNil t14) fun t23 =>
  pureK Tryd.prog (sFieldAddr T_retain_Store t23 2) fun t24 =>
  upK Tryd.prog (sStore T_int t24 t20) w6 fun tu_1 w7 =>
  upK Tryd.prog (sCall F_wire_Reader_Num #[t11]) w7 fun t26 w8 =>
  pureK Tryd.prog (sNil t14) fun t28 =>
  pureK Tryd.prog (sFieldAddr T_retain_Store t28 1) fun t29 =>
  readK Tryd.prog (sLoad T_int t29) (tick w8) fun t30 =>
  pureK Tryd.prog (sBin .lss T_int (.tmp 30) (.const (.int .i64 0)) t30 (.int .i64 0)) fun t31 =>
  ifB t31
  (K (.tuple #[(.pointer none), (.bool false)]) (tick w8))
  (pureK Tryd.prog (sNil t14) fun t34 =>
   pureK Tryd.prog (sFieldAddr T_retain_Store t34 1) fun t35 =>
   readK Tryd.prog (sLoad T_int t35) (tick w8) fun t36 =>
   pureK Tryd.prog (sBin .gtr T_int (.tmp 36) (.const (.int .i64 1152921504606846976)) t36 (.int .i64 1152921504606846976)) fun t37 =>
   ifB t37
   (K (.tuple #[(.pointer none), (.bool false)]) (tick w8))
   (pureK Tryd.prog (sNil t14) fun t41 =>
    pureK Tryd.prog (sFieldAddr T_retain_Store t41 2) fun t42 =>
    readK Tryd.prog (sLoad T_int t42) (tick w8) fun t43 =>
    pureK Tryd.prog (sBin .lss T_int (.tmp 43) (.const (.int .i64 0)) t43 (.int .i64 0)) fun t44 =>
    ifB t44
    (K (.tuple #[(.pointer none), (.bool false)]) (tick w8))
    (pureK Tryd.prog (sNil t14) fun t48 =>
     pureK Tryd.prog (sFieldAddr T_retain_Store t48 2) fun t49 =>
     readK Tryd.prog (sLoad T_int t49) (tick w8) fun t50 =>
     pureK Tryd.prog (sBin .gtr T_int (.tmp 50) (.const (.int .i64 1099511627777)) t50 (.int .i64 1099511627777)) fun t51 =>
     ifB t51
     (K (.tuple #[(.pointer none), (.bool false)]) (tick w8))
     (pureK Tryd.prog (sNil t14) fun t55 =>
      pureK Tryd.prog (sFieldAddr T_retain_Store t55 2) fun t56 =>
      readK Tryd.prog (sLoad T_int t56) (tick w8) fun t57 =>
      pureK Tryd.prog (sBin .eql T_int (.tmp 57) (.const (.int .i64 0)) t57 (.int .i64 0)) fun t58 =>
      pureK Tryd.prog (sNil t14) fun t60 =>
      pureK Tryd.prog (sFieldAddr T_retain_Store t60 1) fun t61 =>
      readK Tryd.prog (sLoad T_int t61) (tick w8) fun t62 =>
      pureK Tryd.prog (sBin .eql T_int (.tmp 62) (.const (.int .i64 0)) t62 (.int .i64 0)) fun t63 =>
      pureK Tryd.prog (sBin .neq T_bool (.tmp 58) (.tmp 63) t58 t63) fun t64 =>
      ifB t64
      (K (.tuple #[(.pointer none), (.bool false)]) (tick w8))
      (pureK Tryd.prog (sBin .gtr T_int (.tmp 67) (.const (.int .i64 2000)) t26 (.int .i64 2000)) fun t68 =>
       ifB t68
       (K (.tuple #[(.pointer none), (.bool false)]) (tick w8))
       (LOOP (X := Value × Unit) (fun lv9 w9 next9 =>
         pureK Tryd.prog (sBin .lss T_int (.tmp 71) (.tmp 70) lv9.1 t26) fun t72 =>
         ifB t72
         (LETJ (X := Value × Unit) (fun jv1 w10 =>
           upK Tryd.prog (sCall F_wire_Reader_Text #[t11]) w10 fun t88 w11 =>
           upK Tryd.prog (sCall F_value_ReadRow #[t88]) w11 fun t89 w12 =>
           pureK Tryd.prog (sExtract t89 0) fun t90 =>
           pureK Tryd.prog (sExtract t89 1) fun t91 =>
           pureK Tryd.prog (sFieldAddr T_api_Event jv1.1 5) fun t93 =>
           upK Tryd.prog (sStore T_s_api_Value t93 t90) w12 fun tu_2 w13 =>
           pureK Tryd.prog (sUn .not t91) fun t95 =>
           ifB t95
           (K (.tuple #[(.pointer none), (.bool false)]) w13)
           (readK Tryd.prog (sLoad T_api_Event jv1.1) w13 fun t98 =>
            upK Tryd.prog (sCall F_retain_Store_Add #[t14, t98]) w13 fun t99 w14 =>
            pureK Tryd.prog (sBin .neq T_api_Errno (.tmp 99) (.const (.int .i64 0)) t99 (.int .i64 0)) fun t100 =>
            ifB t100
            (K (.tuple #[(.pointer none), (.bool false)]) w14)
            (pureK Tryd.prog (sBin .add T_int (.tmp 71) (.const (.int .i64 1)) lv9.1 (.int .i64 1)) fun t102 =>
             next9 (t102, ()) w14)))
          (fun J1 =>
           pureK Tryd.prog (sNil t14) fun t74 =>
           pureK Tryd.prog (sFieldAddr T_retain_Store t74 0) fun t75 =>
           readK Tryd.prog (sLoad T_int t75) (tick w9) fun t76 =>
           ((upK Tryd.prog (sCall F_retain_Store_Next #[t14]) (tick w9) fun t78 w15 =>
             Is Tryd.prog (sLoad T_int t75) t76 w15 ∧ ((upK Tryd.prog (sCall F_wire_Reader_Text #[t11]) w15 fun t80 w16 =>
               Is Tryd.prog (sLoad T_int t75) t76 w16 ∧ ((upK Tryd.prog (sCall F_wire_Reader_Int #[t11]) w16 fun t82 w17 =>
                 Is Tryd.prog (sLoad T_int t75) t76 w17 ∧ ((upK Tryd.prog (sCall F_wire_Reader_Int #[t11]) w17 fun t84 w18 =>
                   Is Tryd.prog (sLoad T_int t75) t76 w18 ∧ pureK Tryd.prog (sBuild T_api_Event #[(0, t76), (1, t78), (2, t80), (3, t82), (4, t84)]) fun t85 =>
                   upK Tryd.prog (sAlloc T_api_Event) w18 fun e7 w19 =>
                   Is Tryd.prog (sLoad T_int t75) t76 w19 ∧ upK Tryd.prog (sStore T_api_Event e7 t85) w19 fun tu_3 w20 =>
                   J1 (e7, ()) w20)
                  ∧ (upK Tryd.prog (sAlloc T_api_Event) w17 fun e7_1 w21 =>
                   Is Tryd.prog (sLoad T_int t75) t76 w21 ∧ upK Tryd.prog (sCall F_wire_Reader_Int #[t11]) w21 fun t84_1 w22 =>
                   Is Tryd.prog (sLoad T_int t75) t76 w22 ∧ pureK Tryd.prog (sBuild T_api_Event #[(0, t76), (1, t78), (2, t80), (3, t82), (4, t84_1)]) fun t85_1 =>
                   upK Tryd.prog (sStore T_api_Event e7_1 t85_1) w22 fun tu_4 w23 =>
                   J1 (e7_1, ()) w23)))
                ∧ (upK Tryd.prog (sAlloc T_api_Event) w16 fun e7_2 w24 =>
                 Is Tryd.prog (sLoad T_int t75) t76 w24 ∧ upK Tryd.prog (sCall F_wire_Reader_Int #[t11]) w24 fun t82_1 w25 =>
                 Is Tryd.prog (sLoad T_int t75) t76 w25 ∧ upK Tryd.prog (sCall F_wire_Reader_Int #[t11]) w25 fun t84_2 w26 =>
                 Is Tryd.prog (sLoad T_int t75) t76 w26 ∧ pureK Tryd.prog (sBuild T_api_Event #[(0, t76), (1, t78), (2, t80), (3, t82_1), (4, t84_2)]) fun t85_2 =>
                 upK Tryd.prog (sStore T_api_Event e7_2 t85_2) w26 fun tu_5 w27 =>
                 J1 (e7_2, ()) w27)))
              ∧ (upK Tryd.prog (sAlloc T_api_Event) w15 fun e7_3 w28 =>
               Is Tryd.prog (sLoad T_int t75) t76 w28 ∧ upK Tryd.prog (sCall F_wire_Reader_Text #[t11]) w28 fun t80_1 w29 =>
               Is Tryd.prog (sLoad T_int t75) t76 w29 ∧ upK Tryd.prog (sCall F_wire_Reader_Int #[t11]) w29 fun t82_2 w30 =>
               Is Tryd.prog (sLoad T_int t75) t76 w30 ∧ upK Tryd.prog (sCall F_wire_Reader_Int #[t11]) w30 fun t84_3 w31 =>
               Is Tryd.prog (sLoad T_int t75) t76 w31 ∧ pureK Tryd.prog (sBuild T_api_Event #[(0, t76), (1, t78), (2, t80_1), (3, t82_2), (4, t84_3)]) fun t85_3 =>
               upK Tryd.prog (sStore T_api_Event e7_3 t85_3) w31 fun tu_6 w32 =>
               J1 (e7_3, ()) w32)))
            ∧ (upK Tryd.prog (sAlloc T_api_Event) (tick w9) fun e7_4 w33 =>
             Is Tryd.prog (sLoad T_int t75) t76 w33 ∧ upK Tryd.prog (sCall F_retain_Store_Next #[t14]) w33 fun t78_1 w34 =>
             Is Tryd.prog (sLoad T_int t75) t76 w34 ∧ upK Tryd.prog (sCall F_wire_Reader_Text #[t11]) w34 fun t80_2 w35 =>
             Is Tryd.prog (sLoad T_int t75) t76 w35 ∧ upK Tryd.prog (sCall F_wire_Reader_Int #[t11]) w35 fun t82_3 w36 =>
             Is Tryd.prog (sLoad T_int t75) t76 w36 ∧ upK Tryd.prog (sCall F_wire_Reader_Int #[t11]) w36 fun t84_4 w37 =>
             Is Tryd.prog (sLoad T_int t75) t76 w37 ∧ pureK Tryd.prog (sBuild T_api_Event #[(0, t76), (1, t78_1), (2, t80_2), (3, t82_3), (4, t84_4)]) fun t85_4 =>
             upK Tryd.prog (sStore T_api_Event e7_4 t85_4) w37 fun tu_7 w38 =>
             J1 (e7_4, ()) w38))))
         (upK Tryd.prog (sCall F_wire_Reader_Done #[t11]) w9 fun t104 w39 =>
          pureK Tryd.prog (sUn .not t104) fun t105 =>
          ifB t105
          (K (.tuple #[(.pointer none), (.bool false)]) w39)
          (K (.tuple #[t14, (.bool true)]) w39)))
        ((.int .i64 0), ()) (tick w8)))))))
theorem retain_Read.pt_eq : retain_Read.pt = fun b0 w K => FN Tryd.prog Tryd.f12 (bodyOf Tryd.f12) [2, 3] (.node none .leaf (.node none .leaf (.node none .leaf (.node none .leaf (.node none .leaf (.node none .leaf (.node none (.node none .leaf (.node none (.node none (.node none .leaf (.node none .leaf (.node none (.node none (.node (some [7]) .leaf .leaf) .leaf) .leaf))) .leaf) .leaf)) .leaf))))))) [b0] w K := by kernel_rfl
theorem retain_Read.call {b0 : Value} {w : World} {K : Value → World → Prop} (h : retain_Read.pt b0 w K) : Calls Tryd.prog F_retain_Read #[b0] w (retK K) :=
  calls_FN (args := [b0]) Tryd.func12 (by kernel_rfl) (by rw [retain_Read.pt_eq] at h; exact h)
theorem retain_Read.up {b0 : Value} {w : World} {K : Value → World → Prop} (h : Calls Tryd.prog F_retain_Read #[b0] w (retK K)) : upK Tryd.prog (sCall F_retain_Read #[b0]) w K :=
  up_call (fn := Tryd.f12) Tryd.func12 (by kernel_rfl) (by kernel_rfl) h

/-- (*errata/retain.Store).Bytes -/
def retain_Store_Bytes.pt (s0 : Value) (w : World) (K : Value → World → Prop) : Prop :=
  upK Tryd.prog (sAlloc T_strings_Builder) w fun b3 w1 =>
  pureK Tryd.prog (sNil s0) fun t7 =>
  pureK Tryd.prog (sFieldAddr T_retain_Store t7 0) fun t8 =>
  readK Tryd.prog (sLoad T_int t8) (tick w1) fun t9 =>
  pureK Tryd.prog (sNil s0) fun t12 =>
  pureK Tryd.prog (sFieldAddr T_retain_Store t12 1) fun t13 =>
  readK Tryd.prog (sLoad T_int t13) (tick w1) fun t14 =>
  pureK Tryd.prog (sNil s0) fun t18 =>
  pureK Tryd.prog (sFieldAddr T_retain_Store t18 2) fun t19 =>
  readK Tryd.prog (sLoad T_int t19) (tick w1) fun t20 =>
  pureK Tryd.prog (sNil s0) fun t24 =>
  pureK Tryd.prog (sFieldAddr T_retain_Store t24 3) fun t25 =>
  readK Tryd.prog (sLoad T_s_api_Event t25) (tick w1) fun t26 =>
  readK Tryd.prog (sBlt .len #[T_s_api_Event] T_int #[false] #[t26]) (tick w1) fun t27 =>
  upK Tryd.prog (sCall F_wire_Int #[t9]) (tick w1) fun t10 w2 =>
  Is Tryd.prog (sBlt .len #[T_s_api_Event] T_int #[false] #[t26]) t27 w2 ∧ Is Tryd.prog (sLoad T_s_api_Event t25) t26 w2 ∧ Is Tryd.prog (sLoad T_int t19) t20 w2 ∧ Is Tryd.prog (sLoad T_int t13) t14 w2 ∧ upK Tryd.prog (sCall F_wire_Int #[t14]) w2 fun t15 w3 =>
  Is Tryd.prog (sBlt .len #[T_s_api_Event] T_int #[false] #[t26]) t27 w3 ∧ Is Tryd.prog (sLoad T_s_api_Event t25) t26 w3 ∧ Is Tryd.prog (sLoad T_int t19) t20 w3 ∧ pureK Tryd.prog (sBin .add T_string (.tmp 10) (.tmp 15) t10 t15) fun t16 =>
  upK Tryd.prog (sCall F_wire_Int #[t20]) w3 fun t21 w4 =>
  Is Tryd.prog (sBlt .len #[T_s_api_Event] T_int #[false] #[t26]) t27 w4 ∧ Is Tryd.prog (sLoad T_s_api_Event t25) t26 w4 ∧ pureK Tryd.prog (sBin .add T_string (.tmp 16) (.tmp 21) t16 t21) fun t22 =>
  upK Tryd.prog (sCall F_wire_Num #[t27]) w4 fun t28 w5 =>
  pureK Tryd.prog (sBin .add T_string (.tmp 22) (.tmp 28) t22 t28) fun t29 =>
  upK Tryd.prog (sCall F_strings_Builder_WriteString #[b3, t29]) w5 fun t30 w6 =>
  pureK Tryd.prog (sNil s0) fun t32 =>
  pureK Tryd.prog (sFieldAddr T_retain_Store t32 3) fun t33 =>
  readK Tryd.prog (sLoad T_s_api_Event t33) w6 fun t34 =>
  readK Tryd.prog (sBlt .len #[T_s_api_Event] T_int #[false] #[t34]) w6 fun t35 =>
  LOOP (X := Value × Unit) (fun lv7 w7 next7 =>
   pureK Tryd.prog (sBin .lss T_int (.tmp 36) (.tmp 35) lv7.1 t35) fun t37 =>
   ifB t37
   (pureK Tryd.prog (sIdxAddr T_s_api_Event t34 lv7.1) fun t38 =>
    readK Tryd.prog (sLoad T_api_Event t38) w7 fun t39 =>
    upK Tryd.prog (sAlloc T_api_Event) w7 fun e5 w8 =>
    upK Tryd.prog (sStore T_api_Event e5 t39) w8 fun tu w9 =>
    pureK Tryd.prog (sFieldAddr T_api_Event e5 2) fun t40 =>
    readK Tryd.prog (sLoad T_string t40) (tick w9) fun t41 =>
    pureK Tryd.prog (sFieldAddr T_api_Event e5 3) fun t43 =>
    readK Tryd.prog (sLoad T_int t43) (tick w9) fun t44 =>
    pureK Tryd.prog (sFieldAddr T_api_Event e5 4) fun t47 =>
    readK Tryd.prog (sLoad T_int t47) (tick w9) fun t48 =>
    pureK Tryd.prog (sFieldAddr T_api_Event e5 5) fun t51 =>
    readK Tryd.prog (sLoad T_s_api_Value t51) (tick w9) fun t52 =>
    upK Tryd.prog (sCall F_wire_Text #[t41]) (tick w9) fun t42 w10 =>
    Is Tryd.prog (sLoad T_s_api_Value t51) t52 w10 ∧ Is Tryd.prog (sLoad T_int t47) t48 w10 ∧ Is Tryd.prog (sLoad T_int t43) t44 w10 ∧ upK Tryd.prog (sCall F_wire_Int #[t44]) w10 fun t45 w11 =>
    Is Tryd.prog (sLoad T_s_api_Value t51) t52 w11 ∧ Is Tryd.prog (sLoad T_int t47) t48 w11 ∧ pureK Tryd.prog (sBin .add T_string (.tmp 42) (.tmp 45) t42 t45) fun t46 =>
    upK Tryd.prog (sCall F_wire_Int #[t48]) w11 fun t49 w12 =>
    Is Tryd.prog (sLoad T_s_api_Value t51) t52 w12 ∧ pureK Tryd.prog (sBin .add T_string (.tmp 46) (.tmp 49) t46 t49) fun t50 =>
    upK Tryd.prog (sCall F_value_RowBytes #[t52]) w12 fun t53 w13 =>
    upK Tryd.prog (sCall F_wire_Text #[t53]) w13 fun t54 w14 =>
    pureK Tryd.prog (sBin .add T_string (.tmp 50) (.tmp 54) t50 t54) fun t55 =>
    upK Tryd.prog (sCall F_strings_Builder_WriteString #[b3, t55]) w14 fun t56 w15 =>
    pureK Tryd.prog (sBin .add T_int (.tmp 36) (.const (.int .i64 1)) lv7.1 (.int .i64 1)) fun t57 =>
    next7 (t57, ()) w15)
   (upK Tryd.prog (sCall F_strings_Builder_String #[b3]) w7 fun t58 w16 =>
    K t58 w16))
  ((.int .i64 0), ()) w6
theorem retain_Store_Bytes.pt_eq : retain_Store_Bytes.pt = fun s0 w K => FN Tryd.prog Tryd.f13 (bodyOf Tryd.f13) [2] .leaf [s0] w K := by kernel_rfl
theorem retain_Store_Bytes.call {s0 : Value} {w : World} {K : Value → World → Prop} (h : retain_Store_Bytes.pt s0 w K) : Calls Tryd.prog F_retain_Store_Bytes #[s0] w (retK K) :=
  calls_FN (args := [s0]) Tryd.func13 (by kernel_rfl) (by rw [retain_Store_Bytes.pt_eq] at h; exact h)
theorem retain_Store_Bytes.up {s0 : Value} {w : World} {K : Value → World → Prop} (h : Calls Tryd.prog F_retain_Store_Bytes #[s0] w (retK K)) : upK Tryd.prog (sCall F_retain_Store_Bytes #[s0]) w K :=
  up_call (fn := Tryd.f13) Tryd.func13 (by kernel_rfl) (by kernel_rfl) h

/-- (*errata/retain.Store).First -/
def retain_Store_First.pt (s0 : Value) (w : World) (K : Value → World → Prop) : Prop :=
  pureK Tryd.prog (sNil s0) fun t4 =>
  pureK Tryd.prog (sFieldAddr T_retain_Store t4 1) fun t5 =>
  readK Tryd.prog (sLoad T_int t5) w fun t6 =>
  K t6 w
theorem retain_Store_First.pt_eq : retain_Store_First.pt = fun s0 w K => FN Tryd.prog Tryd.f14 (bodyOf Tryd.f14) [2] .leaf [s0] w K := by kernel_rfl
theorem retain_Store_First.call {s0 : Value} {w : World} {K : Value → World → Prop} (h : retain_Store_First.pt s0 w K) : Calls Tryd.prog F_retain_Store_First #[s0] w (retK K) :=
  calls_FN (args := [s0]) Tryd.func14 (by kernel_rfl) (by rw [retain_Store_First.pt_eq] at h; exact h)
theorem retain_Store_First.up {s0 : Value} {w : World} {K : Value → World → Prop} (h : Calls Tryd.prog F_retain_Store_First #[s0] w (retK K)) : upK Tryd.prog (sCall F_retain_Store_First #[s0]) w K :=
  up_call (fn := Tryd.f14) Tryd.func14 (by kernel_rfl) (by kernel_rfl) h

/-- (*errata/retain.Store).Horizon -/
def retain_Store_Horizon.pt (s0 : Value) (w : World) (K : Value → World → Prop) : Prop :=
  pureK Tryd.prog (sNil s0) fun t4 =>
  pureK Tryd.prog (sFieldAddr T_retain_Store t4 2) fun t5 =>
  readK Tryd.prog (sLoad T_int t5) w fun t6 =>
  K t6 w
theorem retain_Store_Horizon.pt_eq : retain_Store_Horizon.pt = fun s0 w K => FN Tryd.prog Tryd.f15 (bodyOf Tryd.f15) [2] .leaf [s0] w K := by kernel_rfl
theorem retain_Store_Horizon.call {s0 : Value} {w : World} {K : Value → World → Prop} (h : retain_Store_Horizon.pt s0 w K) : Calls Tryd.prog F_retain_Store_Horizon #[s0] w (retK K) :=
  calls_FN (args := [s0]) Tryd.func15 (by kernel_rfl) (by rw [retain_Store_Horizon.pt_eq] at h; exact h)
theorem retain_Store_Horizon.up {s0 : Value} {w : World} {K : Value → World → Prop} (h : Calls Tryd.prog F_retain_Store_Horizon #[s0] w (retK K)) : upK Tryd.prog (sCall F_retain_Store_Horizon #[s0]) w K :=
  up_call (fn := Tryd.f15) Tryd.func15 (by kernel_rfl) (by kernel_rfl) h

/-- (*errata/retain.Store).Copy -/
def retain_Store_Copy.pt (s0 : Value) (w : World) (K : Value → World → Prop) : Prop :=
  pureK Tryd.prog (sNil s0) fun t5 =>
  readK Tryd.prog (sLoad T_retain_Store t5) w fun t6 =>
  upK Tryd.prog (sAlloc T_retain_Store) w fun c3 w1 =>
  upK Tryd.prog (sStore T_retain_Store c3 t6) w1 fun tu w2 =>
  pureK Tryd.prog (sNil s0) fun t8 =>
  pureK Tryd.prog (sFieldAddr T_retain_Store t8 3) fun t9 =>
  readK Tryd.prog (sLoad T_s_api_Event t9) w2 fun t10 =>
  upK Tryd.prog (sCall F_retain_copied_api_Event #[t10, (.func (.func 23) #[] #[])]) w2 fun t11 w3 =>
  pureK Tryd.prog (sFieldAddr T_retain_Store c3 3) fun t12 =>
  upK Tryd.prog (sStore T_s_api_Event t12 t11) w3 fun tu_1 w4 =>
  K c3 w4
theorem retain_Store_Copy.pt_eq : retain_Store_Copy.pt = fun s0 w K => FN Tryd.prog Tryd.f16 (bodyOf Tryd.f16) [2] .leaf [s0] w K := by kernel_rfl
theorem retain_Store_Copy.call {s0 : Value} {w : World} {K : Value → World → Prop} (h : retain_Store_Copy.pt s0 w K) : Calls Tryd.prog F_retain_Store_Copy #[s0] w (retK K) :=
  calls_FN (args := [s0]) Tryd.func16 (by kernel_rfl) (by rw [retain_Store_Copy.pt_eq] at h; exact h)
theorem retain_Store_Copy.up {s0 : Value} {w : World} {K : Value → World → Prop} (h : Calls Tryd.prog F_retain_Store_Copy #[s0] w (retK K)) : upK Tryd.prog (sCall F_retain_Store_Copy #[s0]) w K :=
  up_call (fn := Tryd.f16) Tryd.func16 (by kernel_rfl) (by kernel_rfl) h

/-- (*errata/retain.Store).From -/
def retain_Store_From.pt (s0 time1 : Value) (w : World) (K : Value → World → Prop) : Prop :=
  pureK Tryd.prog (sNil s0) fun t9 =>
  pureK Tryd.prog (sFieldAddr T_retain_Store t9 3) fun t10 =>
  readK Tryd.prog (sLoad T_s_api_Event t10) w fun t11 =>
  readK Tryd.prog (sBlt .len #[T_s_api_Event] T_int #[false] #[t11]) w fun t12 =>
  LOOP (X := Value × Value × Unit) (fun lv1 w1 next1 =>
   pureK Tryd.prog (sBin .lss T_int (.tmp 13) (.tmp 12) lv1.2.1 t12) fun t14 =>
   ifB t14
   (LETJ (X := Value × Unit) (fun jv1 w2 =>
     pureK Tryd.prog (sBin .add T_int (.tmp 13) (.const (.int .i64 1)) lv1.2.1 (.int .i64 1)) fun t26 =>
     next1 (jv1.1, t26, ()) w2)
    (fun J1 =>
     pureK Tryd.prog (sIdxAddr T_s_api_Event t11 lv1.2.1) fun t15 =>
     readK Tryd.prog (sLoad T_api_Event t15) w1 fun t16 =>
     upK Tryd.prog (sAlloc T_api_Event) w1 fun e7 w3 =>
     upK Tryd.prog (sStore T_api_Event e7 t16) w3 fun tu w4 =>
     pureK Tryd.prog (sFieldAddr T_api_Event e7 4) fun t17 =>
     readK Tryd.prog (sLoad T_int t17) w4 fun t18 =>
     pureK Tryd.prog (sBin .geq T_int (.tmp 18) (.tmp 19) t18 time1) fun t20 =>
     ifB t20
     (readK Tryd.prog (sLoad T_api_Event e7) w4 fun t22 =>
      upK Tryd.prog (sCall F_retain_event #[t22]) w4 fun t23 w5 =>
      upK Tryd.prog (sBuildSlice T_s_api_Event 1 #[(0, t23)]) w5 fun t24 w6 =>
      upK Tryd.prog (sBlt .append #[T_s_api_Event, T_s_api_Event] T_s_api_Event #[false, false] #[lv1.1, t24]) w6 fun t25 w7 =>
      J1 (t25, ()) w7)
     (J1 (lv1.1, ()) w4)))
   (K lv1.1 w1))
  ((.slice none 0 0), (.int .i64 0), ()) w
theorem retain_Store_From.pt_eq : retain_Store_From.pt = fun s0 time1 w K => FN Tryd.prog Tryd.f17 (bodyOf Tryd.f17) [4] (.node none .leaf (.node none .leaf (.node none (.node none .leaf (.node none (.node none (.node none .leaf (.node none .leaf (.node (some [5]) .leaf .leaf))) .leaf) .leaf)) .leaf))) [s0, time1] w K := by kernel_rfl
theorem retain_Store_From.call {s0 time1 : Value} {w : World} {K : Value → World → Prop} (h : retain_Store_From.pt s0 time1 w K) : Calls Tryd.prog F_retain_Store_From #[s0, time1] w (retK K) :=
  calls_FN (args := [s0, time1]) Tryd.func17 (by kernel_rfl) (by rw [retain_Store_From.pt_eq] at h; exact h)
theorem retain_Store_From.up {s0 time1 : Value} {w : World} {K : Value → World → Prop} (h : Calls Tryd.prog F_retain_Store_From #[s0, time1] w (retK K)) : upK Tryd.prog (sCall F_retain_Store_From #[s0, time1]) w K :=
  up_call (fn := Tryd.f17) Tryd.func17 (by kernel_rfl) (by kernel_rfl) h

/-- (*errata/retain.Store).Slice -/
def retain_Store_Slice.pt (s0 from1 most2 : Value) (w : World) (K : Value → World → Prop) : Prop :=
  upK Tryd.prog (sCall F_retain_Store_place #[s0, from1]) w fun t10 w1 =>
  pureK Tryd.prog (sNil s0) fun t12 =>
  pureK Tryd.prog (sFieldAddr T_retain_Store t12 3) fun t13 =>
  readK Tryd.prog (sLoad T_s_api_Event t13) (tick w1) fun t14 =>
  pureK Tryd.prog (sNil s0) fun t19 =>
  pureK Tryd.prog (sFieldAddr T_retain_Store t19 3) fun t20 =>
  readK Tryd.prog (sLoad T_s_api_Event t20) (tick w1) fun t21 =>
  readK Tryd.prog (sBlt .len #[T_s_api_Event] T_int #[false] #[t21]) (tick w1) fun t22 =>
  pureK Tryd.prog (sBin .sub T_int (.tmp 22) (.tmp 23) t22 t10) fun t24 =>
  pureK Tryd.prog (sBlt .min #[T_int, T_int] T_int #[false, false] #[most2, t24]) fun t25 =>
  pureK Tryd.prog (sBlt .max #[T_int, T_int] T_int #[true, false] #[(.int .i64 0), t25]) fun t26 =>
  pureK Tryd.prog (sBin .add T_int (.tmp 16) (.tmp 26) t10 t26) fun t27 =>
  pureK Tryd.prog (sSlice T_s_api_Event t14 (some t10) (some t27) none) fun t28 =>
  upK Tryd.prog (sCall F_retain_copied_api_Event #[t28, (.func (.func 23) #[] #[])]) (tick w1) fun t29 w2 =>
  Is Tryd.prog (sLoad T_s_api_Event t20) t21 w2 ∧ K t29 w2
theorem retain_Store_Slice.pt_eq : retain_Store_Slice.pt = fun s0 from1 most2 w K => FN Tryd.prog Tryd.f18 (bodyOf Tryd.f18) [6] .leaf [s0, from1, most2] w K := by kernel_rfl
theorem retain_Store_Slice.call {s0 from1 most2 : Value} {w : World} {K : Value → World → Prop} (h : retain_Store_Slice.pt s0 from1 most2 w K) : Calls Tryd.prog F_retain_Store_Slice #[s0, from1, most2] w (retK K) :=
  calls_FN (args := [s0, from1, most2]) Tryd.func18 (by kernel_rfl) (by rw [retain_Store_Slice.pt_eq] at h; exact h)
theorem retain_Store_Slice.up {s0 from1 most2 : Value} {w : World} {K : Value → World → Prop} (h : Calls Tryd.prog F_retain_Store_Slice #[s0, from1, most2] w (retK K)) : upK Tryd.prog (sCall F_retain_Store_Slice #[s0, from1, most2]) w K :=
  up_call (fn := Tryd.f18) Tryd.func18 (by kernel_rfl) (by kernel_rfl) h

/-- (*errata/retain.Store).Part -/
def retain_Store_Part.pt (s0 : Value) (w : World) (K : Value → World → Prop) : Prop :=
  pureK Tryd.prog (sNil s0) fun t4 =>
  pureK Tryd.prog (sFieldAddr T_retain_Store t4 0) fun t5 =>
  readK Tryd.prog (sLoad T_int t5) w fun t6 =>
  K t6 w
theorem retain_Store_Part.pt_eq : retain_Store_Part.pt = fun s0 w K => FN Tryd.prog Tryd.f19 (bodyOf Tryd.f19) [2] .leaf [s0] w K := by kernel_rfl
theorem retain_Store_Part.call {s0 : Value} {w : World} {K : Value → World → Prop} (h : retain_Store_Part.pt s0 w K) : Calls Tryd.prog F_retain_Store_Part #[s0] w (retK K) :=
  calls_FN (args := [s0]) Tryd.func19 (by kernel_rfl) (by rw [retain_Store_Part.pt_eq] at h; exact h)
theorem retain_Store_Part.up {s0 : Value} {w : World} {K : Value → World → Prop} (h : Calls Tryd.prog F_retain_Store_Part #[s0] w (retK K)) : upK Tryd.prog (sCall F_retain_Store_Part #[s0]) w K :=
  up_call (fn := Tryd.f19) Tryd.func19 (by kernel_rfl) (by kernel_rfl) h

/-- errata/errataref12.Few -/
def errataref12_Few.pt (l0 n1 : Value) (w : World) (K : Value → World → Prop) : Prop :=
  LOOP (X := Value × Unit) (fun lv1 w1 next1 =>
   readK Tryd.prog (sBlt .len #[T_s_api_Event] T_int #[false] #[l0]) w1 fun t9 =>
   pureK Tryd.prog (sBin .lss T_int (.tmp 7) (.tmp 9) lv1.1 t9) fun t10 =>
   ifB t10
   (LETJ (X := Unit) (fun jv1 w2 =>
     pureK Tryd.prog (sBin .add T_int (.tmp 11) (.const (.int .i64 1)) lv1.1 (.int .i64 1)) fun t12 =>
     next1 (t12, ()) w2)
    (fun J1 =>
     pureK Tryd.prog (sIdxAddr T_s_api_Event l0 lv1.1) fun t15 =>
     pureK Tryd.prog (sFieldAddr T_api_Event t15 5) fun t16 =>
     readK Tryd.prog (sLoad T_s_api_Value t16) w1 fun t17 =>
     readK Tryd.prog (sBlt .len #[T_s_api_Value] T_int #[false] #[t17]) w1 fun t18 =>
     pureK Tryd.prog (sBin .gtr T_int (.tmp 18) (.const (.int .i64 13)) t18 (.int .i64 13)) fun t19 =>
     ifB t19
     (K (.bool false) w1)
     (pureK Tryd.prog (sIdxAddr T_s_api_Event l0 lv1.1) fun t23 =>
      pureK Tryd.prog (sFieldAddr T_api_Event t23 2) fun t24 =>
      readK Tryd.prog (sLoad T_string t24) w1 fun t25 =>
      readK Tryd.prog (sBlt .len #[T_string] T_int #[false] #[t25]) w1 fun t26 =>
      pureK Tryd.prog (sBin .gtr T_int (.tmp 26) (.const (.int .i64 300)) t26 (.int .i64 300)) fun t27 =>
      ifB t27
      (K (.bool false) w1)
      (LOOP (X := Value × Unit) (fun lv3 w3 next3 =>
        pureK Tryd.prog (sIdxAddr T_s_api_Event l0 lv1.1) fun t32 =>
        pureK Tryd.prog (sFieldAddr T_api_Event t32 5) fun t33 =>
        readK Tryd.prog (sLoad T_s_api_Value t33) w3 fun t34 =>
        readK Tryd.prog (sBlt .len #[T_s_api_Value] T_int #[false] #[t34]) w3 fun t35 =>
        pureK Tryd.prog (sBin .lss T_int (.tmp 29) (.tmp 35) lv3.1 t35) fun t36 =>
        ifB t36
        (pureK Tryd.prog (sIdxAddr T_s_api_Event l0 lv1.1) fun t41 =>
         pureK Tryd.prog (sFieldAddr T_api_Event t41 5) fun t42 =>
         readK Tryd.prog (sLoad T_s_api_Value t42) w3 fun t43 =>
         pureK Tryd.prog (sIdxAddr T_s_api_Value t43 lv3.1) fun t45 =>
         pureK Tryd.prog (sFieldAddr T_api_Value t45 2) fun t46 =>
         readK Tryd.prog (sLoad T_string t46) w3 fun t47 =>
         readK Tryd.prog (sBlt .len #[T_string] T_int #[false] #[t47]) w3 fun t48 =>
         pureK Tryd.prog (sBin .gtr T_int (.tmp 48) (.const (.int .i64 300)) t48 (.int .i64 300)) fun t49 =>
         ifB t49
         (K (.bool false) w3)
         (pureK Tryd.prog (sBin .add T_int (.tmp 37) (.const (.int .i64 1)) lv3.1 (.int .i64 1)) fun t38 =>
          next3 (t38, ()) w3))
        (J1 (()) w3))
       ((.int .i64 0), ()) w1))))
   (readK Tryd.prog (sBlt .len #[T_s_api_Event] T_int #[false] #[l0]) w1 fun t51 =>
    pureK Tryd.prog (sBin .leq T_int (.tmp 51) (.tmp 52) t51 n1) fun t53 =>
    K t53 w1))
  ((.int .i64 0), ()) w
theorem errataref12_Few.pt_eq : errataref12_Few.pt = fun l0 n1 w K => FN Tryd.prog Tryd.f20 (bodyOf Tryd.f20) [4] (.node none .leaf (.node none (.node none .leaf (.node none (.node none (.node none .leaf (.node (some []) .leaf .leaf)) .leaf) .leaf)) .leaf)) [l0, n1] w K := by kernel_rfl
theorem errataref12_Few.call {l0 n1 : Value} {w : World} {K : Value → World → Prop} (h : errataref12_Few.pt l0 n1 w K) : Calls Tryd.prog F_errataref12_Few #[l0, n1] w (retK K) :=
  calls_FN (args := [l0, n1]) Tryd.func20 (by kernel_rfl) (by rw [errataref12_Few.pt_eq] at h; exact h)
theorem errataref12_Few.up {l0 n1 : Value} {w : World} {K : Value → World → Prop} (h : Calls Tryd.prog F_errataref12_Few #[l0, n1] w (retK K)) : upK Tryd.prog (sCall F_errataref12_Few #[l0, n1]) w K :=
  up_call (fn := Tryd.f20) Tryd.func20 (by kernel_rfl) (by kernel_rfl) h

/-- (*errata/retain.Store).right -/
def retain_Store_right.pt (s0 e1 : Value) (w : World) (K : Value → World → Prop) : Prop :=
  upK Tryd.prog (sBox T_api_Event e1) w fun e3 w1 =>
  pureK Tryd.prog (sFieldAddr T_api_Event e3 0) fun t5 =>
  readK Tryd.prog (sLoad T_int t5) (tick w1) fun t6 =>
  pureK Tryd.prog (sNil s0) fun t8 =>
  pureK Tryd.prog (sFieldAddr T_retain_Store t8 0) fun t9 =>
  readK Tryd.prog (sLoad T_int t9) (tick w1) fun t10 =>
  pureK Tryd.prog (sBin .eql T_int (.tmp 6) (.tmp 10) t6 t10) fun t11 =>
  ifB t11
  (pureK Tryd.prog (sFieldAddr T_api_Event e3 2) fun t13 =>
   readK Tryd.prog (sLoad T_string t13) (tick w1) fun t14 =>
   readK Tryd.prog (sBlt .len #[T_string] T_int #[false] #[t14]) (tick w1) fun t15 =>
   pureK Tryd.prog (sBin .leq T_int (.tmp 15) (.const (.int .i64 200)) t15 (.int .i64 200)) fun t16 =>
   ifB t16
   (pureK Tryd.prog (sFieldAddr T_api_Event e3 3) fun t19 =>
    readK Tryd.prog (sLoad T_int t19) (tick w1) fun t20 =>
    pureK Tryd.prog (sBin .geq T_int (.tmp 20) (.const (.int .i64 0)) t20 (.int .i64 0)) fun t21 =>
    ifB t21
    (pureK Tryd.prog (sFieldAddr T_api_Event e3 4) fun t24 =>
     readK Tryd.prog (sLoad T_int t24) (tick w1) fun t25 =>
     pureK Tryd.prog (sBin .geq T_int (.tmp 25) (.const (.int .i64 0)) t25 (.int .i64 0)) fun t26 =>
     ifB t26
     (pureK Tryd.prog (sFieldAddr T_api_Event e3 4) fun t29 =>
      readK Tryd.prog (sLoad T_int t29) (tick w1) fun t30 =>
      pureK Tryd.prog (sBin .leq T_int (.tmp 30) (.const (.int .i64 1099511627776)) t30 (.int .i64 1099511627776)) fun t31 =>
      K t31 (tick w1))
     (K (.bool false) (tick w1)))
    (K (.bool false) (tick w1)))
   (K (.bool false) (tick w1)))
  (K (.bool false) (tick w1))
theorem retain_Store_right.pt_eq : retain_Store_right.pt = fun s0 e1 w K => FN Tryd.prog Tryd.f21 (bodyOf Tryd.f21) [4] .leaf [s0, e1] w K := by kernel_rfl
theorem retain_Store_right.call {s0 e1 : Value} {w : World} {K : Value → World → Prop} (h : retain_Store_right.pt s0 e1 w K) : Calls Tryd.prog F_retain_Store_right #[s0, e1] w (retK K) :=
  calls_FN (args := [s0, e1]) Tryd.func21 (by kernel_rfl) (by rw [retain_Store_right.pt_eq] at h; exact h)
theorem retain_Store_right.up {s0 e1 : Value} {w : World} {K : Value → World → Prop} (h : Calls Tryd.prog F_retain_Store_right #[s0, e1] w (retK K)) : upK Tryd.prog (sCall F_retain_Store_right #[s0, e1]) w K :=
  up_call (fn := Tryd.f21) Tryd.func21 (by kernel_rfl) (by kernel_rfl) h

/-- errata/value.RightRow -/
def value_RightRow.pt (r0 : Value) (w : World) (K : Value → World → Prop) : Prop :=
  readK Tryd.prog (sBlt .len #[T_s_api_Value] T_int #[false] #[r0]) w fun t4 =>
  pureK Tryd.prog (sBin .leq T_int (.tmp 4) (.const (.int .i64 12)) t4 (.int .i64 12)) fun t5 =>
  ifB t5
  (upK Tryd.prog (sCall F_value_all #[r0]) w fun t8 w1 =>
   K t8 w1)
  (K (.bool false) w)
theorem value_RightRow.pt_eq : value_RightRow.pt = fun r0 w K => FN Tryd.prog Tryd.f22 (bodyOf Tryd.f22) [2] .leaf [r0] w K := by kernel_rfl
theorem value_RightRow.call {r0 : Value} {w : World} {K : Value → World → Prop} (h : value_RightRow.pt r0 w K) : Calls Tryd.prog F_value_RightRow #[r0] w (retK K) :=
  calls_FN (args := [r0]) Tryd.func22 (by kernel_rfl) (by rw [value_RightRow.pt_eq] at h; exact h)
theorem value_RightRow.up {r0 : Value} {w : World} {K : Value → World → Prop} (h : Calls Tryd.prog F_value_RightRow #[r0] w (retK K)) : upK Tryd.prog (sCall F_value_RightRow #[r0]) w K :=
  up_call (fn := Tryd.f22) Tryd.func22 (by kernel_rfl) (by kernel_rfl) h

/-- errata/retain.event -/
def retain_event.pt (e0 : Value) (w : World) (K : Value → World → Prop) : Prop :=
  upK Tryd.prog (sBox T_api_Event e0) w fun e1 w1 =>
  upK Tryd.prog (sAlloc T_api_Event) w1 fun t2 w2 =>
  pureK Tryd.prog (sFieldAddr T_api_Event e1 5) fun t3 =>
  readK Tryd.prog (sLoad T_s_api_Value t3) w2 fun t4 =>
  upK Tryd.prog (sCall F_slices_Clone_s_api_Value_api_Value #[t4]) w2 fun t5 w3 =>
  pureK Tryd.prog (sFieldAddr T_api_Event e1 5) fun t6 =>
  upK Tryd.prog (sStore T_s_api_Value t6 t5) w3 fun tu w4 =>
  readK Tryd.prog (sLoad T_api_Event e1) w4 fun t7 =>
  upK Tryd.prog (sStore T_api_Event t2 t7) w4 fun tu_1 w5 =>
  readV Tryd.prog (do loadVar T_api_Event (← asAddr t2)) w5 fun t2_1 =>
  K t2_1 w5
theorem retain_event.pt_eq : retain_event.pt = fun e0 w K => FN Tryd.prog Tryd.f23 (bodyOf Tryd.f23) [] .leaf [e0] w K := by kernel_rfl
theorem retain_event.call {e0 : Value} {w : World} {K : Value → World → Prop} (h : retain_event.pt e0 w K) : Calls Tryd.prog F_retain_event #[e0] w (retK K) :=
  calls_FN (args := [e0]) Tryd.func23 (by kernel_rfl) (by rw [retain_event.pt_eq] at h; exact h)
theorem retain_event.up {e0 : Value} {w : World} {K : Value → World → Prop} (h : Calls Tryd.prog F_retain_event #[e0] w (retK K)) : upK Tryd.prog (sCall F_retain_event #[e0]) w K :=
  up_call (fn := Tryd.f23) Tryd.func23 (by kernel_rfl) (by kernel_rfl) h

/-- (*errata/retain.Store).cut -/
def retain_Store_cut.pt (s0 n1 : Value) (w : World) (K : Value → World → Prop) : Prop :=
  LOOP (X := Value × Unit) (fun lv1 w1 next1 =>
   pureK Tryd.prog (sBin .lss T_int (.tmp 7) (.tmp 6) lv1.1 n1) fun t8 =>
   ifB t8
   (pureK Tryd.prog (sNil s0) fun t12 =>
    pureK Tryd.prog (sFieldAddr T_retain_Store t12 2) fun t13 =>
    readK Tryd.prog (sLoad T_int t13) (tick w1) fun t14 =>
    pureK Tryd.prog (sNil s0) fun t16 =>
    pureK Tryd.prog (sFieldAddr T_retain_Store t16 3) fun t17 =>
    readK Tryd.prog (sLoad T_s_api_Event t17) (tick w1) fun t18 =>
    pureK Tryd.prog (sIdxAddr T_s_api_Event t18 lv1.1) fun t20 =>
    pureK Tryd.prog (sFieldAddr T_api_Event t20 4) fun t21 =>
    readK Tryd.prog (sLoad T_int t21) (tick w1) fun t22 =>
    pureK Tryd.prog (sBin .add T_int (.tmp 22) (.const (.int .i64 1)) t22 (.int .i64 1)) fun t23 =>
    pureK Tryd.prog (sBlt .max #[T_int, T_int] T_int #[false, false] #[t14, t23]) fun t24 =>
    pureK Tryd.prog (sNil s0) fun t25 =>
    pureK Tryd.prog (sFieldAddr T_retain_Store t25 2) fun t26 =>
    upK Tryd.prog (sStore T_int t26 t24) (tick w1) fun tu w2 =>
    pureK Tryd.prog (sBin .add T_int (.tmp 7) (.const (.int .i64 1)) lv1.1 (.int .i64 1)) fun t27 =>
    next1 (t27, ()) w2)
   (pureK Tryd.prog (sNil s0) fun t30 =>
    pureK Tryd.prog (sFieldAddr T_retain_Store t30 3) fun t31 =>
    readK Tryd.prog (sLoad T_s_api_Event t31) w1 fun t32 =>
    pureK Tryd.prog (sSlice T_s_api_Event t32 (some n1) none none) fun t34 =>
    upK Tryd.prog (sCall F_slices_Clone_s_api_Event_api_Event #[t34]) w1 fun t35 w3 =>
    pureK Tryd.prog (sNil s0) fun t36 =>
    pureK Tryd.prog (sFieldAddr T_retain_Store t36 3) fun t37 =>
    upK Tryd.prog (sStore T_s_api_Event t37 t35) w3 fun tu_1 w4 =>
    pureK Tryd.prog (sNil s0) fun t39 =>
    pureK Tryd.prog (sFieldAddr T_retain_Store t39 1) fun t40 =>
    readK Tryd.prog (sLoad T_int t40) w4 fun t41 =>
    pureK Tryd.prog (sBin .add T_int (.tmp 41) (.tmp 42) t41 n1) fun t43 =>
    pureK Tryd.prog (sNil s0) fun t44 =>
    pureK Tryd.prog (sFieldAddr T_retain_Store t44 1) fun t45 =>
    upK Tryd.prog (sStore T_int t45 t43) w4 fun tu_2 w5 =>
    K n1 w5))
  ((.int .i64 0), ()) w
theorem retain_Store_cut.pt_eq : retain_Store_cut.pt = fun s0 n1 w K => FN Tryd.prog Tryd.f24 (bodyOf Tryd.f24) [4] .leaf [s0, n1] w K := by kernel_rfl
theorem retain_Store_cut.call {s0 n1 : Value} {w : World} {K : Value → World → Prop} (h : retain_Store_cut.pt s0 n1 w K) : Calls Tryd.prog F_retain_Store_cut #[s0, n1] w (retK K) :=
  calls_FN (args := [s0, n1]) Tryd.func24 (by kernel_rfl) (by rw [retain_Store_cut.pt_eq] at h; exact h)
theorem retain_Store_cut.up {s0 n1 : Value} {w : World} {K : Value → World → Prop} (h : Calls Tryd.prog F_retain_Store_cut #[s0, n1] w (retK K)) : upK Tryd.prog (sCall F_retain_Store_cut #[s0, n1]) w K :=
  up_call (fn := Tryd.f24) Tryd.func24 (by kernel_rfl) (by kernel_rfl) h

/-- (*errata/retain.Store).place -/
def retain_Store_place.pt (s0 pos1 : Value) (w : World) (K : Value → World → Prop) : Prop :=
  pureK Tryd.prog (sNil s0) fun t7 =>
  pureK Tryd.prog (sFieldAddr T_retain_Store t7 1) fun t8 =>
  readK Tryd.prog (sLoad T_int t8) (tick w) fun t9 =>
  pureK Tryd.prog (sBlt .max #[T_int, T_int] T_int #[false, false] #[pos1, t9]) fun t10 =>
  pureK Tryd.prog (sNil s0) fun t15 =>
  pureK Tryd.prog (sFieldAddr T_retain_Store t15 1) fun t16 =>
  readK Tryd.prog (sLoad T_int t16) (tick w) fun t17 =>
  upK Tryd.prog (sCall F_retain_Store_Next #[s0]) (tick w) fun t12 w1 =>
  Is Tryd.prog (sLoad T_int t16) t17 w1 ∧ Is Tryd.prog (sLoad T_int t8) t9 w1 ∧ pureK Tryd.prog (sBlt .min #[T_int, T_int] T_int #[false, false] #[t10, t12]) fun t13 =>
  pureK Tryd.prog (sBin .sub T_int (.tmp 13) (.tmp 17) t13 t17) fun t18 =>
  K t18 w1
theorem retain_Store_place.pt_eq : retain_Store_place.pt = fun s0 pos1 w K => FN Tryd.prog Tryd.f25 (bodyOf Tryd.f25) [4] .leaf [s0, pos1] w K := by kernel_rfl
theorem retain_Store_place.call {s0 pos1 : Value} {w : World} {K : Value → World → Prop} (h : retain_Store_place.pt s0 pos1 w K) : Calls Tryd.prog F_retain_Store_place #[s0, pos1] w (retK K) :=
  calls_FN (args := [s0, pos1]) Tryd.func25 (by kernel_rfl) (by rw [retain_Store_place.pt_eq] at h; exact h)
theorem retain_Store_place.up {s0 pos1 : Value} {w : World} {K : Value → World → Prop} (h : Calls Tryd.prog F_retain_Store_place #[s0, pos1] w (retK K)) : upK Tryd.prog (sCall F_retain_Store_place #[s0, pos1]) w K :=
  up_call (fn := Tryd.f25) Tryd.func25 (by kernel_rfl) (by kernel_rfl) h

/-- slices.IndexFunc[[]errata/api.Event,errata/api.Event] -/
def slices_IndexFunc_s_api_Event_api_Event.pt (s0 f1 : Value) (w : World) (K : Value → World → Prop) : Prop :=
  readK Tryd.prog (sBlt .len #[T_s_api_Event] T_int #[false] #[s0]) w fun t7 =>
  LOOP (X := Value × Unit) (fun lv1 w1 next1 =>
   pureK Tryd.prog (sBin .lss T_int (.tmp 8) (.tmp 7) lv1.1 t7) fun t9 =>
   ifB t9
   (pureK Tryd.prog (sIdxAddr T_s_api_Event s0 lv1.1) fun t14 =>
    readK Tryd.prog (sLoad T_api_Event t14) w1 fun t15 =>
    upK Tryd.prog (sCallV f1 #[t15]) w1 fun t16 w2 =>
    ifB t16
    (K lv1.1 w2)
    (pureK Tryd.prog (sBin .add T_int (.tmp 8) (.const (.int .i64 1)) lv1.1 (.int .i64 1)) fun t18 =>
     next1 (t18, ()) w2))
   (K (.int .i64 (-1)) w1))
  ((.int .i64 0), ()) w
theorem slices_IndexFunc_s_api_Event_api_Event.pt_eq : slices_IndexFunc_s_api_Event_api_Event.pt = fun s0 f1 w K => FN Tryd.prog Tryd.f26 (bodyOf Tryd.f26) [4] .leaf [s0, f1] w K := by kernel_rfl
theorem slices_IndexFunc_s_api_Event_api_Event.call {s0 f1 : Value} {w : World} {K : Value → World → Prop} (h : slices_IndexFunc_s_api_Event_api_Event.pt s0 f1 w K) : Calls Tryd.prog F_slices_IndexFunc_s_api_Event_api_Event #[s0, f1] w (retK K) :=
  calls_FN (args := [s0, f1]) Tryd.func26 (by kernel_rfl) (by rw [slices_IndexFunc_s_api_Event_api_Event.pt_eq] at h; exact h)
theorem slices_IndexFunc_s_api_Event_api_Event.up {s0 f1 : Value} {w : World} {K : Value → World → Prop} (h : Calls Tryd.prog F_slices_IndexFunc_s_api_Event_api_Event #[s0, f1] w (retK K)) : upK Tryd.prog (sCall F_slices_IndexFunc_s_api_Event_api_Event #[s0, f1]) w K :=
  up_call (fn := Tryd.f26) Tryd.func26 (by kernel_rfl) (by kernel_rfl) h

/-- (*errata/retain.Store).Trim$1 -/
def retain_Store_Trim_1.pt (e0 t1 : Value) (w : World) (K : Value → World → Prop) : Prop :=
  upK Tryd.prog (sBox T_api_Event e0) w fun e2 w1 =>
  pureK Tryd.prog (sFieldAddr T_api_Event e2 4) fun t4 =>
  readK Tryd.prog (sLoad T_int t4) w1 fun t5 =>
  readK Tryd.prog (sLoad T_int t1) w1 fun t6 =>
  pureK Tryd.prog (sBin .geq T_int (.tmp 5) (.tmp 6) t5 t6) fun t7 =>
  K t7 w1
theorem retain_Store_Trim_1.pt_eq : retain_Store_Trim_1.pt = fun e0 t1 w K => FN Tryd.prog Tryd.f27 (bodyOf Tryd.f27) [3] .leaf [e0, t1] w K := by kernel_rfl
theorem retain_Store_Trim_1.call {e0 t1 : Value} {w : World} {K : Value → World → Prop} (h : retain_Store_Trim_1.pt e0 t1 w K) : Calls Tryd.prog F_retain_Store_Trim_1 #[e0, t1] w (retK K) :=
  calls_FN (args := [e0, t1]) Tryd.func27 (by kernel_rfl) (by rw [retain_Store_Trim_1.pt_eq] at h; exact h)
theorem retain_Store_Trim_1.up {e0 t1 : Value} {w : World} {K : Value → World → Prop} (h : Calls Tryd.prog F_retain_Store_Trim_1 #[e0, t1] w (retK K)) : upK Tryd.prog (sCall F_retain_Store_Trim_1 #[e0, t1]) w K :=
  up_call (fn := Tryd.f27) Tryd.func27 (by kernel_rfl) (by kernel_rfl) h

/-- errata/wire.Open -/
def wire_Open.pt (s0 : Value) (w : World) (K : Value → World → Prop) : Prop :=
  pureK Tryd.prog (sBuild T_wire_Reader #[(0, s0)]) fun t4 =>
  upK Tryd.prog (sBox T_wire_Reader t4) w fun t5 w1 =>
  K t5 w1
theorem wire_Open.pt_eq : wire_Open.pt = fun s0 w K => FN Tryd.prog Tryd.f28 (bodyOf Tryd.f28) [2] .leaf [s0] w K := by kernel_rfl
theorem wire_Open.call {s0 : Value} {w : World} {K : Value → World → Prop} (h : wire_Open.pt s0 w K) : Calls Tryd.prog F_wire_Open #[s0] w (retK K) :=
  calls_FN (args := [s0]) Tryd.func28 (by kernel_rfl) (by rw [wire_Open.pt_eq] at h; exact h)
theorem wire_Open.up {s0 : Value} {w : World} {K : Value → World → Prop} (h : Calls Tryd.prog F_wire_Open #[s0] w (retK K)) : upK Tryd.prog (sCall F_wire_Open #[s0]) w K :=
  up_call (fn := Tryd.f28) Tryd.func28 (by kernel_rfl) (by kernel_rfl) h

/-- (*errata/wire.Reader).Int -/
def wire_Reader_Int.pt (r0 : Value) (w : World) (K : Value → World → Prop) : Prop :=
  upK Tryd.prog (sCall F_wire_Reader_number #[r0, (.int .u8 59), (.int .i64 (-9223372036854775808))]) w fun t4 w1 =>
  K t4 w1
theorem wire_Reader_Int.pt_eq : wire_Reader_Int.pt = fun r0 w K => FN Tryd.prog Tryd.f29 (bodyOf Tryd.f29) [2] .leaf [r0] w K := by kernel_rfl
theorem wire_Reader_Int.call {r0 : Value} {w : World} {K : Value → World → Prop} (h : wire_Reader_Int.pt r0 w K) : Calls Tryd.prog F_wire_Reader_Int #[r0] w (retK K) :=
  calls_FN (args := [r0]) Tryd.func29 (by kernel_rfl) (by rw [wire_Reader_Int.pt_eq] at h; exact h)
theorem wire_Reader_Int.up {r0 : Value} {w : World} {K : Value → World → Prop} (h : Calls Tryd.prog F_wire_Reader_Int #[r0] w (retK K)) : upK Tryd.prog (sCall F_wire_Reader_Int #[r0]) w K :=
  up_call (fn := Tryd.f29) Tryd.func29 (by kernel_rfl) (by kernel_rfl) h

/-- (*errata/wire.Reader).Num -/
def wire_Reader_Num.pt (r0 : Value) (w : World) (K : Value → World → Prop) : Prop :=
  upK Tryd.prog (sCall F_wire_Reader_number #[r0, (.int .u8 59), (.int .i64 0)]) w fun t4 w1 =>
  K t4 w1
theorem wire_Reader_Num.pt_eq : wire_Reader_Num.pt = fun r0 w K => FN Tryd.prog Tryd.f30 (bodyOf Tryd.f30) [2] .leaf [r0] w K := by kernel_rfl
theorem wire_Reader_Num.call {r0 : Value} {w : World} {K : Value → World → Prop} (h : wire_Reader_Num.pt r0 w K) : Calls Tryd.prog F_wire_Reader_Num #[r0] w (retK K) :=
  calls_FN (args := [r0]) Tryd.func30 (by kernel_rfl) (by rw [wire_Reader_Num.pt_eq] at h; exact h)
theorem wire_Reader_Num.up {r0 : Value} {w : World} {K : Value → World → Prop} (h : Calls Tryd.prog F_wire_Reader_Num #[r0] w (retK K)) : upK Tryd.prog (sCall F_wire_Reader_Num #[r0]) w K :=
  up_call (fn := Tryd.f30) Tryd.func30 (by kernel_rfl) (by kernel_rfl) h

/-- (*errata/wire.Reader).Text -/
def wire_Reader_Text.pt (r0 : Value) (w : World) (K : Value → World → Prop) : Prop :=
  upK Tryd.prog (sCall F_wire_Reader_number #[r0, (.int .u8 58), (.int .i64 0)]) w fun t6 w1 =>
  pureK Tryd.prog (sNil r0) fun t9 =>
  pureK Tryd.prog (sFieldAddr T_wire_Reader t9 0) fun t10 =>
  readK Tryd.prog (sLoad T_string t10) w1 fun t11 =>
  readK Tryd.prog (sBlt .len #[T_string] T_int #[false] #[t11]) w1 fun t12 =>
  pureK Tryd.prog (sBin .gtr T_int (.tmp 7) (.tmp 12) t6 t12) fun t13 =>
  ifB t13
  (upK Tryd.prog (sCall F_wire_Reader_fail #[r0]) w1 fun t15 w2 =>
   K (.string ⟨#[]⟩) w2)
  (pureK Tryd.prog (sNil r0) fun t17 =>
   pureK Tryd.prog (sFieldAddr T_wire_Reader t17 0) fun t18 =>
   readK Tryd.prog (sLoad T_string t18) w1 fun t19 =>
   pureK Tryd.prog (sSlice T_string t19 none (some t6) none) fun t21 =>
   pureK Tryd.prog (sNil r0) fun t24 =>
   pureK Tryd.prog (sFieldAddr T_wire_Reader t24 0) fun t25 =>
   readK Tryd.prog (sLoad T_string t25) w1 fun t26 =>
   pureK Tryd.prog (sSlice T_string t26 (some t6) none none) fun t28 =>
   pureK Tryd.prog (sNil r0) fun t29 =>
   pureK Tryd.prog (sFieldAddr T_wire_Reader t29 0) fun t30 =>
   upK Tryd.prog (sStore T_string t30 t28) w1 fun tu w3 =>
   upK Tryd.prog (sCall F_wire_Reader_close #[r0, (.string ⟨#[44]⟩)]) w3 fun t32 w4 =>
   pureK Tryd.prog (sNil r0) fun t34 =>
   pureK Tryd.prog (sFieldAddr T_wire_Reader t34 1) fun t35 =>
   readK Tryd.prog (sLoad T_bool t35) w4 fun t36 =>
   ifB t36
   (K (.string ⟨#[]⟩) w4)
   (K t21 w4))
theorem wire_Reader_Text.pt_eq : wire_Reader_Text.pt = fun r0 w K => FN Tryd.prog Tryd.f31 (bodyOf Tryd.f31) [2] .leaf [r0] w K := by kernel_rfl
theorem wire_Reader_Text.call {r0 : Value} {w : World} {K : Value → World → Prop} (h : wire_Reader_Text.pt r0 w K) : Calls Tryd.prog F_wire_Reader_Text #[r0] w (retK K) :=
  calls_FN (args := [r0]) Tryd.func31 (by kernel_rfl) (by rw [wire_Reader_Text.pt_eq] at h; exact h)
theorem wire_Reader_Text.up {r0 : Value} {w : World} {K : Value → World → Prop} (h : Calls Tryd.prog F_wire_Reader_Text #[r0] w (retK K)) : upK Tryd.prog (sCall F_wire_Reader_Text #[r0]) w K :=
  up_call (fn := Tryd.f31) Tryd.func31 (by kernel_rfl) (by kernel_rfl) h

/-- errata/value.ReadRow -/
def value_ReadRow.pt (s0 : Value) (w : World) (K : Value → World → Prop) : Prop :=
  upK Tryd.prog (sCall F_wire_Open #[s0]) w fun t8 w1 =>
  upK Tryd.prog (sCall F_wire_Reader_Num #[t8]) w1 fun t10 w2 =>
  LOOP (X := Value × Value × Unit) (fun lv3 w3 next3 =>
   pureK Tryd.prog (sBin .gtr T_int (.tmp 11) (.const (.int .i64 0)) lv3.2.1 (.int .i64 0)) fun t12 =>
   ifB t12
   (upK Tryd.prog (sCall F_wire_Reader_Left #[t8]) w3 fun t16 w4 =>
    pureK Tryd.prog (sBin .eql T_int (.tmp 16) (.const (.int .i64 0)) t16 (.int .i64 0)) fun t17 =>
    ifB t17
    (K (.tuple #[(.slice none 0 0), (.bool false)]) w4)
    (upK Tryd.prog (sCall F_value_take #[t8]) w4 fun t20 w5 =>
     upK Tryd.prog (sBuildSlice T_s_api_Value 1 #[(0, t20)]) w5 fun t21 w6 =>
     upK Tryd.prog (sBlt .append #[T_s_api_Value, T_s_api_Value] T_s_api_Value #[false, false] #[lv3.1, t21]) w6 fun t22 w7 =>
     pureK Tryd.prog (sBin .sub T_int (.tmp 13) (.const (.int .i64 1)) lv3.2.1 (.int .i64 1)) fun t14 =>
     next3 (t22, t14, ()) w7))
   (upK Tryd.prog (sCall F_wire_Reader_Done #[t8]) w3 fun t24 w8 =>
    pureK Tryd.prog (sUn .not t24) fun t25 =>
    ifB t25
    (K (.tuple #[(.slice none 0 0), (.bool false)]) w8)
    (K (.tuple #[lv3.1, (.bool true)]) w8)))
  ((.slice none 0 0), t10, ()) w2
theorem value_ReadRow.pt_eq : value_ReadRow.pt = fun s0 w K => FN Tryd.prog Tryd.f32 (bodyOf Tryd.f32) [2, 3] .leaf [s0] w K := by kernel_rfl
theorem value_ReadRow.call {s0 : Value} {w : World} {K : Value → World → Prop} (h : value_ReadRow.pt s0 w K) : Calls Tryd.prog F_value_ReadRow #[s0] w (retK K) :=
  calls_FN (args := [s0]) Tryd.func32 (by kernel_rfl) (by rw [value_ReadRow.pt_eq] at h; exact h)
theorem value_ReadRow.up {s0 : Value} {w : World} {K : Value → World → Prop} (h : Calls Tryd.prog F_value_ReadRow #[s0] w (retK K)) : upK Tryd.prog (sCall F_value_ReadRow #[s0]) w K :=
  up_call (fn := Tryd.f32) Tryd.func32 (by kernel_rfl) (by kernel_rfl) h

/-- (*errata/wire.Reader).Done -/
def wire_Reader_Done.pt (r0 : Value) (w : World) (K : Value → World → Prop) : Prop :=
  pureK Tryd.prog (sNil r0) fun t4 =>
  pureK Tryd.prog (sFieldAddr T_wire_Reader t4 1) fun t5 =>
  readK Tryd.prog (sLoad T_bool t5) w fun t6 =>
  pureK Tryd.prog (sUn .not t6) fun t7 =>
  ifB t7
  (pureK Tryd.prog (sNil r0) fun t10 =>
   pureK Tryd.prog (sFieldAddr T_wire_Reader t10 0) fun t11 =>
   readK Tryd.prog (sLoad T_string t11) w fun t12 =>
   pureK Tryd.prog (sBin .eql T_string (.tmp 12) (.const (.string ⟨#[]⟩)) t12 (.string ⟨#[]⟩)) fun t13 =>
   K t13 w)
  (K (.bool false) w)
theorem wire_Reader_Done.pt_eq : wire_Reader_Done.pt = fun r0 w K => FN Tryd.prog Tryd.f33 (bodyOf Tryd.f33) [2] .leaf [r0] w K := by kernel_rfl
theorem wire_Reader_Done.call {r0 : Value} {w : World} {K : Value → World → Prop} (h : wire_Reader_Done.pt r0 w K) : Calls Tryd.prog F_wire_Reader_Done #[r0] w (retK K) :=
  calls_FN (args := [r0]) Tryd.func33 (by kernel_rfl) (by rw [wire_Reader_Done.pt_eq] at h; exact h)
theorem wire_Reader_Done.up {r0 : Value} {w : World} {K : Value → World → Prop} (h : Calls Tryd.prog F_wire_Reader_Done #[r0] w (retK K)) : upK Tryd.prog (sCall F_wire_Reader_Done #[r0]) w K :=
  up_call (fn := Tryd.f33) Tryd.func33 (by kernel_rfl) (by kernel_rfl) h

/-- (*strings.Builder).WriteString -/
def strings_Builder_WriteString.pt (b0 s1 : Value) (w : World) (K : Value → World → Prop) : Prop :=
  upK Tryd.prog (sCall F_strings_Builder_copyCheck #[b0]) w fun t7 w1 =>
  pureK Tryd.prog (sNil b0) fun t10 =>
  pureK Tryd.prog (sFieldAddr T_strings_Builder t10 1) fun t11 =>
  readK Tryd.prog (sLoad T_s_uint8 t11) w1 fun t12 =>
  upK Tryd.prog (sBlt .append #[T_s_uint8, T_string] T_s_uint8 #[false, false] #[t12, s1]) w1 fun t14 w2 =>
  pureK Tryd.prog (sNil b0) fun t15 =>
  pureK Tryd.prog (sFieldAddr T_strings_Builder t15 1) fun t16 =>
  upK Tryd.prog (sStore T_s_uint8 t16 t14) w2 fun tu w3 =>
  readK Tryd.prog (sBlt .len #[T_string] T_int #[false] #[s1]) w3 fun t18 =>
  K (.tuple #[t18, .nilIface]) w3
theorem strings_Builder_WriteString.pt_eq : strings_Builder_WriteString.pt = fun b0 s1 w K => FN Tryd.prog Tryd.f34 (bodyOf Tryd.f34) [4, 5] .leaf [b0, s1] w K := by kernel_rfl
theorem strings_Builder_WriteString.call {b0 s1 : Value} {w : World} {K : Value → World → Prop} (h : strings_Builder_WriteString.pt b0 s1 w K) : Calls Tryd.prog F_strings_Builder_WriteString #[b0, s1] w (retK K) :=
  calls_FN (args := [b0, s1]) Tryd.func34 (by kernel_rfl) (by rw [strings_Builder_WriteString.pt_eq] at h; exact h)
theorem strings_Builder_WriteString.up {b0 s1 : Value} {w : World} {K : Value → World → Prop} (h : Calls Tryd.prog F_strings_Builder_WriteString #[b0, s1] w (retK K)) : upK Tryd.prog (sCall F_strings_Builder_WriteString #[b0, s1]) w K :=
  up_call (fn := Tryd.f34) Tryd.func34 (by kernel_rfl) (by kernel_rfl) h

/-- errata/wire.Int -/
def wire_Int.pt (n0 : Value) (w : World) (K : Value → World → Prop) : Prop :=
  upK Tryd.prog (sCall F_strconv_Itoa #[n0]) w fun t4 w1 =>
  pureK Tryd.prog (sBin .add T_string (.tmp 4) (.const (.string ⟨#[59]⟩)) t4 (.string ⟨#[59]⟩)) fun t5 =>
  K t5 w1
theorem wire_Int.pt_eq : wire_Int.pt = fun n0 w K => FN Tryd.prog Tryd.f35 (bodyOf Tryd.f35) [2] .leaf [n0] w K := by kernel_rfl
theorem wire_Int.call {n0 : Value} {w : World} {K : Value → World → Prop} (h : wire_Int.pt n0 w K) : Calls Tryd.prog F_wire_Int #[n0] w (retK K) :=
  calls_FN (args := [n0]) Tryd.func35 (by kernel_rfl) (by rw [wire_Int.pt_eq] at h; exact h)
theorem wire_Int.up {n0 : Value} {w : World} {K : Value → World → Prop} (h : Calls Tryd.prog F_wire_Int #[n0] w (retK K)) : upK Tryd.prog (sCall F_wire_Int #[n0]) w K :=
  up_call (fn := Tryd.f35) Tryd.func35 (by kernel_rfl) (by kernel_rfl) h

/-- errata/wire.Num -/
def wire_Num.pt (n0 : Value) (w : World) (K : Value → World → Prop) : Prop :=
  pureK Tryd.prog (sBin .lss T_int (.tmp 3) (.const (.int .i64 0)) n0 (.int .i64 0)) fun t4 =>
  ifB t4
  (K (.string ⟨#[]⟩) w)
  (upK Tryd.prog (sCall F_wire_Int #[n0]) w fun t6 w1 =>
   K t6 w1)
theorem wire_Num.pt_eq : wire_Num.pt = fun n0 w K => FN Tryd.prog Tryd.f36 (bodyOf Tryd.f36) [2] .leaf [n0] w K := by kernel_rfl
theorem wire_Num.call {n0 : Value} {w : World} {K : Value → World → Prop} (h : wire_Num.pt n0 w K) : Calls Tryd.prog F_wire_Num #[n0] w (retK K) :=
  calls_FN (args := [n0]) Tryd.func36 (by kernel_rfl) (by rw [wire_Num.pt_eq] at h; exact h)
theorem wire_Num.up {n0 : Value} {w : World} {K : Value → World → Prop} (h : Calls Tryd.prog F_wire_Num #[n0] w (retK K)) : upK Tryd.prog (sCall F_wire_Num #[n0]) w K :=
  up_call (fn := Tryd.f36) Tryd.func36 (by kernel_rfl) (by kernel_rfl) h

/-- errata/wire.Text -/
def wire_Text.pt (s0 : Value) (w : World) (K : Value → World → Prop) : Prop :=
  readK Tryd.prog (sBlt .len #[T_string] T_int #[false] #[s0]) w fun t4 =>
  upK Tryd.prog (sCall F_strconv_Itoa #[t4]) w fun t5 w1 =>
  pureK Tryd.prog (sBin .add T_string (.tmp 5) (.const (.string ⟨#[58]⟩)) t5 (.string ⟨#[58]⟩)) fun t6 =>
  pureK Tryd.prog (sBin .add T_string (.tmp 6) (.tmp 7) t6 s0) fun t8 =>
  pureK Tryd.prog (sBin .add T_string (.tmp 8) (.const (.string ⟨#[44]⟩)) t8 (.string ⟨#[44]⟩)) fun t9 =>
  K t9 w1
theorem wire_Text.pt_eq : wire_Text.pt = fun s0 w K => FN Tryd.prog Tryd.f37 (bodyOf Tryd.f37) [2] .leaf [s0] w K := by kernel_rfl
theorem wire_Text.call {s0 : Value} {w : World} {K : Value → World → Prop} (h : wire_Text.pt s0 w K) : Calls Tryd.prog F_wire_Text #[s0] w (retK K) :=
  calls_FN (args := [s0]) Tryd.func37 (by kernel_rfl) (by rw [wire_Text.pt_eq] at h; exact h)
theorem wire_Text.up {s0 : Value} {w : World} {K : Value → World → Prop} (h : Calls Tryd.prog F_wire_Text #[s0] w (retK K)) : upK Tryd.prog (sCall F_wire_Text #[s0]) w K :=
  up_call (fn := Tryd.f37) Tryd.func37 (by kernel_rfl) (by kernel_rfl) h

/-- errata/value.RowBytes -/
def value_RowBytes.pt (r0 : Value) (w : World) (K : Value → World → Prop) : Prop :=
  upK Tryd.prog (sAlloc T_strings_Builder) w fun b3 w1 =>
  readK Tryd.prog (sBlt .len #[T_s_api_Value] T_int #[false] #[r0]) w1 fun t7 =>
  upK Tryd.prog (sCall F_wire_Num #[t7]) w1 fun t8 w2 =>
  upK Tryd.prog (sCall F_strings_Builder_WriteString #[b3, t8]) w2 fun t9 w3 =>
  readK Tryd.prog (sBlt .len #[T_s_api_Value] T_int #[false] #[r0]) w3 fun t11 =>
  LOOP (X := Value × Unit) (fun lv4 w4 next4 =>
   pureK Tryd.prog (sBin .lss T_int (.tmp 12) (.tmp 11) lv4.1 t11) fun t13 =>
   ifB t13
   (pureK Tryd.prog (sIdxAddr T_s_api_Value r0 lv4.1) fun t14 =>
    readK Tryd.prog (sLoad T_api_Value t14) w4 fun t15 =>
    upK Tryd.prog (sAlloc T_api_Value) w4 fun v5 w5 =>
    upK Tryd.prog (sStore T_api_Value v5 t15) w5 fun tu w6 =>
    readK Tryd.prog (sLoad T_api_Value v5) w6 fun t16 =>
    upK Tryd.prog (sCall F_value_Bytes #[t16]) w6 fun t17 w7 =>
    upK Tryd.prog (sCall F_strings_Builder_WriteString #[b3, t17]) w7 fun t18 w8 =>
    pureK Tryd.prog (sBin .add T_int (.tmp 12) (.const (.int .i64 1)) lv4.1 (.int .i64 1)) fun t19 =>
    next4 (t19, ()) w8)
   (upK Tryd.prog (sCall F_strings_Builder_String #[b3]) w4 fun t20 w9 =>
    K t20 w9))
  ((.int .i64 0), ()) w3
theorem value_RowBytes.pt_eq : value_RowBytes.pt = fun r0 w K => FN Tryd.prog Tryd.f38 (bodyOf Tryd.f38) [2] .leaf [r0] w K := by kernel_rfl
theorem value_RowBytes.call {r0 : Value} {w : World} {K : Value → World → Prop} (h : value_RowBytes.pt r0 w K) : Calls Tryd.prog F_value_RowBytes #[r0] w (retK K) :=
  calls_FN (args := [r0]) Tryd.func38 (by kernel_rfl) (by rw [value_RowBytes.pt_eq] at h; exact h)
theorem value_RowBytes.up {r0 : Value} {w : World} {K : Value → World → Prop} (h : Calls Tryd.prog F_value_RowBytes #[r0] w (retK K)) : upK Tryd.prog (sCall F_value_RowBytes #[r0]) w K :=
  up_call (fn := Tryd.f38) Tryd.func38 (by kernel_rfl) (by kernel_rfl) h

/-- (*strings.Builder).String -/
theorem strings_Builder_String.up {p0 : Value} {w : World} {K : Value → World → Prop} (h : Calls Tryd.prog F_strings_Builder_String #[p0] w (retK K)) : upK Tryd.prog (sCall F_strings_Builder_String #[p0]) w K :=
  up_call (fn := Tryd.f39) Tryd.func39 (by kernel_rfl) (by kernel_rfl) h

/-- errata/retain.copied[errata/api.Event] -/
def retain_copied_api_Event.pt (l0 f1 : Value) (w : World) (K : Value → World → Prop) : Prop :=
  readK Tryd.prog (sBlt .len #[T_s_api_Event] T_int #[false] #[l0]) w fun t9 =>
  upK Tryd.prog (sMkSlice T_s_api_Event (.int .i64 0) t9) w fun t10 w1 =>
  readK Tryd.prog (sBlt .len #[T_s_api_Event] T_int #[false] #[l0]) w1 fun t12 =>
  LOOP (X := Value × Value × Unit) (fun lv2 w2 next2 =>
   pureK Tryd.prog (sBin .lss T_int (.tmp 13) (.tmp 12) lv2.2.1 t12) fun t14 =>
   ifB t14
   (pureK Tryd.prog (sIdxAddr T_s_api_Event l0 lv2.2.1) fun t15 =>
    readK Tryd.prog (sLoad T_api_Event t15) w2 fun t16 =>
    upK Tryd.prog (sAlloc T_api_Event) w2 fun x7 w3 =>
    upK Tryd.prog (sStore T_api_Event x7 t16) w3 fun tu w4 =>
    readK Tryd.prog (sLoad T_api_Event x7) w4 fun t19 =>
    upK Tryd.prog (sCallV f1 #[t19]) w4 fun t20 w5 =>
    upK Tryd.prog (sBuildSlice T_s_api_Event 1 #[(0, t20)]) w5 fun t21 w6 =>
    upK Tryd.prog (sBlt .append #[T_s_api_Event, T_s_api_Event] T_s_api_Event #[false, false] #[lv2.1, t21]) w6 fun t22 w7 =>
    pureK Tryd.prog (sBin .add T_int (.tmp 13) (.const (.int .i64 1)) lv2.2.1 (.int .i64 1)) fun t23 =>
    next2 (t22, t23, ()) w7)
   (K lv2.1 w2))
  (t10, (.int .i64 0), ()) w1
theorem retain_copied_api_Event.pt_eq : retain_copied_api_Event.pt = fun l0 f1 w K => FN Tryd.prog Tryd.f40 (bodyOf Tryd.f40) [4] .leaf [l0, f1] w K := by kernel_rfl
theorem retain_copied_api_Event.call {l0 f1 : Value} {w : World} {K : Value → World → Prop} (h : retain_copied_api_Event.pt l0 f1 w K) : Calls Tryd.prog F_retain_copied_api_Event #[l0, f1] w (retK K) :=
  calls_FN (args := [l0, f1]) Tryd.func40 (by kernel_rfl) (by rw [retain_copied_api_Event.pt_eq] at h; exact h)
theorem retain_copied_api_Event.up {l0 f1 : Value} {w : World} {K : Value → World → Prop} (h : Calls Tryd.prog F_retain_copied_api_Event #[l0, f1] w (retK K)) : upK Tryd.prog (sCall F_retain_copied_api_Event #[l0, f1]) w K :=
  up_call (fn := Tryd.f40) Tryd.func40 (by kernel_rfl) (by kernel_rfl) h

/-- errata/value.all -/
def value_all.pt (r0 : Value) (w : World) (K : Value → World → Prop) : Prop :=
  upK Tryd.prog (sCall F_slices_ContainsFunc_s_api_Value_api_Value #[r0, (.func (.func 53) #[] #[])]) w fun t4 w1 =>
  pureK Tryd.prog (sUn .not t4) fun t5 =>
  K t5 w1
theorem value_all.pt_eq : value_all.pt = fun r0 w K => FN Tryd.prog Tryd.f41 (bodyOf Tryd.f41) [2] .leaf [r0] w K := by kernel_rfl
theorem value_all.call {r0 : Value} {w : World} {K : Value → World → Prop} (h : value_all.pt r0 w K) : Calls Tryd.prog F_value_all #[r0] w (retK K) :=
  calls_FN (args := [r0]) Tryd.func41 (by kernel_rfl) (by rw [value_all.pt_eq] at h; exact h)
theorem value_all.up {r0 : Value} {w : World} {K : Value → World → Prop} (h : Calls Tryd.prog F_value_all #[r0] w (retK K)) : upK Tryd.prog (sCall F_value_all #[r0]) w K :=
  up_call (fn := Tryd.f41) Tryd.func41 (by kernel_rfl) (by kernel_rfl) h

/-- slices.Clone[[]errata/api.Value,errata/api.Value] -/
def slices_Clone_s_api_Value_api_Value.pt (s0 : Value) (w : World) (K : Value → World → Prop) : Prop :=
  pureK Tryd.prog (sBin .eql T_s_api_Value (.tmp 3) (.const (.slice none 0 0)) s0 (.slice none 0 0)) fun t4 =>
  ifB t4
  (K (.slice none 0 0) w)
  (upK Tryd.prog (sBuildSlice T_s_api_Value 0 #[]) w fun t5 w1 =>
   upK Tryd.prog (sBlt .append #[T_s_api_Value, T_s_api_Value] T_s_api_Value #[false, false] #[t5, s0]) w1 fun t7 w2 =>
   K t7 w2)
theorem slices_Clone_s_api_Value_api_Value.pt_eq : slices_Clone_s_api_Value_api_Value.pt = fun s0 w K => FN Tryd.prog Tryd.f42 (bodyOf Tryd.f42) [2] .leaf [s0] w K := by kernel_rfl
theorem slices_Clone_s_api_Value_api_Value.call {s0 : Value} {w : World} {K : Value → World → Prop} (h : slices_Clone_s_api_Value_api_Value.pt s0 w K) : Calls Tryd.prog F_slices_Clone_s_api_Value_api_Value #[s0] w (retK K) :=
  calls_FN (args := [s0]) Tryd.func42 (by kernel_rfl) (by rw [slices_Clone_s_api_Value_api_Value.pt_eq] at h; exact h)
theorem slices_Clone_s_api_Value_api_Value.up {s0 : Value} {w : World} {K : Value → World → Prop} (h : Calls Tryd.prog F_slices_Clone_s_api_Value_api_Value #[s0] w (retK K)) : upK Tryd.prog (sCall F_slices_Clone_s_api_Value_api_Value #[s0]) w K :=
  up_call (fn := Tryd.f42) Tryd.func42 (by kernel_rfl) (by kernel_rfl) h

/-- slices.Clone[[]errata/api.Event,errata/api.Event] -/
def slices_Clone_s_api_Event_api_Event.pt (s0 : Value) (w : World) (K : Value → World → Prop) : Prop :=
  pureK Tryd.prog (sBin .eql T_s_api_Event (.tmp 3) (.const (.slice none 0 0)) s0 (.slice none 0 0)) fun t4 =>
  ifB t4
  (K (.slice none 0 0) w)
  (upK Tryd.prog (sBuildSlice T_s_api_Event 0 #[]) w fun t5 w1 =>
   upK Tryd.prog (sBlt .append #[T_s_api_Event, T_s_api_Event] T_s_api_Event #[false, false] #[t5, s0]) w1 fun t7 w2 =>
   K t7 w2)
theorem slices_Clone_s_api_Event_api_Event.pt_eq : slices_Clone_s_api_Event_api_Event.pt = fun s0 w K => FN Tryd.prog Tryd.f43 (bodyOf Tryd.f43) [2] .leaf [s0] w K := by kernel_rfl
theorem slices_Clone_s_api_Event_api_Event.call {s0 : Value} {w : World} {K : Value → World → Prop} (h : slices_Clone_s_api_Event_api_Event.pt s0 w K) : Calls Tryd.prog F_slices_Clone_s_api_Event_api_Event #[s0] w (retK K) :=
  calls_FN (args := [s0]) Tryd.func43 (by kernel_rfl) (by rw [slices_Clone_s_api_Event_api_Event.pt_eq] at h; exact h)
theorem slices_Clone_s_api_Event_api_Event.up {s0 : Value} {w : World} {K : Value → World → Prop} (h : Calls Tryd.prog F_slices_Clone_s_api_Event_api_Event #[s0] w (retK K)) : upK Tryd.prog (sCall F_slices_Clone_s_api_Event_api_Event #[s0]) w K :=
  up_call (fn := Tryd.f43) Tryd.func43 (by kernel_rfl) (by kernel_rfl) h

/-- (*errata/wire.Reader).number -/
def wire_Reader_number.pt (r0 end1 least2 : Value) (w : World) (K : Value → World → Prop) : Prop :=
  pureK Tryd.prog (sNil r0) fun t12 =>
  pureK Tryd.prog (sFieldAddr T_wire_Reader t12 0) fun t13 =>
  readK Tryd.prog (sLoad T_string t13) (tick w) fun t14 =>
  pureK Tryd.prog (sNil r0) fun t16 =>
  pureK Tryd.prog (sFieldAddr T_wire_Reader t16 0) fun t17 =>
  readK Tryd.prog (sLoad T_string t17) (tick w) fun t18 =>
  readK Tryd.prog (sBlt .len #[T_string] T_int #[false] #[t18]) (tick w) fun t19 =>
  pureK Tryd.prog (sBlt .min #[T_int, T_int] T_int #[false, true] #[t19, (.int .i64 21)]) fun t20 =>
  pureK Tryd.prog (sSlice T_string t14 none (some t20) none) fun t21 =>
  upK Tryd.prog (sCall F_strings_IndexByte #[t21, end1]) (tick w) fun t24 w1 =>
  pureK Tryd.prog (sBin .lss T_int (.tmp 25) (.const (.int .i64 0)) t24 (.int .i64 0)) fun t26 =>
  ifB t26
  (upK Tryd.prog (sCall F_wire_Reader_fail #[r0]) w1 fun t28 w2 =>
   K (.int .i64 0) w2)
  (pureK Tryd.prog (sSlice T_string t21 none (some t24) none) fun t32 =>
   upK Tryd.prog (sCall F_strconv_Atoi #[t32]) w1 fun t33 w3 =>
   pureK Tryd.prog (sExtract t33 0) fun t34 =>
   pureK Tryd.prog (sExtract t33 1) fun t35 =>
   pureK Tryd.prog (sBin .neq T_error (.tmp 36) (.const .nilIface) t35 .nilIface) fun t37 =>
   ifB t37
   (upK Tryd.prog (sCall F_wire_Reader_fail #[r0]) (tick w3) fun t52 w4 =>
    K (.int .i64 0) w4)
   (pureK Tryd.prog (sSlice T_string t21 none (some t24) none) fun t43 =>
    upK Tryd.prog (sCall F_strconv_Itoa #[t34]) (tick w3) fun t40 w5 =>
    pureK Tryd.prog (sBin .neq T_string (.tmp 40) (.tmp 43) t40 t43) fun t44 =>
    ifB t44
    (upK Tryd.prog (sCall F_wire_Reader_fail #[r0]) w5 fun t52_1 w6 =>
     K (.int .i64 0) w6)
    (pureK Tryd.prog (sBin .lss T_int (.tmp 47) (.tmp 48) t34 least2) fun t49 =>
     ifB t49
     (upK Tryd.prog (sCall F_wire_Reader_fail #[r0]) w5 fun t52_2 w7 =>
      K (.int .i64 0) w7)
     (pureK Tryd.prog (sNil r0) fun t55 =>
      pureK Tryd.prog (sFieldAddr T_wire_Reader t55 0) fun t56 =>
      readK Tryd.prog (sLoad T_string t56) w5 fun t57 =>
      pureK Tryd.prog (sBin .add T_int (.tmp 58) (.const (.int .i64 1)) t24 (.int .i64 1)) fun t59 =>
      pureK Tryd.prog (sSlice T_string t57 (some t59) none none) fun t60 =>
      pureK Tryd.prog (sNil r0) fun t61 =>
      pureK Tryd.prog (sFieldAddr T_wire_Reader t61 0) fun t62 =>
      upK Tryd.prog (sStore T_string t62 t60) w5 fun tu w8 =>
      K t34 w8))))
theorem wire_Reader_number.pt_eq : wire_Reader_number.pt = fun r0 end1 least2 w K => FN Tryd.prog Tryd.f44 (bodyOf Tryd.f44) [6] .leaf [r0, end1, least2] w K := by kernel_rfl
theorem wire_Reader_number.call {r0 end1 least2 : Value} {w : World} {K : Value → World → Prop} (h : wire_Reader_number.pt r0 end1 least2 w K) : Calls Tryd.prog F_wire_Reader_number #[r0, end1, least2] w (retK K) :=
  calls_FN (args := [r0, end1, least2]) Tryd.func44 (by kernel_rfl) (by rw [wire_Reader_number.pt_eq] at h; exact h)
theorem wire_Reader_number.up {r0 end1 least2 : Value} {w : World} {K : Value → World → Prop} (h : Calls Tryd.prog F_wire_Reader_number #[r0, end1, least2] w (retK K)) : upK Tryd.prog (sCall F_wire_Reader_number #[r0, end1, least2]) w K :=
  up_call (fn := Tryd.f44) Tryd.func44 (by kernel_rfl) (by kernel_rfl) h

/-- (*errata/wire.Reader).fail -/
def wire_Reader_fail.pt (r0 : Value) (w : World) (K : Value → World → Prop) : Prop :=
  pureK Tryd.prog (sNil r0) fun t4 =>
  pureK Tryd.prog (sFieldAddr T_wire_Reader t4 0) fun t5 =>
  upK Tryd.prog (sStore T_string t5 (.string ⟨#[]⟩)) w fun tu w1 =>
  pureK Tryd.prog (sNil r0) fun t6 =>
  pureK Tryd.prog (sFieldAddr T_wire_Reader t6 1) fun t7 =>
  upK Tryd.prog (sStore T_bool t7 (.bool true)) w1 fun tu_1 w2 =>
  K (.tuple #[]) w2
theorem wire_Reader_fail.pt_eq : wire_Reader_fail.pt = fun r0 w K => FN Tryd.prog Tryd.f45 (bodyOf Tryd.f45) [] .leaf [r0] w K := by kernel_rfl
theorem wire_Reader_fail.call {r0 : Value} {w : World} {K : Value → World → Prop} (h : wire_Reader_fail.pt r0 w K) : Calls Tryd.prog F_wire_Reader_fail #[r0] w (retK K) :=
  calls_FN (args := [r0]) Tryd.func45 (by kernel_rfl) (by rw [wire_Reader_fail.pt_eq] at h; exact h)
theorem wire_Reader_fail.up {r0 : Value} {w : World} {K : Value → World → Prop} (h : Calls Tryd.prog F_wire_Reader_fail #[r0] w (retK K)) : upK Tryd.prog (sCall F_wire_Reader_fail #[r0]) w K :=
  up_call (fn := Tryd.f45) Tryd.func45 (by kernel_rfl) (by kernel_rfl) h

/-- (*errata/wire.Reader).close -/
def wire_Reader_close.pt (r0 end1 : Value) (w : World) (K : Value → World → Prop) : Prop :=
  pureK Tryd.prog (sNil r0) fun t8 =>
  pureK Tryd.prog (sFieldAddr T_wire_Reader t8 0) fun t9 =>
  readK Tryd.prog (sLoad T_string t9) w fun t10 =>
  upK Tryd.prog (sCall F_strings_CutPrefix #[t10, end1]) w fun t12 w1 =>
  pureK Tryd.prog (sExtract t12 0) fun t13 =>
  pureK Tryd.prog (sExtract t12 1) fun t14 =>
  pureK Tryd.prog (sNil r0) fun t17 =>
  pureK Tryd.prog (sFieldAddr T_wire_Reader t17 0) fun t18 =>
  upK Tryd.prog (sStore T_string t18 t13) w1 fun tu w2 =>
  pureK Tryd.prog (sUn .not t14) fun t20 =>
  ifB t20
  (upK Tryd.prog (sCall F_wire_Reader_fail #[r0]) w2 fun t22 w3 =>
   K (.tuple #[]) w3)
  (K (.tuple #[]) w2)
theorem wire_Reader_close.pt_eq : wire_Reader_close.pt = fun r0 end1 w K => FN Tryd.prog Tryd.f46 (bodyOf Tryd.f46) [] .leaf [r0, end1] w K := by kernel_rfl
theorem wire_Reader_close.call {r0 end1 : Value} {w : World} {K : Value → World → Prop} (h : wire_Reader_close.pt r0 end1 w K) : Calls Tryd.prog F_wire_Reader_close #[r0, end1] w (retK K) :=
  calls_FN (args := [r0, end1]) Tryd.func46 (by kernel_rfl) (by rw [wire_Reader_close.pt_eq] at h; exact h)
theorem wire_Reader_close.up {r0 end1 : Value} {w : World} {K : Value → World → Prop} (h : Calls Tryd.prog F_wire_Reader_close #[r0, end1] w (retK K)) : upK Tryd.prog (sCall F_wire_Reader_close #[r0, end1]) w K :=
  up_call (fn := Tryd.f46) Tryd.func46 (by kernel_rfl) (by kernel_rfl) h

/-- (*errata/wire.Reader).Left -/
def wire_Reader_Left.pt (r0 : Value) (w : World) (K : Value → World → Prop) : Prop :=
  pureK Tryd.prog (sNil r0) fun t4 =>
  pureK Tryd.prog (sFieldAddr T_wire_Reader t4 0) fun t5 =>
  readK Tryd.prog (sLoad T_string t5) w fun t6 =>
  readK Tryd.prog (sBlt .len #[T_string] T_int #[false] #[t6]) w fun t7 =>
  K t7 w
theorem wire_Reader_Left.pt_eq : wire_Reader_Left.pt = fun r0 w K => FN Tryd.prog Tryd.f47 (bodyOf Tryd.f47) [2] .leaf [r0] w K := by kernel_rfl
theorem wire_Reader_Left.call {r0 : Value} {w : World} {K : Value → World → Prop} (h : wire_Reader_Left.pt r0 w K) : Calls Tryd.prog F_wire_Reader_Left #[r0] w (retK K) :=
  calls_FN (args := [r0]) Tryd.func47 (by kernel_rfl) (by rw [wire_Reader_Left.pt_eq] at h; exact h)
theorem wire_Reader_Left.up {r0 : Value} {w : World} {K : Value → World → Prop} (h : Calls Tryd.prog F_wire_Reader_Left #[r0] w (retK K)) : upK Tryd.prog (sCall F_wire_Reader_Left #[r0]) w K :=
  up_call (fn := Tryd.f47) Tryd.func47 (by kernel_rfl) (by kernel_rfl) h

/-- errata/value.take -/
def value_take.pt (r0 : Value) (w : World) (K : Value → World → Prop) : Prop :=
  upK Tryd.prog (sAlloc T_api_Value) w fun t2 w1 =>
  upK Tryd.prog (sCall F_wire_Reader_Int #[r0]) w1 fun t5 w2 =>
  upK Tryd.prog (sCall F_wire_Reader_Int #[r0]) w2 fun t7 w3 =>
  pureK Tryd.prog (sBuild T_api_Value #[(0, t5), (1, t7)]) fun t8 =>
  upK Tryd.prog (sAlloc T_api_Value) w3 fun v3 w4 =>
  upK Tryd.prog (sStore T_api_Value v3 t8) w4 fun tu w5 =>
  upK Tryd.prog (sCall F_wire_Reader_Text #[r0]) w5 fun t10 w6 =>
  pureK Tryd.prog (sFieldAddr T_api_Value v3 2) fun t11 =>
  upK Tryd.prog (sStore T_string t11 t10) w6 fun tu_1 w7 =>
  readK Tryd.prog (sLoad T_api_Value v3) w7 fun t12 =>
  upK Tryd.prog (sStore T_api_Value t2 t12) w7 fun tu_2 w8 =>
  readV Tryd.prog (do loadVar T_api_Value (← asAddr t2)) w8 fun t2_1 =>
  K t2_1 w8
theorem value_take.pt_eq : value_take.pt = fun r0 w K => FN Tryd.prog Tryd.f48 (bodyOf Tryd.f48) [] .leaf [r0] w K := by kernel_rfl
theorem value_take.call {r0 : Value} {w : World} {K : Value → World → Prop} (h : value_take.pt r0 w K) : Calls Tryd.prog F_value_take #[r0] w (retK K) :=
  calls_FN (args := [r0]) Tryd.func48 (by kernel_rfl) (by rw [value_take.pt_eq] at h; exact h)
theorem value_take.up {r0 : Value} {w : World} {K : Value → World → Prop} (h : Calls Tryd.prog F_value_take #[r0] w (retK K)) : upK Tryd.prog (sCall F_value_take #[r0]) w K :=
  up_call (fn := Tryd.f48) Tryd.func48 (by kernel_rfl) (by kernel_rfl) h

/-- (*strings.Builder).copyCheck -/
def strings_Builder_copyCheck.pt (b0 : Value) (w : World) (K : Value → World → Prop) : Prop :=
  pureK Tryd.prog (sNil b0) fun t3 =>
  pureK Tryd.prog (sFieldAddr T_strings_Builder t3 0) fun t4 =>
  readK Tryd.prog (sLoad T_p_strings_Builder t4) w fun t5 =>
  pureK Tryd.prog (sBin .eql T_p_strings_Builder (.tmp 5) (.const (.pointer none)) t5 (.pointer none)) fun t6 =>
  ifB t6
  (upK Tryd.prog (sConv T_p_strings_Builder T_unsafe_Pointer b0) w fun t9 w1 =>
   upK Tryd.prog (sCall F_internal_abi_NoEscape #[t9]) w1 fun t10 w2 =>
   upK Tryd.prog (sConv T_unsafe_Pointer T_p_strings_Builder t10) w2 fun t11 w3 =>
   pureK Tryd.prog (sNil b0) fun t12 =>
   pureK Tryd.prog (sFieldAddr T_strings_Builder t12 0) fun t13 =>
   upK Tryd.prog (sStore T_p_strings_Builder t13 t11) w3 fun tu w4 =>
   K (.tuple #[]) w4)
  (pureK Tryd.prog (sNil b0) fun t15 =>
   pureK Tryd.prog (sFieldAddr T_strings_Builder t15 0) fun t16 =>
   readK Tryd.prog (sLoad T_p_strings_Builder t16) w fun t17 =>
   pureK Tryd.prog (sBin .neq T_p_strings_Builder (.tmp 17) (.tmp 18) t17 b0) fun t19 =>
   ifB t19
   (False)
   (K (.tuple #[]) w))
theorem strings_Builder_copyCheck.pt_eq : strings_Builder_copyCheck.pt = fun b0 w K => FN Tryd.prog Tryd.f49 (bodyOf Tryd.f49) [] .leaf [b0] w K := by kernel_rfl
theorem strings_Builder_copyCheck.call {b0 : Value} {w : World} {K : Value → World → Prop} (h : strings_Builder_copyCheck.pt b0 w K) : Calls Tryd.prog F_strings_Builder_copyCheck #[b0] w (retK K) :=
  calls_FN (args := [b0]) Tryd.func49 (by kernel_rfl) (by rw [strings_Builder_copyCheck.pt_eq] at h; exact h)
theorem strings_Builder_copyCheck.up {b0 : Value} {w : World} {K : Value → World → Prop} (h : Calls Tryd.prog F_strings_Builder_copyCheck #[b0] w (retK K)) : upK Tryd.prog (sCall F_strings_Builder_copyCheck #[b0]) w K :=
  up_call (fn := Tryd.f49) Tryd.func49 (by kernel_rfl) (by kernel_rfl) h

/-- strconv.Itoa -/
theorem strconv_Itoa.up {p0 : Value} {w : World} {K : Value → World → Prop} (h : Calls Tryd.prog F_strconv_Itoa #[p0] w (retK K)) : upK Tryd.prog (sCall F_strconv_Itoa #[p0]) w K :=
  up_call (fn := Tryd.f50) Tryd.func50 (by kernel_rfl) (by kernel_rfl) h

/-- errata/value.Bytes -/
def value_Bytes.pt (v0 : Value) (w : World) (K : Value → World → Prop) : Prop :=
  upK Tryd.prog (sBox T_api_Value v0) w fun v1 w1 =>
  pureK Tryd.prog (sFieldAddr T_api_Value v1 0) fun t3 =>
  readK Tryd.prog (sLoad T_int t3) (tick w1) fun t4 =>
  pureK Tryd.prog (sFieldAddr T_api_Value v1 1) fun t6 =>
  readK Tryd.prog (sLoad T_int t6) (tick w1) fun t7 =>
  pureK Tryd.prog (sFieldAddr T_api_Value v1 2) fun t10 =>
  readK Tryd.prog (sLoad T_string t10) (tick w1) fun t11 =>
  upK Tryd.prog (sCall F_wire_Int #[t4]) (tick w1) fun t5 w2 =>
  Is Tryd.prog (sLoad T_string t10) t11 w2 ∧ Is Tryd.prog (sLoad T_int t6) t7 w2 ∧ upK Tryd.prog (sCall F_wire_Int #[t7]) w2 fun t8 w3 =>
  Is Tryd.prog (sLoad T_string t10) t11 w3 ∧ pureK Tryd.prog (sBin .add T_string (.tmp 5) (.tmp 8) t5 t8) fun t9 =>
  upK Tryd.prog (sCall F_wire_Text #[t11]) w3 fun t12 w4 =>
  pureK Tryd.prog (sBin .add T_string (.tmp 9) (.tmp 12) t9 t12) fun t13 =>
  K t13 w4
theorem value_Bytes.pt_eq : value_Bytes.pt = fun v0 w K => FN Tryd.prog Tryd.f51 (bodyOf Tryd.f51) [2] .leaf [v0] w K := by kernel_rfl
theorem value_Bytes.call {v0 : Value} {w : World} {K : Value → World → Prop} (h : value_Bytes.pt v0 w K) : Calls Tryd.prog F_value_Bytes #[v0] w (retK K) :=
  calls_FN (args := [v0]) Tryd.func51 (by kernel_rfl) (by rw [value_Bytes.pt_eq] at h; exact h)
theorem value_Bytes.up {v0 : Value} {w : World} {K : Value → World → Prop} (h : Calls Tryd.prog F_value_Bytes #[v0] w (retK K)) : upK Tryd.prog (sCall F_value_Bytes #[v0]) w K :=
  up_call (fn := Tryd.f51) Tryd.func51 (by kernel_rfl) (by kernel_rfl) h

/-- slices.ContainsFunc[[]errata/api.Value,errata/api.Value] -/
def slices_ContainsFunc_s_api_Value_api_Value.pt (s0 f1 : Value) (w : World) (K : Value → World → Prop) : Prop :=
  upK Tryd.prog (sCall F_slices_IndexFunc_s_api_Value_api_Value #[s0, f1]) w fun t7 w1 =>
  pureK Tryd.prog (sBin .geq T_int (.tmp 7) (.const (.int .i64 0)) t7 (.int .i64 0)) fun t8 =>
  K t8 w1
theorem slices_ContainsFunc_s_api_Value_api_Value.pt_eq : slices_ContainsFunc_s_api_Value_api_Value.pt = fun s0 f1 w K => FN Tryd.prog Tryd.f52 (bodyOf Tryd.f52) [4] .leaf [s0, f1] w K := by kernel_rfl
theorem slices_ContainsFunc_s_api_Value_api_Value.call {s0 f1 : Value} {w : World} {K : Value → World → Prop} (h : slices_ContainsFunc_s_api_Value_api_Value.pt s0 f1 w K) : Calls Tryd.prog F_slices_ContainsFunc_s_api_Value_api_Value #[s0, f1] w (retK K) :=
  calls_FN (args := [s0, f1]) Tryd.func52 (by kernel_rfl) (by rw [slices_ContainsFunc_s_api_Value_api_Value.pt_eq] at h; exact h)
theorem slices_ContainsFunc_s_api_Value_api_Value.up {s0 f1 : Value} {w : World} {K : Value → World → Prop} (h : Calls Tryd.prog F_slices_ContainsFunc_s_api_Value_api_Value #[s0, f1] w (retK K)) : upK Tryd.prog (sCall F_slices_ContainsFunc_s_api_Value_api_Value #[s0, f1]) w K :=
  up_call (fn := Tryd.f52) Tryd.func52 (by kernel_rfl) (by kernel_rfl) h

/-- errata/value.all$1 -/
def value_all_1.pt (v0 : Value) (w : World) (K : Value → World → Prop) : Prop :=
  upK Tryd.prog (sBox T_api_Value v0) w fun v1 w1 =>
  readK Tryd.prog (sLoad T_api_Value v1) w1 fun t3 =>
  upK Tryd.prog (sCall F_value_Right #[t3]) w1 fun t4 w2 =>
  pureK Tryd.prog (sUn .not t4) fun t5 =>
  K t5 w2
theorem value_all_1.pt_eq : value_all_1.pt = fun v0 w K => FN Tryd.prog Tryd.f53 (bodyOf Tryd.f53) [2] .leaf [v0] w K := by kernel_rfl
theorem value_all_1.call {v0 : Value} {w : World} {K : Value → World → Prop} (h : value_all_1.pt v0 w K) : Calls Tryd.prog F_value_all_1 #[v0] w (retK K) :=
  calls_FN (args := [v0]) Tryd.func53 (by kernel_rfl) (by rw [value_all_1.pt_eq] at h; exact h)
theorem value_all_1.up {v0 : Value} {w : World} {K : Value → World → Prop} (h : Calls Tryd.prog F_value_all_1 #[v0] w (retK K)) : upK Tryd.prog (sCall F_value_all_1 #[v0]) w K :=
  up_call (fn := Tryd.f53) Tryd.func53 (by kernel_rfl) (by kernel_rfl) h

/-- errata/value.Right -/
def value_Right.pt (v0 : Value) (w : World) (K : Value → World → Prop) : Prop :=
  upK Tryd.prog (sBox T_api_Value v0) w fun v1 w1 =>
  pureK Tryd.prog (sFieldAddr T_api_Value v1 0) fun t3 =>
  readK Tryd.prog (sLoad T_int t3) w1 fun t4 =>
  pureK Tryd.prog (sBin .eql T_int (.tmp 4) (.const (.int .i64 0)) t4 (.int .i64 0)) fun t6 =>
  ifB t6
  (readK Tryd.prog (sLoad T_api_Value v1) (tick w1) fun t7 =>
   pureK Tryd.prog (sFieldAddr T_api_Value v1 1) fun t8 =>
   readK Tryd.prog (sLoad T_int t8) (tick w1) fun t9 =>
   upK Tryd.prog (sCall F_value_Int #[t9]) (tick w1) fun t10 w2 =>
   Is Tryd.prog (sLoad T_api_Value v1) t7 w2 ∧ pureK Tryd.prog (sBin .eql T_api_Value (.tmp 7) (.tmp 10) t7 t10) fun t11 =>
   K t11 w2)
  (pureK Tryd.prog (sBin .eql T_int (.tmp 4) (.const (.int .i64 1)) t4 (.int .i64 1)) fun t13 =>
   ifB t13
   (readK Tryd.prog (sLoad T_api_Value v1) (tick w1) fun t14 =>
    pureK Tryd.prog (sFieldAddr T_api_Value v1 2) fun t15 =>
    readK Tryd.prog (sLoad T_string t15) (tick w1) fun t16 =>
    upK Tryd.prog (sCall F_value_Text #[t16]) (tick w1) fun t17 w3 =>
    Is Tryd.prog (sLoad T_api_Value v1) t14 w3 ∧ pureK Tryd.prog (sBin .eql T_api_Value (.tmp 14) (.tmp 17) t14 t17) fun t18 =>
    ifB t18
    (pureK Tryd.prog (sFieldAddr T_api_Value v1 2) fun t20 =>
     readK Tryd.prog (sLoad T_string t20) w3 fun t21 =>
     readK Tryd.prog (sBlt .len #[T_string] T_int #[false] #[t21]) w3 fun t22 =>
     pureK Tryd.prog (sBin .leq T_int (.tmp 22) (.const (.int .i64 200)) t22 (.int .i64 200)) fun t23 =>
     K t23 w3)
    (K (.bool false) w3))
   (readK Tryd.prog (sLoad T_api_Value v1) (tick w1) fun t25 =>
    upK Tryd.prog (sCall F_value_Bool #[(.bool false)]) (tick w1) fun t26 w4 =>
    Is Tryd.prog (sLoad T_api_Value v1) t25 w4 ∧ pureK Tryd.prog (sBin .eql T_api_Value (.tmp 25) (.tmp 26) t25 t26) fun t27 =>
    ifB t27
    (K (.bool true) w4)
    (readK Tryd.prog (sLoad T_api_Value v1) w4 fun t29 =>
     upK Tryd.prog (sCall F_value_Bool #[(.bool true)]) w4 fun t30 w5 =>
     Is Tryd.prog (sLoad T_api_Value v1) t29 w5 ∧ pureK Tryd.prog (sBin .eql T_api_Value (.tmp 29) (.tmp 30) t29 t30) fun t31 =>
     K t31 w5)))
theorem value_Right.pt_eq : value_Right.pt = fun v0 w K => FN Tryd.prog Tryd.f54 (bodyOf Tryd.f54) [2] .leaf [v0] w K := by kernel_rfl
theorem value_Right.call {v0 : Value} {w : World} {K : Value → World → Prop} (h : value_Right.pt v0 w K) : Calls Tryd.prog F_value_Right #[v0] w (retK K) :=
  calls_FN (args := [v0]) Tryd.func54 (by kernel_rfl) (by rw [value_Right.pt_eq] at h; exact h)
theorem value_Right.up {v0 : Value} {w : World} {K : Value → World → Prop} (h : Calls Tryd.prog F_value_Right #[v0] w (retK K)) : upK Tryd.prog (sCall F_value_Right #[v0]) w K :=
  up_call (fn := Tryd.f54) Tryd.func54 (by kernel_rfl) (by kernel_rfl) h

/-- strings.IndexByte -/
theorem strings_IndexByte.up {p0 p1 : Value} {w : World} {K : Value → World → Prop} (h : Calls Tryd.prog F_strings_IndexByte #[p0, p1] w (retK K)) : upK Tryd.prog (sCall F_strings_IndexByte #[p0, p1]) w K :=
  up_call (fn := Tryd.f55) Tryd.func55 (by kernel_rfl) (by kernel_rfl) h

/-- strconv.Atoi -/
theorem strconv_Atoi.up {p0 : Value} {w : World} {K : Value → World → Prop} (h : Calls Tryd.prog F_strconv_Atoi #[p0] w (retK K)) : upK Tryd.prog (sCall F_strconv_Atoi #[p0]) w K :=
  up_call (fn := Tryd.f56) Tryd.func56 (by kernel_rfl) (by kernel_rfl) h

/-- strings.CutPrefix -/
theorem strings_CutPrefix.up {p0 p1 : Value} {w : World} {K : Value → World → Prop} (h : Calls Tryd.prog F_strings_CutPrefix #[p0, p1] w (retK K)) : upK Tryd.prog (sCall F_strings_CutPrefix #[p0, p1]) w K :=
  up_call (fn := Tryd.f57) Tryd.func57 (by kernel_rfl) (by kernel_rfl) h

/-- internal/strconv.Itoa -/
theorem internal_strconv_Itoa.up {p0 : Value} {w : World} {K : Value → World → Prop} (h : Calls Tryd.prog F_internal_strconv_Itoa #[p0] w (retK K)) : upK Tryd.prog (sCall F_internal_strconv_Itoa #[p0]) w K :=
  up_call (fn := Tryd.f59) Tryd.func59 (by kernel_rfl) (by kernel_rfl) h

/-- slices.IndexFunc[[]errata/api.Value,errata/api.Value] -/
def slices_IndexFunc_s_api_Value_api_Value.pt (s0 f1 : Value) (w : World) (K : Value → World → Prop) : Prop :=
  readK Tryd.prog (sBlt .len #[T_s_api_Value] T_int #[false] #[s0]) w fun t7 =>
  LOOP (X := Value × Unit) (fun lv1 w1 next1 =>
   pureK Tryd.prog (sBin .lss T_int (.tmp 8) (.tmp 7) lv1.1 t7) fun t9 =>
   ifB t9
   (pureK Tryd.prog (sIdxAddr T_s_api_Value s0 lv1.1) fun t14 =>
    readK Tryd.prog (sLoad T_api_Value t14) w1 fun t15 =>
    upK Tryd.prog (sCallV f1 #[t15]) w1 fun t16 w2 =>
    ifB t16
    (K lv1.1 w2)
    (pureK Tryd.prog (sBin .add T_int (.tmp 8) (.const (.int .i64 1)) lv1.1 (.int .i64 1)) fun t18 =>
     next1 (t18, ()) w2))
   (K (.int .i64 (-1)) w1))
  ((.int .i64 0), ()) w
theorem slices_IndexFunc_s_api_Value_api_Value.pt_eq : slices_IndexFunc_s_api_Value_api_Value.pt = fun s0 f1 w K => FN Tryd.prog Tryd.f60 (bodyOf Tryd.f60) [4] .leaf [s0, f1] w K := by kernel_rfl
theorem slices_IndexFunc_s_api_Value_api_Value.call {s0 f1 : Value} {w : World} {K : Value → World → Prop} (h : slices_IndexFunc_s_api_Value_api_Value.pt s0 f1 w K) : Calls Tryd.prog F_slices_IndexFunc_s_api_Value_api_Value #[s0, f1] w (retK K) :=
  calls_FN (args := [s0, f1]) Tryd.func60 (by kernel_rfl) (by rw [slices_IndexFunc_s_api_Value_api_Value.pt_eq] at h; exact h)
theorem slices_IndexFunc_s_api_Value_api_Value.up {s0 f1 : Value} {w : World} {K : Value → World → Prop} (h : Calls Tryd.prog F_slices_IndexFunc_s_api_Value_api_Value #[s0, f1] w (retK K)) : upK Tryd.prog (sCall F_slices_IndexFunc_s_api_Value_api_Value #[s0, f1]) w K :=
  up_call (fn := Tryd.f60) Tryd.func60 (by kernel_rfl) (by kernel_rfl) h

/-- errata/value.Int -/
def value_Int.pt (n0 : Value) (w : World) (K : Value → World → Prop) : Prop :=
  upK Tryd.prog (sAlloc T_api_Value) w fun t2 w1 =>
  pureK Tryd.prog (sBuild T_api_Value #[(0, (.int .i64 0)), (1, n0)]) fun t4 =>
  upK Tryd.prog (sStore T_api_Value t2 t4) w1 fun tu w2 =>
  readV Tryd.prog (do loadVar T_api_Value (← asAddr t2)) w2 fun t2_1 =>
  K t2_1 w2
theorem value_Int.pt_eq : value_Int.pt = fun n0 w K => FN Tryd.prog Tryd.f61 (bodyOf Tryd.f61) [] .leaf [n0] w K := by kernel_rfl
theorem value_Int.call {n0 : Value} {w : World} {K : Value → World → Prop} (h : value_Int.pt n0 w K) : Calls Tryd.prog F_value_Int #[n0] w (retK K) :=
  calls_FN (args := [n0]) Tryd.func61 (by kernel_rfl) (by rw [value_Int.pt_eq] at h; exact h)
theorem value_Int.up {n0 : Value} {w : World} {K : Value → World → Prop} (h : Calls Tryd.prog F_value_Int #[n0] w (retK K)) : upK Tryd.prog (sCall F_value_Int #[n0]) w K :=
  up_call (fn := Tryd.f61) Tryd.func61 (by kernel_rfl) (by kernel_rfl) h

/-- errata/value.Text -/
def value_Text.pt (s0 : Value) (w : World) (K : Value → World → Prop) : Prop :=
  upK Tryd.prog (sAlloc T_api_Value) w fun t2 w1 =>
  pureK Tryd.prog (sBuild T_api_Value #[(0, (.int .i64 1)), (2, s0)]) fun t4 =>
  upK Tryd.prog (sStore T_api_Value t2 t4) w1 fun tu w2 =>
  readV Tryd.prog (do loadVar T_api_Value (← asAddr t2)) w2 fun t2_1 =>
  K t2_1 w2
theorem value_Text.pt_eq : value_Text.pt = fun s0 w K => FN Tryd.prog Tryd.f62 (bodyOf Tryd.f62) [] .leaf [s0] w K := by kernel_rfl
theorem value_Text.call {s0 : Value} {w : World} {K : Value → World → Prop} (h : value_Text.pt s0 w K) : Calls Tryd.prog F_value_Text #[s0] w (retK K) :=
  calls_FN (args := [s0]) Tryd.func62 (by kernel_rfl) (by rw [value_Text.pt_eq] at h; exact h)
theorem value_Text.up {s0 : Value} {w : World} {K : Value → World → Prop} (h : Calls Tryd.prog F_value_Text #[s0] w (retK K)) : upK Tryd.prog (sCall F_value_Text #[s0]) w K :=
  up_call (fn := Tryd.f62) Tryd.func62 (by kernel_rfl) (by kernel_rfl) h

/-- errata/value.Bool -/
def value_Bool.pt (b0 : Value) (w : World) (K : Value → World → Prop) : Prop :=
  upK Tryd.prog (sAlloc T_api_Value) w fun t2 w1 =>
  ifB b0
  (pureK Tryd.prog (sBuild T_api_Value #[(0, (.int .i64 2)), (1, (.int .i64 1))]) fun t4 =>
   upK Tryd.prog (sStore T_api_Value t2 t4) w1 fun tu w2 =>
   readV Tryd.prog (do loadVar T_api_Value (← asAddr t2)) w2 fun t2_1 =>
   K t2_1 w2)
  (pureK Tryd.prog (sBuild T_api_Value #[(0, (.int .i64 2))]) fun t5 =>
   upK Tryd.prog (sStore T_api_Value t2 t5) w1 fun tu_1 w3 =>
   readV Tryd.prog (do loadVar T_api_Value (← asAddr t2)) w3 fun t2_2 =>
   K t2_2 w3)
theorem value_Bool.pt_eq : value_Bool.pt = fun b0 w K => FN Tryd.prog Tryd.f63 (bodyOf Tryd.f63) [] .leaf [b0] w K := by kernel_rfl
theorem value_Bool.call {b0 : Value} {w : World} {K : Value → World → Prop} (h : value_Bool.pt b0 w K) : Calls Tryd.prog F_value_Bool #[b0] w (retK K) :=
  calls_FN (args := [b0]) Tryd.func63 (by kernel_rfl) (by rw [value_Bool.pt_eq] at h; exact h)
theorem value_Bool.up {b0 : Value} {w : World} {K : Value → World → Prop} (h : Calls Tryd.prog F_value_Bool #[b0] w (retK K)) : upK Tryd.prog (sCall F_value_Bool #[b0]) w K :=
  up_call (fn := Tryd.f63) Tryd.func63 (by kernel_rfl) (by kernel_rfl) h

/-- internal/stringslite.IndexByte -/
theorem internal_stringslite_IndexByte.up {p0 p1 : Value} {w : World} {K : Value → World → Prop} (h : Calls Tryd.prog F_internal_stringslite_IndexByte #[p0, p1] w (retK K)) : upK Tryd.prog (sCall F_internal_stringslite_IndexByte #[p0, p1]) w K :=
  up_call (fn := Tryd.f64) Tryd.func64 (by kernel_rfl) (by kernel_rfl) h

/-- internal/strconv.Atoi -/
theorem internal_strconv_Atoi.up {p0 : Value} {w : World} {K : Value → World → Prop} (h : Calls Tryd.prog F_internal_strconv_Atoi #[p0] w (retK K)) : upK Tryd.prog (sCall F_internal_strconv_Atoi #[p0]) w K :=
  up_call (fn := Tryd.f65) Tryd.func65 (by kernel_rfl) (by kernel_rfl) h

/-- strconv.toError -/
theorem strconv_toError.up {p0 p1 p2 p3 p4 : Value} {w : World} {K : Value → World → Prop} (h : Calls Tryd.prog F_strconv_toError #[p0, p1, p2, p3, p4] w (retK K)) : upK Tryd.prog (sCall F_strconv_toError #[p0, p1, p2, p3, p4]) w K :=
  up_call (fn := Tryd.f66) Tryd.func66 (by kernel_rfl) (by kernel_rfl) h

/-- internal/stringslite.CutPrefix -/
theorem internal_stringslite_CutPrefix.up {p0 p1 : Value} {w : World} {K : Value → World → Prop} (h : Calls Tryd.prog F_internal_stringslite_CutPrefix #[p0, p1] w (retK K)) : upK Tryd.prog (sCall F_internal_stringslite_CutPrefix #[p0, p1]) w K :=
  up_call (fn := Tryd.f67) Tryd.func67 (by kernel_rfl) (by kernel_rfl) h

/-- internal/strconv.FormatInt -/
theorem internal_strconv_FormatInt.up {p0 p1 : Value} {w : World} {K : Value → World → Prop} (h : Calls Tryd.prog F_internal_strconv_FormatInt #[p0, p1] w (retK K)) : upK Tryd.prog (sCall F_internal_strconv_FormatInt #[p0, p1]) w K :=
  up_call (fn := Tryd.f68) Tryd.func68 (by kernel_rfl) (by kernel_rfl) h

/-- internal/strconv.ParseInt -/
theorem internal_strconv_ParseInt.up {p0 p1 p2 : Value} {w : World} {K : Value → World → Prop} (h : Calls Tryd.prog F_internal_strconv_ParseInt #[p0, p1, p2] w (retK K)) : upK Tryd.prog (sCall F_internal_strconv_ParseInt #[p0, p1, p2]) w K :=
  up_call (fn := Tryd.f70) Tryd.func70 (by kernel_rfl) (by kernel_rfl) h

/-- strconv.syntaxError -/
theorem strconv_syntaxError.up {p0 p1 : Value} {w : World} {K : Value → World → Prop} (h : Calls Tryd.prog F_strconv_syntaxError #[p0, p1] w (retK K)) : upK Tryd.prog (sCall F_strconv_syntaxError #[p0, p1]) w K :=
  up_call (fn := Tryd.f71) Tryd.func71 (by kernel_rfl) (by kernel_rfl) h

/-- strconv.rangeError -/
theorem strconv_rangeError.up {p0 p1 : Value} {w : World} {K : Value → World → Prop} (h : Calls Tryd.prog F_strconv_rangeError #[p0, p1] w (retK K)) : upK Tryd.prog (sCall F_strconv_rangeError #[p0, p1]) w K :=
  up_call (fn := Tryd.f72) Tryd.func72 (by kernel_rfl) (by kernel_rfl) h

/-- strconv.baseError -/
theorem strconv_baseError.up {p0 p1 p2 : Value} {w : World} {K : Value → World → Prop} (h : Calls Tryd.prog F_strconv_baseError #[p0, p1, p2] w (retK K)) : upK Tryd.prog (sCall F_strconv_baseError #[p0, p1, p2]) w K :=
  up_call (fn := Tryd.f73) Tryd.func73 (by kernel_rfl) (by kernel_rfl) h

/-- strconv.bitSizeError -/
theorem strconv_bitSizeError.up {p0 p1 p2 : Value} {w : World} {K : Value → World → Prop} (h : Calls Tryd.prog F_strconv_bitSizeError #[p0, p1, p2] w (retK K)) : upK Tryd.prog (sCall F_strconv_bitSizeError #[p0, p1, p2]) w K :=
  up_call (fn := Tryd.f74) Tryd.func74 (by kernel_rfl) (by kernel_rfl) h

/-- internal/stringslite.HasPrefix -/
theorem internal_stringslite_HasPrefix.up {p0 p1 : Value} {w : World} {K : Value → World → Prop} (h : Calls Tryd.prog F_internal_stringslite_HasPrefix #[p0, p1] w (retK K)) : upK Tryd.prog (sCall F_internal_stringslite_HasPrefix #[p0, p1]) w K :=
  up_call (fn := Tryd.f75) Tryd.func75 (by kernel_rfl) (by kernel_rfl) h

/-- internal/strconv.small -/
theorem internal_strconv_small.up {p0 : Value} {w : World} {K : Value → World → Prop} (h : Calls Tryd.prog F_internal_strconv_small #[p0] w (retK K)) : upK Tryd.prog (sCall F_internal_strconv_small #[p0]) w K :=
  up_call (fn := Tryd.f76) Tryd.func76 (by kernel_rfl) (by kernel_rfl) h

/-- internal/strconv.numDigits -/
theorem internal_strconv_numDigits.up {p0 : Value} {w : World} {K : Value → World → Prop} (h : Calls Tryd.prog F_internal_strconv_numDigits #[p0] w (retK K)) : upK Tryd.prog (sCall F_internal_strconv_numDigits #[p0]) w K :=
  up_call (fn := Tryd.f77) Tryd.func77 (by kernel_rfl) (by kernel_rfl) h

/-- internal/strconv.formatBase10 -/
theorem internal_strconv_formatBase10.up {p0 p1 : Value} {w : World} {K : Value → World → Prop} (h : Calls Tryd.prog F_internal_strconv_formatBase10 #[p0, p1] w (retK K)) : upK Tryd.prog (sCall F_internal_strconv_formatBase10 #[p0, p1]) w K :=
  up_call (fn := Tryd.f78) Tryd.func78 (by kernel_rfl) (by kernel_rfl) h

/-- internal/strconv.formatBits -/
theorem internal_strconv_formatBits.up {p0 p1 p2 p3 p4 : Value} {w : World} {K : Value → World → Prop} (h : Calls Tryd.prog F_internal_strconv_formatBits #[p0, p1, p2, p3, p4] w (retK K)) : upK Tryd.prog (sCall F_internal_strconv_formatBits #[p0, p1, p2, p3, p4]) w K :=
  up_call (fn := Tryd.f79) Tryd.func79 (by kernel_rfl) (by kernel_rfl) h

/-- internal/strconv.ParseUint -/
theorem internal_strconv_ParseUint.up {p0 p1 p2 : Value} {w : World} {K : Value → World → Prop} (h : Calls Tryd.prog F_internal_strconv_ParseUint #[p0, p1, p2] w (retK K)) : upK Tryd.prog (sCall F_internal_strconv_ParseUint #[p0, p1, p2]) w K :=
  up_call (fn := Tryd.f80) Tryd.func80 (by kernel_rfl) (by kernel_rfl) h

/-- internal/stringslite.Clone -/
theorem internal_stringslite_Clone.up {p0 : Value} {w : World} {K : Value → World → Prop} (h : Calls Tryd.prog F_internal_stringslite_Clone #[p0] w (retK K)) : upK Tryd.prog (sCall F_internal_stringslite_Clone #[p0]) w K :=
  up_call (fn := Tryd.f81) Tryd.func81 (by kernel_rfl) (by kernel_rfl) h

/-- errors.New -/
theorem errors_New.up {p0 : Value} {w : World} {K : Value → World → Prop} (h : Calls Tryd.prog F_errors_New #[p0] w (retK K)) : upK Tryd.prog (sCall F_errors_New #[p0]) w K :=
  up_call (fn := Tryd.f82) Tryd.func82 (by kernel_rfl) (by kernel_rfl) h

/-- internal/strconv.log10Pow2 -/
theorem internal_strconv_log10Pow2.up {p0 : Value} {w : World} {K : Value → World → Prop} (h : Calls Tryd.prog F_internal_strconv_log10Pow2 #[p0] w (retK K)) : upK Tryd.prog (sCall F_internal_strconv_log10Pow2 #[p0]) w K :=
  up_call (fn := Tryd.f83) Tryd.func83 (by kernel_rfl) (by kernel_rfl) h

/-- math/bits.Len64 -/
theorem math_bits_Len64.up {p0 : Value} {w : World} {K : Value → World → Prop} (h : Calls Tryd.prog F_math_bits_Len64 #[p0] w (retK K)) : upK Tryd.prog (sCall F_math_bits_Len64 #[p0]) w K :=
  up_call (fn := Tryd.f84) Tryd.func84 (by kernel_rfl) (by kernel_rfl) h

/-- internal/strconv.bool2[int] -/
theorem internal_strconv_bool2_int.up {p0 : Value} {w : World} {K : Value → World → Prop} (h : Calls Tryd.prog F_internal_strconv_bool2_int #[p0] w (retK K)) : upK Tryd.prog (sCall F_internal_strconv_bool2_int #[p0]) w K :=
  up_call (fn := Tryd.f85) Tryd.func85 (by kernel_rfl) (by kernel_rfl) h

/-- internal/strconv.isPowerOfTwo -/
theorem internal_strconv_isPowerOfTwo.up {p0 : Value} {w : World} {K : Value → World → Prop} (h : Calls Tryd.prog F_internal_strconv_isPowerOfTwo #[p0] w (retK K)) : upK Tryd.prog (sCall F_internal_strconv_isPowerOfTwo #[p0]) w K :=
  up_call (fn := Tryd.f86) Tryd.func86 (by kernel_rfl) (by kernel_rfl) h

/-- math/bits.TrailingZeros -/
theorem math_bits_TrailingZeros.up {p0 : Value} {w : World} {K : Value → World → Prop} (h : Calls Tryd.prog F_math_bits_TrailingZeros #[p0] w (retK K)) : upK Tryd.prog (sCall F_math_bits_TrailingZeros #[p0]) w K :=
  up_call (fn := Tryd.f87) Tryd.func87 (by kernel_rfl) (by kernel_rfl) h

/-- internal/strconv.lower -/
theorem internal_strconv_lower.up {p0 : Value} {w : World} {K : Value → World → Prop} (h : Calls Tryd.prog F_internal_strconv_lower #[p0] w (retK K)) : upK Tryd.prog (sCall F_internal_strconv_lower #[p0]) w K :=
  up_call (fn := Tryd.f88) Tryd.func88 (by kernel_rfl) (by kernel_rfl) h

/-- internal/strconv.underscoreOK -/
theorem internal_strconv_underscoreOK.up {p0 : Value} {w : World} {K : Value → World → Prop} (h : Calls Tryd.prog F_internal_strconv_underscoreOK #[p0] w (retK K)) : upK Tryd.prog (sCall F_internal_strconv_underscoreOK #[p0]) w K :=
  up_call (fn := Tryd.f89) Tryd.func89 (by kernel_rfl) (by kernel_rfl) h

/-- math/bits.TrailingZeros32 -/
theorem math_bits_TrailingZeros32.up {p0 : Value} {w : World} {K : Value → World → Prop} (h : Calls Tryd.prog F_math_bits_TrailingZeros32 #[p0] w (retK K)) : upK Tryd.prog (sCall F_math_bits_TrailingZeros32 #[p0]) w K :=
  up_call (fn := Tryd.f90) Tryd.func90 (by kernel_rfl) (by kernel_rfl) h

/-- math/bits.TrailingZeros64 -/
theorem math_bits_TrailingZeros64.up {p0 : Value} {w : World} {K : Value → World → Prop} (h : Calls Tryd.prog F_math_bits_TrailingZeros64 #[p0] w (retK K)) : upK Tryd.prog (sCall F_math_bits_TrailingZeros64 #[p0]) w K :=
  up_call (fn := Tryd.f91) Tryd.func91 (by kernel_rfl) (by kernel_rfl) h

end Go.Proofs.YtmllhipiahlihaaDoor
