/-
  The reckoned conditions of the functions that this seat's statements reach, printed by program, each held against the translation by the kernel. No condition.
-/
import Derived.Test.YtkcjcbmbddfjnaaDoorNames
namespace Go.Proofs.YtkcjcbmbddfjnaaDoor
set_option linter.unusedVariables false
set_option maxRecDepth 100000

/-- errata/erratalaw01.WireWrites -/
def erratalaw01_WireWrites.pt (v0 : Value) (w : World) (K : Value → World → Prop) : Prop :=
  upK Tryd.prog (sBox T_erratalaw01_Value v0) w fun v1 w1 =>
  upK Tryd.prog (sCall F_erratalaw01_small #[]) w1 fun t5 w2 =>
  readK Tryd.prog (sLoad T_erratalaw01_Value v1) w2 fun t6 =>
  upK Tryd.prog (sBuildSlice T_s_erratalaw01_Value 1 #[(0, t6)]) w2 fun t7 w3 =>
  upK Tryd.prog (sCall F_erratalaw01_few #[t7]) w3 fun t8 w4 =>
  pureK Tryd.prog (sUn .not t8) fun t9 =>
  ifB t9
  (K t5 w4)
  (pureK Tryd.prog (sFieldAddr T_erratalaw01_Value v1 1) fun t11 =>
   readK Tryd.prog (sLoad T_int t11) (tick w4) fun t12 =>
   pureK Tryd.prog (sFieldAddr T_erratalaw01_Value v1 1) fun t14 =>
   readK Tryd.prog (sLoad T_int t14) (tick w4) fun t15 =>
   upK Tryd.prog (sCall F_wire_Num #[t12]) (tick w4) fun t13 w5 =>
   Is Tryd.prog (sLoad T_int t14) t15 w5 ∧ upK Tryd.prog (sCall F_errataref01_Num #[t15]) w5 fun t16 w6 =>
   pureK Tryd.prog (sBin .eql T_string (.tmp 13) (.tmp 16) t13 t16) fun t17 =>
   ifB t17
   (pureK Tryd.prog (sFieldAddr T_erratalaw01_Value v1 1) fun t19 =>
    readK Tryd.prog (sLoad T_int t19) w6 fun t20 =>
    pureK Tryd.prog (sFieldAddr T_erratalaw01_Value v1 1) fun t22 =>
    readK Tryd.prog (sLoad T_int t22) w6 fun t23 =>
    upK Tryd.prog (sCall F_wire_Int #[t20]) w6 fun t21 w7 =>
    Is Tryd.prog (sLoad T_int t22) t23 w7 ∧ upK Tryd.prog (sCall F_errataref01_Int #[t23]) w7 fun t24 w8 =>
    pureK Tryd.prog (sBin .eql T_string (.tmp 21) (.tmp 24) t21 t24) fun t25 =>
    ifB t25
    (pureK Tryd.prog (sFieldAddr T_erratalaw01_Value v1 2) fun t28 =>
     readK Tryd.prog (sLoad T_string t28) w8 fun t29 =>
     pureK Tryd.prog (sFieldAddr T_erratalaw01_Value v1 2) fun t31 =>
     readK Tryd.prog (sLoad T_string t31) w8 fun t32 =>
     upK Tryd.prog (sCall F_wire_Text #[t29]) w8 fun t30 w9 =>
     Is Tryd.prog (sLoad T_string t31) t32 w9 ∧ upK Tryd.prog (sCall F_errataref01_Text #[t32]) w9 fun t33 w10 =>
     pureK Tryd.prog (sBin .eql T_string (.tmp 30) (.tmp 33) t30 t33) fun t34 =>
     ifB t5
     (ifB t34
      (pureK Tryd.prog (sFieldAddr T_erratalaw01_Value v1 3) fun t41 =>
       readK Tryd.prog (sLoad T_s_int t41) (tick w10) fun t42 =>
       pureK Tryd.prog (sFieldAddr T_erratalaw01_Value v1 3) fun t44 =>
       readK Tryd.prog (sLoad T_s_int t44) (tick w10) fun t45 =>
       upK Tryd.prog (sCall F_wire_Nums #[t42]) (tick w10) fun t43 w11 =>
       Is Tryd.prog (sLoad T_s_int t44) t45 w11 ∧ upK Tryd.prog (sCall F_errataref01_Nums #[t45]) w11 fun t46 w12 =>
       pureK Tryd.prog (sBin .eql T_string (.tmp 43) (.tmp 46) t43 t46) fun t47 =>
       ifB t47
       (pureK Tryd.prog (sFieldAddr T_erratalaw01_Value v1 4) fun t50 =>
        readK Tryd.prog (sLoad T_s_string t50) w12 fun t51 =>
        pureK Tryd.prog (sFieldAddr T_erratalaw01_Value v1 4) fun t53 =>
        readK Tryd.prog (sLoad T_s_string t53) w12 fun t54 =>
        upK Tryd.prog (sCall F_wire_Texts #[t51]) w12 fun t52 w13 =>
        Is Tryd.prog (sLoad T_s_string t53) t54 w13 ∧ upK Tryd.prog (sCall F_errataref01_Texts #[t54]) w13 fun t55 w14 =>
        pureK Tryd.prog (sBin .eql T_string (.tmp 52) (.tmp 55) t52 t55) fun t56 =>
        K t56 w14)
       (K (.bool false) w12))
      (K (.bool false) (tick w10)))
     (K (.bool false) (tick w10)))
    (ifB t5
     (K (.bool false) (tick w8))
     (K (.bool false) (tick w8))))
   (ifB t5
    (K (.bool false) (tick w6))
    (K (.bool false) (tick w6))))
theorem erratalaw01_WireWrites.pt_eq : erratalaw01_WireWrites.pt = fun v0 w K => FN Tryd.prog Tryd.f3 (bodyOf Tryd.f3) [2] .leaf [v0] w K := by kernel_rfl
theorem erratalaw01_WireWrites.call {v0 : Value} {w : World} {K : Value → World → Prop} (h : erratalaw01_WireWrites.pt v0 w K) : Calls Tryd.prog F_erratalaw01_WireWrites #[v0] w (retK K) :=
  calls_FN (args := [v0]) Tryd.func3 (by kernel_rfl) (by rw [erratalaw01_WireWrites.pt_eq] at h; exact h)
theorem erratalaw01_WireWrites.up {v0 : Value} {w : World} {K : Value → World → Prop} (h : Calls Tryd.prog F_erratalaw01_WireWrites #[v0] w (retK K)) : upK Tryd.prog (sCall F_erratalaw01_WireWrites #[v0]) w K :=
  up_call (fn := Tryd.f3) Tryd.func3 (by kernel_rfl) (by kernel_rfl) h

/-- errata/erratalaw01.WireAgain -/
def erratalaw01_WireAgain.pt (s0 what1 : Value) (w : World) (K : Value → World → Prop) : Prop :=
  upK Tryd.prog (sCall F_erratalaw01_small #[]) w fun t9 w1 =>
  readK Tryd.prog (sBlt .len #[T_string] T_int #[false] #[s0]) w1 fun t11 =>
  pureK Tryd.prog (sBin .gtr T_int (.tmp 11) (.const (.int .i64 400)) t11 (.int .i64 400)) fun t12 =>
  ifB t12
  (K t9 w1)
  (upK Tryd.prog (sCall F_wire_Open #[s0]) w1 fun t15 w2 =>
   pureK Tryd.prog (sBin .eql T_p_wire_Reader (.tmp 16) (.const (.pointer none)) t15 (.pointer none)) fun t17 =>
   ifB t17
   (K (.bool false) w2)
   (LETJ (X := Value × Unit) (fun y1 w3 =>
     LETJ (X := Unit) (fun y2 w4 =>
      readK Tryd.prog (sBlt .len #[T_string] T_int #[false] #[s0]) w4 fun t54 =>
      upK Tryd.prog (sCall F_wire_Reader_Left #[t15]) w4 fun t56 w5 =>
      pureK Tryd.prog (sBin .sub T_int (.tmp 54) (.tmp 56) t54 t56) fun t57 =>
      ifB t9
      (pureK Tryd.prog (sBin .geq T_int (.tmp 60) (.const (.int .i64 0)) t57 (.int .i64 0)) fun t61 =>
       ifB t61
       (readK Tryd.prog (sBlt .len #[T_string] T_int #[false] #[s0]) w5 fun t66 =>
        pureK Tryd.prog (sBin .leq T_int (.tmp 64) (.tmp 66) t57 t66) fun t67 =>
        ifB t67
        (readK Tryd.prog (sBlt .len #[T_string] T_int #[false] #[s0]) w5 fun t74 =>
         pureK Tryd.prog (sBlt .min #[T_int, T_int] T_int #[false, false] #[t57, t74]) fun t75 =>
         pureK Tryd.prog (sBlt .max #[T_int, T_int] T_int #[true, false] #[(.int .i64 0), t75]) fun t76 =>
         pureK Tryd.prog (sSlice T_string s0 none (some t76) none) fun t77 =>
         pureK Tryd.prog (sBin .eql T_string (.tmp 70) (.tmp 77) y1.1 t77) fun t78 =>
         K t78 w5)
        (K (.bool false) w5))
       (K (.bool false) w5))
      (K (.bool false) w5))
     (fun J2 =>
      upK Tryd.prog (sCall F_wire_Reader_Left #[t15]) w3 fun t45 w6 =>
      pureK Tryd.prog (sBin .eql T_int (.tmp 45) (.const (.int .i64 0)) t45 (.int .i64 0)) fun t46 =>
      ifB t46
      (upK Tryd.prog (sCall F_wire_Reader_Done #[t15]) w6 fun t49 w7 =>
       pureK Tryd.prog (sUn .not t49) fun t50 =>
       ifB t50
       (K t9 w7)
       (J2 (()) w7))
      (J2 (()) w6)))
    (fun J1 =>
     pureK Tryd.prog (sBuild T_erratalaw01_Value #[(0, what1)]) fun t19 =>
     upK Tryd.prog (sCall F_erratalaw01_kind #[t19]) w2 fun t20 w8 =>
     pureK Tryd.prog (sBin .eql T_int (.tmp 20) (.const (.int .i64 0)) t20 (.int .i64 0)) fun t25 =>
     ifB t25
     (upK Tryd.prog (sCall F_wire_Reader_Num #[t15]) w8 fun t27 w9 =>
      upK Tryd.prog (sCall F_wire_Num #[t27]) w9 fun t28 w10 =>
      J1 (t28, ()) w10)
     (pureK Tryd.prog (sBin .eql T_int (.tmp 20) (.const (.int .i64 1)) t20 (.int .i64 1)) fun t30 =>
      ifB t30
      (upK Tryd.prog (sCall F_wire_Reader_Int #[t15]) w8 fun t32 w11 =>
       upK Tryd.prog (sCall F_wire_Int #[t32]) w11 fun t33 w12 =>
       J1 (t33, ()) w12)
      (pureK Tryd.prog (sBin .eql T_int (.tmp 20) (.const (.int .i64 2)) t20 (.int .i64 2)) fun t35 =>
       ifB t35
       (upK Tryd.prog (sCall F_wire_Reader_Text #[t15]) w8 fun t37 w13 =>
        upK Tryd.prog (sCall F_wire_Text #[t37]) w13 fun t38 w14 =>
        J1 (t38, ()) w14)
       (pureK Tryd.prog (sBin .eql T_int (.tmp 20) (.const (.int .i64 3)) t20 (.int .i64 3)) fun t40 =>
        ifB t40
        (upK Tryd.prog (sCall F_wire_Reader_Nums #[t15]) w8 fun t42 w15 =>
         upK Tryd.prog (sCall F_wire_Nums #[t42]) w15 fun t43 w16 =>
         J1 (t43, ()) w16)
        (upK Tryd.prog (sCall F_wire_Reader_Texts #[t15]) w8 fun t22 w17 =>
         upK Tryd.prog (sCall F_wire_Texts #[t22]) w17 fun t23 w18 =>
         J1 (t23, ()) w18)))))))
theorem erratalaw01_WireAgain.pt_eq : erratalaw01_WireAgain.pt = fun s0 what1 w K => FN Tryd.prog Tryd.f4 (bodyOf Tryd.f4) [4] (.node none .leaf (.node none .leaf (.node none .leaf (.node none .leaf (.node none .leaf (.node none .leaf (.node (some [7]) .leaf (.node (some []) .leaf .leaf)))))))) [s0, what1] w K := by kernel_rfl
theorem erratalaw01_WireAgain.call {s0 what1 : Value} {w : World} {K : Value → World → Prop} (h : erratalaw01_WireAgain.pt s0 what1 w K) : Calls Tryd.prog F_erratalaw01_WireAgain #[s0, what1] w (retK K) :=
  calls_FN (args := [s0, what1]) Tryd.func4 (by kernel_rfl) (by rw [erratalaw01_WireAgain.pt_eq] at h; exact h)
theorem erratalaw01_WireAgain.up {s0 what1 : Value} {w : World} {K : Value → World → Prop} (h : Calls Tryd.prog F_erratalaw01_WireAgain #[s0, what1] w (retK K)) : upK Tryd.prog (sCall F_erratalaw01_WireAgain #[s0, what1]) w K :=
  up_call (fn := Tryd.f4) Tryd.func4 (by kernel_rfl) (by kernel_rfl) h

/-- errata/erratalaw01.WirePrefix -/
def erratalaw01_WirePrefix.pt (v0 vw1 : Value) (w : World) (K : Value → World → Prop) : Prop :=
  upK Tryd.prog (sBox T_erratalaw01_Value v0) w fun v2 w1 =>
  upK Tryd.prog (sBox T_erratalaw01_Value vw1) w1 fun vw3 w2 =>
  upK Tryd.prog (sCall F_erratalaw01_small #[]) w2 fun t9 w3 =>
  readK Tryd.prog (sLoad T_erratalaw01_Value v2) (tick w3) fun t10 =>
  upK Tryd.prog (sBuildSlice T_s_erratalaw01_Value 1 #[(0, t10)]) (tick w3) fun t11 w4 =>
  upK Tryd.prog (sCall F_erratalaw01_few #[t11]) w4 fun t12 w5 =>
  pureK Tryd.prog (sUn .not t12) fun t13 =>
  ifB t13
  (K t9 w5)
  (readK Tryd.prog (sLoad T_erratalaw01_Value vw3) w5 fun t15 =>
   upK Tryd.prog (sBuildSlice T_s_erratalaw01_Value 1 #[(0, t15)]) w5 fun t16 w6 =>
   upK Tryd.prog (sCall F_erratalaw01_few #[t16]) w6 fun t17 w7 =>
   pureK Tryd.prog (sUn .not t17) fun t18 =>
   ifB t18
   (K t9 w7)
   (readK Tryd.prog (sLoad T_erratalaw01_Value v2) w7 fun t21 =>
    readK Tryd.prog (sLoad T_erratalaw01_Value vw3) w7 fun t23 =>
    upK Tryd.prog (sCall F_erratalaw01_kind #[t21]) w7 fun t22 w8 =>
    Is Tryd.prog (sLoad T_erratalaw01_Value vw3) t23 w8 ∧ upK Tryd.prog (sCall F_erratalaw01_kind #[t23]) w8 fun t24 w9 =>
    pureK Tryd.prog (sBin .neq T_int (.tmp 22) (.tmp 24) t22 t24) fun t25 =>
    ifB t25
    (K t9 w9)
    (readK Tryd.prog (sLoad T_erratalaw01_Value v2) w9 fun t28 =>
     upK Tryd.prog (sCall F_erratalaw01_write #[t28]) w9 fun t29 w10 =>
     readK Tryd.prog (sLoad T_erratalaw01_Value vw3) w10 fun t30 =>
     upK Tryd.prog (sCall F_erratalaw01_write #[t30]) w10 fun t31 w11 =>
     readK Tryd.prog (sBlt .len #[T_string] T_int #[false] #[t29]) w11 fun t33 =>
     readK Tryd.prog (sBlt .len #[T_string] T_int #[false] #[t31]) w11 fun t35 =>
     pureK Tryd.prog (sBin .gtr T_int (.tmp 33) (.tmp 35) t33 t35) fun t36 =>
     ifB t36
     (K t9 w11)
     (readK Tryd.prog (sBlt .len #[T_string] T_int #[false] #[t29]) w11 fun t40 =>
      readK Tryd.prog (sBlt .len #[T_string] T_int #[false] #[t31]) w11 fun t42 =>
      pureK Tryd.prog (sBlt .min #[T_int, T_int] T_int #[false, false] #[t40, t42]) fun t43 =>
      pureK Tryd.prog (sSlice T_string t31 none (some t43) none) fun t44 =>
      pureK Tryd.prog (sBin .neq T_string (.tmp 44) (.tmp 45) t44 t29) fun t46 =>
      ifB t46
      (K t9 w11)
      (upK Tryd.prog (sCall F_wire_Open #[t29]) w11 fun t50 w12 =>
       ifB t9
       (pureK Tryd.prog (sBin .neq T_p_wire_Reader (.tmp 53) (.const (.pointer none)) t50 (.pointer none)) fun t54 =>
        ifB t54
        (pureK Tryd.prog (sBin .eql T_string (.tmp 57) (.tmp 58) t29 t31) fun t59 =>
         ifB t59
         (readK Tryd.prog (sLoad T_erratalaw01_Value vw3) w12 fun t63 =>
          upK Tryd.prog (sCall F_erratalaw01_equal #[t50, t63]) w12 fun t64 w13 =>
          K t64 w13)
         (K (.bool false) w12))
        (K (.bool false) w12))
       (K (.bool false) w12))))))
theorem erratalaw01_WirePrefix.pt_eq : erratalaw01_WirePrefix.pt = fun v0 vw1 w K => FN Tryd.prog Tryd.f5 (bodyOf Tryd.f5) [4] .leaf [v0, vw1] w K := by kernel_rfl
theorem erratalaw01_WirePrefix.call {v0 vw1 : Value} {w : World} {K : Value → World → Prop} (h : erratalaw01_WirePrefix.pt v0 vw1 w K) : Calls Tryd.prog F_erratalaw01_WirePrefix #[v0, vw1] w (retK K) :=
  calls_FN (args := [v0, vw1]) Tryd.func5 (by kernel_rfl) (by rw [erratalaw01_WirePrefix.pt_eq] at h; exact h)
theorem erratalaw01_WirePrefix.up {v0 vw1 : Value} {w : World} {K : Value → World → Prop} (h : Calls Tryd.prog F_erratalaw01_WirePrefix #[v0, vw1] w (retK K)) : upK Tryd.prog (sCall F_erratalaw01_WirePrefix #[v0, vw1]) w K :=
  up_call (fn := Tryd.f5) Tryd.func5 (by kernel_rfl) (by kernel_rfl) h

/-- errata/erratalaw01.WireNests -/
def erratalaw01_WireNests.pt (l0 : Value) (w : World) (K : Value → World → Prop) : Prop :=
  upK Tryd.prog (sCall F_erratalaw01_small #[]) w fun t11 w1 =>
  upK Tryd.prog (sCall F_erratalaw01_few #[l0]) w1 fun t13 w2 =>
  pureK Tryd.prog (sUn .not t13) fun t14 =>
  ifB t14
  (K t11 w2)
  (LOOP (X := Value × Value × Unit) (fun x3 w3 next3 =>
    readK Tryd.prog (sBlt .len #[T_s_erratalaw01_Value] T_int #[false] #[l0]) w3 fun t18 =>
    pureK Tryd.prog (sBin .lss T_int (.tmp 16) (.tmp 18) x3.2.1 t18) fun t19 =>
    ifB t19
    (pureK Tryd.prog (sIdxAddr T_s_erratalaw01_Value l0 x3.2.1) fun t25 =>
     readK Tryd.prog (sLoad T_erratalaw01_Value t25) w3 fun t26 =>
     upK Tryd.prog (sCall F_erratalaw01_write #[t26]) w3 fun t27 w4 =>
     upK Tryd.prog (sBuildSlice T_s_string 1 #[(0, t27)]) w4 fun t28 w5 =>
     upK Tryd.prog (sBlt .append #[T_s_string, T_s_string] T_s_string #[false, false] #[x3.1, t28]) w5 fun t29 w6 =>
     pureK Tryd.prog (sBin .add T_int (.tmp 20) (.const (.int .i64 1)) x3.2.1 (.int .i64 1)) fun t21 =>
     next3 (t29, t21, ()) w6)
    (upK Tryd.prog (sCall F_wire_Texts #[x3.1]) w3 fun t31 w7 =>
     upK Tryd.prog (sCall F_wire_Text #[t31]) w7 fun t32 w8 =>
     upK Tryd.prog (sCall F_wire_Open #[t32]) w8 fun t33 w9 =>
     pureK Tryd.prog (sBin .eql T_p_wire_Reader (.tmp 34) (.const (.pointer none)) t33 (.pointer none)) fun t35 =>
     ifB t35
     (K (.bool false) w9)
     (upK Tryd.prog (sCall F_wire_Reader_Text #[t33]) w9 fun t37 w10 =>
      upK Tryd.prog (sCall F_wire_Open #[t37]) w10 fun t38 w11 =>
      pureK Tryd.prog (sBin .eql T_p_wire_Reader (.tmp 39) (.const (.pointer none)) t38 (.pointer none)) fun t40 =>
      ifB t40
      (K (.bool false) w11)
      (upK Tryd.prog (sCall F_wire_Reader_Done #[t33]) w11 fun t43 w12 =>
       pureK Tryd.prog (sUn .not t43) fun t44 =>
       ifB t44
       (K (.bool false) w12)
       (upK Tryd.prog (sCall F_wire_Reader_Texts #[t38]) w12 fun t47 w13 =>
        readK Tryd.prog (sBlt .len #[T_s_string] T_int #[false] #[t47]) w13 fun t49 =>
        readK Tryd.prog (sBlt .len #[T_s_erratalaw01_Value] T_int #[false] #[l0]) w13 fun t51 =>
        pureK Tryd.prog (sBin .neq T_int (.tmp 49) (.tmp 51) t49 t51) fun t52 =>
        ifB t52
        (K (.bool false) w13)
        (upK Tryd.prog (sCall F_wire_Reader_Done #[t38]) w13 fun t55 w14 =>
         pureK Tryd.prog (sUn .not t55) fun t56 =>
         ifB t56
         (K (.bool false) w14)
         (LOOP (X := Value × Unit) (fun x15 w15 next15 =>
           readK Tryd.prog (sBlt .len #[T_s_erratalaw01_Value] T_int #[false] #[l0]) w15 fun t60 =>
           pureK Tryd.prog (sBin .lss T_int (.tmp 58) (.tmp 60) x15.1 t60) fun t61 =>
           ifB t61
           (pureK Tryd.prog (sIdxAddr T_s_string t47 x15.1) fun t66 =>
            readK Tryd.prog (sLoad T_string t66) w15 fun t67 =>
            upK Tryd.prog (sCall F_wire_Open #[t67]) w15 fun t68 w16 =>
            pureK Tryd.prog (sBin .eql T_p_wire_Reader (.tmp 69) (.const (.pointer none)) t68 (.pointer none)) fun t70 =>
            ifB t70
            (K (.bool false) w16)
            (pureK Tryd.prog (sIdxAddr T_s_erratalaw01_Value l0 x15.1) fun t75 =>
             readK Tryd.prog (sLoad T_erratalaw01_Value t75) w16 fun t76 =>
             upK Tryd.prog (sCall F_erratalaw01_equal #[t68, t76]) w16 fun t77 w17 =>
             pureK Tryd.prog (sUn .not t77) fun t78 =>
             ifB t78
             (K (.bool false) w17)
             (upK Tryd.prog (sCall F_wire_Reader_Done #[t68]) w17 fun t82 w18 =>
              pureK Tryd.prog (sUn .not t82) fun t83 =>
              ifB t83
              (K (.bool false) w18)
              (pureK Tryd.prog (sBin .add T_int (.tmp 62) (.const (.int .i64 1)) x15.1 (.int .i64 1)) fun t63 =>
               next15 (t63, ()) w18))))
           (K t11 w15))
          ((.int .i64 0), ()) w14)))))))
   ((.slice none 0 0), (.int .i64 0), ()) w2)
theorem erratalaw01_WireNests.pt_eq : erratalaw01_WireNests.pt = fun l0 w K => FN Tryd.prog Tryd.f6 (bodyOf Tryd.f6) [2] .leaf [l0] w K := by kernel_rfl
theorem erratalaw01_WireNests.call {l0 : Value} {w : World} {K : Value → World → Prop} (h : erratalaw01_WireNests.pt l0 w K) : Calls Tryd.prog F_erratalaw01_WireNests #[l0] w (retK K) :=
  calls_FN (args := [l0]) Tryd.func6 (by kernel_rfl) (by rw [erratalaw01_WireNests.pt_eq] at h; exact h)
theorem erratalaw01_WireNests.up {l0 : Value} {w : World} {K : Value → World → Prop} (h : Calls Tryd.prog F_erratalaw01_WireNests #[l0] w (retK K)) : upK Tryd.prog (sCall F_erratalaw01_WireNests #[l0]) w K :=
  up_call (fn := Tryd.f6) Tryd.func6 (by kernel_rfl) (by kernel_rfl) h

/-- errata/erratalaw01.WireReads -/
def erratalaw01_WireReads.pt (s0 calls1 : Value) (w : World) (K : Value → World → Prop) : Prop :=
  upK Tryd.prog (sCall F_erratalaw01_small #[]) w fun t10 w1 =>
  readK Tryd.prog (sBlt .len #[T_string] T_int #[false] #[s0]) w1 fun t12 =>
  pureK Tryd.prog (sBin .gtr T_int (.tmp 12) (.const (.int .i64 400)) t12 (.int .i64 400)) fun t13 =>
  ifB t13
  (K t10 w1)
  (readK Tryd.prog (sBlt .len #[T_s_int] T_int #[false] #[calls1]) w1 fun t16 =>
   pureK Tryd.prog (sBin .gtr T_int (.tmp 16) (.const (.int .i64 20)) t16 (.int .i64 20)) fun t17 =>
   ifB t17
   (K t10 w1)
   (upK Tryd.prog (sCall F_wire_Open #[s0]) w1 fun t21 w2 =>
    upK Tryd.prog (sCall F_errataref01_Open #[s0]) w2 fun t23 w3 =>
    pureK Tryd.prog (sBin .eql T_p_wire_Reader (.tmp 24) (.const (.pointer none)) t21 (.pointer none)) fun t25 =>
    ifB t25
    (K (.bool false) w3)
    (LOOP (X := Value × Unit) (fun x4 w4 next4 =>
      readK Tryd.prog (sBlt .len #[T_s_int] T_int #[false] #[calls1]) w4 fun t28 =>
      pureK Tryd.prog (sBin .lss T_int (.tmp 26) (.tmp 28) x4.1 t28) fun t29 =>
      ifB t29
      (LETJ (X := Value × Unit) (fun y1 w5 =>
        pureK Tryd.prog (sUn .not y1.1) fun t72 =>
        ifB t72
        (K (.bool false) w5)
        (upK Tryd.prog (sCall F_wire_Reader_Left #[t21]) w5 fun t75 w6 =>
         upK Tryd.prog (sCall F_errataref01_Reader_Left #[t23]) w6 fun t77 w7 =>
         pureK Tryd.prog (sBin .neq T_int (.tmp 75) (.tmp 77) t75 t77) fun t78 =>
         ifB t78
         (K (.bool false) w7)
         (upK Tryd.prog (sCall F_wire_Reader_Done #[t21]) w7 fun t82 w8 =>
          upK Tryd.prog (sCall F_errataref01_Reader_Done #[t23]) w8 fun t84 w9 =>
          pureK Tryd.prog (sBin .neq T_bool (.tmp 82) (.tmp 84) t82 t84) fun t85 =>
          ifB t85
          (K (.bool false) w9)
          (pureK Tryd.prog (sBin .add T_int (.tmp 30) (.const (.int .i64 1)) x4.1 (.int .i64 1)) fun t31 =>
           next4 (t31, ()) w9))))
       (fun J1 =>
        pureK Tryd.prog (sIdxAddr T_s_int calls1 x4.1) fun t34 =>
        readK Tryd.prog (sLoad T_int t34) w4 fun t35 =>
        pureK Tryd.prog (sBuild T_erratalaw01_Value #[(0, t35)]) fun t36 =>
        upK Tryd.prog (sCall F_erratalaw01_kind #[t36]) w4 fun t37 w10 =>
        pureK Tryd.prog (sBin .eql T_int (.tmp 37) (.const (.int .i64 0)) t37 (.int .i64 0)) fun t44 =>
        ifB t44
        (upK Tryd.prog (sCall F_wire_Reader_Num #[t21]) w10 fun t46 w11 =>
         upK Tryd.prog (sCall F_errataref01_Reader_Num #[t23]) w11 fun t48 w12 =>
         pureK Tryd.prog (sBin .eql T_int (.tmp 46) (.tmp 48) t46 t48) fun t49 =>
         J1 (t49, ()) w12)
        (pureK Tryd.prog (sBin .eql T_int (.tmp 37) (.const (.int .i64 1)) t37 (.int .i64 1)) fun t51 =>
         ifB t51
         (upK Tryd.prog (sCall F_wire_Reader_Int #[t21]) w10 fun t53 w13 =>
          upK Tryd.prog (sCall F_errataref01_Reader_Int #[t23]) w13 fun t55 w14 =>
          pureK Tryd.prog (sBin .eql T_int (.tmp 53) (.tmp 55) t53 t55) fun t56 =>
          J1 (t56, ()) w14)
         (pureK Tryd.prog (sBin .eql T_int (.tmp 37) (.const (.int .i64 2)) t37 (.int .i64 2)) fun t58 =>
          ifB t58
          (upK Tryd.prog (sCall F_wire_Reader_Text #[t21]) w10 fun t60 w15 =>
           upK Tryd.prog (sCall F_errataref01_Reader_Text #[t23]) w15 fun t62 w16 =>
           pureK Tryd.prog (sBin .eql T_string (.tmp 60) (.tmp 62) t60 t62) fun t63 =>
           J1 (t63, ()) w16)
          (pureK Tryd.prog (sBin .eql T_int (.tmp 37) (.const (.int .i64 3)) t37 (.int .i64 3)) fun t65 =>
           ifB t65
           (upK Tryd.prog (sCall F_wire_Reader_Nums #[t21]) w10 fun t67 w17 =>
            upK Tryd.prog (sCall F_errataref01_Reader_Nums #[t23]) w17 fun t69 w18 =>
            upK Tryd.prog (sCall F_errataref01_SameNums #[t67, t69]) w18 fun t70 w19 =>
            J1 (t70, ()) w19)
           (upK Tryd.prog (sCall F_wire_Reader_Texts #[t21]) w10 fun t39 w20 =>
            upK Tryd.prog (sCall F_errataref01_Reader_Texts #[t23]) w20 fun t41 w21 =>
            upK Tryd.prog (sCall F_errataref01_SameTexts #[t39, t41]) w21 fun t42 w22 =>
            J1 (t42, ()) w22))))))
      (ifB t10
       (upK Tryd.prog (sCall F_wire_Reader_Rest #[t21]) w4 fun t90 w23 =>
        upK Tryd.prog (sCall F_errataref01_Reader_Tail #[t23]) w23 fun t92 w24 =>
        pureK Tryd.prog (sBin .eql T_string (.tmp 90) (.tmp 92) t90 t92) fun t93 =>
        ifB t93
        (upK Tryd.prog (sCall F_wire_Reader_Left #[t21]) w24 fun t97 w25 =>
         upK Tryd.prog (sCall F_errataref01_Reader_Left #[t23]) w25 fun t99 w26 =>
         pureK Tryd.prog (sBin .eql T_int (.tmp 97) (.tmp 99) t97 t99) fun t100 =>
         ifB t100
         (upK Tryd.prog (sCall F_wire_Reader_Done #[t21]) w26 fun t104 w27 =>
          upK Tryd.prog (sCall F_errataref01_Reader_Done #[t23]) w27 fun t106 w28 =>
          pureK Tryd.prog (sBin .eql T_bool (.tmp 104) (.tmp 106) t104 t106) fun t107 =>
          K t107 w28)
         (K (.bool false) w26))
        (K (.bool false) w24))
       (K (.bool false) w4)))
     ((.int .i64 0), ()) w3)))
theorem erratalaw01_WireReads.pt_eq : erratalaw01_WireReads.pt = fun s0 calls1 w K => FN Tryd.prog Tryd.f7 (bodyOf Tryd.f7) [4] (.node none .leaf (.node none .leaf (.node none .leaf (.node none .leaf (.node none .leaf (.node none .leaf (.node none (.node none .leaf (.node none (.node none (.node none .leaf (.node none (.node none (.node none .leaf (.node (some [9]) .leaf .leaf)) .leaf) .leaf)) .leaf) .leaf)) .leaf))))))) [s0, calls1] w K := by kernel_rfl
theorem erratalaw01_WireReads.call {s0 calls1 : Value} {w : World} {K : Value → World → Prop} (h : erratalaw01_WireReads.pt s0 calls1 w K) : Calls Tryd.prog F_erratalaw01_WireReads #[s0, calls1] w (retK K) :=
  calls_FN (args := [s0, calls1]) Tryd.func7 (by kernel_rfl) (by rw [erratalaw01_WireReads.pt_eq] at h; exact h)
theorem erratalaw01_WireReads.up {s0 calls1 : Value} {w : World} {K : Value → World → Prop} (h : Calls Tryd.prog F_erratalaw01_WireReads #[s0, calls1] w (retK K)) : upK Tryd.prog (sCall F_erratalaw01_WireReads #[s0, calls1]) w K :=
  up_call (fn := Tryd.f7) Tryd.func7 (by kernel_rfl) (by kernel_rfl) h

/-- errata/erratalaw01.WireBack -/
def erratalaw01_WireBack.pt (l0 tail1 : Value) (w : World) (K : Value → World → Prop) : Prop :=
  upK Tryd.prog (sCall F_erratalaw01_small #[]) w fun t12 w1 =>
  upK Tryd.prog (sCall F_erratalaw01_few #[l0]) w1 fun t14 w2 =>
  pureK Tryd.prog (sUn .not t14) fun t15 =>
  ifB t15
  (K t12 w2)
  (readK Tryd.prog (sBlt .len #[T_string] T_int #[false] #[tail1]) w2 fun t18 =>
   pureK Tryd.prog (sBin .gtr T_int (.tmp 18) (.const (.int .i64 400)) t18 (.int .i64 400)) fun t19 =>
   ifB t19
   (K t12 w2)
   (LOOP (X := Value × Value × Unit) (fun x3 w3 next3 =>
     readK Tryd.prog (sBlt .len #[T_s_erratalaw01_Value] T_int #[false] #[l0]) w3 fun t24 =>
     pureK Tryd.prog (sBin .lss T_int (.tmp 22) (.tmp 24) x3.2.1 t24) fun t25 =>
     ifB t25
     (pureK Tryd.prog (sIdxAddr T_s_erratalaw01_Value l0 x3.2.1) fun t31 =>
      readK Tryd.prog (sLoad T_erratalaw01_Value t31) w3 fun t32 =>
      upK Tryd.prog (sCall F_erratalaw01_write #[t32]) w3 fun t33 w4 =>
      pureK Tryd.prog (sBin .add T_string (.tmp 28) (.tmp 33) x3.1 t33) fun t34 =>
      pureK Tryd.prog (sBin .add T_int (.tmp 26) (.const (.int .i64 1)) x3.2.1 (.int .i64 1)) fun t27 =>
      next3 (t34, t27, ()) w4)
     (pureK Tryd.prog (sBin .add T_string (.tmp 35) (.tmp 36) x3.1 tail1) fun t37 =>
      upK Tryd.prog (sCall F_wire_Open #[t37]) w3 fun t38 w5 =>
      pureK Tryd.prog (sBin .eql T_p_wire_Reader (.tmp 39) (.const (.pointer none)) t38 (.pointer none)) fun t40 =>
      ifB t40
      (K (.bool false) w5)
      (LOOP (X := Value × Unit) (fun x6 w6 next6 =>
        readK Tryd.prog (sBlt .len #[T_s_erratalaw01_Value] T_int #[false] #[l0]) w6 fun t43 =>
        pureK Tryd.prog (sBin .lss T_int (.tmp 41) (.tmp 43) x6.1 t43) fun t44 =>
        ifB t44
        (pureK Tryd.prog (sIdxAddr T_s_erratalaw01_Value l0 x6.1) fun t50 =>
         readK Tryd.prog (sLoad T_erratalaw01_Value t50) w6 fun t51 =>
         upK Tryd.prog (sCall F_erratalaw01_equal #[t38, t51]) w6 fun t52 w7 =>
         pureK Tryd.prog (sUn .not t52) fun t53 =>
         ifB t53
         (K (.bool false) w7)
         (pureK Tryd.prog (sBin .add T_int (.tmp 45) (.const (.int .i64 1)) x6.1 (.int .i64 1)) fun t46 =>
          next6 (t46, ()) w7))
        (upK Tryd.prog (sCall F_wire_Reader_Left #[t38]) w6 fun t55 w8 =>
         upK Tryd.prog (sCall F_wire_Reader_Done #[t38]) w8 fun t57 w9 =>
         ifB t12
         (readK Tryd.prog (sBlt .len #[T_string] T_int #[false] #[tail1]) w9 fun t62 =>
          pureK Tryd.prog (sBin .eql T_int (.tmp 60) (.tmp 62) t55 t62) fun t63 =>
          ifB t63
          (pureK Tryd.prog (sBin .eql T_string (.tmp 67) (.const (.string ⟨#[]⟩)) tail1 (.string ⟨#[]⟩)) fun t68 =>
           pureK Tryd.prog (sBin .eql T_bool (.tmp 66) (.tmp 68) t57 t68) fun t69 =>
           ifB t69
           (upK Tryd.prog (sCall F_wire_Reader_Rest #[t38]) w9 fun t73 w10 =>
            pureK Tryd.prog (sBin .eql T_string (.tmp 73) (.tmp 74) t73 tail1) fun t75 =>
            ifB t75
            (upK Tryd.prog (sCall F_wire_Reader_Done #[t38]) w10 fun t79 w11 =>
             ifB t79
             (upK Tryd.prog (sCall F_wire_Reader_Left #[t38]) w11 fun t83 w12 =>
              pureK Tryd.prog (sBin .eql T_int (.tmp 83) (.const (.int .i64 0)) t83 (.int .i64 0)) fun t84 =>
              K t84 w12)
             (K (.bool false) w11))
            (K (.bool false) w10))
           (K (.bool false) w9))
          (K (.bool false) w9))
         (K (.bool false) w9)))
       ((.int .i64 0), ()) w5)))
    ((.string ⟨#[]⟩), (.int .i64 0), ()) w2))
theorem erratalaw01_WireBack.pt_eq : erratalaw01_WireBack.pt = fun l0 tail1 w K => FN Tryd.prog Tryd.f8 (bodyOf Tryd.f8) [4] .leaf [l0, tail1] w K := by kernel_rfl
theorem erratalaw01_WireBack.call {l0 tail1 : Value} {w : World} {K : Value → World → Prop} (h : erratalaw01_WireBack.pt l0 tail1 w K) : Calls Tryd.prog F_erratalaw01_WireBack #[l0, tail1] w (retK K) :=
  calls_FN (args := [l0, tail1]) Tryd.func8 (by kernel_rfl) (by rw [erratalaw01_WireBack.pt_eq] at h; exact h)
theorem erratalaw01_WireBack.up {l0 tail1 : Value} {w : World} {K : Value → World → Prop} (h : Calls Tryd.prog F_erratalaw01_WireBack #[l0, tail1] w (retK K)) : upK Tryd.prog (sCall F_erratalaw01_WireBack #[l0, tail1]) w K :=
  up_call (fn := Tryd.f8) Tryd.func8 (by kernel_rfl) (by kernel_rfl) h

/-- errata/erratalaw01.small -/
def erratalaw01_small.pt (w : World) (K : Value → World → Prop) : Prop :=
  upK Tryd.prog (sCall F_wire_Num #[(.int .i64 0)]) w fun t5 w1 =>
  pureK Tryd.prog (sBin .eql T_string (.tmp 5) (.const (.string ⟨#[48, 59]⟩)) t5 (.string ⟨#[48, 59]⟩)) fun t6 =>
  ifB t6
  (upK Tryd.prog (sCall F_wire_Num #[(.int .i64 300)]) w1 fun t8 w2 =>
   pureK Tryd.prog (sBin .eql T_string (.tmp 8) (.const (.string ⟨#[51, 48, 48, 59]⟩)) t8 (.string ⟨#[51, 48, 48, 59]⟩)) fun t9 =>
   ifB t9
   (upK Tryd.prog (sCall F_wire_Num #[(.int .i64 (-1))]) w2 fun t12 w3 =>
    pureK Tryd.prog (sBin .eql T_string (.tmp 12) (.const (.string ⟨#[]⟩)) t12 (.string ⟨#[]⟩)) fun t13 =>
    ifB t13
    (upK Tryd.prog (sCall F_wire_Int #[(.int .i64 (-7))]) w3 fun t16 w4 =>
     pureK Tryd.prog (sBin .eql T_string (.tmp 16) (.const (.string ⟨#[45, 55, 59]⟩)) t16 (.string ⟨#[45, 55, 59]⟩)) fun t17 =>
     ifB t17
     (upK Tryd.prog (sCall F_wire_Int #[(.int .i64 7)]) w4 fun t20 w5 =>
      pureK Tryd.prog (sBin .eql T_string (.tmp 20) (.const (.string ⟨#[55, 59]⟩)) t20 (.string ⟨#[55, 59]⟩)) fun t21 =>
      upK Tryd.prog (sCall F_wire_Text #[(.string ⟨#[97, 44, 98]⟩)]) w5 fun t23 w6 =>
      pureK Tryd.prog (sBin .eql T_string (.tmp 23) (.const (.string ⟨#[51, 58, 97, 44, 98, 44]⟩)) t23 (.string ⟨#[51, 58, 97, 44, 98, 44]⟩)) fun t24 =>
      ifB t24
      (upK Tryd.prog (sBuildSlice T_s_int 2 #[(0, (.int .i64 1)), (1, (.int .i64 (-1)))]) w6 fun t26 w7 =>
       upK Tryd.prog (sCall F_wire_Nums #[t26]) w7 fun t27 w8 =>
       pureK Tryd.prog (sBin .eql T_string (.tmp 27) (.const (.string ⟨#[50, 91, 49, 59, 45, 49, 59, 93]⟩)) t27 (.string ⟨#[50, 91, 49, 59, 45, 49, 59, 93]⟩)) fun t28 =>
       ifB t28
       (upK Tryd.prog (sCall F_wire_Texts #[(.slice none 0 0)]) w8 fun t31 w9 =>
        pureK Tryd.prog (sBin .eql T_string (.tmp 31) (.const (.string ⟨#[48, 91, 93]⟩)) t31 (.string ⟨#[48, 91, 93]⟩)) fun t32 =>
        upK Tryd.prog (sCall F_wire_Open #[(.string ⟨#[48, 48, 55, 59]⟩)]) w9 fun t34 w10 =>
        pureK Tryd.prog (sBin .eql T_p_wire_Reader (.tmp 35) (.const (.pointer none)) t34 (.pointer none)) fun t36 =>
        ifB t36
        (K (.bool false) w10)
        (upK Tryd.prog (sCall F_wire_Reader_Num #[t34]) w10 fun t38 w11 =>
         ifB t21
         (ifB t32
          (pureK Tryd.prog (sBin .eql T_int (.tmp 44) (.const (.int .i64 0)) t38 (.int .i64 0)) fun t45 =>
           ifB t45
           (upK Tryd.prog (sCall F_wire_Reader_Left #[t34]) w11 fun t49 w12 =>
            pureK Tryd.prog (sBin .eql T_int (.tmp 49) (.const (.int .i64 0)) t49 (.int .i64 0)) fun t50 =>
            ifB t50
            (upK Tryd.prog (sCall F_wire_Reader_Done #[t34]) w12 fun t54 w13 =>
             pureK Tryd.prog (sUn .not t54) fun t55 =>
             K t55 w13)
            (K (.bool false) w12))
           (K (.bool false) w11))
          (K (.bool false) w11))
         (K (.bool false) w11)))
       (upK Tryd.prog (sCall F_wire_Open #[(.string ⟨#[48, 48, 55, 59]⟩)]) w8 fun t34_1 w14 =>
        pureK Tryd.prog (sBin .eql T_p_wire_Reader (.tmp 35) (.const (.pointer none)) t34_1 (.pointer none)) fun t36_1 =>
        ifB t36_1
        (K (.bool false) w14)
        (upK Tryd.prog (sCall F_wire_Reader_Num #[t34_1]) w14 fun t38_1 w15 =>
         ifB t21
         (ifB (.bool false)
          (pureK Tryd.prog (sBin .eql T_int (.tmp 44) (.const (.int .i64 0)) t38_1 (.int .i64 0)) fun t45_1 =>
           ifB t45_1
           (upK Tryd.prog (sCall F_wire_Reader_Left #[t34_1]) w15 fun t49_1 w16 =>
            pureK Tryd.prog (sBin .eql T_int (.tmp 49) (.const (.int .i64 0)) t49_1 (.int .i64 0)) fun t50_1 =>
            ifB t50_1
            (upK Tryd.prog (sCall F_wire_Reader_Done #[t34_1]) w16 fun t54_1 w17 =>
             pureK Tryd.prog (sUn .not t54_1) fun t55_1 =>
             K t55_1 w17)
            (K (.bool false) w16))
           (K (.bool false) w15))
          (K (.bool false) w15))
         (K (.bool false) w15))))
      (upK Tryd.prog (sCall F_wire_Open #[(.string ⟨#[48, 48, 55, 59]⟩)]) w6 fun t34_2 w18 =>
       pureK Tryd.prog (sBin .eql T_p_wire_Reader (.tmp 35) (.const (.pointer none)) t34_2 (.pointer none)) fun t36_2 =>
       ifB t36_2
       (K (.bool false) w18)
       (upK Tryd.prog (sCall F_wire_Reader_Num #[t34_2]) w18 fun t38_2 w19 =>
        ifB t21
        (ifB (.bool false)
         (pureK Tryd.prog (sBin .eql T_int (.tmp 44) (.const (.int .i64 0)) t38_2 (.int .i64 0)) fun t45_2 =>
          ifB t45_2
          (upK Tryd.prog (sCall F_wire_Reader_Left #[t34_2]) w19 fun t49_2 w20 =>
           pureK Tryd.prog (sBin .eql T_int (.tmp 49) (.const (.int .i64 0)) t49_2 (.int .i64 0)) fun t50_2 =>
           ifB t50_2
           (upK Tryd.prog (sCall F_wire_Reader_Done #[t34_2]) w20 fun t54_2 w21 =>
            pureK Tryd.prog (sUn .not t54_2) fun t55_2 =>
            K t55_2 w21)
           (K (.bool false) w20))
          (K (.bool false) w19))
         (K (.bool false) w19))
        (K (.bool false) w19))))
     (upK Tryd.prog (sCall F_wire_Text #[(.string ⟨#[97, 44, 98]⟩)]) w4 fun t23_1 w22 =>
      pureK Tryd.prog (sBin .eql T_string (.tmp 23) (.const (.string ⟨#[51, 58, 97, 44, 98, 44]⟩)) t23_1 (.string ⟨#[51, 58, 97, 44, 98, 44]⟩)) fun t24_1 =>
      ifB t24_1
      (upK Tryd.prog (sBuildSlice T_s_int 2 #[(0, (.int .i64 1)), (1, (.int .i64 (-1)))]) w22 fun t26_1 w23 =>
       upK Tryd.prog (sCall F_wire_Nums #[t26_1]) w23 fun t27_1 w24 =>
       pureK Tryd.prog (sBin .eql T_string (.tmp 27) (.const (.string ⟨#[50, 91, 49, 59, 45, 49, 59, 93]⟩)) t27_1 (.string ⟨#[50, 91, 49, 59, 45, 49, 59, 93]⟩)) fun t28_1 =>
       ifB t28_1
       (upK Tryd.prog (sCall F_wire_Texts #[(.slice none 0 0)]) w24 fun t31_1 w25 =>
        pureK Tryd.prog (sBin .eql T_string (.tmp 31) (.const (.string ⟨#[48, 91, 93]⟩)) t31_1 (.string ⟨#[48, 91, 93]⟩)) fun t32_1 =>
        upK Tryd.prog (sCall F_wire_Open #[(.string ⟨#[48, 48, 55, 59]⟩)]) w25 fun t34_3 w26 =>
        pureK Tryd.prog (sBin .eql T_p_wire_Reader (.tmp 35) (.const (.pointer none)) t34_3 (.pointer none)) fun t36_3 =>
        ifB t36_3
        (K (.bool false) w26)
        (upK Tryd.prog (sCall F_wire_Reader_Num #[t34_3]) w26 fun t38_3 w27 =>
         ifB (.bool false)
         (ifB t32_1
          (pureK Tryd.prog (sBin .eql T_int (.tmp 44) (.const (.int .i64 0)) t38_3 (.int .i64 0)) fun t45_3 =>
           ifB t45_3
           (upK Tryd.prog (sCall F_wire_Reader_Left #[t34_3]) w27 fun t49_3 w28 =>
            pureK Tryd.prog (sBin .eql T_int (.tmp 49) (.const (.int .i64 0)) t49_3 (.int .i64 0)) fun t50_3 =>
            ifB t50_3
            (upK Tryd.prog (sCall F_wire_Reader_Done #[t34_3]) w28 fun t54_3 w29 =>
             pureK Tryd.prog (sUn .not t54_3) fun t55_3 =>
             K t55_3 w29)
            (K (.bool false) w28))
           (K (.bool false) w27))
          (K (.bool false) w27))
         (K (.bool false) w27)))
       (upK Tryd.prog (sCall F_wire_Open #[(.string ⟨#[48, 48, 55, 59]⟩)]) w24 fun t34_4 w30 =>
        pureK Tryd.prog (sBin .eql T_p_wire_Reader (.tmp 35) (.const (.pointer none)) t34_4 (.pointer none)) fun t36_4 =>
        ifB t36_4
        (K (.bool false) w30)
        (upK Tryd.prog (sCall F_wire_Reader_Num #[t34_4]) w30 fun t38_4 w31 =>
         ifB (.bool false)
         (ifB (.bool false)
          (pureK Tryd.prog (sBin .eql T_int (.tmp 44) (.const (.int .i64 0)) t38_4 (.int .i64 0)) fun t45_4 =>
           ifB t45_4
           (upK Tryd.prog (sCall F_wire_Reader_Left #[t34_4]) w31 fun t49_4 w32 =>
            pureK Tryd.prog (sBin .eql T_int (.tmp 49) (.const (.int .i64 0)) t49_4 (.int .i64 0)) fun t50_4 =>
            ifB t50_4
            (upK Tryd.prog (sCall F_wire_Reader_Done #[t34_4]) w32 fun t54_4 w33 =>
             pureK Tryd.prog (sUn .not t54_4) fun t55_4 =>
             K t55_4 w33)
            (K (.bool false) w32))
           (K (.bool false) w31))
          (K (.bool false) w31))
         (K (.bool false) w31))))
      (upK Tryd.prog (sCall F_wire_Open #[(.string ⟨#[48, 48, 55, 59]⟩)]) w22 fun t34_5 w34 =>
       pureK Tryd.prog (sBin .eql T_p_wire_Reader (.tmp 35) (.const (.pointer none)) t34_5 (.pointer none)) fun t36_5 =>
       ifB t36_5
       (K (.bool false) w34)
       (upK Tryd.prog (sCall F_wire_Reader_Num #[t34_5]) w34 fun t38_5 w35 =>
        ifB (.bool false)
        (ifB (.bool false)
         (pureK Tryd.prog (sBin .eql T_int (.tmp 44) (.const (.int .i64 0)) t38_5 (.int .i64 0)) fun t45_5 =>
          ifB t45_5
          (upK Tryd.prog (sCall F_wire_Reader_Left #[t34_5]) w35 fun t49_5 w36 =>
           pureK Tryd.prog (sBin .eql T_int (.tmp 49) (.const (.int .i64 0)) t49_5 (.int .i64 0)) fun t50_5 =>
           ifB t50_5
           (upK Tryd.prog (sCall F_wire_Reader_Done #[t34_5]) w36 fun t54_5 w37 =>
            pureK Tryd.prog (sUn .not t54_5) fun t55_5 =>
            K t55_5 w37)
           (K (.bool false) w36))
          (K (.bool false) w35))
         (K (.bool false) w35))
        (K (.bool false) w35)))))
    (upK Tryd.prog (sCall F_wire_Text #[(.string ⟨#[97, 44, 98]⟩)]) w3 fun t23_2 w38 =>
     pureK Tryd.prog (sBin .eql T_string (.tmp 23) (.const (.string ⟨#[51, 58, 97, 44, 98, 44]⟩)) t23_2 (.string ⟨#[51, 58, 97, 44, 98, 44]⟩)) fun t24_2 =>
     ifB t24_2
     (upK Tryd.prog (sBuildSlice T_s_int 2 #[(0, (.int .i64 1)), (1, (.int .i64 (-1)))]) w38 fun t26_2 w39 =>
      upK Tryd.prog (sCall F_wire_Nums #[t26_2]) w39 fun t27_2 w40 =>
      pureK Tryd.prog (sBin .eql T_string (.tmp 27) (.const (.string ⟨#[50, 91, 49, 59, 45, 49, 59, 93]⟩)) t27_2 (.string ⟨#[50, 91, 49, 59, 45, 49, 59, 93]⟩)) fun t28_2 =>
      ifB t28_2
      (upK Tryd.prog (sCall F_wire_Texts #[(.slice none 0 0)]) w40 fun t31_2 w41 =>
       pureK Tryd.prog (sBin .eql T_string (.tmp 31) (.const (.string ⟨#[48, 91, 93]⟩)) t31_2 (.string ⟨#[48, 91, 93]⟩)) fun t32_2 =>
       upK Tryd.prog (sCall F_wire_Open #[(.string ⟨#[48, 48, 55, 59]⟩)]) w41 fun t34_6 w42 =>
       pureK Tryd.prog (sBin .eql T_p_wire_Reader (.tmp 35) (.const (.pointer none)) t34_6 (.pointer none)) fun t36_6 =>
       ifB t36_6
       (K (.bool false) w42)
       (upK Tryd.prog (sCall F_wire_Reader_Num #[t34_6]) w42 fun t38_6 w43 =>
        ifB (.bool false)
        (ifB t32_2
         (pureK Tryd.prog (sBin .eql T_int (.tmp 44) (.const (.int .i64 0)) t38_6 (.int .i64 0)) fun t45_6 =>
          ifB t45_6
          (upK Tryd.prog (sCall F_wire_Reader_Left #[t34_6]) w43 fun t49_6 w44 =>
           pureK Tryd.prog (sBin .eql T_int (.tmp 49) (.const (.int .i64 0)) t49_6 (.int .i64 0)) fun t50_6 =>
           ifB t50_6
           (upK Tryd.prog (sCall F_wire_Reader_Done #[t34_6]) w44 fun t54_6 w45 =>
            pureK Tryd.prog (sUn .not t54_6) fun t55_6 =>
            K t55_6 w45)
           (K (.bool false) w44))
          (K (.bool false) w43))
         (K (.bool false) w43))
        (K (.bool false) w43)))
      (upK Tryd.prog (sCall F_wire_Open #[(.string ⟨#[48, 48, 55, 59]⟩)]) w40 fun t34_7 w46 =>
       pureK Tryd.prog (sBin .eql T_p_wire_Reader (.tmp 35) (.const (.pointer none)) t34_7 (.pointer none)) fun t36_7 =>
       ifB t36_7
       (K (.bool false) w46)
       (upK Tryd.prog (sCall F_wire_Reader_Num #[t34_7]) w46 fun t38_7 w47 =>
        ifB (.bool false)
        (ifB (.bool false)
         (pureK Tryd.prog (sBin .eql T_int (.tmp 44) (.const (.int .i64 0)) t38_7 (.int .i64 0)) fun t45_7 =>
          ifB t45_7
          (upK Tryd.prog (sCall F_wire_Reader_Left #[t34_7]) w47 fun t49_7 w48 =>
           pureK Tryd.prog (sBin .eql T_int (.tmp 49) (.const (.int .i64 0)) t49_7 (.int .i64 0)) fun t50_7 =>
           ifB t50_7
           (upK Tryd.prog (sCall F_wire_Reader_Done #[t34_7]) w48 fun t54_7 w49 =>
            pureK Tryd.prog (sUn .not t54_7) fun t55_7 =>
            K t55_7 w49)
           (K (.bool false) w48))
          (K (.bool false) w47))
         (K (.bool false) w47))
        (K (.bool false) w47))))
     (upK Tryd.prog (sCall F_wire_Open #[(.string ⟨#[48, 48, 55, 59]⟩)]) w38 fun t34_8 w50 =>
      pureK Tryd.prog (sBin .eql T_p_wire_Reader (.tmp 35) (.const (.pointer none)) t34_8 (.pointer none)) fun t36_8 =>
      ifB t36_8
      (K (.bool false) w50)
      (upK Tryd.prog (sCall F_wire_Reader_Num #[t34_8]) w50 fun t38_8 w51 =>
       ifB (.bool false)
       (ifB (.bool false)
        (pureK Tryd.prog (sBin .eql T_int (.tmp 44) (.const (.int .i64 0)) t38_8 (.int .i64 0)) fun t45_8 =>
         ifB t45_8
         (upK Tryd.prog (sCall F_wire_Reader_Left #[t34_8]) w51 fun t49_8 w52 =>
          pureK Tryd.prog (sBin .eql T_int (.tmp 49) (.const (.int .i64 0)) t49_8 (.int .i64 0)) fun t50_8 =>
          ifB t50_8
          (upK Tryd.prog (sCall F_wire_Reader_Done #[t34_8]) w52 fun t54_8 w53 =>
           pureK Tryd.prog (sUn .not t54_8) fun t55_8 =>
           K t55_8 w53)
          (K (.bool false) w52))
         (K (.bool false) w51))
        (K (.bool false) w51))
       (K (.bool false) w51)))))
   (upK Tryd.prog (sCall F_wire_Text #[(.string ⟨#[97, 44, 98]⟩)]) w2 fun t23_3 w54 =>
    pureK Tryd.prog (sBin .eql T_string (.tmp 23) (.const (.string ⟨#[51, 58, 97, 44, 98, 44]⟩)) t23_3 (.string ⟨#[51, 58, 97, 44, 98, 44]⟩)) fun t24_3 =>
    ifB t24_3
    (upK Tryd.prog (sBuildSlice T_s_int 2 #[(0, (.int .i64 1)), (1, (.int .i64 (-1)))]) w54 fun t26_3 w55 =>
     upK Tryd.prog (sCall F_wire_Nums #[t26_3]) w55 fun t27_3 w56 =>
     pureK Tryd.prog (sBin .eql T_string (.tmp 27) (.const (.string ⟨#[50, 91, 49, 59, 45, 49, 59, 93]⟩)) t27_3 (.string ⟨#[50, 91, 49, 59, 45, 49, 59, 93]⟩)) fun t28_3 =>
     ifB t28_3
     (upK Tryd.prog (sCall F_wire_Texts #[(.slice none 0 0)]) w56 fun t31_3 w57 =>
      pureK Tryd.prog (sBin .eql T_string (.tmp 31) (.const (.string ⟨#[48, 91, 93]⟩)) t31_3 (.string ⟨#[48, 91, 93]⟩)) fun t32_3 =>
      upK Tryd.prog (sCall F_wire_Open #[(.string ⟨#[48, 48, 55, 59]⟩)]) w57 fun t34_9 w58 =>
      pureK Tryd.prog (sBin .eql T_p_wire_Reader (.tmp 35) (.const (.pointer none)) t34_9 (.pointer none)) fun t36_9 =>
      ifB t36_9
      (K (.bool false) w58)
      (upK Tryd.prog (sCall F_wire_Reader_Num #[t34_9]) w58 fun t38_9 w59 =>
       ifB (.bool false)
       (ifB t32_3
        (pureK Tryd.prog (sBin .eql T_int (.tmp 44) (.const (.int .i64 0)) t38_9 (.int .i64 0)) fun t45_9 =>
         ifB t45_9
         (upK Tryd.prog (sCall F_wire_Reader_Left #[t34_9]) w59 fun t49_9 w60 =>
          pureK Tryd.prog (sBin .eql T_int (.tmp 49) (.const (.int .i64 0)) t49_9 (.int .i64 0)) fun t50_9 =>
          ifB t50_9
          (upK Tryd.prog (sCall F_wire_Reader_Done #[t34_9]) w60 fun t54_9 w61 =>
           pureK Tryd.prog (sUn .not t54_9) fun t55_9 =>
           K t55_9 w61)
          (K (.bool false) w60))
         (K (.bool false) w59))
        (K (.bool false) w59))
       (K (.bool false) w59)))
     (upK Tryd.prog (sCall F_wire_Open #[(.string ⟨#[48, 48, 55, 59]⟩)]) w56 fun t34_10 w62 =>
      pureK Tryd.prog (sBin .eql T_p_wire_Reader (.tmp 35) (.const (.pointer none)) t34_10 (.pointer none)) fun t36_10 =>
      ifB t36_10
      (K (.bool false) w62)
      (upK Tryd.prog (sCall F_wire_Reader_Num #[t34_10]) w62 fun t38_10 w63 =>
       ifB (.bool false)
       (ifB (.bool false)
        (pureK Tryd.prog (sBin .eql T_int (.tmp 44) (.const (.int .i64 0)) t38_10 (.int .i64 0)) fun t45_10 =>
         ifB t45_10
         (upK Tryd.prog (sCall F_wire_Reader_Left #[t34_10]) w63 fun t49_10 w64 =>
          pureK Tryd.prog (sBin .eql T_int (.tmp 49) (.const (.int .i64 0)) t49_10 (.int .i64 0)) fun t50_10 =>
          ifB t50_10
          (upK Tryd.prog (sCall F_wire_Reader_Done #[t34_10]) w64 fun t54_10 w65 =>
           pureK Tryd.prog (sUn .not t54_10) fun t55_10 =>
           K t55_10 w65)
          (K (.bool false) w64))
         (K (.bool false) w63))
        (K (.bool false) w63))
       (K (.bool false) w63))))
    (upK Tryd.prog (sCall F_wire_Open #[(.string ⟨#[48, 48, 55, 59]⟩)]) w54 fun t34_11 w66 =>
     pureK Tryd.prog (sBin .eql T_p_wire_Reader (.tmp 35) (.const (.pointer none)) t34_11 (.pointer none)) fun t36_11 =>
     ifB t36_11
     (K (.bool false) w66)
     (upK Tryd.prog (sCall F_wire_Reader_Num #[t34_11]) w66 fun t38_11 w67 =>
      ifB (.bool false)
      (ifB (.bool false)
       (pureK Tryd.prog (sBin .eql T_int (.tmp 44) (.const (.int .i64 0)) t38_11 (.int .i64 0)) fun t45_11 =>
        ifB t45_11
        (upK Tryd.prog (sCall F_wire_Reader_Left #[t34_11]) w67 fun t49_11 w68 =>
         pureK Tryd.prog (sBin .eql T_int (.tmp 49) (.const (.int .i64 0)) t49_11 (.int .i64 0)) fun t50_11 =>
         ifB t50_11
         (upK Tryd.prog (sCall F_wire_Reader_Done #[t34_11]) w68 fun t54_11 w69 =>
          pureK Tryd.prog (sUn .not t54_11) fun t55_11 =>
          K t55_11 w69)
         (K (.bool false) w68))
        (K (.bool false) w67))
       (K (.bool false) w67))
      (K (.bool false) w67)))))
  (upK Tryd.prog (sCall F_wire_Text #[(.string ⟨#[97, 44, 98]⟩)]) w1 fun t23_4 w70 =>
   pureK Tryd.prog (sBin .eql T_string (.tmp 23) (.const (.string ⟨#[51, 58, 97, 44, 98, 44]⟩)) t23_4 (.string ⟨#[51, 58, 97, 44, 98, 44]⟩)) fun t24_4 =>
   ifB t24_4
   (upK Tryd.prog (sBuildSlice T_s_int 2 #[(0, (.int .i64 1)), (1, (.int .i64 (-1)))]) w70 fun t26_4 w71 =>
    upK Tryd.prog (sCall F_wire_Nums #[t26_4]) w71 fun t27_4 w72 =>
    pureK Tryd.prog (sBin .eql T_string (.tmp 27) (.const (.string ⟨#[50, 91, 49, 59, 45, 49, 59, 93]⟩)) t27_4 (.string ⟨#[50, 91, 49, 59, 45, 49, 59, 93]⟩)) fun t28_4 =>
    ifB t28_4
    (upK Tryd.prog (sCall F_wire_Texts #[(.slice none 0 0)]) w72 fun t31_4 w73 =>
     pureK Tryd.prog (sBin .eql T_string (.tmp 31) (.const (.string ⟨#[48, 91, 93]⟩)) t31_4 (.string ⟨#[48, 91, 93]⟩)) fun t32_4 =>
     upK Tryd.prog (sCall F_wire_Open #[(.string ⟨#[48, 48, 55, 59]⟩)]) w73 fun t34_12 w74 =>
     pureK Tryd.prog (sBin .eql T_p_wire_Reader (.tmp 35) (.const (.pointer none)) t34_12 (.pointer none)) fun t36_12 =>
     ifB t36_12
     (K (.bool false) w74)
     (upK Tryd.prog (sCall F_wire_Reader_Num #[t34_12]) w74 fun t38_12 w75 =>
      ifB (.bool false)
      (ifB t32_4
       (pureK Tryd.prog (sBin .eql T_int (.tmp 44) (.const (.int .i64 0)) t38_12 (.int .i64 0)) fun t45_12 =>
        ifB t45_12
        (upK Tryd.prog (sCall F_wire_Reader_Left #[t34_12]) w75 fun t49_12 w76 =>
         pureK Tryd.prog (sBin .eql T_int (.tmp 49) (.const (.int .i64 0)) t49_12 (.int .i64 0)) fun t50_12 =>
         ifB t50_12
         (upK Tryd.prog (sCall F_wire_Reader_Done #[t34_12]) w76 fun t54_12 w77 =>
          pureK Tryd.prog (sUn .not t54_12) fun t55_12 =>
          K t55_12 w77)
         (K (.bool false) w76))
        (K (.bool false) w75))
       (K (.bool false) w75))
      (K (.bool false) w75)))
    (upK Tryd.prog (sCall F_wire_Open #[(.string ⟨#[48, 48, 55, 59]⟩)]) w72 fun t34_13 w78 =>
     pureK Tryd.prog (sBin .eql T_p_wire_Reader (.tmp 35) (.const (.pointer none)) t34_13 (.pointer none)) fun t36_13 =>
     ifB t36_13
     (K (.bool false) w78)
     (upK Tryd.prog (sCall F_wire_Reader_Num #[t34_13]) w78 fun t38_13 w79 =>
      ifB (.bool false)
      (ifB (.bool false)
       (pureK Tryd.prog (sBin .eql T_int (.tmp 44) (.const (.int .i64 0)) t38_13 (.int .i64 0)) fun t45_13 =>
        ifB t45_13
        (upK Tryd.prog (sCall F_wire_Reader_Left #[t34_13]) w79 fun t49_13 w80 =>
         pureK Tryd.prog (sBin .eql T_int (.tmp 49) (.const (.int .i64 0)) t49_13 (.int .i64 0)) fun t50_13 =>
         ifB t50_13
         (upK Tryd.prog (sCall F_wire_Reader_Done #[t34_13]) w80 fun t54_13 w81 =>
          pureK Tryd.prog (sUn .not t54_13) fun t55_13 =>
          K t55_13 w81)
         (K (.bool false) w80))
        (K (.bool false) w79))
       (K (.bool false) w79))
      (K (.bool false) w79))))
   (upK Tryd.prog (sCall F_wire_Open #[(.string ⟨#[48, 48, 55, 59]⟩)]) w70 fun t34_14 w82 =>
    pureK Tryd.prog (sBin .eql T_p_wire_Reader (.tmp 35) (.const (.pointer none)) t34_14 (.pointer none)) fun t36_14 =>
    ifB t36_14
    (K (.bool false) w82)
    (upK Tryd.prog (sCall F_wire_Reader_Num #[t34_14]) w82 fun t38_14 w83 =>
     ifB (.bool false)
     (ifB (.bool false)
      (pureK Tryd.prog (sBin .eql T_int (.tmp 44) (.const (.int .i64 0)) t38_14 (.int .i64 0)) fun t45_14 =>
       ifB t45_14
       (upK Tryd.prog (sCall F_wire_Reader_Left #[t34_14]) w83 fun t49_14 w84 =>
        pureK Tryd.prog (sBin .eql T_int (.tmp 49) (.const (.int .i64 0)) t49_14 (.int .i64 0)) fun t50_14 =>
        ifB t50_14
        (upK Tryd.prog (sCall F_wire_Reader_Done #[t34_14]) w84 fun t54_14 w85 =>
         pureK Tryd.prog (sUn .not t54_14) fun t55_14 =>
         K t55_14 w85)
        (K (.bool false) w84))
       (K (.bool false) w83))
      (K (.bool false) w83))
     (K (.bool false) w83))))
theorem erratalaw01_small.pt_eq : erratalaw01_small.pt = fun  w K => FN Tryd.prog Tryd.f9 (bodyOf Tryd.f9) [0] .leaf [] w K := by kernel_rfl
theorem erratalaw01_small.call {w : World} {K : Value → World → Prop} (h : erratalaw01_small.pt  w K) : Calls Tryd.prog F_erratalaw01_small #[] w (retK K) :=
  calls_FN (args := []) Tryd.func9 (by kernel_rfl) (by rw [erratalaw01_small.pt_eq] at h; exact h)
theorem erratalaw01_small.up {w : World} {K : Value → World → Prop} (h : Calls Tryd.prog F_erratalaw01_small #[] w (retK K)) : upK Tryd.prog (sCall F_erratalaw01_small #[]) w K :=
  up_call (fn := Tryd.f9) Tryd.func9 (by kernel_rfl) (by kernel_rfl) h

/-- errata/erratalaw01.few -/
def erratalaw01_few.pt (l0 : Value) (w : World) (K : Value → World → Prop) : Prop :=
  readK Tryd.prog (sBlt .len #[T_s_erratalaw01_Value] T_int #[false] #[l0]) w fun t7 =>
  pureK Tryd.prog (sBin .gtr T_int (.tmp 7) (.const (.int .i64 20)) t7 (.int .i64 20)) fun t8 =>
  ifB t8
  (K (.bool false) w)
  (LOOP (X := Value × Value × Unit) (fun x1 w1 next1 =>
    readK Tryd.prog (sBlt .len #[T_s_erratalaw01_Value] T_int #[false] #[l0]) w1 fun t11 =>
    pureK Tryd.prog (sBin .lss T_int (.tmp 9) (.tmp 11) x1.2.1 t11) fun t12 =>
    ifB t12
    (LETJ (X := Value × Unit) (fun y1 w2 =>
      pureK Tryd.prog (sBin .add T_int (.tmp 13) (.const (.int .i64 1)) x1.2.1 (.int .i64 1)) fun t14 =>
      next1 (y1.1, t14, ()) w2)
     (fun J1 =>
      pureK Tryd.prog (sIdxAddr T_s_erratalaw01_Value l0 x1.2.1) fun t17 =>
      pureK Tryd.prog (sFieldAddr T_erratalaw01_Value t17 3) fun t18 =>
      readK Tryd.prog (sLoad T_s_int t18) w1 fun t19 =>
      readK Tryd.prog (sBlt .len #[T_s_int] T_int #[false] #[t19]) w1 fun t20 =>
      pureK Tryd.prog (sBin .gtr T_int (.tmp 20) (.const (.int .i64 400)) t20 (.int .i64 400)) fun t21 =>
      ifB t21
      (K (.bool false) w1)
      (pureK Tryd.prog (sIdxAddr T_s_erratalaw01_Value l0 x1.2.1) fun t25 =>
       pureK Tryd.prog (sFieldAddr T_erratalaw01_Value t25 4) fun t26 =>
       readK Tryd.prog (sLoad T_s_string t26) w1 fun t27 =>
       readK Tryd.prog (sBlt .len #[T_s_string] T_int #[false] #[t27]) w1 fun t28 =>
       pureK Tryd.prog (sBin .gtr T_int (.tmp 28) (.const (.int .i64 400)) t28 (.int .i64 400)) fun t29 =>
       ifB t29
       (K (.bool false) w1)
       (pureK Tryd.prog (sIdxAddr T_s_erratalaw01_Value l0 x1.2.1) fun t34 =>
        pureK Tryd.prog (sFieldAddr T_erratalaw01_Value t34 2) fun t35 =>
        readK Tryd.prog (sLoad T_string t35) w1 fun t36 =>
        readK Tryd.prog (sBlt .len #[T_string] T_int #[false] #[t36]) w1 fun t37 =>
        pureK Tryd.prog (sBin .gtr T_int (.tmp 37) (.const (.int .i64 400)) t37 (.int .i64 400)) fun t38 =>
        ifB t38
        (K (.bool false) w1)
        (pureK Tryd.prog (sIdxAddr T_s_erratalaw01_Value l0 x1.2.1) fun t43 =>
         pureK Tryd.prog (sFieldAddr T_erratalaw01_Value t43 2) fun t44 =>
         readK Tryd.prog (sLoad T_string t44) (tick w1) fun t45 =>
         readK Tryd.prog (sBlt .len #[T_string] T_int #[false] #[t45]) (tick w1) fun t46 =>
         pureK Tryd.prog (sBin .add T_int (.tmp 40) (.tmp 46) x1.1 t46) fun t47 =>
         pureK Tryd.prog (sIdxAddr T_s_erratalaw01_Value l0 x1.2.1) fun t50 =>
         pureK Tryd.prog (sFieldAddr T_erratalaw01_Value t50 3) fun t51 =>
         readK Tryd.prog (sLoad T_s_int t51) (tick w1) fun t52 =>
         readK Tryd.prog (sBlt .len #[T_s_int] T_int #[false] #[t52]) (tick w1) fun t53 =>
         pureK Tryd.prog (sBin .add T_int (.tmp 47) (.tmp 53) t47 t53) fun t54 =>
         pureK Tryd.prog (sIdxAddr T_s_erratalaw01_Value l0 x1.2.1) fun t57 =>
         pureK Tryd.prog (sFieldAddr T_erratalaw01_Value t57 4) fun t58 =>
         readK Tryd.prog (sLoad T_s_string t58) (tick w1) fun t59 =>
         readK Tryd.prog (sBlt .len #[T_s_string] T_int #[false] #[t59]) (tick w1) fun t60 =>
         pureK Tryd.prog (sBin .add T_int (.tmp 54) (.tmp 60) t54 t60) fun t61 =>
         LOOP (X := Value × Value × Unit) (fun x3 w3 next3 =>
          pureK Tryd.prog (sIdxAddr T_s_erratalaw01_Value l0 x1.2.1) fun t65 =>
          pureK Tryd.prog (sFieldAddr T_erratalaw01_Value t65 4) fun t66 =>
          readK Tryd.prog (sLoad T_s_string t66) w3 fun t67 =>
          readK Tryd.prog (sBlt .len #[T_s_string] T_int #[false] #[t67]) w3 fun t68 =>
          pureK Tryd.prog (sBin .lss T_int (.tmp 62) (.tmp 68) x3.2.1 t68) fun t69 =>
          ifB t69
          (pureK Tryd.prog (sIdxAddr T_s_erratalaw01_Value l0 x1.2.1) fun t74 =>
           pureK Tryd.prog (sFieldAddr T_erratalaw01_Value t74 4) fun t75 =>
           readK Tryd.prog (sLoad T_s_string t75) w3 fun t76 =>
           pureK Tryd.prog (sIdxAddr T_s_string t76 x3.2.1) fun t78 =>
           readK Tryd.prog (sLoad T_string t78) w3 fun t79 =>
           readK Tryd.prog (sBlt .len #[T_string] T_int #[false] #[t79]) w3 fun t80 =>
           pureK Tryd.prog (sBin .gtr T_int (.tmp 80) (.const (.int .i64 400)) t80 (.int .i64 400)) fun t81 =>
           ifB t81
           (K (.bool false) w3)
           (pureK Tryd.prog (sIdxAddr T_s_erratalaw01_Value l0 x1.2.1) fun t85 =>
            pureK Tryd.prog (sFieldAddr T_erratalaw01_Value t85 4) fun t86 =>
            readK Tryd.prog (sLoad T_s_string t86) w3 fun t87 =>
            pureK Tryd.prog (sIdxAddr T_s_string t87 x3.2.1) fun t89 =>
            readK Tryd.prog (sLoad T_string t89) w3 fun t90 =>
            readK Tryd.prog (sBlt .len #[T_string] T_int #[false] #[t90]) w3 fun t91 =>
            pureK Tryd.prog (sBin .add T_int (.tmp 82) (.tmp 91) x3.1 t91) fun t92 =>
            pureK Tryd.prog (sBin .add T_int (.tmp 70) (.const (.int .i64 1)) x3.2.1 (.int .i64 1)) fun t71 =>
            next3 (t92, t71, ()) w3))
          (J1 (x3.1, ()) w3))
         (t61, (.int .i64 0), ()) (tick w1))))))
    (pureK Tryd.prog (sBin .leq T_int (.tmp 93) (.const (.int .i64 400)) x1.1 (.int .i64 400)) fun t94 =>
     K t94 w1))
   ((.int .i64 0), (.int .i64 0), ()) w)
theorem erratalaw01_few.pt_eq : erratalaw01_few.pt = fun l0 w K => FN Tryd.prog Tryd.f10 (bodyOf Tryd.f10) [2] (.node none .leaf (.node none .leaf (.node none .leaf (.node none (.node none .leaf (.node none (.node none (.node none .leaf (.node (some [3]) .leaf .leaf)) .leaf) .leaf)) .leaf)))) [l0] w K := by kernel_rfl
theorem erratalaw01_few.call {l0 : Value} {w : World} {K : Value → World → Prop} (h : erratalaw01_few.pt l0 w K) : Calls Tryd.prog F_erratalaw01_few #[l0] w (retK K) :=
  calls_FN (args := [l0]) Tryd.func10 (by kernel_rfl) (by rw [erratalaw01_few.pt_eq] at h; exact h)
theorem erratalaw01_few.up {l0 : Value} {w : World} {K : Value → World → Prop} (h : Calls Tryd.prog F_erratalaw01_few #[l0] w (retK K)) : upK Tryd.prog (sCall F_erratalaw01_few #[l0]) w K :=
  up_call (fn := Tryd.f10) Tryd.func10 (by kernel_rfl) (by kernel_rfl) h

/-- errata/wire.Num -/
def wire_Num.pt (n0 : Value) (w : World) (K : Value → World → Prop) : Prop :=
  pureK Tryd.prog (sBin .lss T_int (.tmp 3) (.const (.int .i64 0)) n0 (.int .i64 0)) fun t4 =>
  ifB t4
  (K (.string ⟨#[]⟩) w)
  (upK Tryd.prog (sCall F_wire_Int #[n0]) w fun t6 w1 =>
   K t6 w1)
theorem wire_Num.pt_eq : wire_Num.pt = fun n0 w K => FN Tryd.prog Tryd.f11 (bodyOf Tryd.f11) [2] .leaf [n0] w K := by kernel_rfl
theorem wire_Num.call {n0 : Value} {w : World} {K : Value → World → Prop} (h : wire_Num.pt n0 w K) : Calls Tryd.prog F_wire_Num #[n0] w (retK K) :=
  calls_FN (args := [n0]) Tryd.func11 (by kernel_rfl) (by rw [wire_Num.pt_eq] at h; exact h)
theorem wire_Num.up {n0 : Value} {w : World} {K : Value → World → Prop} (h : Calls Tryd.prog F_wire_Num #[n0] w (retK K)) : upK Tryd.prog (sCall F_wire_Num #[n0]) w K :=
  up_call (fn := Tryd.f11) Tryd.func11 (by kernel_rfl) (by kernel_rfl) h

/-- errata/errataref01.Num -/
def errataref01_Num.pt (n0 : Value) (w : World) (K : Value → World → Prop) : Prop :=
  pureK Tryd.prog (sBin .lss T_int (.tmp 3) (.const (.int .i64 0)) n0 (.int .i64 0)) fun t4 =>
  ifB t4
  (K (.string ⟨#[]⟩) w)
  (upK Tryd.prog (sCall F_errataref01_Int #[n0]) w fun t6 w1 =>
   K t6 w1)
theorem errataref01_Num.pt_eq : errataref01_Num.pt = fun n0 w K => FN Tryd.prog Tryd.f12 (bodyOf Tryd.f12) [2] .leaf [n0] w K := by kernel_rfl
theorem errataref01_Num.call {n0 : Value} {w : World} {K : Value → World → Prop} (h : errataref01_Num.pt n0 w K) : Calls Tryd.prog F_errataref01_Num #[n0] w (retK K) :=
  calls_FN (args := [n0]) Tryd.func12 (by kernel_rfl) (by rw [errataref01_Num.pt_eq] at h; exact h)
theorem errataref01_Num.up {n0 : Value} {w : World} {K : Value → World → Prop} (h : Calls Tryd.prog F_errataref01_Num #[n0] w (retK K)) : upK Tryd.prog (sCall F_errataref01_Num #[n0]) w K :=
  up_call (fn := Tryd.f12) Tryd.func12 (by kernel_rfl) (by kernel_rfl) h

/-- errata/wire.Int -/
def wire_Int.pt (n0 : Value) (w : World) (K : Value → World → Prop) : Prop :=
  upK Tryd.prog (sCall F_strconv_Itoa #[n0]) w fun t4 w1 =>
  pureK Tryd.prog (sBin .add T_string (.tmp 4) (.const (.string ⟨#[59]⟩)) t4 (.string ⟨#[59]⟩)) fun t5 =>
  K t5 w1
theorem wire_Int.pt_eq : wire_Int.pt = fun n0 w K => FN Tryd.prog Tryd.f13 (bodyOf Tryd.f13) [2] .leaf [n0] w K := by kernel_rfl
theorem wire_Int.call {n0 : Value} {w : World} {K : Value → World → Prop} (h : wire_Int.pt n0 w K) : Calls Tryd.prog F_wire_Int #[n0] w (retK K) :=
  calls_FN (args := [n0]) Tryd.func13 (by kernel_rfl) (by rw [wire_Int.pt_eq] at h; exact h)
theorem wire_Int.up {n0 : Value} {w : World} {K : Value → World → Prop} (h : Calls Tryd.prog F_wire_Int #[n0] w (retK K)) : upK Tryd.prog (sCall F_wire_Int #[n0]) w K :=
  up_call (fn := Tryd.f13) Tryd.func13 (by kernel_rfl) (by kernel_rfl) h

/-- errata/errataref01.Int -/
def errataref01_Int.pt (n0 : Value) (w : World) (K : Value → World → Prop) : Prop :=
  pureK Tryd.prog (sBin .lss T_int (.tmp 3) (.const (.int .i64 0)) n0 (.int .i64 0)) fun t4 =>
  ifB t4
  (upK Tryd.prog (sCall F_errataref01_digits #[n0]) w fun t6 w1 =>
   pureK Tryd.prog (sBin .add T_string (.const (.string ⟨#[45]⟩)) (.tmp 6) (.string ⟨#[45]⟩) t6) fun t7 =>
   pureK Tryd.prog (sBin .add T_string (.tmp 7) (.const (.string ⟨#[59]⟩)) t7 (.string ⟨#[59]⟩)) fun t8 =>
   K t8 w1)
  (pureK Tryd.prog (sUn .neg n0) fun t10 =>
   upK Tryd.prog (sCall F_errataref01_digits #[t10]) w fun t11 w2 =>
   pureK Tryd.prog (sBin .add T_string (.tmp 11) (.const (.string ⟨#[59]⟩)) t11 (.string ⟨#[59]⟩)) fun t12 =>
   K t12 w2)
theorem errataref01_Int.pt_eq : errataref01_Int.pt = fun n0 w K => FN Tryd.prog Tryd.f14 (bodyOf Tryd.f14) [2] .leaf [n0] w K := by kernel_rfl
theorem errataref01_Int.call {n0 : Value} {w : World} {K : Value → World → Prop} (h : errataref01_Int.pt n0 w K) : Calls Tryd.prog F_errataref01_Int #[n0] w (retK K) :=
  calls_FN (args := [n0]) Tryd.func14 (by kernel_rfl) (by rw [errataref01_Int.pt_eq] at h; exact h)
theorem errataref01_Int.up {n0 : Value} {w : World} {K : Value → World → Prop} (h : Calls Tryd.prog F_errataref01_Int #[n0] w (retK K)) : upK Tryd.prog (sCall F_errataref01_Int #[n0]) w K :=
  up_call (fn := Tryd.f14) Tryd.func14 (by kernel_rfl) (by kernel_rfl) h

/-- errata/wire.Text -/
def wire_Text.pt (s0 : Value) (w : World) (K : Value → World → Prop) : Prop :=
  readK Tryd.prog (sBlt .len #[T_string] T_int #[false] #[s0]) w fun t4 =>
  upK Tryd.prog (sCall F_strconv_Itoa #[t4]) w fun t5 w1 =>
  pureK Tryd.prog (sBin .add T_string (.tmp 5) (.const (.string ⟨#[58]⟩)) t5 (.string ⟨#[58]⟩)) fun t6 =>
  pureK Tryd.prog (sBin .add T_string (.tmp 6) (.tmp 7) t6 s0) fun t8 =>
  pureK Tryd.prog (sBin .add T_string (.tmp 8) (.const (.string ⟨#[44]⟩)) t8 (.string ⟨#[44]⟩)) fun t9 =>
  K t9 w1
theorem wire_Text.pt_eq : wire_Text.pt = fun s0 w K => FN Tryd.prog Tryd.f15 (bodyOf Tryd.f15) [2] .leaf [s0] w K := by kernel_rfl
theorem wire_Text.call {s0 : Value} {w : World} {K : Value → World → Prop} (h : wire_Text.pt s0 w K) : Calls Tryd.prog F_wire_Text #[s0] w (retK K) :=
  calls_FN (args := [s0]) Tryd.func15 (by kernel_rfl) (by rw [wire_Text.pt_eq] at h; exact h)
theorem wire_Text.up {s0 : Value} {w : World} {K : Value → World → Prop} (h : Calls Tryd.prog F_wire_Text #[s0] w (retK K)) : upK Tryd.prog (sCall F_wire_Text #[s0]) w K :=
  up_call (fn := Tryd.f15) Tryd.func15 (by kernel_rfl) (by kernel_rfl) h

/-- errata/errataref01.Text -/
def errataref01_Text.pt (s0 : Value) (w : World) (K : Value → World → Prop) : Prop :=
  readK Tryd.prog (sBlt .len #[T_string] T_int #[false] #[s0]) w fun t4 =>
  pureK Tryd.prog (sUn .neg t4) fun t5 =>
  upK Tryd.prog (sCall F_errataref01_digits #[t5]) w fun t6 w1 =>
  pureK Tryd.prog (sBin .add T_string (.tmp 6) (.const (.string ⟨#[58]⟩)) t6 (.string ⟨#[58]⟩)) fun t7 =>
  pureK Tryd.prog (sBin .add T_string (.tmp 7) (.tmp 8) t7 s0) fun t9 =>
  pureK Tryd.prog (sBin .add T_string (.tmp 9) (.const (.string ⟨#[44]⟩)) t9 (.string ⟨#[44]⟩)) fun t10 =>
  K t10 w1
theorem errataref01_Text.pt_eq : errataref01_Text.pt = fun s0 w K => FN Tryd.prog Tryd.f16 (bodyOf Tryd.f16) [2] .leaf [s0] w K := by kernel_rfl
theorem errataref01_Text.call {s0 : Value} {w : World} {K : Value → World → Prop} (h : errataref01_Text.pt s0 w K) : Calls Tryd.prog F_errataref01_Text #[s0] w (retK K) :=
  calls_FN (args := [s0]) Tryd.func16 (by kernel_rfl) (by rw [errataref01_Text.pt_eq] at h; exact h)
theorem errataref01_Text.up {s0 : Value} {w : World} {K : Value → World → Prop} (h : Calls Tryd.prog F_errataref01_Text #[s0] w (retK K)) : upK Tryd.prog (sCall F_errataref01_Text #[s0]) w K :=
  up_call (fn := Tryd.f16) Tryd.func16 (by kernel_rfl) (by kernel_rfl) h

/-- errata/wire.Nums -/
def wire_Nums.pt (l0 : Value) (w : World) (K : Value → World → Prop) : Prop :=
  upK Tryd.prog (sCall F_wire_list_int #[l0, (.func (.func 13) #[] #[])]) w fun t4 w1 =>
  K t4 w1
theorem wire_Nums.pt_eq : wire_Nums.pt = fun l0 w K => FN Tryd.prog Tryd.f17 (bodyOf Tryd.f17) [2] .leaf [l0] w K := by kernel_rfl
theorem wire_Nums.call {l0 : Value} {w : World} {K : Value → World → Prop} (h : wire_Nums.pt l0 w K) : Calls Tryd.prog F_wire_Nums #[l0] w (retK K) :=
  calls_FN (args := [l0]) Tryd.func17 (by kernel_rfl) (by rw [wire_Nums.pt_eq] at h; exact h)
theorem wire_Nums.up {l0 : Value} {w : World} {K : Value → World → Prop} (h : Calls Tryd.prog F_wire_Nums #[l0] w (retK K)) : upK Tryd.prog (sCall F_wire_Nums #[l0]) w K :=
  up_call (fn := Tryd.f17) Tryd.func17 (by kernel_rfl) (by kernel_rfl) h

/-- errata/errataref01.Nums -/
def errataref01_Nums.pt (l0 : Value) (w : World) (K : Value → World → Prop) : Prop :=
  readK Tryd.prog (sBlt .len #[T_s_int] T_int #[false] #[l0]) w fun t6 =>
  pureK Tryd.prog (sUn .neg t6) fun t7 =>
  upK Tryd.prog (sCall F_errataref01_digits #[t7]) w fun t8 w1 =>
  pureK Tryd.prog (sBin .add T_string (.tmp 8) (.const (.string ⟨#[91]⟩)) t8 (.string ⟨#[91]⟩)) fun t9 =>
  LOOP (X := Value × Value × Unit) (fun x2 w2 next2 =>
   readK Tryd.prog (sBlt .len #[T_s_int] T_int #[false] #[l0]) w2 fun t12 =>
   pureK Tryd.prog (sBin .lss T_int (.tmp 10) (.tmp 12) x2.2.1 t12) fun t13 =>
   ifB t13
   (pureK Tryd.prog (sIdxAddr T_s_int l0 x2.2.1) fun t19 =>
    readK Tryd.prog (sLoad T_int t19) w2 fun t20 =>
    upK Tryd.prog (sCall F_errataref01_Int #[t20]) w2 fun t21 w3 =>
    pureK Tryd.prog (sBin .add T_string (.tmp 16) (.tmp 21) x2.1 t21) fun t22 =>
    pureK Tryd.prog (sBin .add T_int (.tmp 14) (.const (.int .i64 1)) x2.2.1 (.int .i64 1)) fun t15 =>
    next2 (t22, t15, ()) w3)
   (pureK Tryd.prog (sBin .add T_string (.tmp 23) (.const (.string ⟨#[93]⟩)) x2.1 (.string ⟨#[93]⟩)) fun t24 =>
    K t24 w2))
  (t9, (.int .i64 0), ()) w1
theorem errataref01_Nums.pt_eq : errataref01_Nums.pt = fun l0 w K => FN Tryd.prog Tryd.f18 (bodyOf Tryd.f18) [2] .leaf [l0] w K := by kernel_rfl
theorem errataref01_Nums.call {l0 : Value} {w : World} {K : Value → World → Prop} (h : errataref01_Nums.pt l0 w K) : Calls Tryd.prog F_errataref01_Nums #[l0] w (retK K) :=
  calls_FN (args := [l0]) Tryd.func18 (by kernel_rfl) (by rw [errataref01_Nums.pt_eq] at h; exact h)
theorem errataref01_Nums.up {l0 : Value} {w : World} {K : Value → World → Prop} (h : Calls Tryd.prog F_errataref01_Nums #[l0] w (retK K)) : upK Tryd.prog (sCall F_errataref01_Nums #[l0]) w K :=
  up_call (fn := Tryd.f18) Tryd.func18 (by kernel_rfl) (by kernel_rfl) h

/-- errata/wire.Texts -/
def wire_Texts.pt (l0 : Value) (w : World) (K : Value → World → Prop) : Prop :=
  upK Tryd.prog (sCall F_wire_list_string #[l0, (.func (.func 15) #[] #[])]) w fun t4 w1 =>
  K t4 w1
theorem wire_Texts.pt_eq : wire_Texts.pt = fun l0 w K => FN Tryd.prog Tryd.f19 (bodyOf Tryd.f19) [2] .leaf [l0] w K := by kernel_rfl
theorem wire_Texts.call {l0 : Value} {w : World} {K : Value → World → Prop} (h : wire_Texts.pt l0 w K) : Calls Tryd.prog F_wire_Texts #[l0] w (retK K) :=
  calls_FN (args := [l0]) Tryd.func19 (by kernel_rfl) (by rw [wire_Texts.pt_eq] at h; exact h)
theorem wire_Texts.up {l0 : Value} {w : World} {K : Value → World → Prop} (h : Calls Tryd.prog F_wire_Texts #[l0] w (retK K)) : upK Tryd.prog (sCall F_wire_Texts #[l0]) w K :=
  up_call (fn := Tryd.f19) Tryd.func19 (by kernel_rfl) (by kernel_rfl) h

/-- errata/errataref01.Texts -/
def errataref01_Texts.pt (l0 : Value) (w : World) (K : Value → World → Prop) : Prop :=
  readK Tryd.prog (sBlt .len #[T_s_string] T_int #[false] #[l0]) w fun t6 =>
  pureK Tryd.prog (sUn .neg t6) fun t7 =>
  upK Tryd.prog (sCall F_errataref01_digits #[t7]) w fun t8 w1 =>
  pureK Tryd.prog (sBin .add T_string (.tmp 8) (.const (.string ⟨#[91]⟩)) t8 (.string ⟨#[91]⟩)) fun t9 =>
  LOOP (X := Value × Value × Unit) (fun x2 w2 next2 =>
   readK Tryd.prog (sBlt .len #[T_s_string] T_int #[false] #[l0]) w2 fun t12 =>
   pureK Tryd.prog (sBin .lss T_int (.tmp 10) (.tmp 12) x2.2.1 t12) fun t13 =>
   ifB t13
   (pureK Tryd.prog (sIdxAddr T_s_string l0 x2.2.1) fun t19 =>
    readK Tryd.prog (sLoad T_string t19) w2 fun t20 =>
    upK Tryd.prog (sCall F_errataref01_Text #[t20]) w2 fun t21 w3 =>
    pureK Tryd.prog (sBin .add T_string (.tmp 16) (.tmp 21) x2.1 t21) fun t22 =>
    pureK Tryd.prog (sBin .add T_int (.tmp 14) (.const (.int .i64 1)) x2.2.1 (.int .i64 1)) fun t15 =>
    next2 (t22, t15, ()) w3)
   (pureK Tryd.prog (sBin .add T_string (.tmp 23) (.const (.string ⟨#[93]⟩)) x2.1 (.string ⟨#[93]⟩)) fun t24 =>
    K t24 w2))
  (t9, (.int .i64 0), ()) w1
theorem errataref01_Texts.pt_eq : errataref01_Texts.pt = fun l0 w K => FN Tryd.prog Tryd.f20 (bodyOf Tryd.f20) [2] .leaf [l0] w K := by kernel_rfl
theorem errataref01_Texts.call {l0 : Value} {w : World} {K : Value → World → Prop} (h : errataref01_Texts.pt l0 w K) : Calls Tryd.prog F_errataref01_Texts #[l0] w (retK K) :=
  calls_FN (args := [l0]) Tryd.func20 (by kernel_rfl) (by rw [errataref01_Texts.pt_eq] at h; exact h)
theorem errataref01_Texts.up {l0 : Value} {w : World} {K : Value → World → Prop} (h : Calls Tryd.prog F_errataref01_Texts #[l0] w (retK K)) : upK Tryd.prog (sCall F_errataref01_Texts #[l0]) w K :=
  up_call (fn := Tryd.f20) Tryd.func20 (by kernel_rfl) (by kernel_rfl) h

/-- errata/wire.Open -/
def wire_Open.pt (s0 : Value) (w : World) (K : Value → World → Prop) : Prop :=
  pureK Tryd.prog (sBuild T_wire_Reader #[(0, s0)]) fun t4 =>
  upK Tryd.prog (sBox T_wire_Reader t4) w fun t5 w1 =>
  K t5 w1
theorem wire_Open.pt_eq : wire_Open.pt = fun s0 w K => FN Tryd.prog Tryd.f21 (bodyOf Tryd.f21) [2] .leaf [s0] w K := by kernel_rfl
theorem wire_Open.call {s0 : Value} {w : World} {K : Value → World → Prop} (h : wire_Open.pt s0 w K) : Calls Tryd.prog F_wire_Open #[s0] w (retK K) :=
  calls_FN (args := [s0]) Tryd.func21 (by kernel_rfl) (by rw [wire_Open.pt_eq] at h; exact h)
theorem wire_Open.up {s0 : Value} {w : World} {K : Value → World → Prop} (h : Calls Tryd.prog F_wire_Open #[s0] w (retK K)) : upK Tryd.prog (sCall F_wire_Open #[s0]) w K :=
  up_call (fn := Tryd.f21) Tryd.func21 (by kernel_rfl) (by kernel_rfl) h

/-- errata/erratalaw01.kind -/
def erratalaw01_kind.pt (v0 : Value) (w : World) (K : Value → World → Prop) : Prop :=
  upK Tryd.prog (sBox T_erratalaw01_Value v0) w fun v1 w1 =>
  pureK Tryd.prog (sFieldAddr T_erratalaw01_Value v1 0) fun t4 =>
  readK Tryd.prog (sLoad T_int t4) w1 fun t5 =>
  pureK Tryd.prog (sBin .rem T_int (.tmp 5) (.const (.int .i64 5)) t5 (.int .i64 5)) fun t6 =>
  LETJ (X := Value × Unit) (fun y1 w2 =>
   K y1.1 w2)
  (fun J1 =>
   pureK Tryd.prog (sBin .lss T_int (.tmp 7) (.const (.int .i64 0)) t6 (.int .i64 0)) fun t8 =>
   ifB t8
   (pureK Tryd.prog (sBin .add T_int (.tmp 9) (.const (.int .i64 5)) t6 (.int .i64 5)) fun t10 =>
    J1 (t10, ()) w1)
   (J1 (t6, ()) w1))
theorem erratalaw01_kind.pt_eq : erratalaw01_kind.pt = fun v0 w K => FN Tryd.prog Tryd.f22 (bodyOf Tryd.f22) [2] (.node none .leaf (.node none .leaf (.node (some [3]) .leaf .leaf))) [v0] w K := by kernel_rfl
theorem erratalaw01_kind.call {v0 : Value} {w : World} {K : Value → World → Prop} (h : erratalaw01_kind.pt v0 w K) : Calls Tryd.prog F_erratalaw01_kind #[v0] w (retK K) :=
  calls_FN (args := [v0]) Tryd.func22 (by kernel_rfl) (by rw [erratalaw01_kind.pt_eq] at h; exact h)
theorem erratalaw01_kind.up {v0 : Value} {w : World} {K : Value → World → Prop} (h : Calls Tryd.prog F_erratalaw01_kind #[v0] w (retK K)) : upK Tryd.prog (sCall F_erratalaw01_kind #[v0]) w K :=
  up_call (fn := Tryd.f22) Tryd.func22 (by kernel_rfl) (by kernel_rfl) h

/-- (*errata/wire.Reader).Num -/
def wire_Reader_Num.pt (r0 : Value) (w : World) (K : Value → World → Prop) : Prop :=
  upK Tryd.prog (sCall F_wire_Reader_number #[r0, (.int .u8 59), (.int .i64 0)]) w fun t4 w1 =>
  K t4 w1
theorem wire_Reader_Num.pt_eq : wire_Reader_Num.pt = fun r0 w K => FN Tryd.prog Tryd.f23 (bodyOf Tryd.f23) [2] .leaf [r0] w K := by kernel_rfl
theorem wire_Reader_Num.call {r0 : Value} {w : World} {K : Value → World → Prop} (h : wire_Reader_Num.pt r0 w K) : Calls Tryd.prog F_wire_Reader_Num #[r0] w (retK K) :=
  calls_FN (args := [r0]) Tryd.func23 (by kernel_rfl) (by rw [wire_Reader_Num.pt_eq] at h; exact h)
theorem wire_Reader_Num.up {r0 : Value} {w : World} {K : Value → World → Prop} (h : Calls Tryd.prog F_wire_Reader_Num #[r0] w (retK K)) : upK Tryd.prog (sCall F_wire_Reader_Num #[r0]) w K :=
  up_call (fn := Tryd.f23) Tryd.func23 (by kernel_rfl) (by kernel_rfl) h

/-- (*errata/wire.Reader).Int -/
def wire_Reader_Int.pt (r0 : Value) (w : World) (K : Value → World → Prop) : Prop :=
  upK Tryd.prog (sCall F_wire_Reader_number #[r0, (.int .u8 59), (.int .i64 (-9223372036854775808))]) w fun t4 w1 =>
  K t4 w1
theorem wire_Reader_Int.pt_eq : wire_Reader_Int.pt = fun r0 w K => FN Tryd.prog Tryd.f24 (bodyOf Tryd.f24) [2] .leaf [r0] w K := by kernel_rfl
theorem wire_Reader_Int.call {r0 : Value} {w : World} {K : Value → World → Prop} (h : wire_Reader_Int.pt r0 w K) : Calls Tryd.prog F_wire_Reader_Int #[r0] w (retK K) :=
  calls_FN (args := [r0]) Tryd.func24 (by kernel_rfl) (by rw [wire_Reader_Int.pt_eq] at h; exact h)
theorem wire_Reader_Int.up {r0 : Value} {w : World} {K : Value → World → Prop} (h : Calls Tryd.prog F_wire_Reader_Int #[r0] w (retK K)) : upK Tryd.prog (sCall F_wire_Reader_Int #[r0]) w K :=
  up_call (fn := Tryd.f24) Tryd.func24 (by kernel_rfl) (by kernel_rfl) h

/-- (*errata/wire.Reader).Text -/
def wire_Reader_Text.pt (r0 : Value) (w : World) (K : Value → World → Prop) : Prop :=
  upK Tryd.prog (sCall F_wire_Reader_number #[r0, (.int .u8 58), (.int .i64 0)]) w fun t6 w1 =>
  pureK Tryd.prog (sNil r0) fun t9 =>
  pureK Tryd.prog (sFieldAddr T_wire_Reader t9 0) fun t10 =>
  readK Tryd.prog (sLoad T_string t10) w1 fun t11 =>
  readK Tryd.prog (sBlt .len #[T_string] T_int #[false] #[t11]) w1 fun t12 =>
  pureK Tryd.prog (sBin .gtr T_int (.tmp 7) (.tmp 12) t6 t12) fun t13 =>
  ifB t13
  (upK Tryd.prog (sCall F_wire_Reader_fail #[r0]) w1 fun t15 w2 =>
   K (.string ⟨#[]⟩) w2)
  (pureK Tryd.prog (sNil r0) fun t17 =>
   pureK Tryd.prog (sFieldAddr T_wire_Reader t17 0) fun t18 =>
   readK Tryd.prog (sLoad T_string t18) w1 fun t19 =>
   pureK Tryd.prog (sSlice T_string t19 none (some t6) none) fun t21 =>
   pureK Tryd.prog (sNil r0) fun t24 =>
   pureK Tryd.prog (sFieldAddr T_wire_Reader t24 0) fun t25 =>
   readK Tryd.prog (sLoad T_string t25) w1 fun t26 =>
   pureK Tryd.prog (sSlice T_string t26 (some t6) none none) fun t28 =>
   pureK Tryd.prog (sNil r0) fun t29 =>
   pureK Tryd.prog (sFieldAddr T_wire_Reader t29 0) fun t30 =>
   upK Tryd.prog (sStore T_string t30 t28) w1 fun tu w3 =>
   upK Tryd.prog (sCall F_wire_Reader_close #[r0, (.string ⟨#[44]⟩)]) w3 fun t32 w4 =>
   pureK Tryd.prog (sNil r0) fun t34 =>
   pureK Tryd.prog (sFieldAddr T_wire_Reader t34 1) fun t35 =>
   readK Tryd.prog (sLoad T_bool t35) w4 fun t36 =>
   ifB t36
   (K (.string ⟨#[]⟩) w4)
   (K t21 w4))
theorem wire_Reader_Text.pt_eq : wire_Reader_Text.pt = fun r0 w K => FN Tryd.prog Tryd.f25 (bodyOf Tryd.f25) [2] .leaf [r0] w K := by kernel_rfl
theorem wire_Reader_Text.call {r0 : Value} {w : World} {K : Value → World → Prop} (h : wire_Reader_Text.pt r0 w K) : Calls Tryd.prog F_wire_Reader_Text #[r0] w (retK K) :=
  calls_FN (args := [r0]) Tryd.func25 (by kernel_rfl) (by rw [wire_Reader_Text.pt_eq] at h; exact h)
theorem wire_Reader_Text.up {r0 : Value} {w : World} {K : Value → World → Prop} (h : Calls Tryd.prog F_wire_Reader_Text #[r0] w (retK K)) : upK Tryd.prog (sCall F_wire_Reader_Text #[r0]) w K :=
  up_call (fn := Tryd.f25) Tryd.func25 (by kernel_rfl) (by kernel_rfl) h

/-- (*errata/wire.Reader).Nums -/
def wire_Reader_Nums.pt (r0 : Value) (w : World) (K : Value → World → Prop) : Prop :=
  pureK Tryd.prog (sMkFunc (.func F_wire_Reader_Int) #[r0] #[]) fun t5 =>
  upK Tryd.prog (sCall F_wire_items_int #[r0, t5]) w fun t6 w1 =>
  K t6 w1
theorem wire_Reader_Nums.pt_eq : wire_Reader_Nums.pt = fun r0 w K => FN Tryd.prog Tryd.f26 (bodyOf Tryd.f26) [2] .leaf [r0] w K := by kernel_rfl
theorem wire_Reader_Nums.call {r0 : Value} {w : World} {K : Value → World → Prop} (h : wire_Reader_Nums.pt r0 w K) : Calls Tryd.prog F_wire_Reader_Nums #[r0] w (retK K) :=
  calls_FN (args := [r0]) Tryd.func26 (by kernel_rfl) (by rw [wire_Reader_Nums.pt_eq] at h; exact h)
theorem wire_Reader_Nums.up {r0 : Value} {w : World} {K : Value → World → Prop} (h : Calls Tryd.prog F_wire_Reader_Nums #[r0] w (retK K)) : upK Tryd.prog (sCall F_wire_Reader_Nums #[r0]) w K :=
  up_call (fn := Tryd.f26) Tryd.func26 (by kernel_rfl) (by kernel_rfl) h

/-- (*errata/wire.Reader).Texts -/
def wire_Reader_Texts.pt (r0 : Value) (w : World) (K : Value → World → Prop) : Prop :=
  pureK Tryd.prog (sMkFunc (.func F_wire_Reader_Text) #[r0] #[]) fun t5 =>
  upK Tryd.prog (sCall F_wire_items_string #[r0, t5]) w fun t6 w1 =>
  K t6 w1
theorem wire_Reader_Texts.pt_eq : wire_Reader_Texts.pt = fun r0 w K => FN Tryd.prog Tryd.f27 (bodyOf Tryd.f27) [2] .leaf [r0] w K := by kernel_rfl
theorem wire_Reader_Texts.call {r0 : Value} {w : World} {K : Value → World → Prop} (h : wire_Reader_Texts.pt r0 w K) : Calls Tryd.prog F_wire_Reader_Texts #[r0] w (retK K) :=
  calls_FN (args := [r0]) Tryd.func27 (by kernel_rfl) (by rw [wire_Reader_Texts.pt_eq] at h; exact h)
theorem wire_Reader_Texts.up {r0 : Value} {w : World} {K : Value → World → Prop} (h : Calls Tryd.prog F_wire_Reader_Texts #[r0] w (retK K)) : upK Tryd.prog (sCall F_wire_Reader_Texts #[r0]) w K :=
  up_call (fn := Tryd.f27) Tryd.func27 (by kernel_rfl) (by kernel_rfl) h

/-- (*errata/wire.Reader).Left -/
def wire_Reader_Left.pt (r0 : Value) (w : World) (K : Value → World → Prop) : Prop :=
  pureK Tryd.prog (sNil r0) fun t4 =>
  pureK Tryd.prog (sFieldAddr T_wire_Reader t4 0) fun t5 =>
  readK Tryd.prog (sLoad T_string t5) w fun t6 =>
  readK Tryd.prog (sBlt .len #[T_string] T_int #[false] #[t6]) w fun t7 =>
  K t7 w
theorem wire_Reader_Left.pt_eq : wire_Reader_Left.pt = fun r0 w K => FN Tryd.prog Tryd.f28 (bodyOf Tryd.f28) [2] .leaf [r0] w K := by kernel_rfl
theorem wire_Reader_Left.call {r0 : Value} {w : World} {K : Value → World → Prop} (h : wire_Reader_Left.pt r0 w K) : Calls Tryd.prog F_wire_Reader_Left #[r0] w (retK K) :=
  calls_FN (args := [r0]) Tryd.func28 (by kernel_rfl) (by rw [wire_Reader_Left.pt_eq] at h; exact h)
theorem wire_Reader_Left.up {r0 : Value} {w : World} {K : Value → World → Prop} (h : Calls Tryd.prog F_wire_Reader_Left #[r0] w (retK K)) : upK Tryd.prog (sCall F_wire_Reader_Left #[r0]) w K :=
  up_call (fn := Tryd.f28) Tryd.func28 (by kernel_rfl) (by kernel_rfl) h

/-- (*errata/wire.Reader).Done -/
def wire_Reader_Done.pt (r0 : Value) (w : World) (K : Value → World → Prop) : Prop :=
  pureK Tryd.prog (sNil r0) fun t4 =>
  pureK Tryd.prog (sFieldAddr T_wire_Reader t4 1) fun t5 =>
  readK Tryd.prog (sLoad T_bool t5) w fun t6 =>
  pureK Tryd.prog (sUn .not t6) fun t7 =>
  ifB t7
  (pureK Tryd.prog (sNil r0) fun t10 =>
   pureK Tryd.prog (sFieldAddr T_wire_Reader t10 0) fun t11 =>
   readK Tryd.prog (sLoad T_string t11) w fun t12 =>
   pureK Tryd.prog (sBin .eql T_string (.tmp 12) (.const (.string ⟨#[]⟩)) t12 (.string ⟨#[]⟩)) fun t13 =>
   K t13 w)
  (K (.bool false) w)
theorem wire_Reader_Done.pt_eq : wire_Reader_Done.pt = fun r0 w K => FN Tryd.prog Tryd.f29 (bodyOf Tryd.f29) [2] .leaf [r0] w K := by kernel_rfl
theorem wire_Reader_Done.call {r0 : Value} {w : World} {K : Value → World → Prop} (h : wire_Reader_Done.pt r0 w K) : Calls Tryd.prog F_wire_Reader_Done #[r0] w (retK K) :=
  calls_FN (args := [r0]) Tryd.func29 (by kernel_rfl) (by rw [wire_Reader_Done.pt_eq] at h; exact h)
theorem wire_Reader_Done.up {r0 : Value} {w : World} {K : Value → World → Prop} (h : Calls Tryd.prog F_wire_Reader_Done #[r0] w (retK K)) : upK Tryd.prog (sCall F_wire_Reader_Done #[r0]) w K :=
  up_call (fn := Tryd.f29) Tryd.func29 (by kernel_rfl) (by kernel_rfl) h

/-- errata/erratalaw01.write -/
def erratalaw01_write.pt (v0 : Value) (w : World) (K : Value → World → Prop) : Prop :=
  upK Tryd.prog (sBox T_erratalaw01_Value v0) w fun v1 w1 =>
  readK Tryd.prog (sLoad T_erratalaw01_Value v1) w1 fun t3 =>
  upK Tryd.prog (sCall F_erratalaw01_kind #[t3]) w1 fun t4 w2 =>
  pureK Tryd.prog (sBin .eql T_int (.tmp 4) (.const (.int .i64 0)) t4 (.int .i64 0)) fun t6 =>
  ifB t6
  (pureK Tryd.prog (sFieldAddr T_erratalaw01_Value v1 1) fun t7 =>
   readK Tryd.prog (sLoad T_int t7) w2 fun t8 =>
   upK Tryd.prog (sCall F_erratalaw01_number #[t8]) w2 fun t9 w3 =>
   upK Tryd.prog (sCall F_wire_Num #[t9]) w3 fun t10 w4 =>
   K t10 w4)
  (pureK Tryd.prog (sBin .eql T_int (.tmp 4) (.const (.int .i64 1)) t4 (.int .i64 1)) fun t12 =>
   ifB t12
   (pureK Tryd.prog (sFieldAddr T_erratalaw01_Value v1 1) fun t13 =>
    readK Tryd.prog (sLoad T_int t13) w2 fun t14 =>
    upK Tryd.prog (sCall F_wire_Int #[t14]) w2 fun t15 w5 =>
    K t15 w5)
   (pureK Tryd.prog (sBin .eql T_int (.tmp 4) (.const (.int .i64 2)) t4 (.int .i64 2)) fun t17 =>
    ifB t17
    (pureK Tryd.prog (sFieldAddr T_erratalaw01_Value v1 2) fun t18 =>
     readK Tryd.prog (sLoad T_string t18) w2 fun t19 =>
     upK Tryd.prog (sCall F_wire_Text #[t19]) w2 fun t20 w6 =>
     K t20 w6)
    (pureK Tryd.prog (sBin .eql T_int (.tmp 4) (.const (.int .i64 3)) t4 (.int .i64 3)) fun t22 =>
     ifB t22
     (pureK Tryd.prog (sFieldAddr T_erratalaw01_Value v1 3) fun t23 =>
      readK Tryd.prog (sLoad T_s_int t23) w2 fun t24 =>
      upK Tryd.prog (sCall F_wire_Nums #[t24]) w2 fun t25 w7 =>
      K t25 w7)
     (pureK Tryd.prog (sFieldAddr T_erratalaw01_Value v1 4) fun t26 =>
      readK Tryd.prog (sLoad T_s_string t26) w2 fun t27 =>
      upK Tryd.prog (sCall F_wire_Texts #[t27]) w2 fun t28 w8 =>
      K t28 w8))))
theorem erratalaw01_write.pt_eq : erratalaw01_write.pt = fun v0 w K => FN Tryd.prog Tryd.f30 (bodyOf Tryd.f30) [2] .leaf [v0] w K := by kernel_rfl
theorem erratalaw01_write.call {v0 : Value} {w : World} {K : Value → World → Prop} (h : erratalaw01_write.pt v0 w K) : Calls Tryd.prog F_erratalaw01_write #[v0] w (retK K) :=
  calls_FN (args := [v0]) Tryd.func30 (by kernel_rfl) (by rw [erratalaw01_write.pt_eq] at h; exact h)
theorem erratalaw01_write.up {v0 : Value} {w : World} {K : Value → World → Prop} (h : Calls Tryd.prog F_erratalaw01_write #[v0] w (retK K)) : upK Tryd.prog (sCall F_erratalaw01_write #[v0]) w K :=
  up_call (fn := Tryd.f30) Tryd.func30 (by kernel_rfl) (by kernel_rfl) h

/-- errata/erratalaw01.equal -/
def erratalaw01_equal.pt (r0 v1 : Value) (w : World) (K : Value → World → Prop) : Prop :=
  upK Tryd.prog (sBox T_erratalaw01_Value v1) w fun v3 w1 =>
  readK Tryd.prog (sLoad T_erratalaw01_Value v3) w1 fun t5 =>
  upK Tryd.prog (sCall F_erratalaw01_kind #[t5]) w1 fun t6 w2 =>
  pureK Tryd.prog (sBin .eql T_int (.tmp 6) (.const (.int .i64 0)) t6 (.int .i64 0)) fun t8 =>
  ifB t8
  (pureK Tryd.prog (sFieldAddr T_erratalaw01_Value v3 1) fun t11 =>
   readK Tryd.prog (sLoad T_int t11) (tick w2) fun t12 =>
   upK Tryd.prog (sCall F_wire_Reader_Num #[r0]) (tick w2) fun t10 w3 =>
   Is Tryd.prog (sLoad T_int t11) t12 w3 ∧ upK Tryd.prog (sCall F_erratalaw01_number #[t12]) w3 fun t13 w4 =>
   pureK Tryd.prog (sBin .eql T_int (.tmp 10) (.tmp 13) t10 t13) fun t14 =>
   K t14 w4)
  (pureK Tryd.prog (sBin .eql T_int (.tmp 6) (.const (.int .i64 1)) t6 (.int .i64 1)) fun t16 =>
   ifB t16
   (pureK Tryd.prog (sFieldAddr T_erratalaw01_Value v3 1) fun t19 =>
    readK Tryd.prog (sLoad T_int t19) (tick w2) fun t20 =>
    upK Tryd.prog (sCall F_wire_Reader_Int #[r0]) (tick w2) fun t18 w5 =>
    Is Tryd.prog (sLoad T_int t19) t20 w5 ∧ pureK Tryd.prog (sBin .eql T_int (.tmp 18) (.tmp 20) t18 t20) fun t21 =>
    K t21 w5)
   (pureK Tryd.prog (sBin .eql T_int (.tmp 6) (.const (.int .i64 2)) t6 (.int .i64 2)) fun t23 =>
    ifB t23
    (pureK Tryd.prog (sFieldAddr T_erratalaw01_Value v3 2) fun t26 =>
     readK Tryd.prog (sLoad T_string t26) (tick w2) fun t27 =>
     upK Tryd.prog (sCall F_wire_Reader_Text #[r0]) (tick w2) fun t25 w6 =>
     Is Tryd.prog (sLoad T_string t26) t27 w6 ∧ pureK Tryd.prog (sBin .eql T_string (.tmp 25) (.tmp 27) t25 t27) fun t28 =>
     K t28 w6)
    (pureK Tryd.prog (sBin .eql T_int (.tmp 6) (.const (.int .i64 3)) t6 (.int .i64 3)) fun t30 =>
     ifB t30
     (pureK Tryd.prog (sFieldAddr T_erratalaw01_Value v3 3) fun t33 =>
      readK Tryd.prog (sLoad T_s_int t33) (tick w2) fun t34 =>
      upK Tryd.prog (sCall F_wire_Reader_Nums #[r0]) (tick w2) fun t32 w7 =>
      Is Tryd.prog (sLoad T_s_int t33) t34 w7 ∧ upK Tryd.prog (sCall F_errataref01_SameNums #[t32, t34]) w7 fun t35 w8 =>
      K t35 w8)
     (pureK Tryd.prog (sFieldAddr T_erratalaw01_Value v3 4) fun t38 =>
      readK Tryd.prog (sLoad T_s_string t38) (tick w2) fun t39 =>
      upK Tryd.prog (sCall F_wire_Reader_Texts #[r0]) (tick w2) fun t37 w9 =>
      Is Tryd.prog (sLoad T_s_string t38) t39 w9 ∧ upK Tryd.prog (sCall F_errataref01_SameTexts #[t37, t39]) w9 fun t40 w10 =>
      K t40 w10))))
theorem erratalaw01_equal.pt_eq : erratalaw01_equal.pt = fun r0 v1 w K => FN Tryd.prog Tryd.f31 (bodyOf Tryd.f31) [4] .leaf [r0, v1] w K := by kernel_rfl
theorem erratalaw01_equal.call {r0 v1 : Value} {w : World} {K : Value → World → Prop} (h : erratalaw01_equal.pt r0 v1 w K) : Calls Tryd.prog F_erratalaw01_equal #[r0, v1] w (retK K) :=
  calls_FN (args := [r0, v1]) Tryd.func31 (by kernel_rfl) (by rw [erratalaw01_equal.pt_eq] at h; exact h)
theorem erratalaw01_equal.up {r0 v1 : Value} {w : World} {K : Value → World → Prop} (h : Calls Tryd.prog F_erratalaw01_equal #[r0, v1] w (retK K)) : upK Tryd.prog (sCall F_erratalaw01_equal #[r0, v1]) w K :=
  up_call (fn := Tryd.f31) Tryd.func31 (by kernel_rfl) (by kernel_rfl) h

/-- errata/errataref01.Open -/
def errataref01_Open.pt (s0 : Value) (w : World) (K : Value → World → Prop) : Prop :=
  pureK Tryd.prog (sBuild T_errataref01_Reader #[(0, s0)]) fun t4 =>
  upK Tryd.prog (sBox T_errataref01_Reader t4) w fun t5 w1 =>
  K t5 w1
theorem errataref01_Open.pt_eq : errataref01_Open.pt = fun s0 w K => FN Tryd.prog Tryd.f32 (bodyOf Tryd.f32) [2] .leaf [s0] w K := by kernel_rfl
theorem errataref01_Open.call {s0 : Value} {w : World} {K : Value → World → Prop} (h : errataref01_Open.pt s0 w K) : Calls Tryd.prog F_errataref01_Open #[s0] w (retK K) :=
  calls_FN (args := [s0]) Tryd.func32 (by kernel_rfl) (by rw [errataref01_Open.pt_eq] at h; exact h)
theorem errataref01_Open.up {s0 : Value} {w : World} {K : Value → World → Prop} (h : Calls Tryd.prog F_errataref01_Open #[s0] w (retK K)) : upK Tryd.prog (sCall F_errataref01_Open #[s0]) w K :=
  up_call (fn := Tryd.f32) Tryd.func32 (by kernel_rfl) (by kernel_rfl) h

/-- (*errata/errataref01.Reader).Num -/
def errataref01_Reader_Num.pt (r0 : Value) (w : World) (K : Value → World → Prop) : Prop :=
  upK Tryd.prog (sCall F_errataref01_Reader_number #[r0, (.int .u8 59)]) w fun t4 w1 =>
  K t4 w1
theorem errataref01_Reader_Num.pt_eq : errataref01_Reader_Num.pt = fun r0 w K => FN Tryd.prog Tryd.f33 (bodyOf Tryd.f33) [2] .leaf [r0] w K := by kernel_rfl
theorem errataref01_Reader_Num.call {r0 : Value} {w : World} {K : Value → World → Prop} (h : errataref01_Reader_Num.pt r0 w K) : Calls Tryd.prog F_errataref01_Reader_Num #[r0] w (retK K) :=
  calls_FN (args := [r0]) Tryd.func33 (by kernel_rfl) (by rw [errataref01_Reader_Num.pt_eq] at h; exact h)
theorem errataref01_Reader_Num.up {r0 : Value} {w : World} {K : Value → World → Prop} (h : Calls Tryd.prog F_errataref01_Reader_Num #[r0] w (retK K)) : upK Tryd.prog (sCall F_errataref01_Reader_Num #[r0]) w K :=
  up_call (fn := Tryd.f33) Tryd.func33 (by kernel_rfl) (by kernel_rfl) h

/-- (*errata/errataref01.Reader).Int -/
def errataref01_Reader_Int.pt (r0 : Value) (w : World) (K : Value → World → Prop) : Prop :=
  upK Tryd.prog (sCall F_errataref01_Reader_ahead #[r0, (.int .u8 59)]) w fun t4 w1 =>
  K t4 w1
theorem errataref01_Reader_Int.pt_eq : errataref01_Reader_Int.pt = fun r0 w K => FN Tryd.prog Tryd.f34 (bodyOf Tryd.f34) [2] .leaf [r0] w K := by kernel_rfl
theorem errataref01_Reader_Int.call {r0 : Value} {w : World} {K : Value → World → Prop} (h : errataref01_Reader_Int.pt r0 w K) : Calls Tryd.prog F_errataref01_Reader_Int #[r0] w (retK K) :=
  calls_FN (args := [r0]) Tryd.func34 (by kernel_rfl) (by rw [errataref01_Reader_Int.pt_eq] at h; exact h)
theorem errataref01_Reader_Int.up {r0 : Value} {w : World} {K : Value → World → Prop} (h : Calls Tryd.prog F_errataref01_Reader_Int #[r0] w (retK K)) : upK Tryd.prog (sCall F_errataref01_Reader_Int #[r0]) w K :=
  up_call (fn := Tryd.f34) Tryd.func34 (by kernel_rfl) (by kernel_rfl) h

/-- (*errata/errataref01.Reader).Text -/
def errataref01_Reader_Text.pt (r0 : Value) (w : World) (K : Value → World → Prop) : Prop :=
  upK Tryd.prog (sCall F_errataref01_Reader_number #[r0, (.int .u8 58)]) w fun t6 w1 =>
  pureK Tryd.prog (sNil r0) fun t8 =>
  pureK Tryd.prog (sFieldAddr T_errataref01_Reader t8 1) fun t9 =>
  readK Tryd.prog (sLoad T_bool t9) w1 fun t10 =>
  ifB t10
  (upK Tryd.prog (sCall F_errataref01_Reader_fail #[r0]) w1 fun t21 w2 =>
   K (.string ⟨#[]⟩) w2)
  (pureK Tryd.prog (sNil r0) fun t14 =>
   pureK Tryd.prog (sFieldAddr T_errataref01_Reader t14 0) fun t15 =>
   readK Tryd.prog (sLoad T_string t15) w1 fun t16 =>
   readK Tryd.prog (sBlt .len #[T_string] T_int #[false] #[t16]) w1 fun t17 =>
   pureK Tryd.prog (sBin .geq T_int (.tmp 12) (.tmp 17) t6 t17) fun t18 =>
   ifB t18
   (upK Tryd.prog (sCall F_errataref01_Reader_fail #[r0]) w1 fun t21_1 w3 =>
    K (.string ⟨#[]⟩) w3)
   (pureK Tryd.prog (sNil r0) fun t23 =>
    pureK Tryd.prog (sFieldAddr T_errataref01_Reader t23 0) fun t24 =>
    readK Tryd.prog (sLoad T_string t24) w1 fun t25 =>
    pureK Tryd.prog (sSlice T_string t25 none (some t6) none) fun t27 =>
    pureK Tryd.prog (sNil r0) fun t30 =>
    pureK Tryd.prog (sFieldAddr T_errataref01_Reader t30 0) fun t31 =>
    readK Tryd.prog (sLoad T_string t31) w1 fun t32 =>
    pureK Tryd.prog (sSlice T_string t32 (some t6) none none) fun t34 =>
    pureK Tryd.prog (sNil r0) fun t35 =>
    pureK Tryd.prog (sFieldAddr T_errataref01_Reader t35 0) fun t36 =>
    upK Tryd.prog (sStore T_string t36 t34) w1 fun tu w4 =>
    upK Tryd.prog (sCall F_errataref01_Reader_close #[r0, (.int .u8 44)]) w4 fun t38 w5 =>
    pureK Tryd.prog (sUn .not t38) fun t39 =>
    ifB t39
    (K (.string ⟨#[]⟩) w5)
    (K t27 w5)))
theorem errataref01_Reader_Text.pt_eq : errataref01_Reader_Text.pt = fun r0 w K => FN Tryd.prog Tryd.f35 (bodyOf Tryd.f35) [2] .leaf [r0] w K := by kernel_rfl
theorem errataref01_Reader_Text.call {r0 : Value} {w : World} {K : Value → World → Prop} (h : errataref01_Reader_Text.pt r0 w K) : Calls Tryd.prog F_errataref01_Reader_Text #[r0] w (retK K) :=
  calls_FN (args := [r0]) Tryd.func35 (by kernel_rfl) (by rw [errataref01_Reader_Text.pt_eq] at h; exact h)
theorem errataref01_Reader_Text.up {r0 : Value} {w : World} {K : Value → World → Prop} (h : Calls Tryd.prog F_errataref01_Reader_Text #[r0] w (retK K)) : upK Tryd.prog (sCall F_errataref01_Reader_Text #[r0]) w K :=
  up_call (fn := Tryd.f35) Tryd.func35 (by kernel_rfl) (by kernel_rfl) h

/-- errata/errataref01.SameNums -/
def errataref01_SameNums.pt (a0 b1 : Value) (w : World) (K : Value → World → Prop) : Prop :=
  readK Tryd.prog (sBlt .len #[T_s_int] T_int #[false] #[a0]) w fun t7 =>
  readK Tryd.prog (sBlt .len #[T_s_int] T_int #[false] #[b1]) w fun t9 =>
  pureK Tryd.prog (sBin .neq T_int (.tmp 7) (.tmp 9) t7 t9) fun t10 =>
  ifB t10
  (K (.bool false) w)
  (LOOP (X := Value × Unit) (fun x1 w1 next1 =>
    readK Tryd.prog (sBlt .len #[T_s_int] T_int #[false] #[a0]) w1 fun t13 =>
    pureK Tryd.prog (sBin .lss T_int (.tmp 11) (.tmp 13) x1.1 t13) fun t14 =>
    ifB t14
    (pureK Tryd.prog (sIdxAddr T_s_int a0 x1.1) fun t19 =>
     readK Tryd.prog (sLoad T_int t19) (tick w1) fun t20 =>
     pureK Tryd.prog (sIdxAddr T_s_int b1 x1.1) fun t23 =>
     readK Tryd.prog (sLoad T_int t23) (tick w1) fun t24 =>
     pureK Tryd.prog (sBin .neq T_int (.tmp 20) (.tmp 24) t20 t24) fun t25 =>
     ifB t25
     (K (.bool false) (tick w1))
     (pureK Tryd.prog (sBin .add T_int (.tmp 15) (.const (.int .i64 1)) x1.1 (.int .i64 1)) fun t16 =>
      next1 (t16, ()) (tick w1)))
    (K (.bool true) w1))
   ((.int .i64 0), ()) w)
theorem errataref01_SameNums.pt_eq : errataref01_SameNums.pt = fun a0 b1 w K => FN Tryd.prog Tryd.f36 (bodyOf Tryd.f36) [4] .leaf [a0, b1] w K := by kernel_rfl
theorem errataref01_SameNums.call {a0 b1 : Value} {w : World} {K : Value → World → Prop} (h : errataref01_SameNums.pt a0 b1 w K) : Calls Tryd.prog F_errataref01_SameNums #[a0, b1] w (retK K) :=
  calls_FN (args := [a0, b1]) Tryd.func36 (by kernel_rfl) (by rw [errataref01_SameNums.pt_eq] at h; exact h)
theorem errataref01_SameNums.up {a0 b1 : Value} {w : World} {K : Value → World → Prop} (h : Calls Tryd.prog F_errataref01_SameNums #[a0, b1] w (retK K)) : upK Tryd.prog (sCall F_errataref01_SameNums #[a0, b1]) w K :=
  up_call (fn := Tryd.f36) Tryd.func36 (by kernel_rfl) (by kernel_rfl) h

/-- (*errata/errataref01.Reader).Nums -/
def errataref01_Reader_Nums.pt (r0 : Value) (w : World) (K : Value → World → Prop) : Prop :=
  upK Tryd.prog (sCall F_errataref01_Reader_number #[r0, (.int .u8 91)]) w fun t7 w1 =>
  LETJ (X := Value × Unit) (fun y1 w2 =>
   pureK Tryd.prog (sNil r0) fun t26 =>
   pureK Tryd.prog (sFieldAddr T_errataref01_Reader t26 1) fun t27 =>
   readK Tryd.prog (sLoad T_bool t27) w2 fun t28 =>
   ifB t28
   (K (.slice none 0 0) w2)
   (upK Tryd.prog (sCall F_errataref01_Reader_close #[r0, (.int .u8 93)]) w2 fun t31 w3 =>
    pureK Tryd.prog (sUn .not t31) fun t32 =>
    ifB t32
    (K (.slice none 0 0) w3)
    (K y1.1 w3)))
  (fun J1 =>
   LOOP (X := Value × Value × Unit) (fun x4 w4 next4 =>
    pureK Tryd.prog (sBin .lss T_int (.tmp 8) (.tmp 9) x4.2.1 t7) fun t10 =>
    ifB t10
    (pureK Tryd.prog (sNil r0) fun t13 =>
     pureK Tryd.prog (sFieldAddr T_errataref01_Reader t13 1) fun t14 =>
     readK Tryd.prog (sLoad T_bool t14) w4 fun t15 =>
     pureK Tryd.prog (sUn .not t15) fun t16 =>
     ifB t16
     (upK Tryd.prog (sCall F_errataref01_Reader_Int #[r0]) w4 fun t22 w5 =>
      upK Tryd.prog (sBuildSlice T_s_int 1 #[(0, t22)]) w5 fun t23 w6 =>
      upK Tryd.prog (sBlt .append #[T_s_int, T_s_int] T_s_int #[false, false] #[x4.1, t23]) w6 fun t24 w7 =>
      pureK Tryd.prog (sBin .add T_int (.tmp 18) (.const (.int .i64 1)) x4.2.1 (.int .i64 1)) fun t19 =>
      next4 (t24, t19, ()) w7)
     (J1 (x4.1, ()) w4))
    (J1 (x4.1, ()) w4))
   ((.slice none 0 0), (.int .i64 0), ()) w1)
theorem errataref01_Reader_Nums.pt_eq : errataref01_Reader_Nums.pt = fun r0 w K => FN Tryd.prog Tryd.f37 (bodyOf Tryd.f37) [2] (.node none .leaf (.node none .leaf (.node none .leaf (.node (some [4]) .leaf .leaf)))) [r0] w K := by kernel_rfl
theorem errataref01_Reader_Nums.call {r0 : Value} {w : World} {K : Value → World → Prop} (h : errataref01_Reader_Nums.pt r0 w K) : Calls Tryd.prog F_errataref01_Reader_Nums #[r0] w (retK K) :=
  calls_FN (args := [r0]) Tryd.func37 (by kernel_rfl) (by rw [errataref01_Reader_Nums.pt_eq] at h; exact h)
theorem errataref01_Reader_Nums.up {r0 : Value} {w : World} {K : Value → World → Prop} (h : Calls Tryd.prog F_errataref01_Reader_Nums #[r0] w (retK K)) : upK Tryd.prog (sCall F_errataref01_Reader_Nums #[r0]) w K :=
  up_call (fn := Tryd.f37) Tryd.func37 (by kernel_rfl) (by kernel_rfl) h

/-- errata/errataref01.SameTexts -/
def errataref01_SameTexts.pt (a0 b1 : Value) (w : World) (K : Value → World → Prop) : Prop :=
  readK Tryd.prog (sBlt .len #[T_s_string] T_int #[false] #[a0]) w fun t7 =>
  readK Tryd.prog (sBlt .len #[T_s_string] T_int #[false] #[b1]) w fun t9 =>
  pureK Tryd.prog (sBin .neq T_int (.tmp 7) (.tmp 9) t7 t9) fun t10 =>
  ifB t10
  (K (.bool false) w)
  (LOOP (X := Value × Unit) (fun x1 w1 next1 =>
    readK Tryd.prog (sBlt .len #[T_s_string] T_int #[false] #[a0]) w1 fun t13 =>
    pureK Tryd.prog (sBin .lss T_int (.tmp 11) (.tmp 13) x1.1 t13) fun t14 =>
    ifB t14
    (pureK Tryd.prog (sIdxAddr T_s_string a0 x1.1) fun t19 =>
     readK Tryd.prog (sLoad T_string t19) (tick w1) fun t20 =>
     pureK Tryd.prog (sIdxAddr T_s_string b1 x1.1) fun t23 =>
     readK Tryd.prog (sLoad T_string t23) (tick w1) fun t24 =>
     pureK Tryd.prog (sBin .neq T_string (.tmp 20) (.tmp 24) t20 t24) fun t25 =>
     ifB t25
     (K (.bool false) (tick w1))
     (pureK Tryd.prog (sBin .add T_int (.tmp 15) (.const (.int .i64 1)) x1.1 (.int .i64 1)) fun t16 =>
      next1 (t16, ()) (tick w1)))
    (K (.bool true) w1))
   ((.int .i64 0), ()) w)
theorem errataref01_SameTexts.pt_eq : errataref01_SameTexts.pt = fun a0 b1 w K => FN Tryd.prog Tryd.f38 (bodyOf Tryd.f38) [4] .leaf [a0, b1] w K := by kernel_rfl
theorem errataref01_SameTexts.call {a0 b1 : Value} {w : World} {K : Value → World → Prop} (h : errataref01_SameTexts.pt a0 b1 w K) : Calls Tryd.prog F_errataref01_SameTexts #[a0, b1] w (retK K) :=
  calls_FN (args := [a0, b1]) Tryd.func38 (by kernel_rfl) (by rw [errataref01_SameTexts.pt_eq] at h; exact h)
theorem errataref01_SameTexts.up {a0 b1 : Value} {w : World} {K : Value → World → Prop} (h : Calls Tryd.prog F_errataref01_SameTexts #[a0, b1] w (retK K)) : upK Tryd.prog (sCall F_errataref01_SameTexts #[a0, b1]) w K :=
  up_call (fn := Tryd.f38) Tryd.func38 (by kernel_rfl) (by kernel_rfl) h

/-- (*errata/errataref01.Reader).Texts -/
def errataref01_Reader_Texts.pt (r0 : Value) (w : World) (K : Value → World → Prop) : Prop :=
  upK Tryd.prog (sCall F_errataref01_Reader_number #[r0, (.int .u8 91)]) w fun t7 w1 =>
  LETJ (X := Value × Unit) (fun y1 w2 =>
   pureK Tryd.prog (sNil r0) fun t26 =>
   pureK Tryd.prog (sFieldAddr T_errataref01_Reader t26 1) fun t27 =>
   readK Tryd.prog (sLoad T_bool t27) w2 fun t28 =>
   ifB t28
   (K (.slice none 0 0) w2)
   (upK Tryd.prog (sCall F_errataref01_Reader_close #[r0, (.int .u8 93)]) w2 fun t31 w3 =>
    pureK Tryd.prog (sUn .not t31) fun t32 =>
    ifB t32
    (K (.slice none 0 0) w3)
    (K y1.1 w3)))
  (fun J1 =>
   LOOP (X := Value × Value × Unit) (fun x4 w4 next4 =>
    pureK Tryd.prog (sBin .lss T_int (.tmp 8) (.tmp 9) x4.2.1 t7) fun t10 =>
    ifB t10
    (pureK Tryd.prog (sNil r0) fun t13 =>
     pureK Tryd.prog (sFieldAddr T_errataref01_Reader t13 1) fun t14 =>
     readK Tryd.prog (sLoad T_bool t14) w4 fun t15 =>
     pureK Tryd.prog (sUn .not t15) fun t16 =>
     ifB t16
     (upK Tryd.prog (sCall F_errataref01_Reader_Text #[r0]) w4 fun t22 w5 =>
      upK Tryd.prog (sBuildSlice T_s_string 1 #[(0, t22)]) w5 fun t23 w6 =>
      upK Tryd.prog (sBlt .append #[T_s_string, T_s_string] T_s_string #[false, false] #[x4.1, t23]) w6 fun t24 w7 =>
      pureK Tryd.prog (sBin .add T_int (.tmp 18) (.const (.int .i64 1)) x4.2.1 (.int .i64 1)) fun t19 =>
      next4 (t24, t19, ()) w7)
     (J1 (x4.1, ()) w4))
    (J1 (x4.1, ()) w4))
   ((.slice none 0 0), (.int .i64 0), ()) w1)
theorem errataref01_Reader_Texts.pt_eq : errataref01_Reader_Texts.pt = fun r0 w K => FN Tryd.prog Tryd.f39 (bodyOf Tryd.f39) [2] (.node none .leaf (.node none .leaf (.node none .leaf (.node (some [4]) .leaf .leaf)))) [r0] w K := by kernel_rfl
theorem errataref01_Reader_Texts.call {r0 : Value} {w : World} {K : Value → World → Prop} (h : errataref01_Reader_Texts.pt r0 w K) : Calls Tryd.prog F_errataref01_Reader_Texts #[r0] w (retK K) :=
  calls_FN (args := [r0]) Tryd.func39 (by kernel_rfl) (by rw [errataref01_Reader_Texts.pt_eq] at h; exact h)
theorem errataref01_Reader_Texts.up {r0 : Value} {w : World} {K : Value → World → Prop} (h : Calls Tryd.prog F_errataref01_Reader_Texts #[r0] w (retK K)) : upK Tryd.prog (sCall F_errataref01_Reader_Texts #[r0]) w K :=
  up_call (fn := Tryd.f39) Tryd.func39 (by kernel_rfl) (by kernel_rfl) h

/-- (*errata/errataref01.Reader).Left -/
def errataref01_Reader_Left.pt (r0 : Value) (w : World) (K : Value → World → Prop) : Prop :=
  pureK Tryd.prog (sNil r0) fun t4 =>
  pureK Tryd.prog (sFieldAddr T_errataref01_Reader t4 0) fun t5 =>
  readK Tryd.prog (sLoad T_string t5) w fun t6 =>
  readK Tryd.prog (sBlt .len #[T_string] T_int #[false] #[t6]) w fun t7 =>
  K t7 w
theorem errataref01_Reader_Left.pt_eq : errataref01_Reader_Left.pt = fun r0 w K => FN Tryd.prog Tryd.f40 (bodyOf Tryd.f40) [2] .leaf [r0] w K := by kernel_rfl
theorem errataref01_Reader_Left.call {r0 : Value} {w : World} {K : Value → World → Prop} (h : errataref01_Reader_Left.pt r0 w K) : Calls Tryd.prog F_errataref01_Reader_Left #[r0] w (retK K) :=
  calls_FN (args := [r0]) Tryd.func40 (by kernel_rfl) (by rw [errataref01_Reader_Left.pt_eq] at h; exact h)
theorem errataref01_Reader_Left.up {r0 : Value} {w : World} {K : Value → World → Prop} (h : Calls Tryd.prog F_errataref01_Reader_Left #[r0] w (retK K)) : upK Tryd.prog (sCall F_errataref01_Reader_Left #[r0]) w K :=
  up_call (fn := Tryd.f40) Tryd.func40 (by kernel_rfl) (by kernel_rfl) h

/-- (*errata/errataref01.Reader).Done -/
def errataref01_Reader_Done.pt (r0 : Value) (w : World) (K : Value → World → Prop) : Prop :=
  pureK Tryd.prog (sNil r0) fun t4 =>
  pureK Tryd.prog (sFieldAddr T_errataref01_Reader t4 1) fun t5 =>
  readK Tryd.prog (sLoad T_bool t5) w fun t6 =>
  pureK Tryd.prog (sUn .not t6) fun t7 =>
  ifB t7
  (pureK Tryd.prog (sNil r0) fun t10 =>
   pureK Tryd.prog (sFieldAddr T_errataref01_Reader t10 0) fun t11 =>
   readK Tryd.prog (sLoad T_string t11) w fun t12 =>
   pureK Tryd.prog (sBin .eql T_string (.tmp 12) (.const (.string ⟨#[]⟩)) t12 (.string ⟨#[]⟩)) fun t13 =>
   K t13 w)
  (K (.bool false) w)
theorem errataref01_Reader_Done.pt_eq : errataref01_Reader_Done.pt = fun r0 w K => FN Tryd.prog Tryd.f41 (bodyOf Tryd.f41) [2] .leaf [r0] w K := by kernel_rfl
theorem errataref01_Reader_Done.call {r0 : Value} {w : World} {K : Value → World → Prop} (h : errataref01_Reader_Done.pt r0 w K) : Calls Tryd.prog F_errataref01_Reader_Done #[r0] w (retK K) :=
  calls_FN (args := [r0]) Tryd.func41 (by kernel_rfl) (by rw [errataref01_Reader_Done.pt_eq] at h; exact h)
theorem errataref01_Reader_Done.up {r0 : Value} {w : World} {K : Value → World → Prop} (h : Calls Tryd.prog F_errataref01_Reader_Done #[r0] w (retK K)) : upK Tryd.prog (sCall F_errataref01_Reader_Done #[r0]) w K :=
  up_call (fn := Tryd.f41) Tryd.func41 (by kernel_rfl) (by kernel_rfl) h

/-- (*errata/wire.Reader).Rest -/
def wire_Reader_Rest.pt (r0 : Value) (w : World) (K : Value → World → Prop) : Prop :=
  pureK Tryd.prog (sNil r0) fun t5 =>
  pureK Tryd.prog (sFieldAddr T_wire_Reader t5 0) fun t6 =>
  readK Tryd.prog (sLoad T_string t6) w fun t7 =>
  pureK Tryd.prog (sNil r0) fun t9 =>
  pureK Tryd.prog (sFieldAddr T_wire_Reader t9 0) fun t10 =>
  upK Tryd.prog (sStore T_string t10 (.string ⟨#[]⟩)) w fun tu w1 =>
  K t7 w1
theorem wire_Reader_Rest.pt_eq : wire_Reader_Rest.pt = fun r0 w K => FN Tryd.prog Tryd.f42 (bodyOf Tryd.f42) [2] .leaf [r0] w K := by kernel_rfl
theorem wire_Reader_Rest.call {r0 : Value} {w : World} {K : Value → World → Prop} (h : wire_Reader_Rest.pt r0 w K) : Calls Tryd.prog F_wire_Reader_Rest #[r0] w (retK K) :=
  calls_FN (args := [r0]) Tryd.func42 (by kernel_rfl) (by rw [wire_Reader_Rest.pt_eq] at h; exact h)
theorem wire_Reader_Rest.up {r0 : Value} {w : World} {K : Value → World → Prop} (h : Calls Tryd.prog F_wire_Reader_Rest #[r0] w (retK K)) : upK Tryd.prog (sCall F_wire_Reader_Rest #[r0]) w K :=
  up_call (fn := Tryd.f42) Tryd.func42 (by kernel_rfl) (by kernel_rfl) h

/-- (*errata/errataref01.Reader).Tail -/
def errataref01_Reader_Tail.pt (r0 : Value) (w : World) (K : Value → World → Prop) : Prop :=
  pureK Tryd.prog (sNil r0) fun t5 =>
  pureK Tryd.prog (sFieldAddr T_errataref01_Reader t5 0) fun t6 =>
  readK Tryd.prog (sLoad T_string t6) w fun t7 =>
  pureK Tryd.prog (sNil r0) fun t9 =>
  pureK Tryd.prog (sFieldAddr T_errataref01_Reader t9 0) fun t10 =>
  upK Tryd.prog (sStore T_string t10 (.string ⟨#[]⟩)) w fun tu w1 =>
  K t7 w1
theorem errataref01_Reader_Tail.pt_eq : errataref01_Reader_Tail.pt = fun r0 w K => FN Tryd.prog Tryd.f43 (bodyOf Tryd.f43) [2] .leaf [r0] w K := by kernel_rfl
theorem errataref01_Reader_Tail.call {r0 : Value} {w : World} {K : Value → World → Prop} (h : errataref01_Reader_Tail.pt r0 w K) : Calls Tryd.prog F_errataref01_Reader_Tail #[r0] w (retK K) :=
  calls_FN (args := [r0]) Tryd.func43 (by kernel_rfl) (by rw [errataref01_Reader_Tail.pt_eq] at h; exact h)
theorem errataref01_Reader_Tail.up {r0 : Value} {w : World} {K : Value → World → Prop} (h : Calls Tryd.prog F_errataref01_Reader_Tail #[r0] w (retK K)) : upK Tryd.prog (sCall F_errataref01_Reader_Tail #[r0]) w K :=
  up_call (fn := Tryd.f43) Tryd.func43 (by kernel_rfl) (by kernel_rfl) h

/-- strconv.Itoa -/
theorem strconv_Itoa.up {p0 : Value} {w : World} {K : Value → World → Prop} (h : Calls Tryd.prog F_strconv_Itoa #[p0] w (retK K)) : upK Tryd.prog (sCall F_strconv_Itoa #[p0]) w K :=
  up_call (fn := Tryd.f44) Tryd.func44 (by kernel_rfl) (by kernel_rfl) h

/-- errata/errataref01.digits -/
def errataref01_digits.pt (n0 : Value) (w : World) (K : Value → World → Prop) : Prop :=
  pureK Tryd.prog (sBin .rem T_int (.tmp 4) (.const (.int .i64 10)) n0 (.int .i64 10)) fun t5 =>
  pureK Tryd.prog (sBin .sub T_int (.const (.int .i64 48)) (.tmp 5) (.int .i64 48) t5) fun t6 =>
  upK Tryd.prog (sConv T_int T_uint8 t6) w fun t7 w1 =>
  upK Tryd.prog (sBuildSlice T_s_uint8 1 #[(0, t7)]) w1 fun t8 w2 =>
  upK Tryd.prog (sConv T_s_uint8 T_string t8) w2 fun t9 w3 =>
  pureK Tryd.prog (sBin .gtr T_int (.tmp 10) (.const (.int .i64 (-10))) n0 (.int .i64 (-10))) fun t11 =>
  ifB t11
  (K t9 w3)
  (pureK Tryd.prog (sBin .quo T_int (.tmp 13) (.const (.int .i64 10)) n0 (.int .i64 10)) fun t14 =>
   upK Tryd.prog (sCall F_errataref01_digits #[t14]) w3 fun t15 w4 =>
   pureK Tryd.prog (sBin .add T_string (.tmp 15) (.tmp 16) t15 t9) fun t17 =>
   K t17 w4)
theorem errataref01_digits.pt_eq : errataref01_digits.pt = fun n0 w K => FN Tryd.prog Tryd.f45 (bodyOf Tryd.f45) [2] .leaf [n0] w K := by kernel_rfl
theorem errataref01_digits.call {n0 : Value} {w : World} {K : Value → World → Prop} (h : errataref01_digits.pt n0 w K) : Calls Tryd.prog F_errataref01_digits #[n0] w (retK K) :=
  calls_FN (args := [n0]) Tryd.func45 (by kernel_rfl) (by rw [errataref01_digits.pt_eq] at h; exact h)
theorem errataref01_digits.up {n0 : Value} {w : World} {K : Value → World → Prop} (h : Calls Tryd.prog F_errataref01_digits #[n0] w (retK K)) : upK Tryd.prog (sCall F_errataref01_digits #[n0]) w K :=
  up_call (fn := Tryd.f45) Tryd.func45 (by kernel_rfl) (by kernel_rfl) h

/-- errata/wire.list[int] -/
def wire_list_int.pt (l0 one1 : Value) (w : World) (K : Value → World → Prop) : Prop :=
  upK Tryd.prog (sAlloc T_strings_Builder) w fun b5 w1 =>
  readK Tryd.prog (sBlt .len #[T_s_int] T_int #[false] #[l0]) w1 fun t9 =>
  upK Tryd.prog (sCall F_strconv_Itoa #[t9]) w1 fun t10 w2 =>
  pureK Tryd.prog (sBin .add T_string (.tmp 10) (.const (.string ⟨#[91]⟩)) t10 (.string ⟨#[91]⟩)) fun t11 =>
  upK Tryd.prog (sCall F_strings_Builder_WriteString #[b5, t11]) w2 fun t12 w3 =>
  readK Tryd.prog (sBlt .len #[T_s_int] T_int #[false] #[l0]) w3 fun t14 =>
  LOOP (X := Value × Unit) (fun x4 w4 next4 =>
   pureK Tryd.prog (sBin .lss T_int (.tmp 15) (.tmp 14) x4.1 t14) fun t16 =>
   ifB t16
   (pureK Tryd.prog (sIdxAddr T_s_int l0 x4.1) fun t17 =>
    readK Tryd.prog (sLoad T_int t17) w4 fun t18 =>
    upK Tryd.prog (sCallV one1 #[t18]) w4 fun t21 w5 =>
    upK Tryd.prog (sCall F_strings_Builder_WriteString #[b5, t21]) w5 fun t22 w6 =>
    pureK Tryd.prog (sBin .add T_int (.tmp 15) (.const (.int .i64 1)) x4.1 (.int .i64 1)) fun t23 =>
    next4 (t23, ()) w6)
   (upK Tryd.prog (sCall F_strings_Builder_String #[b5]) w4 fun t24 w7 =>
    pureK Tryd.prog (sBin .add T_string (.tmp 24) (.const (.string ⟨#[93]⟩)) t24 (.string ⟨#[93]⟩)) fun t25 =>
    K t25 w7))
  ((.int .i64 0), ()) w3
theorem wire_list_int.pt_eq : wire_list_int.pt = fun l0 one1 w K => FN Tryd.prog Tryd.f46 (bodyOf Tryd.f46) [4] .leaf [l0, one1] w K := by kernel_rfl
theorem wire_list_int.call {l0 one1 : Value} {w : World} {K : Value → World → Prop} (h : wire_list_int.pt l0 one1 w K) : Calls Tryd.prog F_wire_list_int #[l0, one1] w (retK K) :=
  calls_FN (args := [l0, one1]) Tryd.func46 (by kernel_rfl) (by rw [wire_list_int.pt_eq] at h; exact h)
theorem wire_list_int.up {l0 one1 : Value} {w : World} {K : Value → World → Prop} (h : Calls Tryd.prog F_wire_list_int #[l0, one1] w (retK K)) : upK Tryd.prog (sCall F_wire_list_int #[l0, one1]) w K :=
  up_call (fn := Tryd.f46) Tryd.func46 (by kernel_rfl) (by kernel_rfl) h

/-- errata/wire.list[string] -/
def wire_list_string.pt (l0 one1 : Value) (w : World) (K : Value → World → Prop) : Prop :=
  upK Tryd.prog (sAlloc T_strings_Builder) w fun b5 w1 =>
  readK Tryd.prog (sBlt .len #[T_s_string] T_int #[false] #[l0]) w1 fun t9 =>
  upK Tryd.prog (sCall F_strconv_Itoa #[t9]) w1 fun t10 w2 =>
  pureK Tryd.prog (sBin .add T_string (.tmp 10) (.const (.string ⟨#[91]⟩)) t10 (.string ⟨#[91]⟩)) fun t11 =>
  upK Tryd.prog (sCall F_strings_Builder_WriteString #[b5, t11]) w2 fun t12 w3 =>
  readK Tryd.prog (sBlt .len #[T_s_string] T_int #[false] #[l0]) w3 fun t14 =>
  LOOP (X := Value × Unit) (fun x4 w4 next4 =>
   pureK Tryd.prog (sBin .lss T_int (.tmp 15) (.tmp 14) x4.1 t14) fun t16 =>
   ifB t16
   (pureK Tryd.prog (sIdxAddr T_s_string l0 x4.1) fun t17 =>
    readK Tryd.prog (sLoad T_string t17) w4 fun t18 =>
    upK Tryd.prog (sCallV one1 #[t18]) w4 fun t21 w5 =>
    upK Tryd.prog (sCall F_strings_Builder_WriteString #[b5, t21]) w5 fun t22 w6 =>
    pureK Tryd.prog (sBin .add T_int (.tmp 15) (.const (.int .i64 1)) x4.1 (.int .i64 1)) fun t23 =>
    next4 (t23, ()) w6)
   (upK Tryd.prog (sCall F_strings_Builder_String #[b5]) w4 fun t24 w7 =>
    pureK Tryd.prog (sBin .add T_string (.tmp 24) (.const (.string ⟨#[93]⟩)) t24 (.string ⟨#[93]⟩)) fun t25 =>
    K t25 w7))
  ((.int .i64 0), ()) w3
theorem wire_list_string.pt_eq : wire_list_string.pt = fun l0 one1 w K => FN Tryd.prog Tryd.f47 (bodyOf Tryd.f47) [4] .leaf [l0, one1] w K := by kernel_rfl
theorem wire_list_string.call {l0 one1 : Value} {w : World} {K : Value → World → Prop} (h : wire_list_string.pt l0 one1 w K) : Calls Tryd.prog F_wire_list_string #[l0, one1] w (retK K) :=
  calls_FN (args := [l0, one1]) Tryd.func47 (by kernel_rfl) (by rw [wire_list_string.pt_eq] at h; exact h)
theorem wire_list_string.up {l0 one1 : Value} {w : World} {K : Value → World → Prop} (h : Calls Tryd.prog F_wire_list_string #[l0, one1] w (retK K)) : upK Tryd.prog (sCall F_wire_list_string #[l0, one1]) w K :=
  up_call (fn := Tryd.f47) Tryd.func47 (by kernel_rfl) (by kernel_rfl) h

/-- (*errata/wire.Reader).number -/
def wire_Reader_number.pt (r0 end1 least2 : Value) (w : World) (K : Value → World → Prop) : Prop :=
  pureK Tryd.prog (sNil r0) fun t12 =>
  pureK Tryd.prog (sFieldAddr T_wire_Reader t12 0) fun t13 =>
  readK Tryd.prog (sLoad T_string t13) (tick w) fun t14 =>
  pureK Tryd.prog (sNil r0) fun t16 =>
  pureK Tryd.prog (sFieldAddr T_wire_Reader t16 0) fun t17 =>
  readK Tryd.prog (sLoad T_string t17) (tick w) fun t18 =>
  readK Tryd.prog (sBlt .len #[T_string] T_int #[false] #[t18]) (tick w) fun t19 =>
  pureK Tryd.prog (sBlt .min #[T_int, T_int] T_int #[false, true] #[t19, (.int .i64 21)]) fun t20 =>
  pureK Tryd.prog (sSlice T_string t14 none (some t20) none) fun t21 =>
  upK Tryd.prog (sCall F_strings_IndexByte #[t21, end1]) (tick w) fun t24 w1 =>
  pureK Tryd.prog (sBin .lss T_int (.tmp 25) (.const (.int .i64 0)) t24 (.int .i64 0)) fun t26 =>
  ifB t26
  (upK Tryd.prog (sCall F_wire_Reader_fail #[r0]) w1 fun t28 w2 =>
   K (.int .i64 0) w2)
  (pureK Tryd.prog (sSlice T_string t21 none (some t24) none) fun t32 =>
   upK Tryd.prog (sCall F_strconv_Atoi #[t32]) w1 fun t33 w3 =>
   pureK Tryd.prog (sExtract t33 0) fun t34 =>
   pureK Tryd.prog (sExtract t33 1) fun t35 =>
   pureK Tryd.prog (sBin .neq T_error (.tmp 36) (.const .nilIface) t35 .nilIface) fun t37 =>
   ifB t37
   (upK Tryd.prog (sCall F_wire_Reader_fail #[r0]) (tick w3) fun t52 w4 =>
    K (.int .i64 0) w4)
   (pureK Tryd.prog (sSlice T_string t21 none (some t24) none) fun t43 =>
    upK Tryd.prog (sCall F_strconv_Itoa #[t34]) (tick w3) fun t40 w5 =>
    pureK Tryd.prog (sBin .neq T_string (.tmp 40) (.tmp 43) t40 t43) fun t44 =>
    ifB t44
    (upK Tryd.prog (sCall F_wire_Reader_fail #[r0]) w5 fun t52_1 w6 =>
     K (.int .i64 0) w6)
    (pureK Tryd.prog (sBin .lss T_int (.tmp 47) (.tmp 48) t34 least2) fun t49 =>
     ifB t49
     (upK Tryd.prog (sCall F_wire_Reader_fail #[r0]) w5 fun t52_2 w7 =>
      K (.int .i64 0) w7)
     (pureK Tryd.prog (sNil r0) fun t55 =>
      pureK Tryd.prog (sFieldAddr T_wire_Reader t55 0) fun t56 =>
      readK Tryd.prog (sLoad T_string t56) w5 fun t57 =>
      pureK Tryd.prog (sBin .add T_int (.tmp 58) (.const (.int .i64 1)) t24 (.int .i64 1)) fun t59 =>
      pureK Tryd.prog (sSlice T_string t57 (some t59) none none) fun t60 =>
      pureK Tryd.prog (sNil r0) fun t61 =>
      pureK Tryd.prog (sFieldAddr T_wire_Reader t61 0) fun t62 =>
      upK Tryd.prog (sStore T_string t62 t60) w5 fun tu w8 =>
      K t34 w8))))
theorem wire_Reader_number.pt_eq : wire_Reader_number.pt = fun r0 end1 least2 w K => FN Tryd.prog Tryd.f48 (bodyOf Tryd.f48) [6] .leaf [r0, end1, least2] w K := by kernel_rfl
theorem wire_Reader_number.call {r0 end1 least2 : Value} {w : World} {K : Value → World → Prop} (h : wire_Reader_number.pt r0 end1 least2 w K) : Calls Tryd.prog F_wire_Reader_number #[r0, end1, least2] w (retK K) :=
  calls_FN (args := [r0, end1, least2]) Tryd.func48 (by kernel_rfl) (by rw [wire_Reader_number.pt_eq] at h; exact h)
theorem wire_Reader_number.up {r0 end1 least2 : Value} {w : World} {K : Value → World → Prop} (h : Calls Tryd.prog F_wire_Reader_number #[r0, end1, least2] w (retK K)) : upK Tryd.prog (sCall F_wire_Reader_number #[r0, end1, least2]) w K :=
  up_call (fn := Tryd.f48) Tryd.func48 (by kernel_rfl) (by kernel_rfl) h

/-- (*errata/wire.Reader).fail -/
def wire_Reader_fail.pt (r0 : Value) (w : World) (K : Value → World → Prop) : Prop :=
  pureK Tryd.prog (sNil r0) fun t4 =>
  pureK Tryd.prog (sFieldAddr T_wire_Reader t4 0) fun t5 =>
  upK Tryd.prog (sStore T_string t5 (.string ⟨#[]⟩)) w fun tu w1 =>
  pureK Tryd.prog (sNil r0) fun t6 =>
  pureK Tryd.prog (sFieldAddr T_wire_Reader t6 1) fun t7 =>
  upK Tryd.prog (sStore T_bool t7 (.bool true)) w1 fun tu_1 w2 =>
  K (.tuple #[]) w2
theorem wire_Reader_fail.pt_eq : wire_Reader_fail.pt = fun r0 w K => FN Tryd.prog Tryd.f49 (bodyOf Tryd.f49) [] .leaf [r0] w K := by kernel_rfl
theorem wire_Reader_fail.call {r0 : Value} {w : World} {K : Value → World → Prop} (h : wire_Reader_fail.pt r0 w K) : Calls Tryd.prog F_wire_Reader_fail #[r0] w (retK K) :=
  calls_FN (args := [r0]) Tryd.func49 (by kernel_rfl) (by rw [wire_Reader_fail.pt_eq] at h; exact h)
theorem wire_Reader_fail.up {r0 : Value} {w : World} {K : Value → World → Prop} (h : Calls Tryd.prog F_wire_Reader_fail #[r0] w (retK K)) : upK Tryd.prog (sCall F_wire_Reader_fail #[r0]) w K :=
  up_call (fn := Tryd.f49) Tryd.func49 (by kernel_rfl) (by kernel_rfl) h

/-- (*errata/wire.Reader).close -/
def wire_Reader_close.pt (r0 end1 : Value) (w : World) (K : Value → World → Prop) : Prop :=
  pureK Tryd.prog (sNil r0) fun t8 =>
  pureK Tryd.prog (sFieldAddr T_wire_Reader t8 0) fun t9 =>
  readK Tryd.prog (sLoad T_string t9) w fun t10 =>
  upK Tryd.prog (sCall F_strings_CutPrefix #[t10, end1]) w fun t12 w1 =>
  pureK Tryd.prog (sExtract t12 0) fun t13 =>
  pureK Tryd.prog (sExtract t12 1) fun t14 =>
  pureK Tryd.prog (sNil r0) fun t17 =>
  pureK Tryd.prog (sFieldAddr T_wire_Reader t17 0) fun t18 =>
  upK Tryd.prog (sStore T_string t18 t13) w1 fun tu w2 =>
  pureK Tryd.prog (sUn .not t14) fun t20 =>
  ifB t20
  (upK Tryd.prog (sCall F_wire_Reader_fail #[r0]) w2 fun t22 w3 =>
   K (.tuple #[]) w3)
  (K (.tuple #[]) w2)
theorem wire_Reader_close.pt_eq : wire_Reader_close.pt = fun r0 end1 w K => FN Tryd.prog Tryd.f50 (bodyOf Tryd.f50) [] .leaf [r0, end1] w K := by kernel_rfl
theorem wire_Reader_close.call {r0 end1 : Value} {w : World} {K : Value → World → Prop} (h : wire_Reader_close.pt r0 end1 w K) : Calls Tryd.prog F_wire_Reader_close #[r0, end1] w (retK K) :=
  calls_FN (args := [r0, end1]) Tryd.func50 (by kernel_rfl) (by rw [wire_Reader_close.pt_eq] at h; exact h)
theorem wire_Reader_close.up {r0 end1 : Value} {w : World} {K : Value → World → Prop} (h : Calls Tryd.prog F_wire_Reader_close #[r0, end1] w (retK K)) : upK Tryd.prog (sCall F_wire_Reader_close #[r0, end1]) w K :=
  up_call (fn := Tryd.f50) Tryd.func50 (by kernel_rfl) (by kernel_rfl) h

/-- errata/wire.items[int] -/
def wire_items_int.pt (r0 one1 : Value) (w : World) (K : Value → World → Prop) : Prop :=
  LETJ (X := Value × Unit) (fun y1 w1 =>
   upK Tryd.prog (sCall F_wire_Reader_close #[r0, (.string ⟨#[93]⟩)]) w1 fun t26 w2 =>
   pureK Tryd.prog (sNil r0) fun t28 =>
   pureK Tryd.prog (sFieldAddr T_wire_Reader t28 1) fun t29 =>
   readK Tryd.prog (sLoad T_bool t29) w2 fun t30 =>
   ifB t30
   (K (.slice none 0 0) w2)
   (K y1.1 w2))
  (fun J1 =>
   upK Tryd.prog (sCall F_wire_Reader_number #[r0, (.int .u8 91), (.int .i64 0)]) w fun t8 w3 =>
   LOOP (X := Value × Value × Unit) (fun x4 w4 next4 =>
    pureK Tryd.prog (sBin .gtr T_int (.tmp 9) (.const (.int .i64 0)) x4.2.1 (.int .i64 0)) fun t10 =>
    ifB t10
    (pureK Tryd.prog (sNil r0) fun t13 =>
     pureK Tryd.prog (sFieldAddr T_wire_Reader t13 1) fun t14 =>
     readK Tryd.prog (sLoad T_bool t14) w4 fun t15 =>
     pureK Tryd.prog (sUn .not t15) fun t16 =>
     ifB t16
     (upK Tryd.prog (sCallV one1 #[]) w4 fun t22 w5 =>
      upK Tryd.prog (sBuildSlice T_s_int 1 #[(0, t22)]) w5 fun t23 w6 =>
      upK Tryd.prog (sBlt .append #[T_s_int, T_s_int] T_s_int #[false, false] #[x4.1, t23]) w6 fun t24 w7 =>
      pureK Tryd.prog (sBin .sub T_int (.tmp 18) (.const (.int .i64 1)) x4.2.1 (.int .i64 1)) fun t19 =>
      next4 (t24, t19, ()) w7)
     (J1 (x4.1, ()) w4))
    (J1 (x4.1, ()) w4))
   ((.slice none 0 0), t8, ()) w3)
theorem wire_items_int.pt_eq : wire_items_int.pt = fun r0 one1 w K => FN Tryd.prog Tryd.f51 (bodyOf Tryd.f51) [4] (.node none .leaf (.node none .leaf (.node (some [5]) .leaf .leaf))) [r0, one1] w K := by kernel_rfl
theorem wire_items_int.call {r0 one1 : Value} {w : World} {K : Value → World → Prop} (h : wire_items_int.pt r0 one1 w K) : Calls Tryd.prog F_wire_items_int #[r0, one1] w (retK K) :=
  calls_FN (args := [r0, one1]) Tryd.func51 (by kernel_rfl) (by rw [wire_items_int.pt_eq] at h; exact h)
theorem wire_items_int.up {r0 one1 : Value} {w : World} {K : Value → World → Prop} (h : Calls Tryd.prog F_wire_items_int #[r0, one1] w (retK K)) : upK Tryd.prog (sCall F_wire_items_int #[r0, one1]) w K :=
  up_call (fn := Tryd.f51) Tryd.func51 (by kernel_rfl) (by kernel_rfl) h

/-- errata/wire.items[string] -/
def wire_items_string.pt (r0 one1 : Value) (w : World) (K : Value → World → Prop) : Prop :=
  LETJ (X := Value × Unit) (fun y1 w1 =>
   upK Tryd.prog (sCall F_wire_Reader_close #[r0, (.string ⟨#[93]⟩)]) w1 fun t26 w2 =>
   pureK Tryd.prog (sNil r0) fun t28 =>
   pureK Tryd.prog (sFieldAddr T_wire_Reader t28 1) fun t29 =>
   readK Tryd.prog (sLoad T_bool t29) w2 fun t30 =>
   ifB t30
   (K (.slice none 0 0) w2)
   (K y1.1 w2))
  (fun J1 =>
   upK Tryd.prog (sCall F_wire_Reader_number #[r0, (.int .u8 91), (.int .i64 0)]) w fun t8 w3 =>
   LOOP (X := Value × Value × Unit) (fun x4 w4 next4 =>
    pureK Tryd.prog (sBin .gtr T_int (.tmp 9) (.const (.int .i64 0)) x4.2.1 (.int .i64 0)) fun t10 =>
    ifB t10
    (pureK Tryd.prog (sNil r0) fun t13 =>
     pureK Tryd.prog (sFieldAddr T_wire_Reader t13 1) fun t14 =>
     readK Tryd.prog (sLoad T_bool t14) w4 fun t15 =>
     pureK Tryd.prog (sUn .not t15) fun t16 =>
     ifB t16
     (upK Tryd.prog (sCallV one1 #[]) w4 fun t22 w5 =>
      upK Tryd.prog (sBuildSlice T_s_string 1 #[(0, t22)]) w5 fun t23 w6 =>
      upK Tryd.prog (sBlt .append #[T_s_string, T_s_string] T_s_string #[false, false] #[x4.1, t23]) w6 fun t24 w7 =>
      pureK Tryd.prog (sBin .sub T_int (.tmp 18) (.const (.int .i64 1)) x4.2.1 (.int .i64 1)) fun t19 =>
      next4 (t24, t19, ()) w7)
     (J1 (x4.1, ()) w4))
    (J1 (x4.1, ()) w4))
   ((.slice none 0 0), t8, ()) w3)
theorem wire_items_string.pt_eq : wire_items_string.pt = fun r0 one1 w K => FN Tryd.prog Tryd.f52 (bodyOf Tryd.f52) [4] (.node none .leaf (.node none .leaf (.node (some [5]) .leaf .leaf))) [r0, one1] w K := by kernel_rfl
theorem wire_items_string.call {r0 one1 : Value} {w : World} {K : Value → World → Prop} (h : wire_items_string.pt r0 one1 w K) : Calls Tryd.prog F_wire_items_string #[r0, one1] w (retK K) :=
  calls_FN (args := [r0, one1]) Tryd.func52 (by kernel_rfl) (by rw [wire_items_string.pt_eq] at h; exact h)
theorem wire_items_string.up {r0 one1 : Value} {w : World} {K : Value → World → Prop} (h : Calls Tryd.prog F_wire_items_string #[r0, one1] w (retK K)) : upK Tryd.prog (sCall F_wire_items_string #[r0, one1]) w K :=
  up_call (fn := Tryd.f52) Tryd.func52 (by kernel_rfl) (by kernel_rfl) h

/-- errata/erratalaw01.number -/
def erratalaw01_number.pt (n0 : Value) (w : World) (K : Value → World → Prop) : Prop :=
  pureK Tryd.prog (sBin .lss T_int (.tmp 3) (.const (.int .i64 0)) n0 (.int .i64 0)) fun t4 =>
  ifB t4
  (pureK Tryd.prog (sBin .add T_int (.tmp 5) (.const (.int .i64 1)) n0 (.int .i64 1)) fun t6 =>
   pureK Tryd.prog (sUn .neg t6) fun t7 =>
   K t7 w)
  (K n0 w)
theorem erratalaw01_number.pt_eq : erratalaw01_number.pt = fun n0 w K => FN Tryd.prog Tryd.f53 (bodyOf Tryd.f53) [2] .leaf [n0] w K := by kernel_rfl
theorem erratalaw01_number.call {n0 : Value} {w : World} {K : Value → World → Prop} (h : erratalaw01_number.pt n0 w K) : Calls Tryd.prog F_erratalaw01_number #[n0] w (retK K) :=
  calls_FN (args := [n0]) Tryd.func53 (by kernel_rfl) (by rw [erratalaw01_number.pt_eq] at h; exact h)
theorem erratalaw01_number.up {n0 : Value} {w : World} {K : Value → World → Prop} (h : Calls Tryd.prog F_erratalaw01_number #[n0] w (retK K)) : upK Tryd.prog (sCall F_erratalaw01_number #[n0]) w K :=
  up_call (fn := Tryd.f53) Tryd.func53 (by kernel_rfl) (by kernel_rfl) h

end Go.Proofs.YtkcjcbmbddfjnaaDoor
