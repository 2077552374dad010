/-
  The reckoned conditions of the functions that this seat's statements reach, printed by program, each held against the translation by the kernel. No condition.
-/
import Derived.Test.YtppnebcpalialaaDoorNames
namespace Go.Proofs.YtppnebcpalialaaDoor
set_option linter.unusedVariables false
set_option maxRecDepth 100000

/-- errata/erratalaw10.ProducerBack -/
def erratalaw10_ProducerBack.pt (s0 text1 e2 pos3 : Value) (w : World) (K : Value → World → Prop) : Prop :=
  upK Tryd.prog (sBox T_api_Entry e2) w fun e6 w1 =>
  upK Tryd.prog (sCall F_erratalaw10_small #[]) w1 fun t18 w2 =>
  upK Tryd.prog (sCall F_erratalaw10_few #[s0]) w2 fun t20 w3 =>
  pureK Tryd.prog (sUn .not t20) fun t21 =>
  ifB t21
  (K t18 w3)
  (readK Tryd.prog (sBlt .len #[T_string] T_int #[false] #[text1]) w3 fun t24 =>
   pureK Tryd.prog (sBin .gtr T_int (.tmp 24) (.const (.int .i64 1000)) t24 (.int .i64 1000)) fun t25 =>
   ifB t25
   (K t18 w3)
   (upK Tryd.prog (sCall F_producer_Read #[text1]) w3 fun t30 w4 =>
    pureK Tryd.prog (sExtract t30 0) fun t31 =>
    pureK Tryd.prog (sExtract t30 1) fun t32 =>
    LETJ (X := Unit) (fun y1 w5 =>
     upK Tryd.prog (sCall F_errataref10_Right #[s0]) w5 fun t55 w6 =>
     pureK Tryd.prog (sUn .not t55) fun t56 =>
     ifB t56
     (K t18 w6)
     (upK Tryd.prog (sCall F_producer_Bytes #[s0]) w6 fun t59 w7 =>
      readK Tryd.prog (sLoad T_api_Entry e6) w7 fun t61 =>
      upK Tryd.prog (sCall F_producer_Put #[s0, t61, pos3]) w7 fun t63 w8 =>
      upK Tryd.prog (sCall F_producer_Read #[t59]) w8 fun t66 w9 =>
      pureK Tryd.prog (sExtract t66 0) fun t67 =>
      pureK Tryd.prog (sExtract t66 1) fun t68 =>
      readK Tryd.prog (sLoad T_api_Entry e6) w9 fun t71 =>
      upK Tryd.prog (sCall F_producer_Look #[s0, t71]) w9 fun t72 w10 =>
      pureK Tryd.prog (sExtract t72 0) fun t73 =>
      pureK Tryd.prog (sExtract t72 1) fun t74 =>
      pureK Tryd.prog (sUn .not t68) fun t76 =>
      ifB t76
      (K (.bool false) w10)
      (upK Tryd.prog (sCall F_producer_Same #[t67, s0]) w10 fun t80 w11 =>
       pureK Tryd.prog (sUn .not t80) fun t81 =>
       ifB t81
       (K (.bool false) w11)
       (upK Tryd.prog (sCall F_producer_Bytes #[s0]) w11 fun t85 w12 =>
        pureK Tryd.prog (sBin .neq T_string (.tmp 85) (.tmp 86) t85 t59) fun t87 =>
        ifB t87
        (K (.bool false) w12)
        (ifB t18
         (pureK Tryd.prog (sBin .eql T_api_Errno (.tmp 91) (.const (.int .i64 0)) t74 (.int .i64 0)) fun t92 =>
          ifB t92
          (K (.bool true) w12)
          (upK Tryd.prog (sCall F_producer_Same #[t63, s0]) w12 fun t96 w13 =>
           K t96 w13))
         (K (.bool false) w12))))))
    (fun J1 =>
     ifB t32
     (upK Tryd.prog (sCall F_producer_Bytes #[t31]) w4 fun t36 w14 =>
      pureK Tryd.prog (sBin .neq T_string (.tmp 36) (.tmp 37) t36 text1) fun t38 =>
      ifB t38
      (K (.bool false) w14)
      (upK Tryd.prog (sCall F_producer_Right #[t31]) w14 fun t41 w15 =>
       pureK Tryd.prog (sUn .not t41) fun t42 =>
       ifB t42
       (K (.bool false) w15)
       (pureK Tryd.prog (sUn .not t32) fun t47 =>
        ifB t47
        (readK Tryd.prog (sBlt .len #[T_s_api_Producer] T_int #[false] #[t31]) w15 fun t50 =>
         pureK Tryd.prog (sBin .neq T_int (.tmp 50) (.const (.int .i64 0)) t50 (.int .i64 0)) fun t51 =>
         ifB t51
         (K (.bool false) w15)
         (J1 (()) w15))
        (J1 (()) w15))))
     (pureK Tryd.prog (sUn .not t32) fun t47_1 =>
      ifB t47_1
      (readK Tryd.prog (sBlt .len #[T_s_api_Producer] T_int #[false] #[t31]) w4 fun t50_1 =>
       pureK Tryd.prog (sBin .neq T_int (.tmp 50) (.const (.int .i64 0)) t50_1 (.int .i64 0)) fun t51_1 =>
       ifB t51_1
       (K (.bool false) w4)
       (J1 (()) w4))
      (J1 (()) w4)))))
theorem erratalaw10_ProducerBack.pt_eq : erratalaw10_ProducerBack.pt = fun s0 text1 e2 pos3 w K => FN Tryd.prog Tryd.f3 (bodyOf Tryd.f3) [8] (.node none .leaf (.node none .leaf (.node none .leaf (.node none .leaf (.node (some []) .leaf .leaf))))) [s0, text1, e2, pos3] w K := by kernel_rfl
theorem erratalaw10_ProducerBack.call {s0 text1 e2 pos3 : Value} {w : World} {K : Value → World → Prop} (h : erratalaw10_ProducerBack.pt s0 text1 e2 pos3 w K) : Calls Tryd.prog F_erratalaw10_ProducerBack #[s0, text1, e2, pos3] w (retK K) :=
  calls_FN (args := [s0, text1, e2, pos3]) Tryd.func3 (by kernel_rfl) (by rw [erratalaw10_ProducerBack.pt_eq] at h; exact h)
theorem erratalaw10_ProducerBack.up {s0 text1 e2 pos3 : Value} {w : World} {K : Value → World → Prop} (h : Calls Tryd.prog F_erratalaw10_ProducerBack #[s0, text1, e2, pos3] w (retK K)) : upK Tryd.prog (sCall F_erratalaw10_ProducerBack #[s0, text1, e2, pos3]) w K :=
  up_call (fn := Tryd.f3) Tryd.func3 (by kernel_rfl) (by kernel_rfl) h

/-- errata/erratalaw10.small -/
def erratalaw10_small.pt (w : World) (K : Value → World → Prop) : Prop :=
  upK Tryd.prog (sCall F_erratalaw10_record #[(.int .i64 7), (.int .i64 0), (.int .i64 0)]) w fun t16 w1 =>
  upK Tryd.prog (sCall F_producer_Look #[(.slice none 0 0), t16]) w1 fun t17 w2 =>
  pureK Tryd.prog (sExtract t17 0) fun t18 =>
  pureK Tryd.prog (sExtract t17 1) fun t19 =>
  upK Tryd.prog (sCall F_erratalaw10_record #[(.int .i64 7), (.int .i64 0), (.int .i64 0)]) w2 fun t20 w3 =>
  upK Tryd.prog (sCall F_producer_Put #[(.slice none 0 0), t20, (.int .i64 3)]) w3 fun t21 w4 =>
  upK Tryd.prog (sCall F_erratalaw10_record #[(.int .i64 7), (.int .i64 0), (.int .i64 0)]) w4 fun t24 w5 =>
  upK Tryd.prog (sCall F_producer_Look #[t21, t24]) w5 fun t25 w6 =>
  pureK Tryd.prog (sExtract t25 0) fun t26 =>
  pureK Tryd.prog (sExtract t25 1) fun t27 =>
  upK Tryd.prog (sCall F_producer_Fence #[t21, (.int .i64 7)]) w6 fun t30 w7 =>
  pureK Tryd.prog (sExtract t30 0) fun t31 =>
  pureK Tryd.prog (sExtract t30 1) fun t32 =>
  pureK Tryd.prog (sExtract t30 2) fun t33 =>
  upK Tryd.prog (sCall F_erratalaw10_record #[(.int .i64 7), (.int .i64 0), (.int .i64 1)]) w7 fun t36 w8 =>
  upK Tryd.prog (sCall F_producer_Look #[t31, t36]) w8 fun t37 w9 =>
  pureK Tryd.prog (sExtract t37 0) fun t38 =>
  pureK Tryd.prog (sExtract t37 1) fun t39 =>
  upK Tryd.prog (sCall F_erratalaw10_record #[(.int .i64 7), (.int .i64 1), (.int .i64 0)]) w9 fun t42 w10 =>
  upK Tryd.prog (sCall F_producer_Look #[t31, t42]) w10 fun t43 w11 =>
  pureK Tryd.prog (sExtract t43 0) fun t44 =>
  pureK Tryd.prog (sExtract t43 1) fun t45 =>
  upK Tryd.prog (sCall F_erratalaw10_record #[(.int .i64 8), (.int .i64 0), (.int .i64 1)]) w11 fun t48 w12 =>
  upK Tryd.prog (sCall F_producer_Look #[t31, t48]) w12 fun t49 w13 =>
  pureK Tryd.prog (sExtract t49 0) fun t50 =>
  pureK Tryd.prog (sExtract t49 1) fun t51 =>
  pureK Tryd.prog (sBin .eql T_api_Errno (.tmp 52) (.const (.int .i64 0)) t19 (.int .i64 0)) fun t53 =>
  ifB t53
  (pureK Tryd.prog (sBin .eql T_api_Errno (.tmp 55) (.const (.int .i64 5)) t27 (.int .i64 5)) fun t56 =>
   ifB t56
   (pureK Tryd.prog (sBin .eql T_int (.tmp 59) (.const (.int .i64 3)) t26 (.int .i64 3)) fun t60 =>
    ifB t60
    (pureK Tryd.prog (sBin .eql T_api_Errno (.tmp 63) (.const (.int .i64 0)) t33 (.int .i64 0)) fun t64 =>
     ifB t64
     (pureK Tryd.prog (sBin .eql T_int (.tmp 67) (.const (.int .i64 1)) t32 (.int .i64 1)) fun t68 =>
      ifB t68
      (pureK Tryd.prog (sBin .eql T_api_Errno (.tmp 71) (.const (.int .i64 18)) t39 (.int .i64 18)) fun t72 =>
       ifB t72
       (pureK Tryd.prog (sBin .eql T_api_Errno (.tmp 75) (.const (.int .i64 0)) t45 (.int .i64 0)) fun t76 =>
        ifB t76
        (pureK Tryd.prog (sBin .eql T_api_Errno (.tmp 79) (.const (.int .i64 19)) t51 (.int .i64 19)) fun t80 =>
         ifB t80
         (upK Tryd.prog (sCall F_producer_Right #[t31]) w13 fun t84 w14 =>
          K t84 w14)
         (K (.bool false) w13))
        (K (.bool false) w13))
       (K (.bool false) w13))
      (K (.bool false) w13))
     (K (.bool false) w13))
    (K (.bool false) w13))
   (K (.bool false) w13))
  (K (.bool false) w13)
theorem erratalaw10_small.pt_eq : erratalaw10_small.pt = fun  w K => FN Tryd.prog Tryd.f4 (bodyOf Tryd.f4) [0] .leaf [] w K := by kernel_rfl
theorem erratalaw10_small.call {w : World} {K : Value → World → Prop} (h : erratalaw10_small.pt  w K) : Calls Tryd.prog F_erratalaw10_small #[] w (retK K) :=
  calls_FN (args := []) Tryd.func4 (by kernel_rfl) (by rw [erratalaw10_small.pt_eq] at h; exact h)
theorem erratalaw10_small.up {w : World} {K : Value → World → Prop} (h : Calls Tryd.prog F_erratalaw10_small #[] w (retK K)) : upK Tryd.prog (sCall F_erratalaw10_small #[]) w K :=
  up_call (fn := Tryd.f4) Tryd.func4 (by kernel_rfl) (by kernel_rfl) h

/-- errata/erratalaw10.few -/
def erratalaw10_few.pt (s0 : Value) (w : World) (K : Value → World → Prop) : Prop :=
  LETJ (X := Unit) (fun y1 w1 =>
   readK Tryd.prog (sBlt .len #[T_s_api_Producer] T_int #[false] #[s0]) w1 fun t22 =>
   pureK Tryd.prog (sBin .leq T_int (.tmp 22) (.const (.int .i64 60)) t22 (.int .i64 60)) fun t23 =>
   K t23 w1)
  (fun J1 =>
   LOOP (X := Value × Unit) (fun x2 w2 next2 =>
    readK Tryd.prog (sBlt .len #[T_s_api_Producer] T_int #[false] #[s0]) w2 fun t6 =>
    pureK Tryd.prog (sBin .lss T_int (.tmp 4) (.tmp 6) x2.1 t6) fun t7 =>
    ifB t7
    (pureK Tryd.prog (sBin .lss T_int (.tmp 9) (.const (.int .i64 100)) x2.1 (.int .i64 100)) fun t10 =>
     ifB t10
     (pureK Tryd.prog (sIdxAddr T_s_api_Producer s0 x2.1) fun t16 =>
      pureK Tryd.prog (sFieldAddr T_api_Producer t16 3) fun t17 =>
      readK Tryd.prog (sLoad T_s_int t17) w2 fun t18 =>
      readK Tryd.prog (sBlt .len #[T_s_int] T_int #[false] #[t18]) w2 fun t19 =>
      pureK Tryd.prog (sBin .gtr T_int (.tmp 19) (.const (.int .i64 30)) t19 (.int .i64 30)) fun t20 =>
      ifB t20
      (K (.bool false) w2)
      (pureK Tryd.prog (sBin .add T_int (.tmp 12) (.const (.int .i64 1)) x2.1 (.int .i64 1)) fun t13 =>
       next2 (t13, ()) w2))
     (J1 (()) w2))
    (J1 (()) w2))
   ((.int .i64 0), ()) w)
theorem erratalaw10_few.pt_eq : erratalaw10_few.pt = fun s0 w K => FN Tryd.prog Tryd.f5 (bodyOf Tryd.f5) [2] (.node none .leaf (.node (some []) .leaf .leaf)) [s0] w K := by kernel_rfl
theorem erratalaw10_few.call {s0 : Value} {w : World} {K : Value → World → Prop} (h : erratalaw10_few.pt s0 w K) : Calls Tryd.prog F_erratalaw10_few #[s0] w (retK K) :=
  calls_FN (args := [s0]) Tryd.func5 (by kernel_rfl) (by rw [erratalaw10_few.pt_eq] at h; exact h)
theorem erratalaw10_few.up {s0 : Value} {w : World} {K : Value → World → Prop} (h : Calls Tryd.prog F_erratalaw10_few #[s0] w (retK K)) : upK Tryd.prog (sCall F_erratalaw10_few #[s0]) w K :=
  up_call (fn := Tryd.f5) Tryd.func5 (by kernel_rfl) (by kernel_rfl) h

/-- errata/producer.Read -/
def producer_Read.pt (s0 : Value) (w : World) (K : Value → World → Prop) : Prop :=
  upK Tryd.prog (sCall F_wire_Open #[s0]) w fun t8 w1 =>
  LETJ (X := Value × Unit) (fun y1 w2 =>
   upK Tryd.prog (sCall F_wire_Reader_Done #[t8]) w2 fun t33 w3 =>
   pureK Tryd.prog (sUn .not t33) fun t34 =>
   ifB t34
   (K (.tuple #[(.slice none 0 0), (.bool false)]) w3)
   (upK Tryd.prog (sCall F_producer_Right #[y1.1]) w3 fun t37 w4 =>
    pureK Tryd.prog (sUn .not t37) fun t38 =>
    ifB t38
    (K (.tuple #[(.slice none 0 0), (.bool false)]) w4)
    (upK Tryd.prog (sCall F_producer_Bytes #[y1.1]) w4 fun t42 w5 =>
     pureK Tryd.prog (sBin .neq T_string (.tmp 42) (.tmp 43) t42 s0) fun t44 =>
     ifB t44
     (K (.tuple #[(.slice none 0 0), (.bool false)]) w5)
     (K (.tuple #[y1.1, (.bool true)]) w5))))
  (fun J1 =>
   upK Tryd.prog (sCall F_wire_Reader_Num #[t8]) w1 fun t10 w6 =>
   LOOP (X := Value × Value × Unit) (fun x7 w7 next7 =>
    pureK Tryd.prog (sBin .gtr T_int (.tmp 11) (.const (.int .i64 0)) x7.2.1 (.int .i64 0)) fun t12 =>
    ifB t12
    (upK Tryd.prog (sCall F_wire_Reader_Left #[t8]) w7 fun t15 w8 =>
     pureK Tryd.prog (sBin .gtr T_int (.tmp 15) (.const (.int .i64 0)) t15 (.int .i64 0)) fun t16 =>
     ifB t16
     (upK Tryd.prog (sCall F_wire_Reader_Int #[t8]) w8 fun t22 w9 =>
      upK Tryd.prog (sCall F_wire_Reader_Int #[t8]) w9 fun t24 w10 =>
      upK Tryd.prog (sCall F_wire_Reader_Int #[t8]) w10 fun t26 w11 =>
      upK Tryd.prog (sCall F_wire_Reader_Nums #[t8]) w11 fun t28 w12 =>
      pureK Tryd.prog (sBuild T_api_Producer #[(0, t22), (1, t24), (2, t26), (3, t28)]) fun t29 =>
      upK Tryd.prog (sBuildSlice T_s_api_Producer 1 #[(0, t29)]) w12 fun t30 w13 =>
      upK Tryd.prog (sBlt .append #[T_s_api_Producer, T_s_api_Producer] T_s_api_Producer #[false, false] #[x7.1, t30]) w13 fun t31 w14 =>
      pureK Tryd.prog (sBin .sub T_int (.tmp 18) (.const (.int .i64 1)) x7.2.1 (.int .i64 1)) fun t19 =>
      next7 (t31, t19, ()) w14)
     (J1 (x7.1, ()) w8))
    (J1 (x7.1, ()) w7))
   ((.slice none 0 0), t10, ()) w6)
theorem producer_Read.pt_eq : producer_Read.pt = fun s0 w K => FN Tryd.prog Tryd.f6 (bodyOf Tryd.f6) [2, 3] (.node none .leaf (.node none .leaf (.node none .leaf (.node (some [5]) .leaf .leaf)))) [s0] w K := by kernel_rfl
theorem producer_Read.call {s0 : Value} {w : World} {K : Value → World → Prop} (h : producer_Read.pt s0 w K) : Calls Tryd.prog F_producer_Read #[s0] w (retK K) :=
  calls_FN (args := [s0]) Tryd.func6 (by kernel_rfl) (by rw [producer_Read.pt_eq] at h; exact h)
theorem producer_Read.up {s0 : Value} {w : World} {K : Value → World → Prop} (h : Calls Tryd.prog F_producer_Read #[s0] w (retK K)) : upK Tryd.prog (sCall F_producer_Read #[s0]) w K :=
  up_call (fn := Tryd.f6) Tryd.func6 (by kernel_rfl) (by kernel_rfl) h

/-- errata/producer.Bytes -/
def producer_Bytes.pt (s0 : Value) (w : World) (K : Value → World → Prop) : Prop :=
  upK Tryd.prog (sAlloc T_strings_Builder) w fun b3 w1 =>
  readK Tryd.prog (sBlt .len #[T_s_api_Producer] T_int #[false] #[s0]) w1 fun t7 =>
  upK Tryd.prog (sCall F_wire_Num #[t7]) w1 fun t8 w2 =>
  upK Tryd.prog (sCall F_strings_Builder_WriteString #[b3, t8]) w2 fun t9 w3 =>
  readK Tryd.prog (sBlt .len #[T_s_api_Producer] T_int #[false] #[s0]) w3 fun t11 =>
  LOOP (X := Value × Unit) (fun x4 w4 next4 =>
   pureK Tryd.prog (sBin .lss T_int (.tmp 12) (.tmp 11) x4.1 t11) fun t13 =>
   ifB t13
   (pureK Tryd.prog (sIdxAddr T_s_api_Producer s0 x4.1) fun t14 =>
    readK Tryd.prog (sLoad T_api_Producer t14) w4 fun t15 =>
    upK Tryd.prog (sAlloc T_api_Producer) w4 fun p5 w5 =>
    upK Tryd.prog (sStore T_api_Producer p5 t15) w5 fun tu w6 =>
    pureK Tryd.prog (sFieldAddr T_api_Producer p5 0) fun t16 =>
    readK Tryd.prog (sLoad T_int t16) (tick w6) fun t17 =>
    pureK Tryd.prog (sFieldAddr T_api_Producer p5 1) fun t19 =>
    readK Tryd.prog (sLoad T_int t19) (tick w6) fun t20 =>
    pureK Tryd.prog (sFieldAddr T_api_Producer p5 2) fun t23 =>
    readK Tryd.prog (sLoad T_int t23) (tick w6) fun t24 =>
    pureK Tryd.prog (sFieldAddr T_api_Producer p5 3) fun t27 =>
    readK Tryd.prog (sLoad T_s_int t27) (tick w6) fun t28 =>
    upK Tryd.prog (sCall F_wire_Int #[t17]) (tick w6) fun t18 w7 =>
    Is Tryd.prog (sLoad T_s_int t27) t28 w7 ∧ Is Tryd.prog (sLoad T_int t23) t24 w7 ∧ Is Tryd.prog (sLoad T_int t19) t20 w7 ∧ upK Tryd.prog (sCall F_wire_Int #[t20]) w7 fun t21 w8 =>
    Is Tryd.prog (sLoad T_s_int t27) t28 w8 ∧ Is Tryd.prog (sLoad T_int t23) t24 w8 ∧ pureK Tryd.prog (sBin .add T_string (.tmp 18) (.tmp 21) t18 t21) fun t22 =>
    upK Tryd.prog (sCall F_wire_Int #[t24]) w8 fun t25 w9 =>
    Is Tryd.prog (sLoad T_s_int t27) t28 w9 ∧ pureK Tryd.prog (sBin .add T_string (.tmp 22) (.tmp 25) t22 t25) fun t26 =>
    upK Tryd.prog (sCall F_wire_Nums #[t28]) w9 fun t29 w10 =>
    pureK Tryd.prog (sBin .add T_string (.tmp 26) (.tmp 29) t26 t29) fun t30 =>
    upK Tryd.prog (sCall F_strings_Builder_WriteString #[b3, t30]) w10 fun t31 w11 =>
    pureK Tryd.prog (sBin .add T_int (.tmp 12) (.const (.int .i64 1)) x4.1 (.int .i64 1)) fun t32 =>
    next4 (t32, ()) w11)
   (upK Tryd.prog (sCall F_strings_Builder_String #[b3]) w4 fun t33 w12 =>
    K t33 w12))
  ((.int .i64 0), ()) w3
theorem producer_Bytes.pt_eq : producer_Bytes.pt = fun s0 w K => FN Tryd.prog Tryd.f7 (bodyOf Tryd.f7) [2] .leaf [s0] w K := by kernel_rfl
theorem producer_Bytes.call {s0 : Value} {w : World} {K : Value → World → Prop} (h : producer_Bytes.pt s0 w K) : Calls Tryd.prog F_producer_Bytes #[s0] w (retK K) :=
  calls_FN (args := [s0]) Tryd.func7 (by kernel_rfl) (by rw [producer_Bytes.pt_eq] at h; exact h)
theorem producer_Bytes.up {s0 : Value} {w : World} {K : Value → World → Prop} (h : Calls Tryd.prog F_producer_Bytes #[s0] w (retK K)) : upK Tryd.prog (sCall F_producer_Bytes #[s0]) w K :=
  up_call (fn := Tryd.f7) Tryd.func7 (by kernel_rfl) (by kernel_rfl) h

/-- errata/producer.Right -/
def producer_Right.pt (s0 : Value) (w : World) (K : Value → World → Prop) : Prop :=
  readK Tryd.prog (sBlt .len #[T_s_api_Producer] T_int #[false] #[s0]) w fun t6 =>
  LOOP (X := Value × Unit) (fun x1 w1 next1 =>
   pureK Tryd.prog (sBin .lss T_int (.tmp 7) (.tmp 6) x1.1 t6) fun t8 =>
   ifB t8
   (LETJ (X := Unit) (fun y1 w2 =>
     pureK Tryd.prog (sBin .add T_int (.tmp 7) (.const (.int .i64 1)) x1.1 (.int .i64 1)) fun t30 =>
     next1 (t30, ()) w2)
    (fun J1 =>
     pureK Tryd.prog (sIdxAddr T_s_api_Producer s0 x1.1) fun t10 =>
     readK Tryd.prog (sLoad T_api_Producer t10) w1 fun t11 =>
     upK Tryd.prog (sAlloc T_api_Producer) w1 fun p4 w3 =>
     upK Tryd.prog (sStore T_api_Producer p4 t11) w3 fun tu w4 =>
     readK Tryd.prog (sLoad T_api_Producer p4) (tick w4) fun t12 =>
     upK Tryd.prog (sCall F_producer_fine #[t12]) (tick w4) fun t13 w5 =>
     pureK Tryd.prog (sUn .not t13) fun t14 =>
     ifB t14
     (K (.bool false) w5)
     (pureK Tryd.prog (sBin .gtr T_int (.tmp 16) (.const (.int .i64 0)) x1.1 (.int .i64 0)) fun t17 =>
      ifB t17
      (pureK Tryd.prog (sFieldAddr T_api_Producer p4 0) fun t19 =>
       readK Tryd.prog (sLoad T_int t19) w5 fun t20 =>
       pureK Tryd.prog (sBin .sub T_int (.tmp 22) (.const (.int .i64 1)) x1.1 (.int .i64 1)) fun t23 =>
       pureK Tryd.prog (sIdxAddr T_s_api_Producer s0 t23) fun t24 =>
       pureK Tryd.prog (sFieldAddr T_api_Producer t24 0) fun t25 =>
       readK Tryd.prog (sLoad T_int t25) w5 fun t26 =>
       pureK Tryd.prog (sBin .leq T_int (.tmp 20) (.tmp 26) t20 t26) fun t27 =>
       ifB t27
       (K (.bool false) w5)
       (J1 (()) w5))
      (J1 (()) w5))))
   (readK Tryd.prog (sBlt .len #[T_s_api_Producer] T_int #[false] #[s0]) w1 fun t32 =>
    pureK Tryd.prog (sBin .leq T_int (.tmp 32) (.const (.int .i64 50)) t32 (.int .i64 50)) fun t33 =>
    K t33 w1))
  ((.int .i64 0), ()) w
theorem producer_Right.pt_eq : producer_Right.pt = fun s0 w K => FN Tryd.prog Tryd.f8 (bodyOf Tryd.f8) [2] (.node none .leaf (.node none (.node none .leaf (.node none (.node none (.node none .leaf (.node none .leaf (.node (some []) .leaf .leaf))) .leaf) .leaf)) .leaf)) [s0] w K := by kernel_rfl
theorem producer_Right.call {s0 : Value} {w : World} {K : Value → World → Prop} (h : producer_Right.pt s0 w K) : Calls Tryd.prog F_producer_Right #[s0] w (retK K) :=
  calls_FN (args := [s0]) Tryd.func8 (by kernel_rfl) (by rw [producer_Right.pt_eq] at h; exact h)
theorem producer_Right.up {s0 : Value} {w : World} {K : Value → World → Prop} (h : Calls Tryd.prog F_producer_Right #[s0] w (retK K)) : upK Tryd.prog (sCall F_producer_Right #[s0]) w K :=
  up_call (fn := Tryd.f8) Tryd.func8 (by kernel_rfl) (by kernel_rfl) h

/-- errata/errataref10.Right -/
def errataref10_Right.pt (s0 : Value) (w : World) (K : Value → World → Prop) : Prop :=
  readK Tryd.prog (sBlt .len #[T_s_api_Producer] T_int #[false] #[s0]) w fun t9 =>
  pureK Tryd.prog (sBin .gtr T_int (.tmp 9) (.const (.int .i64 50)) t9 (.int .i64 50)) fun t10 =>
  ifB t10
  (K (.bool false) w)
  (LOOP (X := Value × Value × Unit) (fun x1 w1 next1 =>
    readK Tryd.prog (sBlt .len #[T_s_api_Producer] T_int #[false] #[s0]) w1 fun t13 =>
    pureK Tryd.prog (sBin .lss T_int (.tmp 11) (.tmp 13) x1.2.1 t13) fun t14 =>
    ifB t14
    (LETJ (X := Value × Unit) (fun y1 w2 =>
      pureK Tryd.prog (sBin .add T_int (.tmp 15) (.const (.int .i64 1)) x1.2.1 (.int .i64 1)) fun t16 =>
      next1 (y1.1, t16, ()) w2)
     (fun J1 =>
      pureK Tryd.prog (sIdxAddr T_s_api_Producer s0 x1.2.1) fun t19 =>
      readK Tryd.prog (sLoad T_api_Producer t19) w1 fun t20 =>
      upK Tryd.prog (sAlloc T_api_Producer) w1 fun p5 w3 =>
      upK Tryd.prog (sStore T_api_Producer p5 t20) w3 fun tu w4 =>
      pureK Tryd.prog (sFieldAddr T_api_Producer p5 0) fun t21 =>
      readK Tryd.prog (sLoad T_int t21) w4 fun t22 =>
      pureK Tryd.prog (sBin .leq T_int (.tmp 22) (.tmp 23) t22 x1.1) fun t24 =>
      ifB t24
      (K (.bool false) w4)
      (pureK Tryd.prog (sFieldAddr T_api_Producer p5 0) fun t26 =>
       readK Tryd.prog (sLoad T_int t26) w4 fun t27 =>
       upK Tryd.prog (sCall F_errataref10_in #[t27]) w4 fun t28 w5 =>
       pureK Tryd.prog (sUn .not t28) fun t29 =>
       ifB t29
       (K (.bool false) w5)
       (pureK Tryd.prog (sFieldAddr T_api_Producer p5 1) fun t32 =>
        readK Tryd.prog (sLoad T_int t32) w5 fun t33 =>
        upK Tryd.prog (sCall F_errataref10_in #[t33]) w5 fun t34 w6 =>
        pureK Tryd.prog (sUn .not t34) fun t35 =>
        ifB t35
        (K (.bool false) w6)
        (pureK Tryd.prog (sFieldAddr T_api_Producer p5 2) fun t38 =>
         readK Tryd.prog (sLoad T_int t38) w6 fun t39 =>
         upK Tryd.prog (sCall F_errataref10_in #[t39]) w6 fun t40 w7 =>
         pureK Tryd.prog (sUn .not t40) fun t41 =>
         ifB t41
         (K (.bool false) w7)
         (pureK Tryd.prog (sFieldAddr T_api_Producer p5 3) fun t44 =>
          readK Tryd.prog (sLoad T_s_int t44) w7 fun t45 =>
          readK Tryd.prog (sBlt .len #[T_s_int] T_int #[false] #[t45]) w7 fun t46 =>
          pureK Tryd.prog (sFieldAddr T_api_Producer p5 2) fun t47 =>
          readK Tryd.prog (sLoad T_int t47) w7 fun t48 =>
          pureK Tryd.prog (sBlt .min #[T_int, T_int] T_int #[false, true] #[t48, (.int .i64 20)]) fun t49 =>
          pureK Tryd.prog (sBin .neq T_int (.tmp 46) (.tmp 49) t46 t49) fun t50 =>
          ifB t50
          (K (.bool false) w7)
          (pureK Tryd.prog (sFieldAddr T_api_Producer p5 0) fun t52 =>
           readK Tryd.prog (sLoad T_int t52) w7 fun t53 =>
           LOOP (X := Value × Value × Unit) (fun x8 w8 next8 =>
            pureK Tryd.prog (sFieldAddr T_api_Producer p5 3) fun t55 =>
            readK Tryd.prog (sLoad T_s_int t55) w8 fun t56 =>
            readK Tryd.prog (sBlt .len #[T_s_int] T_int #[false] #[t56]) w8 fun t57 =>
            pureK Tryd.prog (sBin .lss T_int (.tmp 54) (.tmp 57) x8.2.1 t57) fun t58 =>
            ifB t58
            (pureK Tryd.prog (sFieldAddr T_api_Producer p5 3) fun t61 =>
             readK Tryd.prog (sLoad T_s_int t61) w8 fun t62 =>
             pureK Tryd.prog (sIdxAddr T_s_int t62 x8.2.1) fun t64 =>
             readK Tryd.prog (sLoad T_int t64) w8 fun t65 =>
             pureK Tryd.prog (sBin .leq T_int (.tmp 65) (.tmp 66) t65 x8.1) fun t67 =>
             ifB t67
             (K (.bool false) w8)
             (pureK Tryd.prog (sFieldAddr T_api_Producer p5 3) fun t69 =>
              readK Tryd.prog (sLoad T_s_int t69) w8 fun t70 =>
              pureK Tryd.prog (sIdxAddr T_s_int t70 x8.2.1) fun t72 =>
              readK Tryd.prog (sLoad T_int t72) w8 fun t73 =>
              upK Tryd.prog (sCall F_errataref10_in #[t73]) w8 fun t74 w9 =>
              pureK Tryd.prog (sUn .not t74) fun t75 =>
              ifB t75
              (K (.bool false) w9)
              (pureK Tryd.prog (sFieldAddr T_api_Producer p5 3) fun t77 =>
               readK Tryd.prog (sLoad T_s_int t77) w9 fun t78 =>
               pureK Tryd.prog (sIdxAddr T_s_int t78 x8.2.1) fun t80 =>
               readK Tryd.prog (sLoad T_int t80) w9 fun t81 =>
               pureK Tryd.prog (sBin .add T_int (.tmp 59) (.const (.int .i64 1)) x8.2.1 (.int .i64 1)) fun t60 =>
               next8 (t81, t60, ()) w9)))
            (J1 (t53, ()) w8))
           ((.int .i64 (-1)), (.int .i64 0), ()) w7)))))))
    (K (.bool true) w1))
   ((.int .i64 (-1)), (.int .i64 0), ()) w)
theorem errataref10_Right.pt_eq : errataref10_Right.pt = fun s0 w K => FN Tryd.prog Tryd.f9 (bodyOf Tryd.f9) [2] (.node none .leaf (.node none .leaf (.node none .leaf (.node none (.node none .leaf (.node none (.node none (.node none .leaf (.node (some [3]) .leaf .leaf)) .leaf) .leaf)) .leaf)))) [s0] w K := by kernel_rfl
theorem errataref10_Right.call {s0 : Value} {w : World} {K : Value → World → Prop} (h : errataref10_Right.pt s0 w K) : Calls Tryd.prog F_errataref10_Right #[s0] w (retK K) :=
  calls_FN (args := [s0]) Tryd.func9 (by kernel_rfl) (by rw [errataref10_Right.pt_eq] at h; exact h)
theorem errataref10_Right.up {s0 : Value} {w : World} {K : Value → World → Prop} (h : Calls Tryd.prog F_errataref10_Right #[s0] w (retK K)) : upK Tryd.prog (sCall F_errataref10_Right #[s0]) w K :=
  up_call (fn := Tryd.f9) Tryd.func9 (by kernel_rfl) (by kernel_rfl) h

/-- errata/producer.Put -/
def producer_Put.pt (s0 e1 pos2 : Value) (w : World) (K : Value → World → Prop) : Prop :=
  upK Tryd.prog (sBox T_api_Entry e1) w fun e4 w1 =>
  pureK Tryd.prog (sFieldAddr T_api_Entry e4 1) fun t13 =>
  readK Tryd.prog (sLoad T_int t13) w1 fun t14 =>
  upK Tryd.prog (sCall F_producer_find #[s0, t14]) w1 fun t15 w2 =>
  pureK Tryd.prog (sExtract t15 0) fun t16 =>
  pureK Tryd.prog (sExtract t15 1) fun t17 =>
  upK Tryd.prog (sAlloc T_api_Producer) w2 fun p7 w3 =>
  upK Tryd.prog (sStore T_api_Producer p7 t16) w3 fun tu w4 =>
  LETJ (X := Unit) (fun y1 w5 =>
   pureK Tryd.prog (sFieldAddr T_api_Producer p7 2) fun t51 =>
   readK Tryd.prog (sLoad T_int t51) w5 fun t52 =>
   pureK Tryd.prog (sBin .add T_int (.tmp 52) (.const (.int .i64 1)) t52 (.int .i64 1)) fun t53 =>
   pureK Tryd.prog (sFieldAddr T_api_Producer p7 2) fun t54 =>
   upK Tryd.prog (sStore T_int t54 t53) w5 fun tu_1 w6 =>
   pureK Tryd.prog (sFieldAddr T_api_Producer p7 3) fun t55 =>
   readK Tryd.prog (sLoad T_s_int t55) w6 fun t56 =>
   upK Tryd.prog (sCall F_slices_Clone_s_int_int #[t56]) w6 fun t57 w7 =>
   upK Tryd.prog (sBuildSlice T_s_int 1 #[(0, pos2)]) w7 fun t59 w8 =>
   upK Tryd.prog (sBlt .append #[T_s_int, T_s_int] T_s_int #[false, false] #[t57, t59]) w8 fun t60 w9 =>
   pureK Tryd.prog (sFieldAddr T_api_Producer p7 3) fun t61 =>
   upK Tryd.prog (sStore T_s_int t61 t60) w9 fun tu_2 w10 =>
   pureK Tryd.prog (sFieldAddr T_api_Producer p7 3) fun t62 =>
   readK Tryd.prog (sLoad T_s_int t62) w10 fun t63 =>
   pureK Tryd.prog (sFieldAddr T_api_Producer p7 3) fun t64 =>
   readK Tryd.prog (sLoad T_s_int t64) w10 fun t65 =>
   readK Tryd.prog (sBlt .len #[T_s_int] T_int #[false] #[t65]) w10 fun t66 =>
   pureK Tryd.prog (sBin .sub T_int (.tmp 66) (.const (.int .i64 20)) t66 (.int .i64 20)) fun t67 =>
   pureK Tryd.prog (sBlt .max #[T_int, T_int] T_int #[false, true] #[t67, (.int .i64 0)]) fun t68 =>
   pureK Tryd.prog (sSlice T_s_int t63 (some t68) none none) fun t69 =>
   pureK Tryd.prog (sFieldAddr T_api_Producer p7 3) fun t70 =>
   upK Tryd.prog (sStore T_s_int t70 t69) w10 fun tu_3 w11 =>
   readK Tryd.prog (sLoad T_api_Producer p7) w11 fun t72 =>
   upK Tryd.prog (sCall F_producer_with #[s0, t72]) w11 fun t73 w12 =>
   K t73 w12)
  (fun J1 =>
   readK Tryd.prog (sLoad T_api_Entry e4) w4 fun t20 =>
   upK Tryd.prog (sCall F_producer_Look #[s0, t20]) w4 fun t21 w13 =>
   pureK Tryd.prog (sExtract t21 0) fun t22 =>
   pureK Tryd.prog (sExtract t21 1) fun t23 =>
   pureK Tryd.prog (sBin .neq T_api_Errno (.tmp 24) (.const (.int .i64 0)) t23 (.int .i64 0)) fun t25 =>
   ifB t25
   (upK Tryd.prog (sCall F_producer_clone #[s0]) w13 fun t50 w14 =>
    K t50 w14)
   (upK Tryd.prog (sCall F_producer_in #[pos2]) w13 fun t28 w15 =>
    pureK Tryd.prog (sUn .not t28) fun t29 =>
    ifB t29
    (upK Tryd.prog (sCall F_producer_clone #[s0]) w15 fun t50_1 w16 =>
     K t50_1 w16)
    (pureK Tryd.prog (sFieldAddr T_api_Producer p7 3) fun t32 =>
     readK Tryd.prog (sLoad T_s_int t32) w15 fun t33 =>
     readK Tryd.prog (sBlt .len #[T_s_int] T_int #[false] #[t33]) w15 fun t34 =>
     pureK Tryd.prog (sBin .gtr T_int (.tmp 34) (.const (.int .i64 0)) t34 (.int .i64 0)) fun t35 =>
     ifB t35
     (pureK Tryd.prog (sFieldAddr T_api_Producer p7 3) fun t38 =>
      readK Tryd.prog (sLoad T_s_int t38) w15 fun t39 =>
      pureK Tryd.prog (sFieldAddr T_api_Producer p7 3) fun t40 =>
      readK Tryd.prog (sLoad T_s_int t40) w15 fun t41 =>
      readK Tryd.prog (sBlt .len #[T_s_int] T_int #[false] #[t41]) w15 fun t42 =>
      pureK Tryd.prog (sBin .sub T_int (.tmp 42) (.const (.int .i64 1)) t42 (.int .i64 1)) fun t43 =>
      pureK Tryd.prog (sIdxAddr T_s_int t39 t43) fun t44 =>
      readK Tryd.prog (sLoad T_int t44) w15 fun t45 =>
      pureK Tryd.prog (sBin .leq T_int (.tmp 37) (.tmp 45) pos2 t45) fun t46 =>
      ifB t46
      (upK Tryd.prog (sCall F_producer_clone #[s0]) w15 fun t50_2 w17 =>
       K t50_2 w17)
      (J1 (()) w15))
     (J1 (()) w15))))
theorem producer_Put.pt_eq : producer_Put.pt = fun s0 e1 pos2 w K => FN Tryd.prog Tryd.f10 (bodyOf Tryd.f10) [6] (.node none .leaf (.node none .leaf (.node (some []) .leaf .leaf))) [s0, e1, pos2] w K := by kernel_rfl
theorem producer_Put.call {s0 e1 pos2 : Value} {w : World} {K : Value → World → Prop} (h : producer_Put.pt s0 e1 pos2 w K) : Calls Tryd.prog F_producer_Put #[s0, e1, pos2] w (retK K) :=
  calls_FN (args := [s0, e1, pos2]) Tryd.func10 (by kernel_rfl) (by rw [producer_Put.pt_eq] at h; exact h)
theorem producer_Put.up {s0 e1 pos2 : Value} {w : World} {K : Value → World → Prop} (h : Calls Tryd.prog F_producer_Put #[s0, e1, pos2] w (retK K)) : upK Tryd.prog (sCall F_producer_Put #[s0, e1, pos2]) w K :=
  up_call (fn := Tryd.f10) Tryd.func10 (by kernel_rfl) (by kernel_rfl) h

/-- errata/producer.Look -/
def producer_Look.pt (s0 e1 : Value) (w : World) (K : Value → World → Prop) : Prop :=
  upK Tryd.prog (sBox T_api_Entry e1) w fun e3 w1 =>
  pureK Tryd.prog (sFieldAddr T_api_Entry e3 1) fun t11 =>
  readK Tryd.prog (sLoad T_int t11) w1 fun t12 =>
  pureK Tryd.prog (sFieldAddr T_api_Entry e3 2) fun t13 =>
  readK Tryd.prog (sLoad T_int t13) w1 fun t14 =>
  pureK Tryd.prog (sFieldAddr T_api_Entry e3 3) fun t15 =>
  readK Tryd.prog (sLoad T_int t15) w1 fun t16 =>
  upK Tryd.prog (sBuildSlice T_s_int 3 #[(0, t12), (1, t14), (2, t16)]) w1 fun t17 w2 =>
  readK Tryd.prog (sBlt .len #[T_s_int] T_int #[false] #[t17]) w2 fun t18 =>
  LOOP (X := Value × Unit) (fun x3 w3 next3 =>
   pureK Tryd.prog (sBin .lss T_int (.tmp 19) (.tmp 18) x3.1 t18) fun t20 =>
   ifB t20
   (pureK Tryd.prog (sIdxAddr T_s_int t17 x3.1) fun t21 =>
    readK Tryd.prog (sLoad T_int t21) w3 fun t22 =>
    upK Tryd.prog (sCall F_producer_in #[t22]) w3 fun t24 w4 =>
    pureK Tryd.prog (sUn .not t24) fun t25 =>
    ifB t25
    (K (.tuple #[(.int .i64 0), (.int .i64 1)]) w4)
    (pureK Tryd.prog (sBin .eql T_int (.tmp 27) (.const (.int .i64 1099511627776)) t22 (.int .i64 1099511627776)) fun t28 =>
     ifB t28
     (K (.tuple #[(.int .i64 0), (.int .i64 1)]) w4)
     (pureK Tryd.prog (sBin .add T_int (.tmp 19) (.const (.int .i64 1)) x3.1 (.int .i64 1)) fun t30 =>
      next3 (t30, ()) w4)))
   (pureK Tryd.prog (sFieldAddr T_api_Entry e3 1) fun t33 =>
    readK Tryd.prog (sLoad T_int t33) w3 fun t34 =>
    upK Tryd.prog (sCall F_producer_find #[s0, t34]) w3 fun t35 w5 =>
    pureK Tryd.prog (sExtract t35 0) fun t36 =>
    pureK Tryd.prog (sExtract t35 1) fun t37 =>
    upK Tryd.prog (sAlloc T_api_Producer) w5 fun p8 w6 =>
    upK Tryd.prog (sStore T_api_Producer p8 t36) w6 fun tu w7 =>
    LETJ (X := Unit) (fun y1 w8 =>
     pureK Tryd.prog (sFieldAddr T_api_Producer p8 3) fun t70 =>
     readK Tryd.prog (sLoad T_s_int t70) w8 fun t71 =>
     readK Tryd.prog (sBlt .len #[T_s_int] T_int #[false] #[t71]) w8 fun t72 =>
     pureK Tryd.prog (sFieldAddr T_api_Producer p8 2) fun t73 =>
     readK Tryd.prog (sLoad T_int t73) w8 fun t74 =>
     pureK Tryd.prog (sFieldAddr T_api_Entry e3 3) fun t75 =>
     readK Tryd.prog (sLoad T_int t75) w8 fun t76 =>
     pureK Tryd.prog (sBin .sub T_int (.tmp 74) (.tmp 76) t74 t76) fun t77 =>
     pureK Tryd.prog (sBin .sub T_int (.tmp 72) (.tmp 77) t72 t77) fun t78 =>
     pureK Tryd.prog (sBin .geq T_int (.tmp 79) (.const (.int .i64 0)) t78 (.int .i64 0)) fun t80 =>
     ifB t80
     (pureK Tryd.prog (sFieldAddr T_api_Producer p8 3) fun t81 =>
      readK Tryd.prog (sLoad T_s_int t81) w8 fun t82 =>
      pureK Tryd.prog (sIdxAddr T_s_int t82 t78) fun t84 =>
      readK Tryd.prog (sLoad T_int t84) w8 fun t85 =>
      K (.tuple #[t85, (.int .i64 5)]) w8)
     (K (.tuple #[(.int .i64 (-1)), (.int .i64 5)]) w8))
    (fun J1 =>
     pureK Tryd.prog (sFieldAddr T_api_Entry e3 2) fun t39 =>
     readK Tryd.prog (sLoad T_int t39) w7 fun t40 =>
     pureK Tryd.prog (sFieldAddr T_api_Producer p8 1) fun t41 =>
     readK Tryd.prog (sLoad T_int t41) w7 fun t42 =>
     pureK Tryd.prog (sBin .lss T_int (.tmp 40) (.tmp 42) t40 t42) fun t43 =>
     ifB t43
     (K (.tuple #[(.int .i64 0), (.int .i64 18)]) w7)
     (pureK Tryd.prog (sFieldAddr T_api_Entry e3 2) fun t45 =>
      readK Tryd.prog (sLoad T_int t45) w7 fun t46 =>
      pureK Tryd.prog (sFieldAddr T_api_Producer p8 1) fun t47 =>
      readK Tryd.prog (sLoad T_int t47) w7 fun t48 =>
      pureK Tryd.prog (sBin .gtr T_int (.tmp 46) (.tmp 48) t46 t48) fun t49 =>
      ifB t49
      (K (.tuple #[(.int .i64 0), (.int .i64 25)]) w7)
      (pureK Tryd.prog (sFieldAddr T_api_Entry e3 3) fun t51 =>
       readK Tryd.prog (sLoad T_int t51) w7 fun t52 =>
       pureK Tryd.prog (sFieldAddr T_api_Producer p8 2) fun t53 =>
       readK Tryd.prog (sLoad T_int t53) w7 fun t54 =>
       pureK Tryd.prog (sBin .gtr T_int (.tmp 52) (.tmp 54) t52 t54) fun t55 =>
       ifB t55
       (K (.tuple #[(.int .i64 0), (.int .i64 19)]) w7)
       (pureK Tryd.prog (sUn .not t37) fun t58 =>
        ifB t58
        (readK Tryd.prog (sBlt .len #[T_s_api_Producer] T_int #[false] #[s0]) w7 fun t61 =>
         pureK Tryd.prog (sBin .geq T_int (.tmp 61) (.const (.int .i64 50)) t61 (.int .i64 50)) fun t62 =>
         ifB t62
         (K (.tuple #[(.int .i64 0), (.int .i64 6)]) w7)
         (pureK Tryd.prog (sFieldAddr T_api_Entry e3 3) fun t65 =>
          readK Tryd.prog (sLoad T_int t65) w7 fun t66 =>
          pureK Tryd.prog (sFieldAddr T_api_Producer p8 2) fun t67 =>
          readK Tryd.prog (sLoad T_int t67) w7 fun t68 =>
          pureK Tryd.prog (sBin .eql T_int (.tmp 66) (.tmp 68) t66 t68) fun t69 =>
          ifB t69
          (K (.tuple #[(.int .i64 0), (.int .i64 0)]) w7)
          (J1 (()) w7)))
        (pureK Tryd.prog (sFieldAddr T_api_Entry e3 3) fun t65_1 =>
         readK Tryd.prog (sLoad T_int t65_1) w7 fun t66_1 =>
         pureK Tryd.prog (sFieldAddr T_api_Producer p8 2) fun t67_1 =>
         readK Tryd.prog (sLoad T_int t67_1) w7 fun t68_1 =>
         pureK Tryd.prog (sBin .eql T_int (.tmp 66) (.tmp 68) t66_1 t68_1) fun t69_1 =>
         ifB t69_1
         (K (.tuple #[(.int .i64 0), (.int .i64 0)]) w7)
         (J1 (()) w7))))))))
  ((.int .i64 0), ()) w2
theorem producer_Look.pt_eq : producer_Look.pt = fun s0 e1 w K => FN Tryd.prog Tryd.f11 (bodyOf Tryd.f11) [4, 5] (.node none .leaf (.node none .leaf (.node none .leaf (.node (some []) .leaf .leaf)))) [s0, e1] w K := by kernel_rfl
theorem producer_Look.call {s0 e1 : Value} {w : World} {K : Value → World → Prop} (h : producer_Look.pt s0 e1 w K) : Calls Tryd.prog F_producer_Look #[s0, e1] w (retK K) :=
  calls_FN (args := [s0, e1]) Tryd.func11 (by kernel_rfl) (by rw [producer_Look.pt_eq] at h; exact h)
theorem producer_Look.up {s0 e1 : Value} {w : World} {K : Value → World → Prop} (h : Calls Tryd.prog F_producer_Look #[s0, e1] w (retK K)) : upK Tryd.prog (sCall F_producer_Look #[s0, e1]) w K :=
  up_call (fn := Tryd.f11) Tryd.func11 (by kernel_rfl) (by kernel_rfl) h

/-- errata/producer.Same -/
def producer_Same.pt (a0 b1 : Value) (w : World) (K : Value → World → Prop) : Prop :=
  upK Tryd.prog (sCall F_slices_EqualFunc_s_api_Producer_s_api_Producer_api_Producer_api_Producer #[a0, b1, (.func (.func 34) #[] #[])]) w fun t7 w1 =>
  K t7 w1
theorem producer_Same.pt_eq : producer_Same.pt = fun a0 b1 w K => FN Tryd.prog Tryd.f12 (bodyOf Tryd.f12) [4] .leaf [a0, b1] w K := by kernel_rfl
theorem producer_Same.call {a0 b1 : Value} {w : World} {K : Value → World → Prop} (h : producer_Same.pt a0 b1 w K) : Calls Tryd.prog F_producer_Same #[a0, b1] w (retK K) :=
  calls_FN (args := [a0, b1]) Tryd.func12 (by kernel_rfl) (by rw [producer_Same.pt_eq] at h; exact h)
theorem producer_Same.up {a0 b1 : Value} {w : World} {K : Value → World → Prop} (h : Calls Tryd.prog F_producer_Same #[a0, b1] w (retK K)) : upK Tryd.prog (sCall F_producer_Same #[a0, b1]) w K :=
  up_call (fn := Tryd.f12) Tryd.func12 (by kernel_rfl) (by kernel_rfl) h

/-- errata/erratalaw10.record -/
def erratalaw10_record.pt (id0 epoch1 seq2 : Value) (w : World) (K : Value → World → Prop) : Prop :=
  upK Tryd.prog (sAlloc T_api_Entry) w fun t6 w1 =>
  pureK Tryd.prog (sBuild T_api_Entry #[(0, (.int .i64 0)), (1, id0), (2, epoch1), (3, seq2)]) fun t10 =>
  upK Tryd.prog (sStore T_api_Entry t6 t10) w1 fun tu w2 =>
  readV Tryd.prog (do loadVar T_api_Entry (← asAddr t6)) w2 fun t6_1 =>
  K t6_1 w2
theorem erratalaw10_record.pt_eq : erratalaw10_record.pt = fun id0 epoch1 seq2 w K => FN Tryd.prog Tryd.f13 (bodyOf Tryd.f13) [] .leaf [id0, epoch1, seq2] w K := by kernel_rfl
theorem erratalaw10_record.call {id0 epoch1 seq2 : Value} {w : World} {K : Value → World → Prop} (h : erratalaw10_record.pt id0 epoch1 seq2 w K) : Calls Tryd.prog F_erratalaw10_record #[id0, epoch1, seq2] w (retK K) :=
  calls_FN (args := [id0, epoch1, seq2]) Tryd.func13 (by kernel_rfl) (by rw [erratalaw10_record.pt_eq] at h; exact h)
theorem erratalaw10_record.up {id0 epoch1 seq2 : Value} {w : World} {K : Value → World → Prop} (h : Calls Tryd.prog F_erratalaw10_record #[id0, epoch1, seq2] w (retK K)) : upK Tryd.prog (sCall F_erratalaw10_record #[id0, epoch1, seq2]) w K :=
  up_call (fn := Tryd.f13) Tryd.func13 (by kernel_rfl) (by kernel_rfl) h

/-- errata/producer.Fence -/
def producer_Fence.pt (s0 id1 : Value) (w : World) (K : Value → World → Prop) : Prop :=
  upK Tryd.prog (sCall F_producer_find #[s0, id1]) w fun t12 w1 =>
  pureK Tryd.prog (sExtract t12 0) fun t13 =>
  pureK Tryd.prog (sExtract t12 1) fun t14 =>
  upK Tryd.prog (sAlloc T_api_Producer) w1 fun p7 w2 =>
  upK Tryd.prog (sStore T_api_Producer p7 t13) w2 fun tu w3 =>
  LETJ (X := Unit) (fun y1 w4 =>
   pureK Tryd.prog (sFieldAddr T_api_Producer p7 1) fun t37 =>
   readK Tryd.prog (sLoad T_int t37) w4 fun t38 =>
   pureK Tryd.prog (sBin .add T_int (.tmp 38) (.const (.int .i64 1)) t38 (.int .i64 1)) fun t39 =>
   pureK Tryd.prog (sBuild T_api_Producer #[(0, id1), (1, t39)]) fun t40 =>
   upK Tryd.prog (sStore T_api_Producer p7 t40) w4 fun tu_1 w5 =>
   readK Tryd.prog (sLoad T_api_Producer p7) (tick w5) fun t42 =>
   pureK Tryd.prog (sFieldAddr T_api_Producer p7 1) fun t44 =>
   readK Tryd.prog (sLoad T_int t44) (tick w5) fun t45 =>
   upK Tryd.prog (sCall F_producer_with #[s0, t42]) (tick w5) fun t43 w6 =>
   Is Tryd.prog (sLoad T_int t44) t45 w6 ∧ K (.tuple #[t43, t45, (.int .i64 0)]) w6)
  (fun J1 =>
   upK Tryd.prog (sCall F_producer_in #[id1]) w3 fun t17 w7 =>
   pureK Tryd.prog (sUn .not t17) fun t18 =>
   ifB t18
   (K (.tuple #[(.slice none 0 0), (.int .i64 0), (.int .i64 1)]) w7)
   (pureK Tryd.prog (sBin .eql T_int (.tmp 20) (.const (.int .i64 1099511627776)) id1 (.int .i64 1099511627776)) fun t21 =>
    ifB t21
    (K (.tuple #[(.slice none 0 0), (.int .i64 0), (.int .i64 1)]) w7)
    (pureK Tryd.prog (sFieldAddr T_api_Producer p7 1) fun t24 =>
     readK Tryd.prog (sLoad T_int t24) w7 fun t25 =>
     pureK Tryd.prog (sBin .eql T_int (.tmp 25) (.const (.int .i64 1099511627776)) t25 (.int .i64 1099511627776)) fun t26 =>
     ifB t26
     (K (.tuple #[(.slice none 0 0), (.int .i64 0), (.int .i64 1)]) w7)
     (pureK Tryd.prog (sUn .not t14) fun t30 =>
      ifB t30
      (readK Tryd.prog (sBlt .len #[T_s_api_Producer] T_int #[false] #[s0]) w7 fun t33 =>
       pureK Tryd.prog (sBin .geq T_int (.tmp 33) (.const (.int .i64 50)) t33 (.int .i64 50)) fun t34 =>
       ifB t34
       (K (.tuple #[(.slice none 0 0), (.int .i64 0), (.int .i64 6)]) w7)
       (J1 (()) w7))
      (J1 (()) w7)))))
theorem producer_Fence.pt_eq : producer_Fence.pt = fun s0 id1 w K => FN Tryd.prog Tryd.f14 (bodyOf Tryd.f14) [4, 5, 6] (.node none .leaf (.node none .leaf (.node (some []) .leaf .leaf))) [s0, id1] w K := by kernel_rfl
theorem producer_Fence.call {s0 id1 : Value} {w : World} {K : Value → World → Prop} (h : producer_Fence.pt s0 id1 w K) : Calls Tryd.prog F_producer_Fence #[s0, id1] w (retK K) :=
  calls_FN (args := [s0, id1]) Tryd.func14 (by kernel_rfl) (by rw [producer_Fence.pt_eq] at h; exact h)
theorem producer_Fence.up {s0 id1 : Value} {w : World} {K : Value → World → Prop} (h : Calls Tryd.prog F_producer_Fence #[s0, id1] w (retK K)) : upK Tryd.prog (sCall F_producer_Fence #[s0, id1]) w K :=
  up_call (fn := Tryd.f14) Tryd.func14 (by kernel_rfl) (by kernel_rfl) h

/-- errata/wire.Open -/
def wire_Open.pt (s0 : Value) (w : World) (K : Value → World → Prop) : Prop :=
  pureK Tryd.prog (sBuild T_wire_Reader #[(0, s0)]) fun t4 =>
  upK Tryd.prog (sBox T_wire_Reader t4) w fun t5 w1 =>
  K t5 w1
theorem wire_Open.pt_eq : wire_Open.pt = fun s0 w K => FN Tryd.prog Tryd.f15 (bodyOf Tryd.f15) [2] .leaf [s0] w K := by kernel_rfl
theorem wire_Open.call {s0 : Value} {w : World} {K : Value → World → Prop} (h : wire_Open.pt s0 w K) : Calls Tryd.prog F_wire_Open #[s0] w (retK K) :=
  calls_FN (args := [s0]) Tryd.func15 (by kernel_rfl) (by rw [wire_Open.pt_eq] at h; exact h)
theorem wire_Open.up {s0 : Value} {w : World} {K : Value → World → Prop} (h : Calls Tryd.prog F_wire_Open #[s0] w (retK K)) : upK Tryd.prog (sCall F_wire_Open #[s0]) w K :=
  up_call (fn := Tryd.f15) Tryd.func15 (by kernel_rfl) (by kernel_rfl) h

/-- (*errata/wire.Reader).Num -/
def wire_Reader_Num.pt (r0 : Value) (w : World) (K : Value → World → Prop) : Prop :=
  upK Tryd.prog (sCall F_wire_Reader_number #[r0, (.int .u8 59), (.int .i64 0)]) w fun t4 w1 =>
  K t4 w1
theorem wire_Reader_Num.pt_eq : wire_Reader_Num.pt = fun r0 w K => FN Tryd.prog Tryd.f16 (bodyOf Tryd.f16) [2] .leaf [r0] w K := by kernel_rfl
theorem wire_Reader_Num.call {r0 : Value} {w : World} {K : Value → World → Prop} (h : wire_Reader_Num.pt r0 w K) : Calls Tryd.prog F_wire_Reader_Num #[r0] w (retK K) :=
  calls_FN (args := [r0]) Tryd.func16 (by kernel_rfl) (by rw [wire_Reader_Num.pt_eq] at h; exact h)
theorem wire_Reader_Num.up {r0 : Value} {w : World} {K : Value → World → Prop} (h : Calls Tryd.prog F_wire_Reader_Num #[r0] w (retK K)) : upK Tryd.prog (sCall F_wire_Reader_Num #[r0]) w K :=
  up_call (fn := Tryd.f16) Tryd.func16 (by kernel_rfl) (by kernel_rfl) h

/-- (*errata/wire.Reader).Left -/
def wire_Reader_Left.pt (r0 : Value) (w : World) (K : Value → World → Prop) : Prop :=
  pureK Tryd.prog (sNil r0) fun t4 =>
  pureK Tryd.prog (sFieldAddr T_wire_Reader t4 0) fun t5 =>
  readK Tryd.prog (sLoad T_string t5) w fun t6 =>
  readK Tryd.prog (sBlt .len #[T_string] T_int #[false] #[t6]) w fun t7 =>
  K t7 w
theorem wire_Reader_Left.pt_eq : wire_Reader_Left.pt = fun r0 w K => FN Tryd.prog Tryd.f17 (bodyOf Tryd.f17) [2] .leaf [r0] w K := by kernel_rfl
theorem wire_Reader_Left.call {r0 : Value} {w : World} {K : Value → World → Prop} (h : wire_Reader_Left.pt r0 w K) : Calls Tryd.prog F_wire_Reader_Left #[r0] w (retK K) :=
  calls_FN (args := [r0]) Tryd.func17 (by kernel_rfl) (by rw [wire_Reader_Left.pt_eq] at h; exact h)
theorem wire_Reader_Left.up {r0 : Value} {w : World} {K : Value → World → Prop} (h : Calls Tryd.prog F_wire_Reader_Left #[r0] w (retK K)) : upK Tryd.prog (sCall F_wire_Reader_Left #[r0]) w K :=
  up_call (fn := Tryd.f17) Tryd.func17 (by kernel_rfl) (by kernel_rfl) h

/-- (*errata/wire.Reader).Int -/
def wire_Reader_Int.pt (r0 : Value) (w : World) (K : Value → World → Prop) : Prop :=
  upK Tryd.prog (sCall F_wire_Reader_number #[r0, (.int .u8 59), (.int .i64 (-9223372036854775808))]) w fun t4 w1 =>
  K t4 w1
theorem wire_Reader_Int.pt_eq : wire_Reader_Int.pt = fun r0 w K => FN Tryd.prog Tryd.f18 (bodyOf Tryd.f18) [2] .leaf [r0] w K := by kernel_rfl
theorem wire_Reader_Int.call {r0 : Value} {w : World} {K : Value → World → Prop} (h : wire_Reader_Int.pt r0 w K) : Calls Tryd.prog F_wire_Reader_Int #[r0] w (retK K) :=
  calls_FN (args := [r0]) Tryd.func18 (by kernel_rfl) (by rw [wire_Reader_Int.pt_eq] at h; exact h)
theorem wire_Reader_Int.up {r0 : Value} {w : World} {K : Value → World → Prop} (h : Calls Tryd.prog F_wire_Reader_Int #[r0] w (retK K)) : upK Tryd.prog (sCall F_wire_Reader_Int #[r0]) w K :=
  up_call (fn := Tryd.f18) Tryd.func18 (by kernel_rfl) (by kernel_rfl) h

/-- (*errata/wire.Reader).Nums -/
def wire_Reader_Nums.pt (r0 : Value) (w : World) (K : Value → World → Prop) : Prop :=
  pureK Tryd.prog (sMkFunc (.func F_wire_Reader_Int) #[r0] #[]) fun t5 =>
  upK Tryd.prog (sCall F_wire_items_int #[r0, t5]) w fun t6 w1 =>
  K t6 w1
theorem wire_Reader_Nums.pt_eq : wire_Reader_Nums.pt = fun r0 w K => FN Tryd.prog Tryd.f19 (bodyOf Tryd.f19) [2] .leaf [r0] w K := by kernel_rfl
theorem wire_Reader_Nums.call {r0 : Value} {w : World} {K : Value → World → Prop} (h : wire_Reader_Nums.pt r0 w K) : Calls Tryd.prog F_wire_Reader_Nums #[r0] w (retK K) :=
  calls_FN (args := [r0]) Tryd.func19 (by kernel_rfl) (by rw [wire_Reader_Nums.pt_eq] at h; exact h)
theorem wire_Reader_Nums.up {r0 : Value} {w : World} {K : Value → World → Prop} (h : Calls Tryd.prog F_wire_Reader_Nums #[r0] w (retK K)) : upK Tryd.prog (sCall F_wire_Reader_Nums #[r0]) w K :=
  up_call (fn := Tryd.f19) Tryd.func19 (by kernel_rfl) (by kernel_rfl) h

/-- (*errata/wire.Reader).Done -/
def wire_Reader_Done.pt (r0 : Value) (w : World) (K : Value → World → Prop) : Prop :=
  pureK Tryd.prog (sNil r0) fun t4 =>
  pureK Tryd.prog (sFieldAddr T_wire_Reader t4 1) fun t5 =>
  readK Tryd.prog (sLoad T_bool t5) w fun t6 =>
  pureK Tryd.prog (sUn .not t6) fun t7 =>
  ifB t7
  (pureK Tryd.prog (sNil r0) fun t10 =>
   pureK Tryd.prog (sFieldAddr T_wire_Reader t10 0) fun t11 =>
   readK Tryd.prog (sLoad T_string t11) w fun t12 =>
   pureK Tryd.prog (sBin .eql T_string (.tmp 12) (.const (.string ⟨#[]⟩)) t12 (.string ⟨#[]⟩)) fun t13 =>
   K t13 w)
  (K (.bool false) w)
theorem wire_Reader_Done.pt_eq : wire_Reader_Done.pt = fun r0 w K => FN Tryd.prog Tryd.f20 (bodyOf Tryd.f20) [2] .leaf [r0] w K := by kernel_rfl
theorem wire_Reader_Done.call {r0 : Value} {w : World} {K : Value → World → Prop} (h : wire_Reader_Done.pt r0 w K) : Calls Tryd.prog F_wire_Reader_Done #[r0] w (retK K) :=
  calls_FN (args := [r0]) Tryd.func20 (by kernel_rfl) (by rw [wire_Reader_Done.pt_eq] at h; exact h)
theorem wire_Reader_Done.up {r0 : Value} {w : World} {K : Value → World → Prop} (h : Calls Tryd.prog F_wire_Reader_Done #[r0] w (retK K)) : upK Tryd.prog (sCall F_wire_Reader_Done #[r0]) w K :=
  up_call (fn := Tryd.f20) Tryd.func20 (by kernel_rfl) (by kernel_rfl) h

/-- (*strings.Builder).WriteString -/
def strings_Builder_WriteString.pt (b0 s1 : Value) (w : World) (K : Value → World → Prop) : Prop :=
  upK Tryd.prog (sCall F_strings_Builder_copyCheck #[b0]) w fun t7 w1 =>
  pureK Tryd.prog (sNil b0) fun t10 =>
  pureK Tryd.prog (sFieldAddr T_strings_Builder t10 1) fun t11 =>
  readK Tryd.prog (sLoad T_s_uint8 t11) w1 fun t12 =>
  upK Tryd.prog (sBlt .append #[T_s_uint8, T_string] T_s_uint8 #[false, false] #[t12, s1]) w1 fun t14 w2 =>
  pureK Tryd.prog (sNil b0) fun t15 =>
  pureK Tryd.prog (sFieldAddr T_strings_Builder t15 1) fun t16 =>
  upK Tryd.prog (sStore T_s_uint8 t16 t14) w2 fun tu w3 =>
  readK Tryd.prog (sBlt .len #[T_string] T_int #[false] #[s1]) w3 fun t18 =>
  K (.tuple #[t18, .nilIface]) w3
theorem strings_Builder_WriteString.pt_eq : strings_Builder_WriteString.pt = fun b0 s1 w K => FN Tryd.prog Tryd.f21 (bodyOf Tryd.f21) [4, 5] .leaf [b0, s1] w K := by kernel_rfl
theorem strings_Builder_WriteString.call {b0 s1 : Value} {w : World} {K : Value → World → Prop} (h : strings_Builder_WriteString.pt b0 s1 w K) : Calls Tryd.prog F_strings_Builder_WriteString #[b0, s1] w (retK K) :=
  calls_FN (args := [b0, s1]) Tryd.func21 (by kernel_rfl) (by rw [strings_Builder_WriteString.pt_eq] at h; exact h)
theorem strings_Builder_WriteString.up {b0 s1 : Value} {w : World} {K : Value → World → Prop} (h : Calls Tryd.prog F_strings_Builder_WriteString #[b0, s1] w (retK K)) : upK Tryd.prog (sCall F_strings_Builder_WriteString #[b0, s1]) w K :=
  up_call (fn := Tryd.f21) Tryd.func21 (by kernel_rfl) (by kernel_rfl) h

/-- errata/wire.Num -/
def wire_Num.pt (n0 : Value) (w : World) (K : Value → World → Prop) : Prop :=
  pureK Tryd.prog (sBin .lss T_int (.tmp 3) (.const (.int .i64 0)) n0 (.int .i64 0)) fun t4 =>
  ifB t4
  (K (.string ⟨#[]⟩) w)
  (upK Tryd.prog (sCall F_wire_Int #[n0]) w fun t6 w1 =>
   K t6 w1)
theorem wire_Num.pt_eq : wire_Num.pt = fun n0 w K => FN Tryd.prog Tryd.f22 (bodyOf Tryd.f22) [2] .leaf [n0] w K := by kernel_rfl
theorem wire_Num.call {n0 : Value} {w : World} {K : Value → World → Prop} (h : wire_Num.pt n0 w K) : Calls Tryd.prog F_wire_Num #[n0] w (retK K) :=
  calls_FN (args := [n0]) Tryd.func22 (by kernel_rfl) (by rw [wire_Num.pt_eq] at h; exact h)
theorem wire_Num.up {n0 : Value} {w : World} {K : Value → World → Prop} (h : Calls Tryd.prog F_wire_Num #[n0] w (retK K)) : upK Tryd.prog (sCall F_wire_Num #[n0]) w K :=
  up_call (fn := Tryd.f22) Tryd.func22 (by kernel_rfl) (by kernel_rfl) h

/-- errata/wire.Int -/
def wire_Int.pt (n0 : Value) (w : World) (K : Value → World → Prop) : Prop :=
  upK Tryd.prog (sCall F_strconv_Itoa #[n0]) w fun t4 w1 =>
  pureK Tryd.prog (sBin .add T_string (.tmp 4) (.const (.string ⟨#[59]⟩)) t4 (.string ⟨#[59]⟩)) fun t5 =>
  K t5 w1
theorem wire_Int.pt_eq : wire_Int.pt = fun n0 w K => FN Tryd.prog Tryd.f23 (bodyOf Tryd.f23) [2] .leaf [n0] w K := by kernel_rfl
theorem wire_Int.call {n0 : Value} {w : World} {K : Value → World → Prop} (h : wire_Int.pt n0 w K) : Calls Tryd.prog F_wire_Int #[n0] w (retK K) :=
  calls_FN (args := [n0]) Tryd.func23 (by kernel_rfl) (by rw [wire_Int.pt_eq] at h; exact h)
theorem wire_Int.up {n0 : Value} {w : World} {K : Value → World → Prop} (h : Calls Tryd.prog F_wire_Int #[n0] w (retK K)) : upK Tryd.prog (sCall F_wire_Int #[n0]) w K :=
  up_call (fn := Tryd.f23) Tryd.func23 (by kernel_rfl) (by kernel_rfl) h

/-- errata/wire.Nums -/
def wire_Nums.pt (l0 : Value) (w : World) (K : Value → World → Prop) : Prop :=
  upK Tryd.prog (sCall F_wire_list_int #[l0, (.func (.func 23) #[] #[])]) w fun t4 w1 =>
  K t4 w1
theorem wire_Nums.pt_eq : wire_Nums.pt = fun l0 w K => FN Tryd.prog Tryd.f24 (bodyOf Tryd.f24) [2] .leaf [l0] w K := by kernel_rfl
theorem wire_Nums.call {l0 : Value} {w : World} {K : Value → World → Prop} (h : wire_Nums.pt l0 w K) : Calls Tryd.prog F_wire_Nums #[l0] w (retK K) :=
  calls_FN (args := [l0]) Tryd.func24 (by kernel_rfl) (by rw [wire_Nums.pt_eq] at h; exact h)
theorem wire_Nums.up {l0 : Value} {w : World} {K : Value → World → Prop} (h : Calls Tryd.prog F_wire_Nums #[l0] w (retK K)) : upK Tryd.prog (sCall F_wire_Nums #[l0]) w K :=
  up_call (fn := Tryd.f24) Tryd.func24 (by kernel_rfl) (by kernel_rfl) h

/-- (*strings.Builder).String -/
theorem strings_Builder_String.up {p0 : Value} {w : World} {K : Value → World → Prop} (h : Calls Tryd.prog F_strings_Builder_String #[p0] w (retK K)) : upK Tryd.prog (sCall F_strings_Builder_String #[p0]) w K :=
  up_call (fn := Tryd.f25) Tryd.func25 (by kernel_rfl) (by kernel_rfl) h

/-- errata/producer.fine -/
def producer_fine.pt (p0 : Value) (w : World) (K : Value → World → Prop) : Prop :=
  upK Tryd.prog (sBox T_api_Producer p0) w fun p1 w1 =>
  pureK Tryd.prog (sFieldAddr T_api_Producer p1 0) fun t5 =>
  readK Tryd.prog (sLoad T_int t5) w1 fun t6 =>
  upK Tryd.prog (sCall F_producer_in #[t6]) w1 fun t7 w2 =>
  pureK Tryd.prog (sUn .not t7) fun t8 =>
  ifB t8
  (K (.bool false) w2)
  (pureK Tryd.prog (sFieldAddr T_api_Producer p1 1) fun t10 =>
   readK Tryd.prog (sLoad T_int t10) w2 fun t11 =>
   upK Tryd.prog (sCall F_producer_in #[t11]) w2 fun t12 w3 =>
   pureK Tryd.prog (sUn .not t12) fun t13 =>
   ifB t13
   (K (.bool false) w3)
   (pureK Tryd.prog (sFieldAddr T_api_Producer p1 2) fun t16 =>
    readK Tryd.prog (sLoad T_int t16) w3 fun t17 =>
    upK Tryd.prog (sCall F_producer_in #[t17]) w3 fun t18 w4 =>
    pureK Tryd.prog (sUn .not t18) fun t19 =>
    ifB t19
    (K (.bool false) w4)
    (pureK Tryd.prog (sFieldAddr T_api_Producer p1 3) fun t22 =>
     readK Tryd.prog (sLoad T_s_int t22) w4 fun t23 =>
     readK Tryd.prog (sBlt .len #[T_s_int] T_int #[false] #[t23]) w4 fun t24 =>
     pureK Tryd.prog (sFieldAddr T_api_Producer p1 2) fun t25 =>
     readK Tryd.prog (sLoad T_int t25) w4 fun t26 =>
     pureK Tryd.prog (sBlt .min #[T_int, T_int] T_int #[false, true] #[t26, (.int .i64 20)]) fun t27 =>
     pureK Tryd.prog (sBin .neq T_int (.tmp 24) (.tmp 27) t24 t27) fun t28 =>
     ifB t28
     (K (.bool false) w4)
     (pureK Tryd.prog (sFieldAddr T_api_Producer p1 3) fun t30 =>
      readK Tryd.prog (sLoad T_s_int t30) w4 fun t31 =>
      readK Tryd.prog (sBlt .len #[T_s_int] T_int #[false] #[t31]) w4 fun t32 =>
      LOOP (X := Value × Unit) (fun x5 w5 next5 =>
       pureK Tryd.prog (sBin .lss T_int (.tmp 33) (.tmp 32) x5.1 t32) fun t34 =>
       ifB t34
       (LETJ (X := Unit) (fun y1 w6 =>
         pureK Tryd.prog (sBin .add T_int (.tmp 33) (.const (.int .i64 1)) x5.1 (.int .i64 1)) fun t55 =>
         next5 (t55, ()) w6)
        (fun J1 =>
         pureK Tryd.prog (sIdxAddr T_s_int t31 x5.1) fun t36 =>
         readK Tryd.prog (sLoad T_int t36) w5 fun t37 =>
         upK Tryd.prog (sCall F_producer_in #[t37]) w5 fun t39 w7 =>
         pureK Tryd.prog (sUn .not t39) fun t40 =>
         ifB t40
         (K (.bool false) w7)
         (pureK Tryd.prog (sBin .gtr T_int (.tmp 42) (.const (.int .i64 0)) x5.1 (.int .i64 0)) fun t43 =>
          ifB t43
          (pureK Tryd.prog (sFieldAddr T_api_Producer p1 3) fun t46 =>
           readK Tryd.prog (sLoad T_s_int t46) w7 fun t47 =>
           pureK Tryd.prog (sBin .sub T_int (.tmp 48) (.const (.int .i64 1)) x5.1 (.int .i64 1)) fun t49 =>
           pureK Tryd.prog (sIdxAddr T_s_int t47 t49) fun t50 =>
           readK Tryd.prog (sLoad T_int t50) w7 fun t51 =>
           pureK Tryd.prog (sBin .leq T_int (.tmp 45) (.tmp 51) t37 t51) fun t52 =>
           ifB t52
           (K (.bool false) w7)
           (J1 (()) w7))
          (J1 (()) w7))))
       (K (.bool true) w5))
      ((.int .i64 0), ()) w4))))
theorem producer_fine.pt_eq : producer_fine.pt = fun p0 w K => FN Tryd.prog Tryd.f26 (bodyOf Tryd.f26) [2] (.node none .leaf (.node none .leaf (.node none (.node none .leaf (.node none (.node none (.node none .leaf (.node none .leaf (.node (some []) .leaf .leaf))) .leaf) .leaf)) .leaf))) [p0] w K := by kernel_rfl
theorem producer_fine.call {p0 : Value} {w : World} {K : Value → World → Prop} (h : producer_fine.pt p0 w K) : Calls Tryd.prog F_producer_fine #[p0] w (retK K) :=
  calls_FN (args := [p0]) Tryd.func26 (by kernel_rfl) (by rw [producer_fine.pt_eq] at h; exact h)
theorem producer_fine.up {p0 : Value} {w : World} {K : Value → World → Prop} (h : Calls Tryd.prog F_producer_fine #[p0] w (retK K)) : upK Tryd.prog (sCall F_producer_fine #[p0]) w K :=
  up_call (fn := Tryd.f26) Tryd.func26 (by kernel_rfl) (by kernel_rfl) h

/-- errata/errataref10.in -/
def errataref10_in.pt (n0 : Value) (w : World) (K : Value → World → Prop) : Prop :=
  pureK Tryd.prog (sBin .geq T_int (.tmp 3) (.const (.int .i64 0)) n0 (.int .i64 0)) fun t4 =>
  ifB t4
  (pureK Tryd.prog (sBin .leq T_int (.tmp 6) (.const (.int .i64 1099511627776)) n0 (.int .i64 1099511627776)) fun t7 =>
   K t7 w)
  (K (.bool false) w)
theorem errataref10_in.pt_eq : errataref10_in.pt = fun n0 w K => FN Tryd.prog Tryd.f27 (bodyOf Tryd.f27) [2] .leaf [n0] w K := by kernel_rfl
theorem errataref10_in.call {n0 : Value} {w : World} {K : Value → World → Prop} (h : errataref10_in.pt n0 w K) : Calls Tryd.prog F_errataref10_in #[n0] w (retK K) :=
  calls_FN (args := [n0]) Tryd.func27 (by kernel_rfl) (by rw [errataref10_in.pt_eq] at h; exact h)
theorem errataref10_in.up {n0 : Value} {w : World} {K : Value → World → Prop} (h : Calls Tryd.prog F_errataref10_in #[n0] w (retK K)) : upK Tryd.prog (sCall F_errataref10_in #[n0]) w K :=
  up_call (fn := Tryd.f27) Tryd.func27 (by kernel_rfl) (by kernel_rfl) h

/-- errata/producer.find -/
def producer_find.pt (s0 id1 : Value) (w : World) (K : Value → World → Prop) : Prop :=
  upK Tryd.prog (sBox T_int id1) w fun id3 w1 =>
  upK Tryd.prog (sAlloc T_api_Producer) w1 fun t4 w2 =>
  pureK Tryd.prog (sMkFunc (.func F_producer_find_1) #[] #[id3]) fun t8 =>
  upK Tryd.prog (sCall F_slices_IndexFunc_s_api_Producer_api_Producer #[s0, t8]) w2 fun t9 w3 =>
  pureK Tryd.prog (sBin .lss T_int (.tmp 10) (.const (.int .i64 0)) t9 (.int .i64 0)) fun t11 =>
  ifB t11
  (readK Tryd.prog (sLoad T_int id3) w3 fun t12 =>
   pureK Tryd.prog (sBuild T_api_Producer #[(0, t12)]) fun t13 =>
   upK Tryd.prog (sStore T_api_Producer t4 t13) w3 fun tu w4 =>
   readV Tryd.prog (do loadVar T_api_Producer (← asAddr t4)) w4 fun t4_1 =>
   K (.tuple #[t4_1, (.bool false)]) w4)
  (pureK Tryd.prog (sIdxAddr T_s_api_Producer s0 t9) fun t16 =>
   readK Tryd.prog (sLoad T_api_Producer t16) w3 fun t17 =>
   upK Tryd.prog (sStore T_api_Producer t4 t17) w3 fun tu_1 w5 =>
   readV Tryd.prog (do loadVar T_api_Producer (← asAddr t4)) w5 fun t4_2 =>
   K (.tuple #[t4_2, (.bool true)]) w5)
theorem producer_find.pt_eq : producer_find.pt = fun s0 id1 w K => FN Tryd.prog Tryd.f28 (bodyOf Tryd.f28) [5] .leaf [s0, id1] w K := by kernel_rfl
theorem producer_find.call {s0 id1 : Value} {w : World} {K : Value → World → Prop} (h : producer_find.pt s0 id1 w K) : Calls Tryd.prog F_producer_find #[s0, id1] w (retK K) :=
  calls_FN (args := [s0, id1]) Tryd.func28 (by kernel_rfl) (by rw [producer_find.pt_eq] at h; exact h)
theorem producer_find.up {s0 id1 : Value} {w : World} {K : Value → World → Prop} (h : Calls Tryd.prog F_producer_find #[s0, id1] w (retK K)) : upK Tryd.prog (sCall F_producer_find #[s0, id1]) w K :=
  up_call (fn := Tryd.f28) Tryd.func28 (by kernel_rfl) (by kernel_rfl) h

/-- errata/producer.in -/
def producer_in.pt (n0 : Value) (w : World) (K : Value → World → Prop) : Prop :=
  pureK Tryd.prog (sBin .geq T_int (.tmp 3) (.const (.int .i64 0)) n0 (.int .i64 0)) fun t4 =>
  ifB t4
  (pureK Tryd.prog (sBin .leq T_int (.tmp 6) (.const (.int .i64 1099511627776)) n0 (.int .i64 1099511627776)) fun t7 =>
   K t7 w)
  (K (.bool false) w)
theorem producer_in.pt_eq : producer_in.pt = fun n0 w K => FN Tryd.prog Tryd.f29 (bodyOf Tryd.f29) [2] .leaf [n0] w K := by kernel_rfl
theorem producer_in.call {n0 : Value} {w : World} {K : Value → World → Prop} (h : producer_in.pt n0 w K) : Calls Tryd.prog F_producer_in #[n0] w (retK K) :=
  calls_FN (args := [n0]) Tryd.func29 (by kernel_rfl) (by rw [producer_in.pt_eq] at h; exact h)
theorem producer_in.up {n0 : Value} {w : World} {K : Value → World → Prop} (h : Calls Tryd.prog F_producer_in #[n0] w (retK K)) : upK Tryd.prog (sCall F_producer_in #[n0]) w K :=
  up_call (fn := Tryd.f29) Tryd.func29 (by kernel_rfl) (by kernel_rfl) h

/-- errata/producer.clone -/
def producer_clone.pt (s0 : Value) (w : World) (K : Value → World → Prop) : Prop :=
  readK Tryd.prog (sBlt .len #[T_s_api_Producer] T_int #[false] #[s0]) w fun t6 =>
  upK Tryd.prog (sMkSlice T_s_api_Producer t6 t6) w fun t7 w1 =>
  upK Tryd.prog (sBlt .copy #[T_s_api_Producer, T_s_api_Producer] T_int #[false, false] #[t7, s0]) w1 fun t10 w2 =>
  readK Tryd.prog (sBlt .len #[T_s_api_Producer] T_int #[false] #[t7]) w2 fun t12 =>
  LOOP (X := Value × Unit) (fun x3 w3 next3 =>
   pureK Tryd.prog (sBin .lss T_int (.tmp 13) (.tmp 12) x3.1 t12) fun t14 =>
   ifB t14
   (pureK Tryd.prog (sIdxAddr T_s_api_Producer t7 x3.1) fun t20 =>
    pureK Tryd.prog (sFieldAddr T_api_Producer t20 3) fun t21 =>
    readK Tryd.prog (sLoad T_s_int t21) w3 fun t22 =>
    upK Tryd.prog (sCall F_slices_Clone_s_int_int #[t22]) w3 fun t23 w4 =>
    pureK Tryd.prog (sIdxAddr T_s_api_Producer t7 x3.1) fun t24 =>
    pureK Tryd.prog (sFieldAddr T_api_Producer t24 3) fun t25 =>
    upK Tryd.prog (sStore T_s_int t25 t23) w4 fun tu w5 =>
    pureK Tryd.prog (sBin .add T_int (.tmp 13) (.const (.int .i64 1)) x3.1 (.int .i64 1)) fun t26 =>
    next3 (t26, ()) w5)
   (K t7 w3))
  ((.int .i64 0), ()) w2
theorem producer_clone.pt_eq : producer_clone.pt = fun s0 w K => FN Tryd.prog Tryd.f30 (bodyOf Tryd.f30) [2] .leaf [s0] w K := by kernel_rfl
theorem producer_clone.call {s0 : Value} {w : World} {K : Value → World → Prop} (h : producer_clone.pt s0 w K) : Calls Tryd.prog F_producer_clone #[s0] w (retK K) :=
  calls_FN (args := [s0]) Tryd.func30 (by kernel_rfl) (by rw [producer_clone.pt_eq] at h; exact h)
theorem producer_clone.up {s0 : Value} {w : World} {K : Value → World → Prop} (h : Calls Tryd.prog F_producer_clone #[s0] w (retK K)) : upK Tryd.prog (sCall F_producer_clone #[s0]) w K :=
  up_call (fn := Tryd.f30) Tryd.func30 (by kernel_rfl) (by kernel_rfl) h

/-- slices.Clone[[]int,int] -/
def slices_Clone_s_int_int.pt (s0 : Value) (w : World) (K : Value → World → Prop) : Prop :=
  pureK Tryd.prog (sBin .eql T_s_int (.tmp 3) (.const (.slice none 0 0)) s0 (.slice none 0 0)) fun t4 =>
  ifB t4
  (K (.slice none 0 0) w)
  (upK Tryd.prog (sBuildSlice T_s_int 0 #[]) w fun t5 w1 =>
   upK Tryd.prog (sBlt .append #[T_s_int, T_s_int] T_s_int #[false, false] #[t5, s0]) w1 fun t7 w2 =>
   K t7 w2)
theorem slices_Clone_s_int_int.pt_eq : slices_Clone_s_int_int.pt = fun s0 w K => FN Tryd.prog Tryd.f31 (bodyOf Tryd.f31) [2] .leaf [s0] w K := by kernel_rfl
theorem slices_Clone_s_int_int.call {s0 : Value} {w : World} {K : Value → World → Prop} (h : slices_Clone_s_int_int.pt s0 w K) : Calls Tryd.prog F_slices_Clone_s_int_int #[s0] w (retK K) :=
  calls_FN (args := [s0]) Tryd.func31 (by kernel_rfl) (by rw [slices_Clone_s_int_int.pt_eq] at h; exact h)
theorem slices_Clone_s_int_int.up {s0 : Value} {w : World} {K : Value → World → Prop} (h : Calls Tryd.prog F_slices_Clone_s_int_int #[s0] w (retK K)) : upK Tryd.prog (sCall F_slices_Clone_s_int_int #[s0]) w K :=
  up_call (fn := Tryd.f31) Tryd.func31 (by kernel_rfl) (by kernel_rfl) h

/-- errata/producer.with -/
def producer_with.pt (s0 p1 : Value) (w : World) (K : Value → World → Prop) : Prop :=
  upK Tryd.prog (sBox T_api_Producer p1) w fun p3 w1 =>
  upK Tryd.prog (sCall F_producer_clone #[s0]) w1 fun t9 w2 =>
  pureK Tryd.prog (sFieldAddr T_api_Producer p3 0) fun t12 =>
  readK Tryd.prog (sLoad T_int t12) w2 fun t13 =>
  upK Tryd.prog (sCall F_slices_BinarySearchFunc_s_api_Producer_api_Producer_int #[t9, t13, (.func (.func 43) #[] #[])]) w2 fun t14 w3 =>
  pureK Tryd.prog (sExtract t14 0) fun t15 =>
  pureK Tryd.prog (sExtract t14 1) fun t16 =>
  ifB t16
  (readK Tryd.prog (sLoad T_api_Producer p3) w3 fun t20 =>
   pureK Tryd.prog (sIdxAddr T_s_api_Producer t9 t15) fun t21 =>
   upK Tryd.prog (sStore T_api_Producer t21 t20) w3 fun tu w4 =>
   K t9 w4)
  (readK Tryd.prog (sLoad T_api_Producer p3) w3 fun t25 =>
   upK Tryd.prog (sBuildSlice T_s_api_Producer 1 #[(0, t25)]) w3 fun t26 w5 =>
   upK Tryd.prog (sCall F_slices_Insert_s_api_Producer_api_Producer #[t9, t15, t26]) w5 fun t27 w6 =>
   K t27 w6)
theorem producer_with.pt_eq : producer_with.pt = fun s0 p1 w K => FN Tryd.prog Tryd.f32 (bodyOf Tryd.f32) [4] .leaf [s0, p1] w K := by kernel_rfl
theorem producer_with.call {s0 p1 : Value} {w : World} {K : Value → World → Prop} (h : producer_with.pt s0 p1 w K) : Calls Tryd.prog F_producer_with #[s0, p1] w (retK K) :=
  calls_FN (args := [s0, p1]) Tryd.func32 (by kernel_rfl) (by rw [producer_with.pt_eq] at h; exact h)
theorem producer_with.up {s0 p1 : Value} {w : World} {K : Value → World → Prop} (h : Calls Tryd.prog F_producer_with #[s0, p1] w (retK K)) : upK Tryd.prog (sCall F_producer_with #[s0, p1]) w K :=
  up_call (fn := Tryd.f32) Tryd.func32 (by kernel_rfl) (by kernel_rfl) h

/-- slices.EqualFunc[[]errata/api.Producer,[]errata/api.Producer,errata/api.Producer,errata/api.Producer] -/
def slices_EqualFunc_s_api_Producer_s_api_Producer_api_Producer_api_Producer.pt (s10 s21 eq2 : Value) (w : World) (K : Value → World → Prop) : Prop :=
  readK Tryd.prog (sBlt .len #[T_s_api_Producer] T_int #[false] #[s10]) w fun t11 =>
  readK Tryd.prog (sBlt .len #[T_s_api_Producer] T_int #[false] #[s21]) w fun t13 =>
  pureK Tryd.prog (sBin .neq T_int (.tmp 11) (.tmp 13) t11 t13) fun t14 =>
  ifB t14
  (K (.bool false) w)
  (readK Tryd.prog (sBlt .len #[T_s_api_Producer] T_int #[false] #[s10]) w fun t16 =>
   LOOP (X := Value × Unit) (fun x1 w1 next1 =>
    pureK Tryd.prog (sBin .lss T_int (.tmp 17) (.tmp 16) x1.1 t16) fun t18 =>
    ifB t18
    (pureK Tryd.prog (sIdxAddr T_s_api_Producer s10 x1.1) fun t20 =>
     readK Tryd.prog (sLoad T_api_Producer t20) w1 fun t21 =>
     upK Tryd.prog (sAlloc T_api_Producer) w1 fun v18 w2 =>
     upK Tryd.prog (sStore T_api_Producer v18 t21) w2 fun tu w3 =>
     pureK Tryd.prog (sIdxAddr T_s_api_Producer s21 x1.1) fun t24 =>
     readK Tryd.prog (sLoad T_api_Producer t24) w3 fun t25 =>
     upK Tryd.prog (sAlloc T_api_Producer) w3 fun v29 w4 =>
     upK Tryd.prog (sStore T_api_Producer v29 t25) w4 fun tu_1 w5 =>
     readK Tryd.prog (sLoad T_api_Producer v18) w5 fun t27 =>
     readK Tryd.prog (sLoad T_api_Producer v29) w5 fun t28 =>
     upK Tryd.prog (sCallV eq2 #[t27, t28]) w5 fun t29 w6 =>
     pureK Tryd.prog (sUn .not t29) fun t30 =>
     ifB t30
     (K (.bool false) w6)
     (pureK Tryd.prog (sBin .add T_int (.tmp 17) (.const (.int .i64 1)) x1.1 (.int .i64 1)) fun t31 =>
      next1 (t31, ()) w6))
    (K (.bool true) w1))
   ((.int .i64 0), ()) w)
theorem slices_EqualFunc_s_api_Producer_s_api_Producer_api_Producer_api_Producer.pt_eq : slices_EqualFunc_s_api_Producer_s_api_Producer_api_Producer_api_Producer.pt = fun s10 s21 eq2 w K => FN Tryd.prog Tryd.f33 (bodyOf Tryd.f33) [6] .leaf [s10, s21, eq2] w K := by kernel_rfl
theorem slices_EqualFunc_s_api_Producer_s_api_Producer_api_Producer_api_Producer.call {s10 s21 eq2 : Value} {w : World} {K : Value → World → Prop} (h : slices_EqualFunc_s_api_Producer_s_api_Producer_api_Producer_api_Producer.pt s10 s21 eq2 w K) : Calls Tryd.prog F_slices_EqualFunc_s_api_Producer_s_api_Producer_api_Producer_api_Producer #[s10, s21, eq2] w (retK K) :=
  calls_FN (args := [s10, s21, eq2]) Tryd.func33 (by kernel_rfl) (by rw [slices_EqualFunc_s_api_Producer_s_api_Producer_api_Producer_api_Producer.pt_eq] at h; exact h)
theorem slices_EqualFunc_s_api_Producer_s_api_Producer_api_Producer_api_Producer.up {s10 s21 eq2 : Value} {w : World} {K : Value → World → Prop} (h : Calls Tryd.prog F_slices_EqualFunc_s_api_Producer_s_api_Producer_api_Producer_api_Producer #[s10, s21, eq2] w (retK K)) : upK Tryd.prog (sCall F_slices_EqualFunc_s_api_Producer_s_api_Producer_api_Producer_api_Producer #[s10, s21, eq2]) w K :=
  up_call (fn := Tryd.f33) Tryd.func33 (by kernel_rfl) (by kernel_rfl) h

/-- errata/producer.same -/
def producer_same.pt (a0 b1 : Value) (w : World) (K : Value → World → Prop) : Prop :=
  upK Tryd.prog (sBox T_api_Producer a0) w fun a2 w1 =>
  upK Tryd.prog (sBox T_api_Producer b1) w1 fun b3 w2 =>
  pureK Tryd.prog (sFieldAddr T_api_Producer a2 0) fun t5 =>
  readK Tryd.prog (sLoad T_int t5) w2 fun t6 =>
  pureK Tryd.prog (sFieldAddr T_api_Producer b3 0) fun t7 =>
  readK Tryd.prog (sLoad T_int t7) w2 fun t8 =>
  pureK Tryd.prog (sBin .eql T_int (.tmp 6) (.tmp 8) t6 t8) fun t9 =>
  ifB t9
  (pureK Tryd.prog (sFieldAddr T_api_Producer a2 1) fun t11 =>
   readK Tryd.prog (sLoad T_int t11) w2 fun t12 =>
   pureK Tryd.prog (sFieldAddr T_api_Producer b3 1) fun t13 =>
   readK Tryd.prog (sLoad T_int t13) w2 fun t14 =>
   pureK Tryd.prog (sBin .eql T_int (.tmp 12) (.tmp 14) t12 t14) fun t15 =>
   ifB t15
   (pureK Tryd.prog (sFieldAddr T_api_Producer a2 2) fun t18 =>
    readK Tryd.prog (sLoad T_int t18) w2 fun t19 =>
    pureK Tryd.prog (sFieldAddr T_api_Producer b3 2) fun t20 =>
    readK Tryd.prog (sLoad T_int t20) w2 fun t21 =>
    pureK Tryd.prog (sBin .eql T_int (.tmp 19) (.tmp 21) t19 t21) fun t22 =>
    ifB t22
    (pureK Tryd.prog (sFieldAddr T_api_Producer a2 3) fun t25 =>
     readK Tryd.prog (sLoad T_s_int t25) w2 fun t26 =>
     pureK Tryd.prog (sFieldAddr T_api_Producer b3 3) fun t27 =>
     readK Tryd.prog (sLoad T_s_int t27) w2 fun t28 =>
     upK Tryd.prog (sCall F_slices_Equal_s_int_int #[t26, t28]) w2 fun t29 w3 =>
     K t29 w3)
    (K (.bool false) w2))
   (K (.bool false) w2))
  (K (.bool false) w2)
theorem producer_same.pt_eq : producer_same.pt = fun a0 b1 w K => FN Tryd.prog Tryd.f34 (bodyOf Tryd.f34) [4] .leaf [a0, b1] w K := by kernel_rfl
theorem producer_same.call {a0 b1 : Value} {w : World} {K : Value → World → Prop} (h : producer_same.pt a0 b1 w K) : Calls Tryd.prog F_producer_same #[a0, b1] w (retK K) :=
  calls_FN (args := [a0, b1]) Tryd.func34 (by kernel_rfl) (by rw [producer_same.pt_eq] at h; exact h)
theorem producer_same.up {a0 b1 : Value} {w : World} {K : Value → World → Prop} (h : Calls Tryd.prog F_producer_same #[a0, b1] w (retK K)) : upK Tryd.prog (sCall F_producer_same #[a0, b1]) w K :=
  up_call (fn := Tryd.f34) Tryd.func34 (by kernel_rfl) (by kernel_rfl) h

/-- (*errata/wire.Reader).number -/
def wire_Reader_number.pt (r0 end1 least2 : Value) (w : World) (K : Value → World → Prop) : Prop :=
  pureK Tryd.prog (sNil r0) fun t12 =>
  pureK Tryd.prog (sFieldAddr T_wire_Reader t12 0) fun t13 =>
  readK Tryd.prog (sLoad T_string t13) (tick w) fun t14 =>
  pureK Tryd.prog (sNil r0) fun t16 =>
  pureK Tryd.prog (sFieldAddr T_wire_Reader t16 0) fun t17 =>
  readK Tryd.prog (sLoad T_string t17) (tick w) fun t18 =>
  readK Tryd.prog (sBlt .len #[T_string] T_int #[false] #[t18]) (tick w) fun t19 =>
  pureK Tryd.prog (sBlt .min #[T_int, T_int] T_int #[false, true] #[t19, (.int .i64 21)]) fun t20 =>
  pureK Tryd.prog (sSlice T_string t14 none (some t20) none) fun t21 =>
  upK Tryd.prog (sCall F_strings_IndexByte #[t21, end1]) (tick w) fun t24 w1 =>
  pureK Tryd.prog (sBin .lss T_int (.tmp 25) (.const (.int .i64 0)) t24 (.int .i64 0)) fun t26 =>
  ifB t26
  (upK Tryd.prog (sCall F_wire_Reader_fail #[r0]) w1 fun t28 w2 =>
   K (.int .i64 0) w2)
  (pureK Tryd.prog (sSlice T_string t21 none (some t24) none) fun t32 =>
   upK Tryd.prog (sCall F_strconv_Atoi #[t32]) w1 fun t33 w3 =>
   pureK Tryd.prog (sExtract t33 0) fun t34 =>
   pureK Tryd.prog (sExtract t33 1) fun t35 =>
   pureK Tryd.prog (sBin .neq T_error (.tmp 36) (.const .nilIface) t35 .nilIface) fun t37 =>
   ifB t37
   (upK Tryd.prog (sCall F_wire_Reader_fail #[r0]) (tick w3) fun t52 w4 =>
    K (.int .i64 0) w4)
   (pureK Tryd.prog (sSlice T_string t21 none (some t24) none) fun t43 =>
    upK Tryd.prog (sCall F_strconv_Itoa #[t34]) (tick w3) fun t40 w5 =>
    pureK Tryd.prog (sBin .neq T_string (.tmp 40) (.tmp 43) t40 t43) fun t44 =>
    ifB t44
    (upK Tryd.prog (sCall F_wire_Reader_fail #[r0]) w5 fun t52_1 w6 =>
     K (.int .i64 0) w6)
    (pureK Tryd.prog (sBin .lss T_int (.tmp 47) (.tmp 48) t34 least2) fun t49 =>
     ifB t49
     (upK Tryd.prog (sCall F_wire_Reader_fail #[r0]) w5 fun t52_2 w7 =>
      K (.int .i64 0) w7)
     (pureK Tryd.prog (sNil r0) fun t55 =>
      pureK Tryd.prog (sFieldAddr T_wire_Reader t55 0) fun t56 =>
      readK Tryd.prog (sLoad T_string t56) w5 fun t57 =>
      pureK Tryd.prog (sBin .add T_int (.tmp 58) (.const (.int .i64 1)) t24 (.int .i64 1)) fun t59 =>
      pureK Tryd.prog (sSlice T_string t57 (some t59) none none) fun t60 =>
      pureK Tryd.prog (sNil r0) fun t61 =>
      pureK Tryd.prog (sFieldAddr T_wire_Reader t61 0) fun t62 =>
      upK Tryd.prog (sStore T_string t62 t60) w5 fun tu w8 =>
      K t34 w8))))
theorem wire_Reader_number.pt_eq : wire_Reader_number.pt = fun r0 end1 least2 w K => FN Tryd.prog Tryd.f35 (bodyOf Tryd.f35) [6] .leaf [r0, end1, least2] w K := by kernel_rfl
theorem wire_Reader_number.call {r0 end1 least2 : Value} {w : World} {K : Value → World → Prop} (h : wire_Reader_number.pt r0 end1 least2 w K) : Calls Tryd.prog F_wire_Reader_number #[r0, end1, least2] w (retK K) :=
  calls_FN (args := [r0, end1, least2]) Tryd.func35 (by kernel_rfl) (by rw [wire_Reader_number.pt_eq] at h; exact h)
theorem wire_Reader_number.up {r0 end1 least2 : Value} {w : World} {K : Value → World → Prop} (h : Calls Tryd.prog F_wire_Reader_number #[r0, end1, least2] w (retK K)) : upK Tryd.prog (sCall F_wire_Reader_number #[r0, end1, least2]) w K :=
  up_call (fn := Tryd.f35) Tryd.func35 (by kernel_rfl) (by kernel_rfl) h

/-- errata/wire.items[int] -/
def wire_items_int.pt (r0 one1 : Value) (w : World) (K : Value → World → Prop) : Prop :=
  LETJ (X := Value × Unit) (fun y1 w1 =>
   upK Tryd.prog (sCall F_wire_Reader_close #[r0, (.string ⟨#[93]⟩)]) w1 fun t26 w2 =>
   pureK Tryd.prog (sNil r0) fun t28 =>
   pureK Tryd.prog (sFieldAddr T_wire_Reader t28 1) fun t29 =>
   readK Tryd.prog (sLoad T_bool t29) w2 fun t30 =>
   ifB t30
   (K (.slice none 0 0) w2)
   (K y1.1 w2))
  (fun J1 =>
   upK Tryd.prog (sCall F_wire_Reader_number #[r0, (.int .u8 91), (.int .i64 0)]) w fun t8 w3 =>
   LOOP (X := Value × Value × Unit) (fun x4 w4 next4 =>
    pureK Tryd.prog (sBin .gtr T_int (.tmp 9) (.const (.int .i64 0)) x4.2.1 (.int .i64 0)) fun t10 =>
    ifB t10
    (pureK Tryd.prog (sNil r0) fun t13 =>
     pureK Tryd.prog (sFieldAddr T_wire_Reader t13 1) fun t14 =>
     readK Tryd.prog (sLoad T_bool t14) w4 fun t15 =>
     pureK Tryd.prog (sUn .not t15) fun t16 =>
     ifB t16
     (upK Tryd.prog (sCallV one1 #[]) w4 fun t22 w5 =>
      upK Tryd.prog (sBuildSlice T_s_int 1 #[(0, t22)]) w5 fun t23 w6 =>
      upK Tryd.prog (sBlt .append #[T_s_int, T_s_int] T_s_int #[false, false] #[x4.1, t23]) w6 fun t24 w7 =>
      pureK Tryd.prog (sBin .sub T_int (.tmp 18) (.const (.int .i64 1)) x4.2.1 (.int .i64 1)) fun t19 =>
      next4 (t24, t19, ()) w7)
     (J1 (x4.1, ()) w4))
    (J1 (x4.1, ()) w4))
   ((.slice none 0 0), t8, ()) w3)
theorem wire_items_int.pt_eq : wire_items_int.pt = fun r0 one1 w K => FN Tryd.prog Tryd.f36 (bodyOf Tryd.f36) [4] (.node none .leaf (.node none .leaf (.node (some [5]) .leaf .leaf))) [r0, one1] w K := by kernel_rfl
theorem wire_items_int.call {r0 one1 : Value} {w : World} {K : Value → World → Prop} (h : wire_items_int.pt r0 one1 w K) : Calls Tryd.prog F_wire_items_int #[r0, one1] w (retK K) :=
  calls_FN (args := [r0, one1]) Tryd.func36 (by kernel_rfl) (by rw [wire_items_int.pt_eq] at h; exact h)
theorem wire_items_int.up {r0 one1 : Value} {w : World} {K : Value → World → Prop} (h : Calls Tryd.prog F_wire_items_int #[r0, one1] w (retK K)) : upK Tryd.prog (sCall F_wire_items_int #[r0, one1]) w K :=
  up_call (fn := Tryd.f36) Tryd.func36 (by kernel_rfl) (by kernel_rfl) h

/-- (*strings.Builder).copyCheck -/
def strings_Builder_copyCheck.pt (b0 : Value) (w : World) (K : Value → World → Prop) : Prop :=
  pureK Tryd.prog (sNil b0) fun t3 =>
  pureK Tryd.prog (sFieldAddr T_strings_Builder t3 0) fun t4 =>
  readK Tryd.prog (sLoad T_p_strings_Builder t4) w fun t5 =>
  pureK Tryd.prog (sBin .eql T_p_strings_Builder (.tmp 5) (.const (.pointer none)) t5 (.pointer none)) fun t6 =>
  ifB t6
  (upK Tryd.prog (sConv T_p_strings_Builder T_unsafe_Pointer b0) w fun t9 w1 =>
   upK Tryd.prog (sCall F_internal_abi_NoEscape #[t9]) w1 fun t10 w2 =>
   upK Tryd.prog (sConv T_unsafe_Pointer T_p_strings_Builder t10) w2 fun t11 w3 =>
   pureK Tryd.prog (sNil b0) fun t12 =>
   pureK Tryd.prog (sFieldAddr T_strings_Builder t12 0) fun t13 =>
   upK Tryd.prog (sStore T_p_strings_Builder t13 t11) w3 fun tu w4 =>
   K (.tuple #[]) w4)
  (pureK Tryd.prog (sNil b0) fun t15 =>
   pureK Tryd.prog (sFieldAddr T_strings_Builder t15 0) fun t16 =>
   readK Tryd.prog (sLoad T_p_strings_Builder t16) w fun t17 =>
   pureK Tryd.prog (sBin .neq T_p_strings_Builder (.tmp 17) (.tmp 18) t17 b0) fun t19 =>
   ifB t19
   (False)
   (K (.tuple #[]) w))
theorem strings_Builder_copyCheck.pt_eq : strings_Builder_copyCheck.pt = fun b0 w K => FN Tryd.prog Tryd.f37 (bodyOf Tryd.f37) [] .leaf [b0] w K := by kernel_rfl
theorem strings_Builder_copyCheck.call {b0 : Value} {w : World} {K : Value → World → Prop} (h : strings_Builder_copyCheck.pt b0 w K) : Calls Tryd.prog F_strings_Builder_copyCheck #[b0] w (retK K) :=
  calls_FN (args := [b0]) Tryd.func37 (by kernel_rfl) (by rw [strings_Builder_copyCheck.pt_eq] at h; exact h)
theorem strings_Builder_copyCheck.up {b0 : Value} {w : World} {K : Value → World → Prop} (h : Calls Tryd.prog F_strings_Builder_copyCheck #[b0] w (retK K)) : upK Tryd.prog (sCall F_strings_Builder_copyCheck #[b0]) w K :=
  up_call (fn := Tryd.f37) Tryd.func37 (by kernel_rfl) (by kernel_rfl) h

/-- strconv.Itoa -/
theorem strconv_Itoa.up {p0 : Value} {w : World} {K : Value → World → Prop} (h : Calls Tryd.prog F_strconv_Itoa #[p0] w (retK K)) : upK Tryd.prog (sCall F_strconv_Itoa #[p0]) w K :=
  up_call (fn := Tryd.f38) Tryd.func38 (by kernel_rfl) (by kernel_rfl) h

/-- errata/wire.list[int] -/
def wire_list_int.pt (l0 one1 : Value) (w : World) (K : Value → World → Prop) : Prop :=
  upK Tryd.prog (sAlloc T_strings_Builder) w fun b5 w1 =>
  readK Tryd.prog (sBlt .len #[T_s_int] T_int #[false] #[l0]) w1 fun t9 =>
  upK Tryd.prog (sCall F_strconv_Itoa #[t9]) w1 fun t10 w2 =>
  pureK Tryd.prog (sBin .add T_string (.tmp 10) (.const (.string ⟨#[91]⟩)) t10 (.string ⟨#[91]⟩)) fun t11 =>
  upK Tryd.prog (sCall F_strings_Builder_WriteString #[b5, t11]) w2 fun t12 w3 =>
  readK Tryd.prog (sBlt .len #[T_s_int] T_int #[false] #[l0]) w3 fun t14 =>
  LOOP (X := Value × Unit) (fun x4 w4 next4 =>
   pureK Tryd.prog (sBin .lss T_int (.tmp 15) (.tmp 14) x4.1 t14) fun t16 =>
   ifB t16
   (pureK Tryd.prog (sIdxAddr T_s_int l0 x4.1) fun t17 =>
    readK Tryd.prog (sLoad T_int t17) w4 fun t18 =>
    upK Tryd.prog (sCallV one1 #[t18]) w4 fun t21 w5 =>
    upK Tryd.prog (sCall F_strings_Builder_WriteString #[b5, t21]) w5 fun t22 w6 =>
    pureK Tryd.prog (sBin .add T_int (.tmp 15) (.const (.int .i64 1)) x4.1 (.int .i64 1)) fun t23 =>
    next4 (t23, ()) w6)
   (upK Tryd.prog (sCall F_strings_Builder_String #[b5]) w4 fun t24 w7 =>
    pureK Tryd.prog (sBin .add T_string (.tmp 24) (.const (.string ⟨#[93]⟩)) t24 (.string ⟨#[93]⟩)) fun t25 =>
    K t25 w7))
  ((.int .i64 0), ()) w3
theorem wire_list_int.pt_eq : wire_list_int.pt = fun l0 one1 w K => FN Tryd.prog Tryd.f39 (bodyOf Tryd.f39) [4] .leaf [l0, one1] w K := by kernel_rfl
theorem wire_list_int.call {l0 one1 : Value} {w : World} {K : Value → World → Prop} (h : wire_list_int.pt l0 one1 w K) : Calls Tryd.prog F_wire_list_int #[l0, one1] w (retK K) :=
  calls_FN (args := [l0, one1]) Tryd.func39 (by kernel_rfl) (by rw [wire_list_int.pt_eq] at h; exact h)
theorem wire_list_int.up {l0 one1 : Value} {w : World} {K : Value → World → Prop} (h : Calls Tryd.prog F_wire_list_int #[l0, one1] w (retK K)) : upK Tryd.prog (sCall F_wire_list_int #[l0, one1]) w K :=
  up_call (fn := Tryd.f39) Tryd.func39 (by kernel_rfl) (by kernel_rfl) h

/-- slices.IndexFunc[[]errata/api.Producer,errata/api.Producer] -/
def slices_IndexFunc_s_api_Producer_api_Producer.pt (s0 f1 : Value) (w : World) (K : Value → World → Prop) : Prop :=
  readK Tryd.prog (sBlt .len #[T_s_api_Producer] T_int #[false] #[s0]) w fun t7 =>
  LOOP (X := Value × Unit) (fun x1 w1 next1 =>
   pureK Tryd.prog (sBin .lss T_int (.tmp 8) (.tmp 7) x1.1 t7) fun t9 =>
   ifB t9
   (pureK Tryd.prog (sIdxAddr T_s_api_Producer s0 x1.1) fun t14 =>
    readK Tryd.prog (sLoad T_api_Producer t14) w1 fun t15 =>
    upK Tryd.prog (sCallV f1 #[t15]) w1 fun t16 w2 =>
    ifB t16
    (K x1.1 w2)
    (pureK Tryd.prog (sBin .add T_int (.tmp 8) (.const (.int .i64 1)) x1.1 (.int .i64 1)) fun t18 =>
     next1 (t18, ()) w2))
   (K (.int .i64 (-1)) w1))
  ((.int .i64 0), ()) w
theorem slices_IndexFunc_s_api_Producer_api_Producer.pt_eq : slices_IndexFunc_s_api_Producer_api_Producer.pt = fun s0 f1 w K => FN Tryd.prog Tryd.f40 (bodyOf Tryd.f40) [4] .leaf [s0, f1] w K := by kernel_rfl
theorem slices_IndexFunc_s_api_Producer_api_Producer.call {s0 f1 : Value} {w : World} {K : Value → World → Prop} (h : slices_IndexFunc_s_api_Producer_api_Producer.pt s0 f1 w K) : Calls Tryd.prog F_slices_IndexFunc_s_api_Producer_api_Producer #[s0, f1] w (retK K) :=
  calls_FN (args := [s0, f1]) Tryd.func40 (by kernel_rfl) (by rw [slices_IndexFunc_s_api_Producer_api_Producer.pt_eq] at h; exact h)
theorem slices_IndexFunc_s_api_Producer_api_Producer.up {s0 f1 : Value} {w : World} {K : Value → World → Prop} (h : Calls Tryd.prog F_slices_IndexFunc_s_api_Producer_api_Producer #[s0, f1] w (retK K)) : upK Tryd.prog (sCall F_slices_IndexFunc_s_api_Producer_api_Producer #[s0, f1]) w K :=
  up_call (fn := Tryd.f40) Tryd.func40 (by kernel_rfl) (by kernel_rfl) h

/-- errata/producer.find$1 -/
def producer_find_1.pt (p0 t1 : Value) (w : World) (K : Value → World → Prop) : Prop :=
  upK Tryd.prog (sBox T_api_Producer p0) w fun p2 w1 =>
  pureK Tryd.prog (sFieldAddr T_api_Producer p2 0) fun t4 =>
  readK Tryd.prog (sLoad T_int t4) w1 fun t5 =>
  readK Tryd.prog (sLoad T_int t1) w1 fun t6 =>
  pureK Tryd.prog (sBin .eql T_int (.tmp 5) (.tmp 6) t5 t6) fun t7 =>
  K t7 w1
theorem producer_find_1.pt_eq : producer_find_1.pt = fun p0 t1 w K => FN Tryd.prog Tryd.f41 (bodyOf Tryd.f41) [3] .leaf [p0, t1] w K := by kernel_rfl
theorem producer_find_1.call {p0 t1 : Value} {w : World} {K : Value → World → Prop} (h : producer_find_1.pt p0 t1 w K) : Calls Tryd.prog F_producer_find_1 #[p0, t1] w (retK K) :=
  calls_FN (args := [p0, t1]) Tryd.func41 (by kernel_rfl) (by rw [producer_find_1.pt_eq] at h; exact h)
theorem producer_find_1.up {p0 t1 : Value} {w : World} {K : Value → World → Prop} (h : Calls Tryd.prog F_producer_find_1 #[p0, t1] w (retK K)) : upK Tryd.prog (sCall F_producer_find_1 #[p0, t1]) w K :=
  up_call (fn := Tryd.f41) Tryd.func41 (by kernel_rfl) (by kernel_rfl) h

/-- slices.BinarySearchFunc[[]errata/api.Producer,errata/api.Producer,int] -/
def slices_BinarySearchFunc_s_api_Producer_api_Producer_int.pt (x0 target1 cmp2 : Value) (w : World) (K : Value → World → Prop) : Prop :=
  readK Tryd.prog (sBlt .len #[T_s_api_Producer] T_int #[false] #[x0]) w fun t13 =>
  LETJ (X := Value × Unit) (fun y1 w1 =>
   pureK Tryd.prog (sBin .lss T_int (.tmp 36) (.tmp 37) y1.1 t13) fun t38 =>
   ifB t38
   (pureK Tryd.prog (sIdxAddr T_s_api_Producer x0 y1.1) fun t43 =>
    readK Tryd.prog (sLoad T_api_Producer t43) w1 fun t44 =>
    upK Tryd.prog (sCallV cmp2 #[t44, target1]) w1 fun t46 w2 =>
    pureK Tryd.prog (sBin .eql T_int (.tmp 46) (.const (.int .i64 0)) t46 (.int .i64 0)) fun t47 =>
    K (.tuple #[y1.1, t47]) w2)
   (K (.tuple #[y1.1, (.bool false)]) w1))
  (fun J1 =>
   LOOP (X := Value × Value × Unit) (fun x3 w3 next3 =>
    pureK Tryd.prog (sBin .lss T_int (.tmp 15) (.tmp 16) x3.1 x3.2.1) fun t17 =>
    ifB t17
    (pureK Tryd.prog (sBin .add T_int (.tmp 18) (.tmp 19) x3.1 x3.2.1) fun t20 =>
     upK Tryd.prog (sConv T_int T_uint t20) w3 fun t21 w4 =>
     pureK Tryd.prog (sBin .shr T_uint (.tmp 21) (.const (.int .u64 1)) t21 (.int .u64 1)) fun t22 =>
     upK Tryd.prog (sConv T_uint T_int t22) w4 fun t23 w5 =>
     pureK Tryd.prog (sIdxAddr T_s_api_Producer x0 t23) fun t27 =>
     readK Tryd.prog (sLoad T_api_Producer t27) w5 fun t28 =>
     upK Tryd.prog (sCallV cmp2 #[t28, target1]) w5 fun t30 w6 =>
     pureK Tryd.prog (sBin .lss T_int (.tmp 30) (.const (.int .i64 0)) t30 (.int .i64 0)) fun t31 =>
     ifB t31
     (pureK Tryd.prog (sBin .add T_int (.tmp 32) (.const (.int .i64 1)) t23 (.int .i64 1)) fun t33 =>
      next3 (t33, x3.2.1, ()) w6)
     (next3 (x3.1, t23, ()) w6))
    (J1 (x3.1, ()) w3))
   ((.int .i64 0), t13, ()) w)
theorem slices_BinarySearchFunc_s_api_Producer_api_Producer_int.pt_eq : slices_BinarySearchFunc_s_api_Producer_api_Producer_int.pt = fun x0 target1 cmp2 w K => FN Tryd.prog Tryd.f42 (bodyOf Tryd.f42) [6, 7] (.node none .leaf (.node none .leaf (.node none .leaf (.node (some [9]) .leaf .leaf)))) [x0, target1, cmp2] w K := by kernel_rfl
theorem slices_BinarySearchFunc_s_api_Producer_api_Producer_int.call {x0 target1 cmp2 : Value} {w : World} {K : Value → World → Prop} (h : slices_BinarySearchFunc_s_api_Producer_api_Producer_int.pt x0 target1 cmp2 w K) : Calls Tryd.prog F_slices_BinarySearchFunc_s_api_Producer_api_Producer_int #[x0, target1, cmp2] w (retK K) :=
  calls_FN (args := [x0, target1, cmp2]) Tryd.func42 (by kernel_rfl) (by rw [slices_BinarySearchFunc_s_api_Producer_api_Producer_int.pt_eq] at h; exact h)
theorem slices_BinarySearchFunc_s_api_Producer_api_Producer_int.up {x0 target1 cmp2 : Value} {w : World} {K : Value → World → Prop} (h : Calls Tryd.prog F_slices_BinarySearchFunc_s_api_Producer_api_Producer_int #[x0, target1, cmp2] w (retK K)) : upK Tryd.prog (sCall F_slices_BinarySearchFunc_s_api_Producer_api_Producer_int #[x0, target1, cmp2]) w K :=
  up_call (fn := Tryd.f42) Tryd.func42 (by kernel_rfl) (by kernel_rfl) h

/-- errata/producer.with$1 -/
def producer_with_1.pt (x0 id1 : Value) (w : World) (K : Value → World → Prop) : Prop :=
  upK Tryd.prog (sBox T_api_Producer x0) w fun x2 w1 =>
  pureK Tryd.prog (sFieldAddr T_api_Producer x2 0) fun t5 =>
  readK Tryd.prog (sLoad T_int t5) w1 fun t6 =>
  pureK Tryd.prog (sBin .sub T_int (.tmp 6) (.tmp 7) t6 id1) fun t8 =>
  K t8 w1
theorem producer_with_1.pt_eq : producer_with_1.pt = fun x0 id1 w K => FN Tryd.prog Tryd.f43 (bodyOf Tryd.f43) [4] .leaf [x0, id1] w K := by kernel_rfl
theorem producer_with_1.call {x0 id1 : Value} {w : World} {K : Value → World → Prop} (h : producer_with_1.pt x0 id1 w K) : Calls Tryd.prog F_producer_with_1 #[x0, id1] w (retK K) :=
  calls_FN (args := [x0, id1]) Tryd.func43 (by kernel_rfl) (by rw [producer_with_1.pt_eq] at h; exact h)
theorem producer_with_1.up {x0 id1 : Value} {w : World} {K : Value → World → Prop} (h : Calls Tryd.prog F_producer_with_1 #[x0, id1] w (retK K)) : upK Tryd.prog (sCall F_producer_with_1 #[x0, id1]) w K :=
  up_call (fn := Tryd.f43) Tryd.func43 (by kernel_rfl) (by kernel_rfl) h

/-- slices.Insert[[]errata/api.Producer,errata/api.Producer] -/
def slices_Insert_s_api_Producer_api_Producer.pt (s0 i1 v2 : Value) (w : World) (K : Value → World → Prop) : Prop :=
  pureK Tryd.prog (sSlice T_s_api_Producer s0 (some i1) none none) fun t12 =>
  readK Tryd.prog (sBlt .len #[T_s_api_Producer] T_int #[false] #[v2]) w fun t14 =>
  pureK Tryd.prog (sBin .eql T_int (.tmp 15) (.const (.int .i64 0)) t14 (.int .i64 0)) fun t16 =>
  ifB t16
  (K s0 w)
  (readK Tryd.prog (sBlt .len #[T_s_api_Producer] T_int #[false] #[s0]) w fun t19 =>
   pureK Tryd.prog (sBin .eql T_int (.tmp 20) (.tmp 21) i1 t19) fun t22 =>
   ifB t22
   (upK Tryd.prog (sBlt .append #[T_s_api_Producer, T_s_api_Producer] T_s_api_Producer #[false, false] #[s0, v2]) w fun t25 w1 =>
    K t25 w1)
   (pureK Tryd.prog (sBin .add T_int (.tmp 26) (.tmp 27) t19 t14) fun t28 =>
    readK Tryd.prog (sBlt .cap #[T_s_api_Producer] T_int #[false] #[s0]) w fun t30 =>
    pureK Tryd.prog (sBin .gtr T_int (.tmp 28) (.tmp 30) t28 t30) fun t31 =>
    ifB t31
    (pureK Tryd.prog (sSlice T_s_api_Producer s0 none (some i1) none) fun t34 =>
     pureK Tryd.prog (sBin .add T_int (.tmp 35) (.tmp 36) t19 t14) fun t37 =>
     pureK Tryd.prog (sBin .sub T_int (.tmp 37) (.tmp 38) t37 i1) fun t39 =>
     upK Tryd.prog (sBlt .append #[T_s_api_Producer, T_int] T_s_api_Producer #[false, false] #[t34, t39]) w fun t40 w2 =>
     pureK Tryd.prog (sSlice T_s_api_Producer t40 (some i1) none none) fun t43 =>
     upK Tryd.prog (sBlt .copy #[T_s_api_Producer, T_s_api_Producer] T_int #[false, false] #[t43, v2]) w2 fun t45 w3 =>
     pureK Tryd.prog (sBin .add T_int (.tmp 47) (.tmp 48) i1 t14) fun t49 =>
     pureK Tryd.prog (sSlice T_s_api_Producer t40 (some t49) none none) fun t50 =>
     pureK Tryd.prog (sSlice T_s_api_Producer s0 (some i1) none none) fun t53 =>
     upK Tryd.prog (sBlt .copy #[T_s_api_Producer, T_s_api_Producer] T_int #[false, false] #[t50, t53]) (tick w3) fun t54 w4 =>
     K t40 w4)
    (pureK Tryd.prog (sBin .add T_int (.tmp 57) (.tmp 58) t19 t14) fun t59 =>
     pureK Tryd.prog (sSlice T_s_api_Producer s0 none (some t59) none) fun t60 =>
     pureK Tryd.prog (sBin .add T_int (.tmp 63) (.tmp 64) i1 t14) fun t65 =>
     pureK Tryd.prog (sSlice T_s_api_Producer t60 (some t65) none none) fun t66 =>
     upK Tryd.prog (sCall F_slices_overlaps_api_Producer #[v2, t66]) w fun t67 w5 =>
     pureK Tryd.prog (sUn .not t67) fun t68 =>
     ifB t68
     (pureK Tryd.prog (sBin .add T_int (.tmp 70) (.tmp 71) i1 t14) fun t72 =>
      pureK Tryd.prog (sSlice T_s_api_Producer t60 (some t72) none none) fun t73 =>
      pureK Tryd.prog (sSlice T_s_api_Producer t60 (some i1) none none) fun t76 =>
      upK Tryd.prog (sBlt .copy #[T_s_api_Producer, T_s_api_Producer] T_int #[false, false] #[t73, t76]) (tick w5) fun t77 w6 =>
      pureK Tryd.prog (sSlice T_s_api_Producer t60 (some i1) none none) fun t80 =>
      upK Tryd.prog (sBlt .copy #[T_s_api_Producer, T_s_api_Producer] T_int #[false, false] #[t80, v2]) w6 fun t82 w7 =>
      K t60 w7)
     (pureK Tryd.prog (sSlice T_s_api_Producer t60 (some t19) none none) fun t86 =>
      upK Tryd.prog (sBlt .copy #[T_s_api_Producer, T_s_api_Producer] T_int #[false, false] #[t86, v2]) w5 fun t88 w8 =>
      pureK Tryd.prog (sSlice T_s_api_Producer t60 (some i1) none none) fun t91 =>
      upK Tryd.prog (sCall F_slices_rotateRight_api_Producer #[t91, t14]) w8 fun t93 w9 =>
      K t60 w9))))
theorem slices_Insert_s_api_Producer_api_Producer.pt_eq : slices_Insert_s_api_Producer_api_Producer.pt = fun s0 i1 v2 w K => FN Tryd.prog Tryd.f44 (bodyOf Tryd.f44) [6] .leaf [s0, i1, v2] w K := by kernel_rfl
theorem slices_Insert_s_api_Producer_api_Producer.call {s0 i1 v2 : Value} {w : World} {K : Value → World → Prop} (h : slices_Insert_s_api_Producer_api_Producer.pt s0 i1 v2 w K) : Calls Tryd.prog F_slices_Insert_s_api_Producer_api_Producer #[s0, i1, v2] w (retK K) :=
  calls_FN (args := [s0, i1, v2]) Tryd.func44 (by kernel_rfl) (by rw [slices_Insert_s_api_Producer_api_Producer.pt_eq] at h; exact h)
theorem slices_Insert_s_api_Producer_api_Producer.up {s0 i1 v2 : Value} {w : World} {K : Value → World → Prop} (h : Calls Tryd.prog F_slices_Insert_s_api_Producer_api_Producer #[s0, i1, v2] w (retK K)) : upK Tryd.prog (sCall F_slices_Insert_s_api_Producer_api_Producer #[s0, i1, v2]) w K :=
  up_call (fn := Tryd.f44) Tryd.func44 (by kernel_rfl) (by kernel_rfl) h

/-- slices.Equal[[]int,int] -/
def slices_Equal_s_int_int.pt (s10 s21 : Value) (w : World) (K : Value → World → Prop) : Prop :=
  readK Tryd.prog (sBlt .len #[T_s_int] T_int #[false] #[s10]) w fun t7 =>
  readK Tryd.prog (sBlt .len #[T_s_int] T_int #[false] #[s21]) w fun t9 =>
  pureK Tryd.prog (sBin .neq T_int (.tmp 7) (.tmp 9) t7 t9) fun t10 =>
  ifB t10
  (K (.bool false) w)
  (readK Tryd.prog (sBlt .len #[T_s_int] T_int #[false] #[s10]) w fun t12 =>
   LOOP (X := Value × Unit) (fun x1 w1 next1 =>
    pureK Tryd.prog (sBin .lss T_int (.tmp 13) (.tmp 12) x1.1 t12) fun t14 =>
    ifB t14
    (pureK Tryd.prog (sIdxAddr T_s_int s10 x1.1) fun t18 =>
     readK Tryd.prog (sLoad T_int t18) (tick w1) fun t19 =>
     pureK Tryd.prog (sIdxAddr T_s_int s21 x1.1) fun t22 =>
     readK Tryd.prog (sLoad T_int t22) (tick w1) fun t23 =>
     pureK Tryd.prog (sBin .neq T_int (.tmp 19) (.tmp 23) t19 t23) fun t24 =>
     ifB t24
     (K (.bool false) (tick w1))
     (pureK Tryd.prog (sBin .add T_int (.tmp 13) (.const (.int .i64 1)) x1.1 (.int .i64 1)) fun t25 =>
      next1 (t25, ()) (tick w1)))
    (K (.bool true) w1))
   ((.int .i64 0), ()) w)
theorem slices_Equal_s_int_int.pt_eq : slices_Equal_s_int_int.pt = fun s10 s21 w K => FN Tryd.prog Tryd.f45 (bodyOf Tryd.f45) [4] .leaf [s10, s21] w K := by kernel_rfl
theorem slices_Equal_s_int_int.call {s10 s21 : Value} {w : World} {K : Value → World → Prop} (h : slices_Equal_s_int_int.pt s10 s21 w K) : Calls Tryd.prog F_slices_Equal_s_int_int #[s10, s21] w (retK K) :=
  calls_FN (args := [s10, s21]) Tryd.func45 (by kernel_rfl) (by rw [slices_Equal_s_int_int.pt_eq] at h; exact h)
theorem slices_Equal_s_int_int.up {s10 s21 : Value} {w : World} {K : Value → World → Prop} (h : Calls Tryd.prog F_slices_Equal_s_int_int #[s10, s21] w (retK K)) : upK Tryd.prog (sCall F_slices_Equal_s_int_int #[s10, s21]) w K :=
  up_call (fn := Tryd.f45) Tryd.func45 (by kernel_rfl) (by kernel_rfl) h

/-- strings.IndexByte -/
theorem strings_IndexByte.up {p0 p1 : Value} {w : World} {K : Value → World → Prop} (h : Calls Tryd.prog F_strings_IndexByte #[p0, p1] w (retK K)) : upK Tryd.prog (sCall F_strings_IndexByte #[p0, p1]) w K :=
  up_call (fn := Tryd.f46) Tryd.func46 (by kernel_rfl) (by kernel_rfl) h

/-- (*errata/wire.Reader).fail -/
def wire_Reader_fail.pt (r0 : Value) (w : World) (K : Value → World → Prop) : Prop :=
  pureK Tryd.prog (sNil r0) fun t4 =>
  pureK Tryd.prog (sFieldAddr T_wire_Reader t4 0) fun t5 =>
  upK Tryd.prog (sStore T_string t5 (.string ⟨#[]⟩)) w fun tu w1 =>
  pureK Tryd.prog (sNil r0) fun t6 =>
  pureK Tryd.prog (sFieldAddr T_wire_Reader t6 1) fun t7 =>
  upK Tryd.prog (sStore T_bool t7 (.bool true)) w1 fun tu_1 w2 =>
  K (.tuple #[]) w2
theorem wire_Reader_fail.pt_eq : wire_Reader_fail.pt = fun r0 w K => FN Tryd.prog Tryd.f47 (bodyOf Tryd.f47) [] .leaf [r0] w K := by kernel_rfl
theorem wire_Reader_fail.call {r0 : Value} {w : World} {K : Value → World → Prop} (h : wire_Reader_fail.pt r0 w K) : Calls Tryd.prog F_wire_Reader_fail #[r0] w (retK K) :=
  calls_FN (args := [r0]) Tryd.func47 (by kernel_rfl) (by rw [wire_Reader_fail.pt_eq] at h; exact h)
theorem wire_Reader_fail.up {r0 : Value} {w : World} {K : Value → World → Prop} (h : Calls Tryd.prog F_wire_Reader_fail #[r0] w (retK K)) : upK Tryd.prog (sCall F_wire_Reader_fail #[r0]) w K :=
  up_call (fn := Tryd.f47) Tryd.func47 (by kernel_rfl) (by kernel_rfl) h

/-- strconv.Atoi -/
theorem strconv_Atoi.up {p0 : Value} {w : World} {K : Value → World → Prop} (h : Calls Tryd.prog F_strconv_Atoi #[p0] w (retK K)) : upK Tryd.prog (sCall F_strconv_Atoi #[p0]) w K :=
  up_call (fn := Tryd.f48) Tryd.func48 (by kernel_rfl) (by kernel_rfl) h

/-- (*errata/wire.Reader).close -/
def wire_Reader_close.pt (r0 end1 : Value) (w : World) (K : Value → World → Prop) : Prop :=
  pureK Tryd.prog (sNil r0) fun t8 =>
  pureK Tryd.prog (sFieldAddr T_wire_Reader t8 0) fun t9 =>
  readK Tryd.prog (sLoad T_string t9) w fun t10 =>
  upK Tryd.prog (sCall F_strings_CutPrefix #[t10, end1]) w fun t12 w1 =>
  pureK Tryd.prog (sExtract t12 0) fun t13 =>
  pureK Tryd.prog (sExtract t12 1) fun t14 =>
  pureK Tryd.prog (sNil r0) fun t17 =>
  pureK Tryd.prog (sFieldAddr T_wire_Reader t17 0) fun t18 =>
  upK Tryd.prog (sStore T_string t18 t13) w1 fun tu w2 =>
  pureK Tryd.prog (sUn .not t14) fun t20 =>
  ifB t20
  (upK Tryd.prog (sCall F_wire_Reader_fail #[r0]) w2 fun t22 w3 =>
   K (.tuple #[]) w3)
  (K (.tuple #[]) w2)
theorem wire_Reader_close.pt_eq : wire_Reader_close.pt = fun r0 end1 w K => FN Tryd.prog Tryd.f49 (bodyOf Tryd.f49) [] .leaf [r0, end1] w K := by kernel_rfl
theorem wire_Reader_close.call {r0 end1 : Value} {w : World} {K : Value → World → Prop} (h : wire_Reader_close.pt r0 end1 w K) : Calls Tryd.prog F_wire_Reader_close #[r0, end1] w (retK K) :=
  calls_FN (args := [r0, end1]) Tryd.func49 (by kernel_rfl) (by rw [wire_Reader_close.pt_eq] at h; exact h)
theorem wire_Reader_close.up {r0 end1 : Value} {w : World} {K : Value → World → Prop} (h : Calls Tryd.prog F_wire_Reader_close #[r0, end1] w (retK K)) : upK Tryd.prog (sCall F_wire_Reader_close #[r0, end1]) w K :=
  up_call (fn := Tryd.f49) Tryd.func49 (by kernel_rfl) (by kernel_rfl) h

/-- internal/strconv.Itoa -/
theorem internal_strconv_Itoa.up {p0 : Value} {w : World} {K : Value → World → Prop} (h : Calls Tryd.prog F_internal_strconv_Itoa #[p0] w (retK K)) : upK Tryd.prog (sCall F_internal_strconv_Itoa #[p0]) w K :=
  up_call (fn := Tryd.f51) Tryd.func51 (by kernel_rfl) (by kernel_rfl) h

/-- slices.rotateRight[errata/api.Producer] -/
def slices_rotateRight_api_Producer.pt (s0 r1 : Value) (w : World) (K : Value → World → Prop) : Prop :=
  readK Tryd.prog (sBlt .len #[T_s_api_Producer] T_int #[false] #[s0]) w fun t6 =>
  pureK Tryd.prog (sBin .sub T_int (.tmp 6) (.tmp 7) t6 r1) fun t8 =>
  upK Tryd.prog (sCall F_slices_rotateLeft_api_Producer #[s0, t8]) w fun t9 w1 =>
  K (.tuple #[]) w1
theorem slices_rotateRight_api_Producer.pt_eq : slices_rotateRight_api_Producer.pt = fun s0 r1 w K => FN Tryd.prog Tryd.f53 (bodyOf Tryd.f53) [] .leaf [s0, r1] w K := by kernel_rfl
theorem slices_rotateRight_api_Producer.call {s0 r1 : Value} {w : World} {K : Value → World → Prop} (h : slices_rotateRight_api_Producer.pt s0 r1 w K) : Calls Tryd.prog F_slices_rotateRight_api_Producer #[s0, r1] w (retK K) :=
  calls_FN (args := [s0, r1]) Tryd.func53 (by kernel_rfl) (by rw [slices_rotateRight_api_Producer.pt_eq] at h; exact h)
theorem slices_rotateRight_api_Producer.up {s0 r1 : Value} {w : World} {K : Value → World → Prop} (h : Calls Tryd.prog F_slices_rotateRight_api_Producer #[s0, r1] w (retK K)) : upK Tryd.prog (sCall F_slices_rotateRight_api_Producer #[s0, r1]) w K :=
  up_call (fn := Tryd.f53) Tryd.func53 (by kernel_rfl) (by kernel_rfl) h

/-- internal/stringslite.IndexByte -/
theorem internal_stringslite_IndexByte.up {p0 p1 : Value} {w : World} {K : Value → World → Prop} (h : Calls Tryd.prog F_internal_stringslite_IndexByte #[p0, p1] w (retK K)) : upK Tryd.prog (sCall F_internal_stringslite_IndexByte #[p0, p1]) w K :=
  up_call (fn := Tryd.f54) Tryd.func54 (by kernel_rfl) (by kernel_rfl) h

/-- internal/strconv.Atoi -/
theorem internal_strconv_Atoi.up {p0 : Value} {w : World} {K : Value → World → Prop} (h : Calls Tryd.prog F_internal_strconv_Atoi #[p0] w (retK K)) : upK Tryd.prog (sCall F_internal_strconv_Atoi #[p0]) w K :=
  up_call (fn := Tryd.f55) Tryd.func55 (by kernel_rfl) (by kernel_rfl) h

/-- strconv.toError -/
theorem strconv_toError.up {p0 p1 p2 p3 p4 : Value} {w : World} {K : Value → World → Prop} (h : Calls Tryd.prog F_strconv_toError #[p0, p1, p2, p3, p4] w (retK K)) : upK Tryd.prog (sCall F_strconv_toError #[p0, p1, p2, p3, p4]) w K :=
  up_call (fn := Tryd.f56) Tryd.func56 (by kernel_rfl) (by kernel_rfl) h

/-- strings.CutPrefix -/
theorem strings_CutPrefix.up {p0 p1 : Value} {w : World} {K : Value → World → Prop} (h : Calls Tryd.prog F_strings_CutPrefix #[p0, p1] w (retK K)) : upK Tryd.prog (sCall F_strings_CutPrefix #[p0, p1]) w K :=
  up_call (fn := Tryd.f57) Tryd.func57 (by kernel_rfl) (by kernel_rfl) h

/-- internal/strconv.FormatInt -/
theorem internal_strconv_FormatInt.up {p0 p1 : Value} {w : World} {K : Value → World → Prop} (h : Calls Tryd.prog F_internal_strconv_FormatInt #[p0, p1] w (retK K)) : upK Tryd.prog (sCall F_internal_strconv_FormatInt #[p0, p1]) w K :=
  up_call (fn := Tryd.f58) Tryd.func58 (by kernel_rfl) (by kernel_rfl) h

/-- slices.rotateLeft[errata/api.Producer] -/
def slices_rotateLeft_api_Producer.pt (s0 r1 : Value) (w : World) (K : Value → World → Prop) : Prop :=
  pureK Tryd.prog (sSlice T_s_api_Producer s0 none (some r1) none) fun t6 =>
  upK Tryd.prog (sCall F_slices_Reverse_s_api_Producer_api_Producer #[t6]) w fun t7 w1 =>
  pureK Tryd.prog (sSlice T_s_api_Producer s0 (some r1) none none) fun t10 =>
  upK Tryd.prog (sCall F_slices_Reverse_s_api_Producer_api_Producer #[t10]) w1 fun t11 w2 =>
  upK Tryd.prog (sCall F_slices_Reverse_s_api_Producer_api_Producer #[s0]) w2 fun t13 w3 =>
  K (.tuple #[]) w3
theorem slices_rotateLeft_api_Producer.pt_eq : slices_rotateLeft_api_Producer.pt = fun s0 r1 w K => FN Tryd.prog Tryd.f59 (bodyOf Tryd.f59) [] .leaf [s0, r1] w K := by kernel_rfl
theorem slices_rotateLeft_api_Producer.call {s0 r1 : Value} {w : World} {K : Value → World → Prop} (h : slices_rotateLeft_api_Producer.pt s0 r1 w K) : Calls Tryd.prog F_slices_rotateLeft_api_Producer #[s0, r1] w (retK K) :=
  calls_FN (args := [s0, r1]) Tryd.func59 (by kernel_rfl) (by rw [slices_rotateLeft_api_Producer.pt_eq] at h; exact h)
theorem slices_rotateLeft_api_Producer.up {s0 r1 : Value} {w : World} {K : Value → World → Prop} (h : Calls Tryd.prog F_slices_rotateLeft_api_Producer #[s0, r1] w (retK K)) : upK Tryd.prog (sCall F_slices_rotateLeft_api_Producer #[s0, r1]) w K :=
  up_call (fn := Tryd.f59) Tryd.func59 (by kernel_rfl) (by kernel_rfl) h

/-- internal/strconv.ParseInt -/
theorem internal_strconv_ParseInt.up {p0 p1 p2 : Value} {w : World} {K : Value → World → Prop} (h : Calls Tryd.prog F_internal_strconv_ParseInt #[p0, p1, p2] w (retK K)) : upK Tryd.prog (sCall F_internal_strconv_ParseInt #[p0, p1, p2]) w K :=
  up_call (fn := Tryd.f61) Tryd.func61 (by kernel_rfl) (by kernel_rfl) h

/-- strconv.syntaxError -/
theorem strconv_syntaxError.up {p0 p1 : Value} {w : World} {K : Value → World → Prop} (h : Calls Tryd.prog F_strconv_syntaxError #[p0, p1] w (retK K)) : upK Tryd.prog (sCall F_strconv_syntaxError #[p0, p1]) w K :=
  up_call (fn := Tryd.f62) Tryd.func62 (by kernel_rfl) (by kernel_rfl) h

/-- strconv.rangeError -/
theorem strconv_rangeError.up {p0 p1 : Value} {w : World} {K : Value → World → Prop} (h : Calls Tryd.prog F_strconv_rangeError #[p0, p1] w (retK K)) : upK Tryd.prog (sCall F_strconv_rangeError #[p0, p1]) w K :=
  up_call (fn := Tryd.f63) Tryd.func63 (by kernel_rfl) (by kernel_rfl) h

/-- strconv.baseError -/
theorem strconv_baseError.up {p0 p1 p2 : Value} {w : World} {K : Value → World → Prop} (h : Calls Tryd.prog F_strconv_baseError #[p0, p1, p2] w (retK K)) : upK Tryd.prog (sCall F_strconv_baseError #[p0, p1, p2]) w K :=
  up_call (fn := Tryd.f64) Tryd.func64 (by kernel_rfl) (by kernel_rfl) h

/-- strconv.bitSizeError -/
theorem strconv_bitSizeError.up {p0 p1 p2 : Value} {w : World} {K : Value → World → Prop} (h : Calls Tryd.prog F_strconv_bitSizeError #[p0, p1, p2] w (retK K)) : upK Tryd.prog (sCall F_strconv_bitSizeError #[p0, p1, p2]) w K :=
  up_call (fn := Tryd.f65) Tryd.func65 (by kernel_rfl) (by kernel_rfl) h

/-- internal/stringslite.CutPrefix -/
theorem internal_stringslite_CutPrefix.up {p0 p1 : Value} {w : World} {K : Value → World → Prop} (h : Calls Tryd.prog F_internal_stringslite_CutPrefix #[p0, p1] w (retK K)) : upK Tryd.prog (sCall F_internal_stringslite_CutPrefix #[p0, p1]) w K :=
  up_call (fn := Tryd.f66) Tryd.func66 (by kernel_rfl) (by kernel_rfl) h

/-- internal/strconv.small -/
theorem internal_strconv_small.up {p0 : Value} {w : World} {K : Value → World → Prop} (h : Calls Tryd.prog F_internal_strconv_small #[p0] w (retK K)) : upK Tryd.prog (sCall F_internal_strconv_small #[p0]) w K :=
  up_call (fn := Tryd.f67) Tryd.func67 (by kernel_rfl) (by kernel_rfl) h

/-- internal/strconv.numDigits -/
theorem internal_strconv_numDigits.up {p0 : Value} {w : World} {K : Value → World → Prop} (h : Calls Tryd.prog F_internal_strconv_numDigits #[p0] w (retK K)) : upK Tryd.prog (sCall F_internal_strconv_numDigits #[p0]) w K :=
  up_call (fn := Tryd.f68) Tryd.func68 (by kernel_rfl) (by kernel_rfl) h

/-- internal/strconv.formatBase10 -/
theorem internal_strconv_formatBase10.up {p0 p1 : Value} {w : World} {K : Value → World → Prop} (h : Calls Tryd.prog F_internal_strconv_formatBase10 #[p0, p1] w (retK K)) : upK Tryd.prog (sCall F_internal_strconv_formatBase10 #[p0, p1]) w K :=
  up_call (fn := Tryd.f69) Tryd.func69 (by kernel_rfl) (by kernel_rfl) h

/-- internal/strconv.formatBits -/
theorem internal_strconv_formatBits.up {p0 p1 p2 p3 p4 : Value} {w : World} {K : Value → World → Prop} (h : Calls Tryd.prog F_internal_strconv_formatBits #[p0, p1, p2, p3, p4] w (retK K)) : upK Tryd.prog (sCall F_internal_strconv_formatBits #[p0, p1, p2, p3, p4]) w K :=
  up_call (fn := Tryd.f70) Tryd.func70 (by kernel_rfl) (by kernel_rfl) h

/-- slices.Reverse[[]errata/api.Producer,errata/api.Producer] -/
def slices_Reverse_s_api_Producer_api_Producer.pt (s0 : Value) (w : World) (K : Value → World → Prop) : Prop :=
  readK Tryd.prog (sBlt .len #[T_s_api_Producer] T_int #[false] #[s0]) w fun t5 =>
  pureK Tryd.prog (sBin .sub T_int (.tmp 5) (.const (.int .i64 1)) t5 (.int .i64 1)) fun t6 =>
  LOOP (X := Value × Value × Unit) (fun x1 w1 next1 =>
   pureK Tryd.prog (sBin .lss T_int (.tmp 7) (.tmp 8) x1.1 x1.2.1) fun t9 =>
   ifB t9
   (pureK Tryd.prog (sIdxAddr T_s_api_Producer s0 x1.2.1) fun t20 =>
    readK Tryd.prog (sLoad T_api_Producer t20) (tick w1) fun t21 =>
    pureK Tryd.prog (sIdxAddr T_s_api_Producer s0 x1.1) fun t24 =>
    readK Tryd.prog (sLoad T_api_Producer t24) (tick w1) fun t25 =>
    pureK Tryd.prog (sIdxAddr T_s_api_Producer s0 x1.1) fun t26 =>
    upK Tryd.prog (sStore T_api_Producer t26 t21) (tick w1) fun tu w2 =>
    pureK Tryd.prog (sIdxAddr T_s_api_Producer s0 x1.2.1) fun t27 =>
    upK Tryd.prog (sStore T_api_Producer t27 t25) w2 fun tu_1 w3 =>
    pureK Tryd.prog (sBin .add T_int (.tmp 10) (.const (.int .i64 1)) x1.1 (.int .i64 1)) fun t11 =>
    pureK Tryd.prog (sBin .sub T_int (.tmp 12) (.const (.int .i64 1)) x1.2.1 (.int .i64 1)) fun t13 =>
    next1 (t11, t13, ()) w3)
   (K (.tuple #[]) w1))
  ((.int .i64 0), t6, ()) w
theorem slices_Reverse_s_api_Producer_api_Producer.pt_eq : slices_Reverse_s_api_Producer_api_Producer.pt = fun s0 w K => FN Tryd.prog Tryd.f71 (bodyOf Tryd.f71) [] .leaf [s0] w K := by kernel_rfl
theorem slices_Reverse_s_api_Producer_api_Producer.call {s0 : Value} {w : World} {K : Value → World → Prop} (h : slices_Reverse_s_api_Producer_api_Producer.pt s0 w K) : Calls Tryd.prog F_slices_Reverse_s_api_Producer_api_Producer #[s0] w (retK K) :=
  calls_FN (args := [s0]) Tryd.func71 (by kernel_rfl) (by rw [slices_Reverse_s_api_Producer_api_Producer.pt_eq] at h; exact h)
theorem slices_Reverse_s_api_Producer_api_Producer.up {s0 : Value} {w : World} {K : Value → World → Prop} (h : Calls Tryd.prog F_slices_Reverse_s_api_Producer_api_Producer #[s0] w (retK K)) : upK Tryd.prog (sCall F_slices_Reverse_s_api_Producer_api_Producer #[s0]) w K :=
  up_call (fn := Tryd.f71) Tryd.func71 (by kernel_rfl) (by kernel_rfl) h

/-- internal/strconv.ParseUint -/
theorem internal_strconv_ParseUint.up {p0 p1 p2 : Value} {w : World} {K : Value → World → Prop} (h : Calls Tryd.prog F_internal_strconv_ParseUint #[p0, p1, p2] w (retK K)) : upK Tryd.prog (sCall F_internal_strconv_ParseUint #[p0, p1, p2]) w K :=
  up_call (fn := Tryd.f72) Tryd.func72 (by kernel_rfl) (by kernel_rfl) h

/-- internal/stringslite.Clone -/
theorem internal_stringslite_Clone.up {p0 : Value} {w : World} {K : Value → World → Prop} (h : Calls Tryd.prog F_internal_stringslite_Clone #[p0] w (retK K)) : upK Tryd.prog (sCall F_internal_stringslite_Clone #[p0]) w K :=
  up_call (fn := Tryd.f73) Tryd.func73 (by kernel_rfl) (by kernel_rfl) h

/-- errors.New -/
theorem errors_New.up {p0 : Value} {w : World} {K : Value → World → Prop} (h : Calls Tryd.prog F_errors_New #[p0] w (retK K)) : upK Tryd.prog (sCall F_errors_New #[p0]) w K :=
  up_call (fn := Tryd.f74) Tryd.func74 (by kernel_rfl) (by kernel_rfl) h

/-- internal/stringslite.HasPrefix -/
theorem internal_stringslite_HasPrefix.up {p0 p1 : Value} {w : World} {K : Value → World → Prop} (h : Calls Tryd.prog F_internal_stringslite_HasPrefix #[p0, p1] w (retK K)) : upK Tryd.prog (sCall F_internal_stringslite_HasPrefix #[p0, p1]) w K :=
  up_call (fn := Tryd.f75) Tryd.func75 (by kernel_rfl) (by kernel_rfl) h

/-- internal/strconv.log10Pow2 -/
theorem internal_strconv_log10Pow2.up {p0 : Value} {w : World} {K : Value → World → Prop} (h : Calls Tryd.prog F_internal_strconv_log10Pow2 #[p0] w (retK K)) : upK Tryd.prog (sCall F_internal_strconv_log10Pow2 #[p0]) w K :=
  up_call (fn := Tryd.f76) Tryd.func76 (by kernel_rfl) (by kernel_rfl) h

/-- math/bits.Len64 -/
theorem math_bits_Len64.up {p0 : Value} {w : World} {K : Value → World → Prop} (h : Calls Tryd.prog F_math_bits_Len64 #[p0] w (retK K)) : upK Tryd.prog (sCall F_math_bits_Len64 #[p0]) w K :=
  up_call (fn := Tryd.f77) Tryd.func77 (by kernel_rfl) (by kernel_rfl) h

/-- internal/strconv.bool2[int] -/
theorem internal_strconv_bool2_int.up {p0 : Value} {w : World} {K : Value → World → Prop} (h : Calls Tryd.prog F_internal_strconv_bool2_int #[p0] w (retK K)) : upK Tryd.prog (sCall F_internal_strconv_bool2_int #[p0]) w K :=
  up_call (fn := Tryd.f78) Tryd.func78 (by kernel_rfl) (by kernel_rfl) h

/-- internal/strconv.isPowerOfTwo -/
theorem internal_strconv_isPowerOfTwo.up {p0 : Value} {w : World} {K : Value → World → Prop} (h : Calls Tryd.prog F_internal_strconv_isPowerOfTwo #[p0] w (retK K)) : upK Tryd.prog (sCall F_internal_strconv_isPowerOfTwo #[p0]) w K :=
  up_call (fn := Tryd.f79) Tryd.func79 (by kernel_rfl) (by kernel_rfl) h

/-- math/bits.TrailingZeros -/
theorem math_bits_TrailingZeros.up {p0 : Value} {w : World} {K : Value → World → Prop} (h : Calls Tryd.prog F_math_bits_TrailingZeros #[p0] w (retK K)) : upK Tryd.prog (sCall F_math_bits_TrailingZeros #[p0]) w K :=
  up_call (fn := Tryd.f80) Tryd.func80 (by kernel_rfl) (by kernel_rfl) h

/-- internal/strconv.lower -/
theorem internal_strconv_lower.up {p0 : Value} {w : World} {K : Value → World → Prop} (h : Calls Tryd.prog F_internal_strconv_lower #[p0] w (retK K)) : upK Tryd.prog (sCall F_internal_strconv_lower #[p0]) w K :=
  up_call (fn := Tryd.f81) Tryd.func81 (by kernel_rfl) (by kernel_rfl) h

/-- internal/strconv.underscoreOK -/
theorem internal_strconv_underscoreOK.up {p0 : Value} {w : World} {K : Value → World → Prop} (h : Calls Tryd.prog F_internal_strconv_underscoreOK #[p0] w (retK K)) : upK Tryd.prog (sCall F_internal_strconv_underscoreOK #[p0]) w K :=
  up_call (fn := Tryd.f82) Tryd.func82 (by kernel_rfl) (by kernel_rfl) h

/-- math/bits.TrailingZeros32 -/
theorem math_bits_TrailingZeros32.up {p0 : Value} {w : World} {K : Value → World → Prop} (h : Calls Tryd.prog F_math_bits_TrailingZeros32 #[p0] w (retK K)) : upK Tryd.prog (sCall F_math_bits_TrailingZeros32 #[p0]) w K :=
  up_call (fn := Tryd.f83) Tryd.func83 (by kernel_rfl) (by kernel_rfl) h

/-- math/bits.TrailingZeros64 -/
theorem math_bits_TrailingZeros64.up {p0 : Value} {w : World} {K : Value → World → Prop} (h : Calls Tryd.prog F_math_bits_TrailingZeros64 #[p0] w (retK K)) : upK Tryd.prog (sCall F_math_bits_TrailingZeros64 #[p0]) w K :=
  up_call (fn := Tryd.f84) Tryd.func84 (by kernel_rfl) (by kernel_rfl) h

end Go.Proofs.YtppnebcpalialaaDoor
