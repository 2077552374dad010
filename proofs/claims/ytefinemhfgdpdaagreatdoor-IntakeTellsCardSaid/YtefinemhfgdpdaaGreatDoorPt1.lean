/-
  The reckoned conditions of the functions that this seat's statements reach, printed by program, each held against the translation by the kernel. No condition.
-/
import Derived.Test.YtefinemhfgdpdaaGreatDoorNames
namespace Go.Proofs.YtefinemhfgdpdaaGreatDoor
set_option linter.unusedVariables false
set_option maxRecDepth 100000

/-- errata/producer.Bytes -/
def producer_Bytes.pt (s0 : Value) (w : World) (K : Value → World → Prop) : Prop :=
  upK Tryz.prog (sAlloc T_strings_Builder) w fun b3 w1 =>
  readK Tryz.prog (sBlt .len #[T_s_api_Producer] T_int #[false] #[s0]) w1 fun t7 =>
  upK Tryz.prog (sCall F_wire_Num #[t7]) w1 fun t8 w2 =>
  upK Tryz.prog (sCall F_strings_Builder_WriteString #[b3, t8]) w2 fun t9 w3 =>
  readK Tryz.prog (sBlt .len #[T_s_api_Producer] T_int #[false] #[s0]) w3 fun t11 =>
  LOOP (X := Value × Unit) (fun lv4 w4 next4 =>
   pureK Tryz.prog (sBin .lss T_int (.tmp 12) (.tmp 11) lv4.1 t11) fun t13 =>
   ifB t13
   (pureK Tryz.prog (sIdxAddr T_s_api_Producer s0 lv4.1) fun t14 =>
    readK Tryz.prog (sLoad T_api_Producer t14) w4 fun t15 =>
    upK Tryz.prog (sAlloc T_api_Producer) w4 fun p5 w5 =>
    upK Tryz.prog (sStore T_api_Producer p5 t15) w5 fun tu w6 =>
    pureK Tryz.prog (sFieldAddr T_api_Producer p5 0) fun t16 =>
    readK Tryz.prog (sLoad T_int t16) (tick w6) fun t17 =>
    pureK Tryz.prog (sFieldAddr T_api_Producer p5 1) fun t19 =>
    readK Tryz.prog (sLoad T_int t19) (tick w6) fun t20 =>
    pureK Tryz.prog (sFieldAddr T_api_Producer p5 2) fun t23 =>
    readK Tryz.prog (sLoad T_int t23) (tick w6) fun t24 =>
    pureK Tryz.prog (sFieldAddr T_api_Producer p5 3) fun t27 =>
    readK Tryz.prog (sLoad T_s_int t27) (tick w6) fun t28 =>
    upK Tryz.prog (sCall F_wire_Int #[t17]) (tick w6) fun t18 w7 =>
    Is Tryz.prog (sLoad T_s_int t27) t28 w7 ∧ Is Tryz.prog (sLoad T_int t23) t24 w7 ∧ Is Tryz.prog (sLoad T_int t19) t20 w7 ∧ upK Tryz.prog (sCall F_wire_Int #[t20]) w7 fun t21 w8 =>
    Is Tryz.prog (sLoad T_s_int t27) t28 w8 ∧ Is Tryz.prog (sLoad T_int t23) t24 w8 ∧ pureK Tryz.prog (sBin .add T_string (.tmp 18) (.tmp 21) t18 t21) fun t22 =>
    upK Tryz.prog (sCall F_wire_Int #[t24]) w8 fun t25 w9 =>
    Is Tryz.prog (sLoad T_s_int t27) t28 w9 ∧ pureK Tryz.prog (sBin .add T_string (.tmp 22) (.tmp 25) t22 t25) fun t26 =>
    upK Tryz.prog (sCall F_wire_Nums #[t28]) w9 fun t29 w10 =>
    pureK Tryz.prog (sBin .add T_string (.tmp 26) (.tmp 29) t26 t29) fun t30 =>
    upK Tryz.prog (sCall F_strings_Builder_WriteString #[b3, t30]) w10 fun t31 w11 =>
    pureK Tryz.prog (sBin .add T_int (.tmp 12) (.const (.int .i64 1)) lv4.1 (.int .i64 1)) fun t32 =>
    next4 (t32, ()) w11)
   (upK Tryz.prog (sCall F_strings_Builder_String #[b3]) w4 fun t33 w12 =>
    K t33 w12))
  ((.int .i64 0), ()) w3
theorem producer_Bytes.pt_eq : producer_Bytes.pt = fun s0 w K => FN Tryz.prog Tryz.f34 (bodyOf Tryz.f34) [2] .leaf [s0] w K := by kernel_rfl
theorem producer_Bytes.call {s0 : Value} {w : World} {K : Value → World → Prop} (h : producer_Bytes.pt s0 w K) : Calls Tryz.prog F_producer_Bytes #[s0] w (retK K) :=
  calls_FN (args := [s0]) Tryz.func34 (by kernel_rfl) (by rw [producer_Bytes.pt_eq] at h; exact h)
theorem producer_Bytes.up {s0 : Value} {w : World} {K : Value → World → Prop} (h : Calls Tryz.prog F_producer_Bytes #[s0] w (retK K)) : upK Tryz.prog (sCall F_producer_Bytes #[s0]) w K :=
  up_call (fn := Tryz.f34) Tryz.func34 (by kernel_rfl) (by kernel_rfl) h

/-- errata/erratalaw11.entry -/
def erratalaw11_entry.pt (seq0 time1 n2 : Value) (w : World) (K : Value → World → Prop) : Prop :=
  upK Tryz.prog (sAlloc T_api_Entry) w fun t6 w1 =>
  pureK Tryz.prog (sBuild T_api_Value #[(1, n2)]) fun t10 =>
  upK Tryz.prog (sBuildSlice T_s_api_Value 1 #[(0, t10)]) w1 fun t11 w2 =>
  pureK Tryz.prog (sBuild T_api_Entry #[(1, (.int .i64 7)), (3, seq0), (4, (.string ⟨#[115]⟩)), (5, (.int .i64 1)), (6, time1), (7, t11)]) fun t12 =>
  upK Tryz.prog (sStore T_api_Entry t6 t12) w2 fun tu w3 =>
  readV Tryz.prog (do loadVar T_api_Entry (← asAddr t6)) w3 fun t6_1 =>
  K t6_1 w3
theorem erratalaw11_entry.pt_eq : erratalaw11_entry.pt = fun seq0 time1 n2 w K => FN Tryz.prog Tryz.f35 (bodyOf Tryz.f35) [] .leaf [seq0, time1, n2] w K := by kernel_rfl
theorem erratalaw11_entry.call {seq0 time1 n2 : Value} {w : World} {K : Value → World → Prop} (h : erratalaw11_entry.pt seq0 time1 n2 w K) : Calls Tryz.prog F_erratalaw11_entry #[seq0, time1, n2] w (retK K) :=
  calls_FN (args := [seq0, time1, n2]) Tryz.func35 (by kernel_rfl) (by rw [erratalaw11_entry.pt_eq] at h; exact h)
theorem erratalaw11_entry.up {seq0 time1 n2 : Value} {w : World} {K : Value → World → Prop} (h : Calls Tryz.prog F_erratalaw11_entry #[seq0, time1, n2] w (retK K)) : upK Tryz.prog (sCall F_erratalaw11_entry #[seq0, time1, n2]) w K :=
  up_call (fn := Tryz.f35) Tryz.func35 (by kernel_rfl) (by kernel_rfl) h

/-- errata/intake.between -/
def intake_between.pt (n0 a1 b2 : Value) (w : World) (K : Value → World → Prop) : Prop :=
  pureK Tryz.prog (sBin .geq T_int (.tmp 7) (.tmp 8) n0 a1) fun t9 =>
  ifB t9
  (pureK Tryz.prog (sBin .leq T_int (.tmp 11) (.tmp 12) n0 b2) fun t13 =>
   K t13 w)
  (K (.bool false) w)
theorem intake_between.pt_eq : intake_between.pt = fun n0 a1 b2 w K => FN Tryz.prog Tryz.f36 (bodyOf Tryz.f36) [6] .leaf [n0, a1, b2] w K := by kernel_rfl
theorem intake_between.call {n0 a1 b2 : Value} {w : World} {K : Value → World → Prop} (h : intake_between.pt n0 a1 b2 w K) : Calls Tryz.prog F_intake_between #[n0, a1, b2] w (retK K) :=
  calls_FN (args := [n0, a1, b2]) Tryz.func36 (by kernel_rfl) (by rw [intake_between.pt_eq] at h; exact h)
theorem intake_between.up {n0 a1 b2 : Value} {w : World} {K : Value → World → Prop} (h : Calls Tryz.prog F_intake_between #[n0, a1, b2] w (retK K)) : upK Tryz.prog (sCall F_intake_between #[n0, a1, b2]) w K :=
  up_call (fn := Tryz.f36) Tryz.func36 (by kernel_rfl) (by kernel_rfl) h

/-- slices.Clone[[]errata/api.Col,errata/api.Col] -/
def slices_Clone_s_api_Col_api_Col.pt (s0 : Value) (w : World) (K : Value → World → Prop) : Prop :=
  pureK Tryz.prog (sBin .eql T_s_api_Col (.tmp 3) (.const (.slice none 0 0)) s0 (.slice none 0 0)) fun t4 =>
  ifB t4
  (K (.slice none 0 0) w)
  (upK Tryz.prog (sBuildSlice T_s_api_Col 0 #[]) w fun t5 w1 =>
   upK Tryz.prog (sBlt .append #[T_s_api_Col, T_s_api_Col] T_s_api_Col #[false, false] #[t5, s0]) w1 fun t7 w2 =>
   K t7 w2)
theorem slices_Clone_s_api_Col_api_Col.pt_eq : slices_Clone_s_api_Col_api_Col.pt = fun s0 w K => FN Tryz.prog Tryz.f37 (bodyOf Tryz.f37) [2] .leaf [s0] w K := by kernel_rfl
theorem slices_Clone_s_api_Col_api_Col.call {s0 : Value} {w : World} {K : Value → World → Prop} (h : slices_Clone_s_api_Col_api_Col.pt s0 w K) : Calls Tryz.prog F_slices_Clone_s_api_Col_api_Col #[s0] w (retK K) :=
  calls_FN (args := [s0]) Tryz.func37 (by kernel_rfl) (by rw [slices_Clone_s_api_Col_api_Col.pt_eq] at h; exact h)
theorem slices_Clone_s_api_Col_api_Col.up {s0 : Value} {w : World} {K : Value → World → Prop} (h : Calls Tryz.prog F_slices_Clone_s_api_Col_api_Col #[s0] w (retK K)) : upK Tryz.prog (sCall F_slices_Clone_s_api_Col_api_Col #[s0]) w K :=
  up_call (fn := Tryz.f37) Tryz.func37 (by kernel_rfl) (by kernel_rfl) h

/-- (*errata/intake.Intake).put -/
def intake_Intake_put.pt (x0 e1 : Value) (w : World) (K : Value → World → Prop) : Prop :=
  upK Tryz.prog (sBox T_api_Entry e1) w fun e3 w1 =>
  pureK Tryz.prog (sNil x0) fun t11 =>
  pureK Tryz.prog (sFieldAddr T_intake_Intake t11 6) fun t12 =>
  readK Tryz.prog (sLoad T_s_api_Producer t12) (tick w1) fun t13 =>
  readK Tryz.prog (sLoad T_api_Entry e3) (tick w1) fun t14 =>
  upK Tryz.prog (sCall F_producer_Look #[t13, t14]) (tick w1) fun t15 w2 =>
  pureK Tryz.prog (sExtract t15 0) fun t16 =>
  pureK Tryz.prog (sExtract t15 1) fun t17 =>
  pureK Tryz.prog (sBin .neq T_api_Errno (.tmp 18) (.const (.int .i64 0)) t17 (.int .i64 0)) fun t19 =>
  ifB t19
  (K (.tuple #[t16, t17]) w2)
  (pureK Tryz.prog (sFieldAddr T_api_Entry e3 6) fun t22 =>
   readK Tryz.prog (sLoad T_int t22) w2 fun t23 =>
   upK Tryz.prog (sCall F_intake_isTime #[t23]) w2 fun t24 w3 =>
   pureK Tryz.prog (sUn .not t24) fun t25 =>
   ifB t25
   (K (.tuple #[(.int .i64 0), (.int .i64 3)]) w3)
   (readK Tryz.prog (sLoad T_api_Entry e3) w3 fun t27 =>
    upK Tryz.prog (sCall F_intake_Intake_fits #[x0, t27]) w3 fun t28 w4 =>
    pureK Tryz.prog (sBin .neq T_api_Errno (.tmp 29) (.const (.int .i64 0)) t28 (.int .i64 0)) fun t30 =>
    ifB t30
    (K (.tuple #[(.int .i64 0), t28]) w4)
    (pureK Tryz.prog (sFieldAddr T_api_Entry e3 6) fun t33 =>
     readK Tryz.prog (sLoad T_int t33) (tick w4) fun t34 =>
     upK Tryz.prog (sCall F_intake_Intake_Closed #[x0]) (tick w4) fun t36 w5 =>
     Is Tryz.prog (sLoad T_int t33) t34 w5 ∧ pureK Tryz.prog (sBin .leq T_int (.tmp 34) (.tmp 36) t34 t36) fun t37 =>
     ifB t37
     (K (.tuple #[(.int .i64 0), (.int .i64 20)]) w5)
     (pureK Tryz.prog (sFieldAddr T_api_Entry e3 6) fun t39 =>
      readK Tryz.prog (sLoad T_int t39) (tick w5) fun t40 =>
      pureK Tryz.prog (sNil x0) fun t42 =>
      pureK Tryz.prog (sFieldAddr T_intake_Intake t42 2) fun t43 =>
      readK Tryz.prog (sLoad T_int t43) (tick w5) fun t44 =>
      pureK Tryz.prog (sNil x0) fun t46 =>
      pureK Tryz.prog (sFieldAddr T_intake_Intake t46 0) fun t47 =>
      pureK Tryz.prog (sFieldAddr T_api_Config t47 3) fun t48 =>
      readK Tryz.prog (sLoad T_int t48) (tick w5) fun t49 =>
      pureK Tryz.prog (sBin .add T_int (.tmp 44) (.tmp 49) t44 t49) fun t50 =>
      pureK Tryz.prog (sBin .gtr T_int (.tmp 40) (.tmp 50) t40 t50) fun t51 =>
      ifB t51
      (K (.tuple #[(.int .i64 0), (.int .i64 21)]) (tick w5))
      (pureK Tryz.prog (sNil x0) fun t54 =>
       pureK Tryz.prog (sFieldAddr T_intake_Intake t54 7) fun t55 =>
       readK Tryz.prog (sLoad T_map_int_int t55) (tick (tick w5)) fun t56 =>
       pureK Tryz.prog (sFieldAddr T_api_Entry e3 6) fun t57 =>
       readK Tryz.prog (sLoad T_int t57) (tick (tick w5)) fun t58 =>
       readK Tryz.prog (sLookup T_map_int_int t56 t58 false) (tick (tick w5)) fun t59 =>
       pureK Tryz.prog (sNil x0) fun t61 =>
       pureK Tryz.prog (sFieldAddr T_intake_Intake t61 0) fun t62 =>
       pureK Tryz.prog (sFieldAddr T_api_Config t62 4) fun t63 =>
       readK Tryz.prog (sLoad T_int t63) (tick (tick w5)) fun t64 =>
       pureK Tryz.prog (sBin .geq T_int (.tmp 59) (.tmp 64) t59 t64) fun t65 =>
       ifB t65
       (K (.tuple #[(.int .i64 0), (.int .i64 22)]) (tick (tick w5)))
       (pureK Tryz.prog (sNil x0) fun t67 =>
        pureK Tryz.prog (sFieldAddr T_intake_Intake t67 4) fun t68 =>
        readK Tryz.prog (sLoad T_int t68) (tick (tick w5)) fun t69 =>
        K (.tuple #[t69, (.int .i64 0)]) (tick (tick w5))))))))
theorem intake_Intake_put.pt_eq : intake_Intake_put.pt = fun x0 e1 w K => FN Tryz.prog Tryz.f38 (bodyOf Tryz.f38) [4, 5] .leaf [x0, e1] w K := by kernel_rfl
theorem intake_Intake_put.call {x0 e1 : Value} {w : World} {K : Value → World → Prop} (h : intake_Intake_put.pt x0 e1 w K) : Calls Tryz.prog F_intake_Intake_put #[x0, e1] w (retK K) :=
  calls_FN (args := [x0, e1]) Tryz.func38 (by kernel_rfl) (by rw [intake_Intake_put.pt_eq] at h; exact h)
theorem intake_Intake_put.up {x0 e1 : Value} {w : World} {K : Value → World → Prop} (h : Calls Tryz.prog F_intake_Intake_put #[x0, e1] w (retK K)) : upK Tryz.prog (sCall F_intake_Intake_put #[x0, e1]) w K :=
  up_call (fn := Tryz.f38) Tryz.func38 (by kernel_rfl) (by kernel_rfl) h

/-- (*errata/intake.Intake).accept -/
def intake_Intake_accept.pt (x0 e1 : Value) (w : World) (K : Value → World → Prop) : Prop :=
  upK Tryz.prog (sBox T_api_Entry e1) w fun e3 w1 =>
  readK Tryz.prog (sLoad T_api_Entry e3) w1 fun t10 =>
  upK Tryz.prog (sCall F_intake_Intake_put #[x0, t10]) w1 fun t11 w2 =>
  pureK Tryz.prog (sExtract t11 0) fun t12 =>
  pureK Tryz.prog (sExtract t11 1) fun t13 =>
  pureK Tryz.prog (sBin .neq T_api_Errno (.tmp 14) (.const (.int .i64 0)) t13 (.int .i64 0)) fun t15 =>
  ifB t15
  (LETJ (X := Unit) (fun jv1 w3 =>
    K (.tuple #[t12, t13]) w3)
   (fun J1 =>
    pureK Tryz.prog (sBin .neq T_api_Errno (.tmp 16) (.const (.int .i64 5)) t13 (.int .i64 5)) fun t17 =>
    ifB t17
    (pureK Tryz.prog (sNil x0) fun t19 =>
     pureK Tryz.prog (sFieldAddr T_intake_Intake t19 5) fun t20 =>
     readK Tryz.prog (sLoad T_int t20) w2 fun t21 =>
     pureK Tryz.prog (sBin .add T_int (.tmp 21) (.const (.int .i64 1)) t21 (.int .i64 1)) fun t22 =>
     pureK Tryz.prog (sNil x0) fun t23 =>
     pureK Tryz.prog (sFieldAddr T_intake_Intake t23 5) fun t24 =>
     upK Tryz.prog (sStore T_int t24 t22) w2 fun tu w4 =>
     J1 (()) w4)
    (J1 (()) w2)))
  (pureK Tryz.prog (sNil x0) fun t29 =>
   pureK Tryz.prog (sFieldAddr T_intake_Intake t29 6) fun t30 =>
   readK Tryz.prog (sLoad T_s_api_Producer t30) (tick w2) fun t31 =>
   readK Tryz.prog (sLoad T_api_Entry e3) (tick w2) fun t32 =>
   upK Tryz.prog (sCall F_producer_Put #[t31, t32, t12]) (tick w2) fun t34 w5 =>
   pureK Tryz.prog (sNil x0) fun t35 =>
   pureK Tryz.prog (sFieldAddr T_intake_Intake t35 6) fun t36 =>
   upK Tryz.prog (sStore T_s_api_Producer t36 t34) w5 fun tu_1 w6 =>
   pureK Tryz.prog (sNil x0) fun t38 =>
   pureK Tryz.prog (sFieldAddr T_intake_Intake t38 4) fun t39 =>
   readK Tryz.prog (sLoad T_int t39) w6 fun t40 =>
   pureK Tryz.prog (sBin .add T_int (.tmp 40) (.const (.int .i64 1)) t40 (.int .i64 1)) fun t41 =>
   pureK Tryz.prog (sNil x0) fun t42 =>
   pureK Tryz.prog (sFieldAddr T_intake_Intake t42 4) fun t43 =>
   upK Tryz.prog (sStore T_int t43 t41) w6 fun tu_2 w7 =>
   pureK Tryz.prog (sNil x0) fun t45 =>
   pureK Tryz.prog (sFieldAddr T_intake_Intake t45 7) fun t46 =>
   readK Tryz.prog (sLoad T_map_int_int t46) (tick w7) fun t47 =>
   pureK Tryz.prog (sFieldAddr T_api_Entry e3 6) fun t48 =>
   readK Tryz.prog (sLoad T_int t48) (tick w7) fun t49 =>
   readK Tryz.prog (sLookup T_map_int_int t47 t49 false) (tick w7) fun t50 =>
   pureK Tryz.prog (sBin .add T_int (.tmp 50) (.const (.int .i64 1)) t50 (.int .i64 1)) fun t51 =>
   upK Tryz.prog (sMapUpd T_map_int_int t47 t49 t51) (tick w7) fun tu_3 w8 =>
   pureK Tryz.prog (sFieldAddr T_api_Entry e3 6) fun t53 =>
   readK Tryz.prog (sLoad T_int t53) w8 fun t54 =>
   upK Tryz.prog (sCall F_intake_Intake_raise #[x0, t54]) w8 fun t55 w9 =>
   K (.tuple #[t12, (.int .i64 0)]) w9)
theorem intake_Intake_accept.pt_eq : intake_Intake_accept.pt = fun x0 e1 w K => FN Tryz.prog Tryz.f39 (bodyOf Tryz.f39) [4, 5] (.node none .leaf (.node none .leaf (.node none (.node none .leaf (.node none (.node (some []) .leaf .leaf) .leaf)) .leaf))) [x0, e1] w K := by kernel_rfl
theorem intake_Intake_accept.call {x0 e1 : Value} {w : World} {K : Value → World → Prop} (h : intake_Intake_accept.pt x0 e1 w K) : Calls Tryz.prog F_intake_Intake_accept #[x0, e1] w (retK K) :=
  calls_FN (args := [x0, e1]) Tryz.func39 (by kernel_rfl) (by rw [intake_Intake_accept.pt_eq] at h; exact h)
theorem intake_Intake_accept.up {x0 e1 : Value} {w : World} {K : Value → World → Prop} (h : Calls Tryz.prog F_intake_Intake_accept #[x0, e1] w (retK K)) : upK Tryz.prog (sCall F_intake_Intake_accept #[x0, e1]) w K :=
  up_call (fn := Tryz.f39) Tryz.func39 (by kernel_rfl) (by kernel_rfl) h

/-- errata/producer.Fence -/
def producer_Fence.pt (s0 id1 : Value) (w : World) (K : Value → World → Prop) : Prop :=
  upK Tryz.prog (sCall F_producer_find #[s0, id1]) w fun t12 w1 =>
  pureK Tryz.prog (sExtract t12 0) fun t13 =>
  pureK Tryz.prog (sExtract t12 1) fun t14 =>
  upK Tryz.prog (sAlloc T_api_Producer) w1 fun p7 w2 =>
  upK Tryz.prog (sStore T_api_Producer p7 t13) w2 fun tu w3 =>
  LETJ (X := Unit) (fun jv1 w4 =>
   pureK Tryz.prog (sFieldAddr T_api_Producer p7 1) fun t37 =>
   readK Tryz.prog (sLoad T_int t37) w4 fun t38 =>
   pureK Tryz.prog (sBin .add T_int (.tmp 38) (.const (.int .i64 1)) t38 (.int .i64 1)) fun t39 =>
   pureK Tryz.prog (sBuild T_api_Producer #[(0, id1), (1, t39)]) fun t40 =>
   upK Tryz.prog (sStore T_api_Producer p7 t40) w4 fun tu_1 w5 =>
   readK Tryz.prog (sLoad T_api_Producer p7) (tick w5) fun t42 =>
   pureK Tryz.prog (sFieldAddr T_api_Producer p7 1) fun t44 =>
   readK Tryz.prog (sLoad T_int t44) (tick w5) fun t45 =>
   upK Tryz.prog (sCall F_producer_with #[s0, t42]) (tick w5) fun t43 w6 =>
   Is Tryz.prog (sLoad T_int t44) t45 w6 ∧ K (.tuple #[t43, t45, (.int .i64 0)]) w6)
  (fun J1 =>
   upK Tryz.prog (sCall F_producer_in #[id1]) w3 fun t17 w7 =>
   pureK Tryz.prog (sUn .not t17) fun t18 =>
   ifB t18
   (K (.tuple #[(.slice none 0 0), (.int .i64 0), (.int .i64 1)]) w7)
   (pureK Tryz.prog (sBin .eql T_int (.tmp 20) (.const (.int .i64 1099511627776)) id1 (.int .i64 1099511627776)) fun t21 =>
    ifB t21
    (K (.tuple #[(.slice none 0 0), (.int .i64 0), (.int .i64 1)]) w7)
    (pureK Tryz.prog (sFieldAddr T_api_Producer p7 1) fun t24 =>
     readK Tryz.prog (sLoad T_int t24) w7 fun t25 =>
     pureK Tryz.prog (sBin .eql T_int (.tmp 25) (.const (.int .i64 1099511627776)) t25 (.int .i64 1099511627776)) fun t26 =>
     ifB t26
     (K (.tuple #[(.slice none 0 0), (.int .i64 0), (.int .i64 1)]) w7)
     (pureK Tryz.prog (sUn .not t14) fun t30 =>
      ifB t30
      (readK Tryz.prog (sBlt .len #[T_s_api_Producer] T_int #[false] #[s0]) w7 fun t33 =>
       pureK Tryz.prog (sBin .geq T_int (.tmp 33) (.const (.int .i64 50)) t33 (.int .i64 50)) fun t34 =>
       ifB t34
       (K (.tuple #[(.slice none 0 0), (.int .i64 0), (.int .i64 6)]) w7)
       (J1 (()) w7))
      (J1 (()) w7)))))
theorem producer_Fence.pt_eq : producer_Fence.pt = fun s0 id1 w K => FN Tryz.prog Tryz.f40 (bodyOf Tryz.f40) [4, 5, 6] (.node none .leaf (.node none .leaf (.node (some []) .leaf .leaf))) [s0, id1] w K := by kernel_rfl
theorem producer_Fence.call {s0 id1 : Value} {w : World} {K : Value → World → Prop} (h : producer_Fence.pt s0 id1 w K) : Calls Tryz.prog F_producer_Fence #[s0, id1] w (retK K) :=
  calls_FN (args := [s0, id1]) Tryz.func40 (by kernel_rfl) (by rw [producer_Fence.pt_eq] at h; exact h)
theorem producer_Fence.up {s0 id1 : Value} {w : World} {K : Value → World → Prop} (h : Calls Tryz.prog F_producer_Fence #[s0, id1] w (retK K)) : upK Tryz.prog (sCall F_producer_Fence #[s0, id1]) w K :=
  up_call (fn := Tryz.f40) Tryz.func40 (by kernel_rfl) (by kernel_rfl) h

/-- errata/intake.isTime -/
def intake_isTime.pt (n0 : Value) (w : World) (K : Value → World → Prop) : Prop :=
  upK Tryz.prog (sCall F_intake_between #[n0, (.int .i64 0), (.int .i64 1099511627776)]) w fun t4 w1 =>
  K t4 w1
theorem intake_isTime.pt_eq : intake_isTime.pt = fun n0 w K => FN Tryz.prog Tryz.f41 (bodyOf Tryz.f41) [2] .leaf [n0] w K := by kernel_rfl
theorem intake_isTime.call {n0 : Value} {w : World} {K : Value → World → Prop} (h : intake_isTime.pt n0 w K) : Calls Tryz.prog F_intake_isTime #[n0] w (retK K) :=
  calls_FN (args := [n0]) Tryz.func41 (by kernel_rfl) (by rw [intake_isTime.pt_eq] at h; exact h)
theorem intake_isTime.up {n0 : Value} {w : World} {K : Value → World → Prop} (h : Calls Tryz.prog F_intake_isTime #[n0] w (retK K)) : upK Tryz.prog (sCall F_intake_isTime #[n0]) w K :=
  up_call (fn := Tryz.f41) Tryz.func41 (by kernel_rfl) (by kernel_rfl) h

/-- (*errata/intake.Intake).raise -/
def intake_Intake_raise.pt (x0 time1 : Value) (w : World) (K : Value → World → Prop) : Prop :=
  pureK Tryz.prog (sNil x0) fun t7 =>
  pureK Tryz.prog (sFieldAddr T_intake_Intake t7 3) fun t8 =>
  readK Tryz.prog (sLoad T_int t8) w fun t9 =>
  pureK Tryz.prog (sBlt .max #[T_int, T_int] T_int #[false, false] #[t9, time1]) fun t11 =>
  pureK Tryz.prog (sNil x0) fun t12 =>
  pureK Tryz.prog (sFieldAddr T_intake_Intake t12 3) fun t13 =>
  upK Tryz.prog (sStore T_int t13 t11) w fun tu w1 =>
  upK Tryz.prog (sCall F_intake_Intake_Closed #[x0]) w1 fun t15 w2 =>
  upK Tryz.prog (sAlloc T_int) w2 fun closed4 w3 =>
  upK Tryz.prog (sStore T_int closed4 t15) w3 fun tu_1 w4 =>
  pureK Tryz.prog (sNil x0) fun t17 =>
  pureK Tryz.prog (sFieldAddr T_intake_Intake t17 7) fun t18 =>
  readK Tryz.prog (sLoad T_map_int_int t18) w4 fun t19 =>
  pureK Tryz.prog (sMkFunc (.func F_intake_Intake_raise_1) #[] #[closed4]) fun t20 =>
  upK Tryz.prog (sCall F_maps_DeleteFunc_map_int_int_int_int #[t19, t20]) w4 fun t21 w5 =>
  K (.tuple #[]) w5
theorem intake_Intake_raise.pt_eq : intake_Intake_raise.pt = fun x0 time1 w K => FN Tryz.prog Tryz.f42 (bodyOf Tryz.f42) [] .leaf [x0, time1] w K := by kernel_rfl
theorem intake_Intake_raise.call {x0 time1 : Value} {w : World} {K : Value → World → Prop} (h : intake_Intake_raise.pt x0 time1 w K) : Calls Tryz.prog F_intake_Intake_raise #[x0, time1] w (retK K) :=
  calls_FN (args := [x0, time1]) Tryz.func42 (by kernel_rfl) (by rw [intake_Intake_raise.pt_eq] at h; exact h)
theorem intake_Intake_raise.up {x0 time1 : Value} {w : World} {K : Value → World → Prop} (h : Calls Tryz.prog F_intake_Intake_raise #[x0, time1] w (retK K)) : upK Tryz.prog (sCall F_intake_Intake_raise #[x0, time1]) w K :=
  up_call (fn := Tryz.f42) Tryz.func42 (by kernel_rfl) (by kernel_rfl) h

/-- (*errata/errataref11.Intake).put -/
def errataref11_Intake_put.pt (x0 e1 : Value) (w : World) (K : Value → World → Prop) : Prop :=
  upK Tryz.prog (sBox T_api_Entry e1) w fun e3 w1 =>
  pureK Tryz.prog (sNil x0) fun t10 =>
  pureK Tryz.prog (sFieldAddr T_errataref11_Intake t10 6) fun t11 =>
  readK Tryz.prog (sLoad T_s_api_Producer t11) (tick w1) fun t12 =>
  readK Tryz.prog (sLoad T_api_Entry e3) (tick w1) fun t13 =>
  upK Tryz.prog (sCall F_errataref10_Look #[t12, t13]) (tick w1) fun t14 w2 =>
  pureK Tryz.prog (sExtract t14 0) fun t15 =>
  pureK Tryz.prog (sExtract t14 1) fun t16 =>
  pureK Tryz.prog (sBin .neq T_api_Errno (.tmp 17) (.const (.int .i64 0)) t16 (.int .i64 0)) fun t18 =>
  ifB t18
  (K (.tuple #[t15, t16]) w2)
  (pureK Tryz.prog (sFieldAddr T_api_Entry e3 6) fun t21 =>
   readK Tryz.prog (sLoad T_int t21) w2 fun t22 =>
   pureK Tryz.prog (sBin .lss T_int (.tmp 22) (.const (.int .i64 0)) t22 (.int .i64 0)) fun t23 =>
   ifB t23
   (K (.tuple #[(.int .i64 0), (.int .i64 3)]) w2)
   (pureK Tryz.prog (sFieldAddr T_api_Entry e3 6) fun t25 =>
    readK Tryz.prog (sLoad T_int t25) w2 fun t26 =>
    pureK Tryz.prog (sBin .gtr T_int (.tmp 26) (.const (.int .i64 1099511627776)) t26 (.int .i64 1099511627776)) fun t27 =>
    ifB t27
    (K (.tuple #[(.int .i64 0), (.int .i64 3)]) w2)
    (readK Tryz.prog (sLoad T_api_Entry e3) w2 fun t30 =>
     upK Tryz.prog (sCall F_errataref11_Intake_fits #[x0, t30]) w2 fun t31 w3 =>
     pureK Tryz.prog (sBin .neq T_api_Errno (.tmp 32) (.const (.int .i64 0)) t31 (.int .i64 0)) fun t33 =>
     ifB t33
     (K (.tuple #[(.int .i64 0), t31]) w3)
     (pureK Tryz.prog (sFieldAddr T_api_Entry e3 6) fun t35 =>
      readK Tryz.prog (sLoad T_int t35) (tick w3) fun t36 =>
      upK Tryz.prog (sCall F_errataref11_Intake_Closed #[x0]) (tick w3) fun t38 w4 =>
      Is Tryz.prog (sLoad T_int t35) t36 w4 ∧ pureK Tryz.prog (sBin .leq T_int (.tmp 36) (.tmp 38) t36 t38) fun t39 =>
      ifB t39
      (K (.tuple #[(.int .i64 0), (.int .i64 20)]) w4)
      (pureK Tryz.prog (sFieldAddr T_api_Entry e3 6) fun t40 =>
       readK Tryz.prog (sLoad T_int t40) (tick w4) fun t41 =>
       pureK Tryz.prog (sNil x0) fun t43 =>
       pureK Tryz.prog (sFieldAddr T_errataref11_Intake t43 2) fun t44 =>
       readK Tryz.prog (sLoad T_int t44) (tick w4) fun t45 =>
       pureK Tryz.prog (sNil x0) fun t47 =>
       pureK Tryz.prog (sFieldAddr T_errataref11_Intake t47 0) fun t48 =>
       pureK Tryz.prog (sFieldAddr T_api_Config t48 3) fun t49 =>
       readK Tryz.prog (sLoad T_int t49) (tick w4) fun t50 =>
       pureK Tryz.prog (sBin .add T_int (.tmp 45) (.tmp 50) t45 t50) fun t51 =>
       pureK Tryz.prog (sBin .gtr T_int (.tmp 41) (.tmp 51) t41 t51) fun t52 =>
       ifB t52
       (K (.tuple #[(.int .i64 0), (.int .i64 21)]) (tick w4))
       (pureK Tryz.prog (sFieldAddr T_api_Entry e3 6) fun t54 =>
        readK Tryz.prog (sLoad T_int t54) (tick (tick w4)) fun t55 =>
        pureK Tryz.prog (sNil x0) fun t58 =>
        pureK Tryz.prog (sFieldAddr T_errataref11_Intake t58 0) fun t59 =>
        pureK Tryz.prog (sFieldAddr T_api_Config t59 4) fun t60 =>
        readK Tryz.prog (sLoad T_int t60) (tick (tick w4)) fun t61 =>
        upK Tryz.prog (sCall F_errataref11_Intake_Count #[x0, t55]) (tick (tick w4)) fun t56 w5 =>
        Is Tryz.prog (sLoad T_int t60) t61 w5 ∧ pureK Tryz.prog (sBin .geq T_int (.tmp 56) (.tmp 61) t56 t61) fun t62 =>
        ifB t62
        (K (.tuple #[(.int .i64 0), (.int .i64 22)]) w5)
        (pureK Tryz.prog (sNil x0) fun t64 =>
         pureK Tryz.prog (sFieldAddr T_errataref11_Intake t64 4) fun t65 =>
         readK Tryz.prog (sLoad T_int t65) w5 fun t66 =>
         K (.tuple #[t66, (.int .i64 0)]) w5)))))))
theorem errataref11_Intake_put.pt_eq : errataref11_Intake_put.pt = fun x0 e1 w K => FN Tryz.prog Tryz.f43 (bodyOf Tryz.f43) [4, 5] .leaf [x0, e1] w K := by kernel_rfl
theorem errataref11_Intake_put.call {x0 e1 : Value} {w : World} {K : Value → World → Prop} (h : errataref11_Intake_put.pt x0 e1 w K) : Calls Tryz.prog F_errataref11_Intake_put #[x0, e1] w (retK K) :=
  calls_FN (args := [x0, e1]) Tryz.func43 (by kernel_rfl) (by rw [errataref11_Intake_put.pt_eq] at h; exact h)
theorem errataref11_Intake_put.up {x0 e1 : Value} {w : World} {K : Value → World → Prop} (h : Calls Tryz.prog F_errataref11_Intake_put #[x0, e1] w (retK K)) : upK Tryz.prog (sCall F_errataref11_Intake_put #[x0, e1]) w K :=
  up_call (fn := Tryz.f43) Tryz.func43 (by kernel_rfl) (by kernel_rfl) h

/-- errata/errataref10.Put -/
def errataref10_Put.pt (s0 e1 pos2 : Value) (w : World) (K : Value → World → Prop) : Prop :=
  upK Tryz.prog (sBox T_api_Entry e1) w fun e4 w1 =>
  readK Tryz.prog (sLoad T_api_Entry e4) w1 fun t12 =>
  upK Tryz.prog (sCall F_errataref10_Look #[s0, t12]) w1 fun t13 w2 =>
  pureK Tryz.prog (sExtract t13 0) fun t14 =>
  pureK Tryz.prog (sExtract t13 1) fun t15 =>
  pureK Tryz.prog (sFieldAddr T_api_Entry e4 1) fun t17 =>
  readK Tryz.prog (sLoad T_int t17) w2 fun t18 =>
  upK Tryz.prog (sCall F_errataref10_get #[s0, t18]) w2 fun t19 w3 =>
  upK Tryz.prog (sAlloc T_api_Producer) w3 fun p9 w4 =>
  upK Tryz.prog (sStore T_api_Producer p9 t19) w4 fun tu w5 =>
  LETJ (X := Unit) (fun jv1 w6 =>
   pureK Tryz.prog (sFieldAddr T_api_Producer p9 2) fun t49 =>
   readK Tryz.prog (sLoad T_int t49) w6 fun t50 =>
   pureK Tryz.prog (sBin .add T_int (.tmp 50) (.const (.int .i64 1)) t50 (.int .i64 1)) fun t51 =>
   pureK Tryz.prog (sFieldAddr T_api_Producer p9 2) fun t52 =>
   upK Tryz.prog (sStore T_int t52 t51) w6 fun tu_1 w7 =>
   upK Tryz.prog (sBuildSlice T_s_int 0 #[]) w7 fun t53 w8 =>
   pureK Tryz.prog (sFieldAddr T_api_Producer p9 3) fun t54 =>
   readK Tryz.prog (sLoad T_s_int t54) w8 fun t55 =>
   upK Tryz.prog (sBlt .append #[T_s_int, T_s_int] T_s_int #[false, false] #[t53, t55]) w8 fun t56 w9 =>
   upK Tryz.prog (sBuildSlice T_s_int 1 #[(0, pos2)]) w9 fun t58 w10 =>
   upK Tryz.prog (sBlt .append #[T_s_int, T_s_int] T_s_int #[false, false] #[t56, t58]) w10 fun t59 w11 =>
   pureK Tryz.prog (sFieldAddr T_api_Producer p9 3) fun t60 =>
   upK Tryz.prog (sStore T_s_int t60 t59) w11 fun tu_2 w12 =>
   LETJ (X := Unit) (fun jv2 w13 =>
    readK Tryz.prog (sLoad T_api_Producer p9) w13 fun t70 =>
    upK Tryz.prog (sCall F_errataref10_set #[s0, t70]) w13 fun t71 w14 =>
    K t71 w14)
   (fun J2 =>
    pureK Tryz.prog (sFieldAddr T_api_Producer p9 3) fun t61 =>
    readK Tryz.prog (sLoad T_s_int t61) w12 fun t62 =>
    readK Tryz.prog (sBlt .len #[T_s_int] T_int #[false] #[t62]) w12 fun t63 =>
    pureK Tryz.prog (sBin .gtr T_int (.tmp 63) (.const (.int .i64 20)) t63 (.int .i64 20)) fun t64 =>
    ifB t64
    (pureK Tryz.prog (sFieldAddr T_api_Producer p9 3) fun t65 =>
     readK Tryz.prog (sLoad T_s_int t65) w12 fun t66 =>
     pureK Tryz.prog (sSlice T_s_int t66 (some (.int .i64 1)) none none) fun t67 =>
     pureK Tryz.prog (sFieldAddr T_api_Producer p9 3) fun t68 =>
     upK Tryz.prog (sStore T_s_int t68 t67) w12 fun tu_3 w15 =>
     J2 (()) w15)
    (J2 (()) w12)))
  (fun J1 =>
   pureK Tryz.prog (sBin .neq T_api_Errno (.tmp 20) (.const (.int .i64 0)) t15 (.int .i64 0)) fun t21 =>
   ifB t21
   (upK Tryz.prog (sBuildSlice T_s_api_Producer 0 #[]) w5 fun t46 w16 =>
    upK Tryz.prog (sBlt .append #[T_s_api_Producer, T_s_api_Producer] T_s_api_Producer #[false, false] #[t46, s0]) w16 fun t48 w17 =>
    K t48 w17)
   (upK Tryz.prog (sCall F_errataref10_in #[pos2]) w5 fun t24 w18 =>
    pureK Tryz.prog (sUn .not t24) fun t25 =>
    ifB t25
    (upK Tryz.prog (sBuildSlice T_s_api_Producer 0 #[]) w18 fun t46_1 w19 =>
     upK Tryz.prog (sBlt .append #[T_s_api_Producer, T_s_api_Producer] T_s_api_Producer #[false, false] #[t46_1, s0]) w19 fun t48_1 w20 =>
     K t48_1 w20)
    (pureK Tryz.prog (sFieldAddr T_api_Producer p9 3) fun t28 =>
     readK Tryz.prog (sLoad T_s_int t28) w18 fun t29 =>
     readK Tryz.prog (sBlt .len #[T_s_int] T_int #[false] #[t29]) w18 fun t30 =>
     pureK Tryz.prog (sBin .gtr T_int (.tmp 30) (.const (.int .i64 0)) t30 (.int .i64 0)) fun t31 =>
     ifB t31
     (pureK Tryz.prog (sFieldAddr T_api_Producer p9 3) fun t34 =>
      readK Tryz.prog (sLoad T_s_int t34) w18 fun t35 =>
      pureK Tryz.prog (sFieldAddr T_api_Producer p9 3) fun t36 =>
      readK Tryz.prog (sLoad T_s_int t36) w18 fun t37 =>
      readK Tryz.prog (sBlt .len #[T_s_int] T_int #[false] #[t37]) w18 fun t38 =>
      pureK Tryz.prog (sBin .sub T_int (.tmp 38) (.const (.int .i64 1)) t38 (.int .i64 1)) fun t39 =>
      pureK Tryz.prog (sBlt .max #[T_int, T_int] T_int #[false, true] #[t39, (.int .i64 0)]) fun t40 =>
      pureK Tryz.prog (sIdxAddr T_s_int t35 t40) fun t41 =>
      readK Tryz.prog (sLoad T_int t41) w18 fun t42 =>
      pureK Tryz.prog (sBin .leq T_int (.tmp 33) (.tmp 42) pos2 t42) fun t43 =>
      ifB t43
      (upK Tryz.prog (sBuildSlice T_s_api_Producer 0 #[]) w18 fun t46_2 w21 =>
       upK Tryz.prog (sBlt .append #[T_s_api_Producer, T_s_api_Producer] T_s_api_Producer #[false, false] #[t46_2, s0]) w21 fun t48_2 w22 =>
       K t48_2 w22)
      (J1 (()) w18))
     (J1 (()) w18))))
theorem errataref10_Put.pt_eq : errataref10_Put.pt = fun s0 e1 pos2 w K => FN Tryz.prog Tryz.f44 (bodyOf Tryz.f44) [6] (.node none .leaf (.node none .leaf (.node none .leaf (.node (some []) .leaf (.node none .leaf (.node none .leaf (.node (some []) .leaf .leaf))))))) [s0, e1, pos2] w K := by kernel_rfl
theorem errataref10_Put.call {s0 e1 pos2 : Value} {w : World} {K : Value → World → Prop} (h : errataref10_Put.pt s0 e1 pos2 w K) : Calls Tryz.prog F_errataref10_Put #[s0, e1, pos2] w (retK K) :=
  calls_FN (args := [s0, e1, pos2]) Tryz.func44 (by kernel_rfl) (by rw [errataref10_Put.pt_eq] at h; exact h)
theorem errataref10_Put.up {s0 e1 pos2 : Value} {w : World} {K : Value → World → Prop} (h : Calls Tryz.prog F_errataref10_Put #[s0, e1, pos2] w (retK K)) : upK Tryz.prog (sCall F_errataref10_Put #[s0, e1, pos2]) w K :=
  up_call (fn := Tryz.f44) Tryz.func44 (by kernel_rfl) (by kernel_rfl) h

/-- (*errata/errataref11.Intake).add -/
def errataref11_Intake_add.pt (x0 time1 : Value) (w : World) (K : Value → World → Prop) : Prop :=
  LETJ (X := Value × Unit) (fun jv1 w1 =>
   upK Tryz.prog (sCall F_errataref11_Intake_Count #[x0, time1]) w1 fun t30 w2 =>
   pureK Tryz.prog (sBin .add T_int (.const (.int .i64 1)) (.tmp 30) (.int .i64 1) t30) fun t31 =>
   upK Tryz.prog (sBuildSlice T_s_errataref11_Count 0 #[]) w2 fun t32 w3 =>
   pureK Tryz.prog (sNil x0) fun t34 =>
   pureK Tryz.prog (sFieldAddr T_errataref11_Intake t34 7) fun t35 =>
   readK Tryz.prog (sLoad T_s_errataref11_Count t35) w3 fun t36 =>
   pureK Tryz.prog (sSlice T_s_errataref11_Count t36 (some jv1.1) none none) fun t38 =>
   upK Tryz.prog (sBlt .append #[T_s_errataref11_Count, T_s_errataref11_Count] T_s_errataref11_Count #[false, false] #[t32, t38]) w3 fun t39 w4 =>
   LETJ (X := Value × Unit) (fun jv2 w5 =>
    upK Tryz.prog (sBuildSlice T_s_errataref11_Count 0 #[]) w5 fun t45 w6 =>
    pureK Tryz.prog (sNil x0) fun t47 =>
    pureK Tryz.prog (sFieldAddr T_errataref11_Intake t47 7) fun t48 =>
    readK Tryz.prog (sLoad T_s_errataref11_Count t48) w6 fun t49 =>
    pureK Tryz.prog (sSlice T_s_errataref11_Count t49 none (some jv1.1) none) fun t51 =>
    upK Tryz.prog (sBlt .append #[T_s_errataref11_Count, T_s_errataref11_Count] T_s_errataref11_Count #[false, false] #[t45, t51]) w6 fun t52 w7 =>
    pureK Tryz.prog (sBuild T_errataref11_Count #[(0, time1), (1, t31)]) fun t55 =>
    upK Tryz.prog (sBuildSlice T_s_errataref11_Count 1 #[(0, t55)]) w7 fun t56 w8 =>
    upK Tryz.prog (sBlt .append #[T_s_errataref11_Count, T_s_errataref11_Count] T_s_errataref11_Count #[false, false] #[t52, t56]) w8 fun t57 w9 =>
    upK Tryz.prog (sBlt .append #[T_s_errataref11_Count, T_s_errataref11_Count] T_s_errataref11_Count #[false, false] #[t57, jv2.1]) w9 fun t59 w10 =>
    pureK Tryz.prog (sNil x0) fun t60 =>
    pureK Tryz.prog (sFieldAddr T_errataref11_Intake t60 7) fun t61 =>
    upK Tryz.prog (sStore T_s_errataref11_Count t61 t59) w10 fun tu w11 =>
    K (.tuple #[]) w11)
   (fun J2 =>
    pureK Tryz.prog (sBin .gtr T_int (.tmp 40) (.const (.int .i64 1)) t31 (.int .i64 1)) fun t41 =>
    ifB t41
    (pureK Tryz.prog (sSlice T_s_errataref11_Count t39 (some (.int .i64 1)) none none) fun t43 =>
     J2 (t43, ()) w4)
    (J2 (t39, ()) w4)))
  (fun J1 =>
   LOOP (X := Value × Unit) (fun lv12 w12 next12 =>
    pureK Tryz.prog (sNil x0) fun t9 =>
    pureK Tryz.prog (sFieldAddr T_errataref11_Intake t9 7) fun t10 =>
    readK Tryz.prog (sLoad T_s_errataref11_Count t10) w12 fun t11 =>
    readK Tryz.prog (sBlt .len #[T_s_errataref11_Count] T_int #[false] #[t11]) w12 fun t12 =>
    pureK Tryz.prog (sBin .lss T_int (.tmp 7) (.tmp 12) lv12.1 t12) fun t13 =>
    ifB t13
    (pureK Tryz.prog (sNil x0) fun t16 =>
     pureK Tryz.prog (sFieldAddr T_errataref11_Intake t16 7) fun t17 =>
     readK Tryz.prog (sLoad T_s_errataref11_Count t17) w12 fun t18 =>
     pureK Tryz.prog (sIdxAddr T_s_errataref11_Count t18 lv12.1) fun t20 =>
     pureK Tryz.prog (sFieldAddr T_errataref11_Count t20 0) fun t21 =>
     readK Tryz.prog (sLoad T_int t21) w12 fun t22 =>
     pureK Tryz.prog (sBin .lss T_int (.tmp 22) (.tmp 23) t22 time1) fun t24 =>
     ifB t24
     (pureK Tryz.prog (sBin .add T_int (.tmp 26) (.const (.int .i64 1)) lv12.1 (.int .i64 1)) fun t27 =>
      next12 (t27, ()) w12)
     (J1 (lv12.1, ()) w12))
    (J1 (lv12.1, ()) w12))
   ((.int .i64 0), ()) w)
theorem errataref11_Intake_add.pt_eq : errataref11_Intake_add.pt = fun x0 time1 w K => FN Tryz.prog Tryz.f45 (bodyOf Tryz.f45) [] (.node none .leaf (.node (some [4]) .leaf (.node none .leaf (.node none .leaf (.node (some [6]) .leaf .leaf))))) [x0, time1] w K := by kernel_rfl
theorem errataref11_Intake_add.call {x0 time1 : Value} {w : World} {K : Value → World → Prop} (h : errataref11_Intake_add.pt x0 time1 w K) : Calls Tryz.prog F_errataref11_Intake_add #[x0, time1] w (retK K) :=
  calls_FN (args := [x0, time1]) Tryz.func45 (by kernel_rfl) (by rw [errataref11_Intake_add.pt_eq] at h; exact h)
theorem errataref11_Intake_add.up {x0 time1 : Value} {w : World} {K : Value → World → Prop} (h : Calls Tryz.prog F_errataref11_Intake_add #[x0, time1] w (retK K)) : upK Tryz.prog (sCall F_errataref11_Intake_add #[x0, time1]) w K :=
  up_call (fn := Tryz.f45) Tryz.func45 (by kernel_rfl) (by kernel_rfl) h

/-- (*errata/errataref11.Intake).raise -/
def errataref11_Intake_raise.pt (x0 time1 : Value) (w : World) (K : Value → World → Prop) : Prop :=
  pureK Tryz.prog (sNil x0) fun t8 =>
  pureK Tryz.prog (sFieldAddr T_errataref11_Intake t8 3) fun t9 =>
  readK Tryz.prog (sLoad T_int t9) w fun t10 =>
  pureK Tryz.prog (sBlt .max #[T_int, T_int] T_int #[false, false] #[t10, time1]) fun t12 =>
  pureK Tryz.prog (sNil x0) fun t13 =>
  pureK Tryz.prog (sFieldAddr T_errataref11_Intake t13 3) fun t14 =>
  upK Tryz.prog (sStore T_int t14 t12) w fun tu w1 =>
  LOOP (X := Value × Value × Unit) (fun lv2 w2 next2 =>
   pureK Tryz.prog (sNil x0) fun t17 =>
   pureK Tryz.prog (sFieldAddr T_errataref11_Intake t17 7) fun t18 =>
   readK Tryz.prog (sLoad T_s_errataref11_Count t18) w2 fun t19 =>
   readK Tryz.prog (sBlt .len #[T_s_errataref11_Count] T_int #[false] #[t19]) w2 fun t20 =>
   pureK Tryz.prog (sBin .lss T_int (.tmp 15) (.tmp 20) lv2.2.1 t20) fun t21 =>
   ifB t21
   (LETJ (X := Value × Unit) (fun jv1 w3 =>
     pureK Tryz.prog (sBin .add T_int (.tmp 22) (.const (.int .i64 1)) lv2.2.1 (.int .i64 1)) fun t23 =>
     next2 (jv1.1, t23, ()) w3)
    (fun J1 =>
     pureK Tryz.prog (sNil x0) fun t25 =>
     pureK Tryz.prog (sFieldAddr T_errataref11_Intake t25 7) fun t26 =>
     readK Tryz.prog (sLoad T_s_errataref11_Count t26) (tick w2) fun t27 =>
     pureK Tryz.prog (sIdxAddr T_s_errataref11_Count t27 lv2.2.1) fun t29 =>
     pureK Tryz.prog (sFieldAddr T_errataref11_Count t29 0) fun t30 =>
     readK Tryz.prog (sLoad T_int t30) (tick w2) fun t31 =>
     upK Tryz.prog (sCall F_errataref11_Intake_Closed #[x0]) (tick w2) fun t33 w4 =>
     Is Tryz.prog (sLoad T_int t30) t31 w4 ∧ Is Tryz.prog (sLoad T_s_errataref11_Count t26) t27 w4 ∧ pureK Tryz.prog (sBin .gtr T_int (.tmp 31) (.tmp 33) t31 t33) fun t34 =>
     ifB t34
     (pureK Tryz.prog (sNil x0) fun t37 =>
      pureK Tryz.prog (sFieldAddr T_errataref11_Intake t37 7) fun t38 =>
      readK Tryz.prog (sLoad T_s_errataref11_Count t38) w4 fun t39 =>
      pureK Tryz.prog (sIdxAddr T_s_errataref11_Count t39 lv2.2.1) fun t41 =>
      readK Tryz.prog (sLoad T_errataref11_Count t41) w4 fun t42 =>
      upK Tryz.prog (sBuildSlice T_s_errataref11_Count 1 #[(0, t42)]) w4 fun t43 w5 =>
      upK Tryz.prog (sBlt .append #[T_s_errataref11_Count, T_s_errataref11_Count] T_s_errataref11_Count #[false, false] #[lv2.1, t43]) w5 fun t44 w6 =>
      J1 (t44, ()) w6)
     (J1 (lv2.1, ()) w4)))
   (pureK Tryz.prog (sNil x0) fun t47 =>
    pureK Tryz.prog (sFieldAddr T_errataref11_Intake t47 7) fun t48 =>
    upK Tryz.prog (sStore T_s_errataref11_Count t48 lv2.1) w2 fun tu_1 w7 =>
    K (.tuple #[]) w7))
  ((.slice none 0 0), (.int .i64 0), ()) w1
theorem errataref11_Intake_raise.pt_eq : errataref11_Intake_raise.pt = fun x0 time1 w K => FN Tryz.prog Tryz.f46 (bodyOf Tryz.f46) [] (.node none .leaf (.node none .leaf (.node none (.node none .leaf (.node none (.node none (.node none .leaf (.node (some [4]) .leaf .leaf)) .leaf) .leaf)) .leaf))) [x0, time1] w K := by kernel_rfl
theorem errataref11_Intake_raise.call {x0 time1 : Value} {w : World} {K : Value → World → Prop} (h : errataref11_Intake_raise.pt x0 time1 w K) : Calls Tryz.prog F_errataref11_Intake_raise #[x0, time1] w (retK K) :=
  calls_FN (args := [x0, time1]) Tryz.func46 (by kernel_rfl) (by rw [errataref11_Intake_raise.pt_eq] at h; exact h)
theorem errataref11_Intake_raise.up {x0 time1 : Value} {w : World} {K : Value → World → Prop} (h : Calls Tryz.prog F_errataref11_Intake_raise #[x0, time1] w (retK K)) : upK Tryz.prog (sCall F_errataref11_Intake_raise #[x0, time1]) w K :=
  up_call (fn := Tryz.f46) Tryz.func46 (by kernel_rfl) (by kernel_rfl) h

/-- errata/errataref10.Fence -/
def errataref10_Fence.pt (s0 id1 : Value) (w : World) (K : Value → World → Prop) : Prop :=
  upK Tryz.prog (sCall F_errataref10_get #[s0, id1]) w fun t10 w1 =>
  upK Tryz.prog (sAlloc T_api_Producer) w1 fun p7 w2 =>
  upK Tryz.prog (sStore T_api_Producer p7 t10) w2 fun tu w3 =>
  upK Tryz.prog (sCall F_errataref10_in #[id1]) w3 fun t12 w4 =>
  pureK Tryz.prog (sUn .not t12) fun t13 =>
  ifB t13
  (K (.tuple #[(.slice none 0 0), (.int .i64 0), (.int .i64 1)]) w4)
  (pureK Tryz.prog (sBin .eql T_int (.tmp 15) (.const (.int .i64 1099511627776)) id1 (.int .i64 1099511627776)) fun t16 =>
   ifB t16
   (K (.tuple #[(.slice none 0 0), (.int .i64 0), (.int .i64 1)]) w4)
   (pureK Tryz.prog (sFieldAddr T_api_Producer p7 1) fun t19 =>
    readK Tryz.prog (sLoad T_int t19) w4 fun t20 =>
    pureK Tryz.prog (sBin .eql T_int (.tmp 20) (.const (.int .i64 1099511627776)) t20 (.int .i64 1099511627776)) fun t21 =>
    ifB t21
    (K (.tuple #[(.slice none 0 0), (.int .i64 0), (.int .i64 1)]) w4)
    (LETJ (X := Unit) (fun jv1 w5 =>
      pureK Tryz.prog (sFieldAddr T_api_Producer p7 1) fun t34 =>
      readK Tryz.prog (sLoad T_int t34) (tick w5) fun t35 =>
      pureK Tryz.prog (sBin .add T_int (.tmp 35) (.const (.int .i64 1)) t35 (.int .i64 1)) fun t36 =>
      pureK Tryz.prog (sBuild T_api_Producer #[(0, id1), (1, t36)]) fun t37 =>
      pureK Tryz.prog (sFieldAddr T_api_Producer p7 1) fun t39 =>
      readK Tryz.prog (sLoad T_int t39) (tick w5) fun t40 =>
      pureK Tryz.prog (sBin .add T_int (.tmp 40) (.const (.int .i64 1)) t40 (.int .i64 1)) fun t41 =>
      upK Tryz.prog (sCall F_errataref10_set #[s0, t37]) (tick w5) fun t38 w6 =>
      Is Tryz.prog (sLoad T_int t39) t40 w6 ∧ K (.tuple #[t38, t41, (.int .i64 0)]) w6)
     (fun J1 =>
      upK Tryz.prog (sCall F_errataref10_find #[s0, id1]) w4 fun t25 w7 =>
      pureK Tryz.prog (sBin .lss T_int (.tmp 25) (.const (.int .i64 0)) t25 (.int .i64 0)) fun t26 =>
      ifB t26
      (readK Tryz.prog (sBlt .len #[T_s_api_Producer] T_int #[false] #[s0]) w7 fun t29 =>
       pureK Tryz.prog (sBin .geq T_int (.tmp 29) (.const (.int .i64 50)) t29 (.int .i64 50)) fun t30 =>
       ifB t30
       (K (.tuple #[(.slice none 0 0), (.int .i64 0), (.int .i64 6)]) w7)
       (J1 (()) w7))
      (J1 (()) w7)))))
theorem errataref10_Fence.pt_eq : errataref10_Fence.pt = fun s0 id1 w K => FN Tryz.prog Tryz.f47 (bodyOf Tryz.f47) [4, 5, 6] (.node none .leaf (.node none .leaf (.node none .leaf (.node (some []) .leaf .leaf)))) [s0, id1] w K := by kernel_rfl
theorem errataref10_Fence.call {s0 id1 : Value} {w : World} {K : Value → World → Prop} (h : errataref10_Fence.pt s0 id1 w K) : Calls Tryz.prog F_errataref10_Fence #[s0, id1] w (retK K) :=
  calls_FN (args := [s0, id1]) Tryz.func47 (by kernel_rfl) (by rw [errataref10_Fence.pt_eq] at h; exact h)
theorem errataref10_Fence.up {s0 id1 : Value} {w : World} {K : Value → World → Prop} (h : Calls Tryz.prog F_errataref10_Fence #[s0, id1] w (retK K)) : upK Tryz.prog (sCall F_errataref10_Fence #[s0, id1]) w K :=
  up_call (fn := Tryz.f47) Tryz.func47 (by kernel_rfl) (by kernel_rfl) h

/-- errata/wire.Int -/
def wire_Int.pt (n0 : Value) (w : World) (K : Value → World → Prop) : Prop :=
  upK Tryz.prog (sCall F_strconv_Itoa #[n0]) w fun t4 w1 =>
  pureK Tryz.prog (sBin .add T_string (.tmp 4) (.const (.string ⟨#[59]⟩)) t4 (.string ⟨#[59]⟩)) fun t5 =>
  K t5 w1
theorem wire_Int.pt_eq : wire_Int.pt = fun n0 w K => FN Tryz.prog Tryz.f48 (bodyOf Tryz.f48) [2] .leaf [n0] w K := by kernel_rfl
theorem wire_Int.call {n0 : Value} {w : World} {K : Value → World → Prop} (h : wire_Int.pt n0 w K) : Calls Tryz.prog F_wire_Int #[n0] w (retK K) :=
  calls_FN (args := [n0]) Tryz.func48 (by kernel_rfl) (by rw [wire_Int.pt_eq] at h; exact h)
theorem wire_Int.up {n0 : Value} {w : World} {K : Value → World → Prop} (h : Calls Tryz.prog F_wire_Int #[n0] w (retK K)) : upK Tryz.prog (sCall F_wire_Int #[n0]) w K :=
  up_call (fn := Tryz.f48) Tryz.func48 (by kernel_rfl) (by kernel_rfl) h

/-- errata/wire.Text -/
def wire_Text.pt (s0 : Value) (w : World) (K : Value → World → Prop) : Prop :=
  readK Tryz.prog (sBlt .len #[T_string] T_int #[false] #[s0]) w fun t4 =>
  upK Tryz.prog (sCall F_strconv_Itoa #[t4]) w fun t5 w1 =>
  pureK Tryz.prog (sBin .add T_string (.tmp 5) (.const (.string ⟨#[58]⟩)) t5 (.string ⟨#[58]⟩)) fun t6 =>
  pureK Tryz.prog (sBin .add T_string (.tmp 6) (.tmp 7) t6 s0) fun t8 =>
  pureK Tryz.prog (sBin .add T_string (.tmp 8) (.const (.string ⟨#[44]⟩)) t8 (.string ⟨#[44]⟩)) fun t9 =>
  K t9 w1
theorem wire_Text.pt_eq : wire_Text.pt = fun s0 w K => FN Tryz.prog Tryz.f49 (bodyOf Tryz.f49) [2] .leaf [s0] w K := by kernel_rfl
theorem wire_Text.call {s0 : Value} {w : World} {K : Value → World → Prop} (h : wire_Text.pt s0 w K) : Calls Tryz.prog F_wire_Text #[s0] w (retK K) :=
  calls_FN (args := [s0]) Tryz.func49 (by kernel_rfl) (by rw [wire_Text.pt_eq] at h; exact h)
theorem wire_Text.up {s0 : Value} {w : World} {K : Value → World → Prop} (h : Calls Tryz.prog F_wire_Text #[s0] w (retK K)) : upK Tryz.prog (sCall F_wire_Text #[s0]) w K :=
  up_call (fn := Tryz.f49) Tryz.func49 (by kernel_rfl) (by kernel_rfl) h

/-- errata/wire.Num -/
def wire_Num.pt (n0 : Value) (w : World) (K : Value → World → Prop) : Prop :=
  pureK Tryz.prog (sBin .lss T_int (.tmp 3) (.const (.int .i64 0)) n0 (.int .i64 0)) fun t4 =>
  ifB t4
  (K (.string ⟨#[]⟩) w)
  (upK Tryz.prog (sCall F_wire_Int #[n0]) w fun t6 w1 =>
   K t6 w1)
theorem wire_Num.pt_eq : wire_Num.pt = fun n0 w K => FN Tryz.prog Tryz.f50 (bodyOf Tryz.f50) [2] .leaf [n0] w K := by kernel_rfl
theorem wire_Num.call {n0 : Value} {w : World} {K : Value → World → Prop} (h : wire_Num.pt n0 w K) : Calls Tryz.prog F_wire_Num #[n0] w (retK K) :=
  calls_FN (args := [n0]) Tryz.func50 (by kernel_rfl) (by rw [wire_Num.pt_eq] at h; exact h)
theorem wire_Num.up {n0 : Value} {w : World} {K : Value → World → Prop} (h : Calls Tryz.prog F_wire_Num #[n0] w (retK K)) : upK Tryz.prog (sCall F_wire_Num #[n0]) w K :=
  up_call (fn := Tryz.f50) Tryz.func50 (by kernel_rfl) (by kernel_rfl) h

/-- slices.Sorted[int] -/
def slices_Sorted_int.pt (seq0 : Value) (w : World) (K : Value → World → Prop) : Prop :=
  upK Tryz.prog (sCall F_slices_Collect_int #[seq0]) w fun t5 w1 =>
  upK Tryz.prog (sCall F_slices_Sort_s_int_int #[t5]) w1 fun t7 w2 =>
  K t5 w2
theorem slices_Sorted_int.pt_eq : slices_Sorted_int.pt = fun seq0 w K => FN Tryz.prog Tryz.f51 (bodyOf Tryz.f51) [2] .leaf [seq0] w K := by kernel_rfl
theorem slices_Sorted_int.call {seq0 : Value} {w : World} {K : Value → World → Prop} (h : slices_Sorted_int.pt seq0 w K) : Calls Tryz.prog F_slices_Sorted_int #[seq0] w (retK K) :=
  calls_FN (args := [seq0]) Tryz.func51 (by kernel_rfl) (by rw [slices_Sorted_int.pt_eq] at h; exact h)
theorem slices_Sorted_int.up {seq0 : Value} {w : World} {K : Value → World → Prop} (h : Calls Tryz.prog F_slices_Sorted_int #[seq0] w (retK K)) : upK Tryz.prog (sCall F_slices_Sorted_int #[seq0]) w K :=
  up_call (fn := Tryz.f51) Tryz.func51 (by kernel_rfl) (by kernel_rfl) h

/-- maps.Keys[map[int]int,int,int] -/
def maps_Keys_map_int_int_int_int.pt (m0 : Value) (w : World) (K : Value → World → Prop) : Prop :=
  upK Tryz.prog (sBox T_map_int_int m0) w fun m1 w1 =>
  pureK Tryz.prog (sMkFunc (.func F_maps_Keys_map_int_int_int_int_1) #[] #[m1]) fun t3 =>
  K t3 w1
theorem maps_Keys_map_int_int_int_int.pt_eq : maps_Keys_map_int_int_int_int.pt = fun m0 w K => FN Tryz.prog Tryz.f52 (bodyOf Tryz.f52) [2] .leaf [m0] w K := by kernel_rfl
theorem maps_Keys_map_int_int_int_int.call {m0 : Value} {w : World} {K : Value → World → Prop} (h : maps_Keys_map_int_int_int_int.pt m0 w K) : Calls Tryz.prog F_maps_Keys_map_int_int_int_int #[m0] w (retK K) :=
  calls_FN (args := [m0]) Tryz.func52 (by kernel_rfl) (by rw [maps_Keys_map_int_int_int_int.pt_eq] at h; exact h)
theorem maps_Keys_map_int_int_int_int.up {m0 : Value} {w : World} {K : Value → World → Prop} (h : Calls Tryz.prog F_maps_Keys_map_int_int_int_int #[m0] w (retK K)) : upK Tryz.prog (sCall F_maps_Keys_map_int_int_int_int #[m0]) w K :=
  up_call (fn := Tryz.f52) Tryz.func52 (by kernel_rfl) (by kernel_rfl) h

/-- errata/errataref01.Int -/
def errataref01_Int.pt (n0 : Value) (w : World) (K : Value → World → Prop) : Prop :=
  pureK Tryz.prog (sBin .lss T_int (.tmp 3) (.const (.int .i64 0)) n0 (.int .i64 0)) fun t4 =>
  ifB t4
  (upK Tryz.prog (sCall F_errataref01_digits #[n0]) w fun t6 w1 =>
   pureK Tryz.prog (sBin .add T_string (.const (.string ⟨#[45]⟩)) (.tmp 6) (.string ⟨#[45]⟩) t6) fun t7 =>
   pureK Tryz.prog (sBin .add T_string (.tmp 7) (.const (.string ⟨#[59]⟩)) t7 (.string ⟨#[59]⟩)) fun t8 =>
   K t8 w1)
  (pureK Tryz.prog (sUn .neg n0) fun t10 =>
   upK Tryz.prog (sCall F_errataref01_digits #[t10]) w fun t11 w2 =>
   pureK Tryz.prog (sBin .add T_string (.tmp 11) (.const (.string ⟨#[59]⟩)) t11 (.string ⟨#[59]⟩)) fun t12 =>
   K t12 w2)
theorem errataref01_Int.pt_eq : errataref01_Int.pt = fun n0 w K => FN Tryz.prog Tryz.f53 (bodyOf Tryz.f53) [2] .leaf [n0] w K := by kernel_rfl
theorem errataref01_Int.call {n0 : Value} {w : World} {K : Value → World → Prop} (h : errataref01_Int.pt n0 w K) : Calls Tryz.prog F_errataref01_Int #[n0] w (retK K) :=
  calls_FN (args := [n0]) Tryz.func53 (by kernel_rfl) (by rw [errataref01_Int.pt_eq] at h; exact h)
theorem errataref01_Int.up {n0 : Value} {w : World} {K : Value → World → Prop} (h : Calls Tryz.prog F_errataref01_Int #[n0] w (retK K)) : upK Tryz.prog (sCall F_errataref01_Int #[n0]) w K :=
  up_call (fn := Tryz.f53) Tryz.func53 (by kernel_rfl) (by kernel_rfl) h

/-- errata/errataref01.Text -/
def errataref01_Text.pt (s0 : Value) (w : World) (K : Value → World → Prop) : Prop :=
  readK Tryz.prog (sBlt .len #[T_string] T_int #[false] #[s0]) w fun t4 =>
  pureK Tryz.prog (sUn .neg t4) fun t5 =>
  upK Tryz.prog (sCall F_errataref01_digits #[t5]) w fun t6 w1 =>
  pureK Tryz.prog (sBin .add T_string (.tmp 6) (.const (.string ⟨#[58]⟩)) t6 (.string ⟨#[58]⟩)) fun t7 =>
  pureK Tryz.prog (sBin .add T_string (.tmp 7) (.tmp 8) t7 s0) fun t9 =>
  pureK Tryz.prog (sBin .add T_string (.tmp 9) (.const (.string ⟨#[44]⟩)) t9 (.string ⟨#[44]⟩)) fun t10 =>
  K t10 w1
theorem errataref01_Text.pt_eq : errataref01_Text.pt = fun s0 w K => FN Tryz.prog Tryz.f54 (bodyOf Tryz.f54) [2] .leaf [s0] w K := by kernel_rfl
theorem errataref01_Text.call {s0 : Value} {w : World} {K : Value → World → Prop} (h : errataref01_Text.pt s0 w K) : Calls Tryz.prog F_errataref01_Text #[s0] w (retK K) :=
  calls_FN (args := [s0]) Tryz.func54 (by kernel_rfl) (by rw [errataref01_Text.pt_eq] at h; exact h)
theorem errataref01_Text.up {s0 : Value} {w : World} {K : Value → World → Prop} (h : Calls Tryz.prog F_errataref01_Text #[s0] w (retK K)) : upK Tryz.prog (sCall F_errataref01_Text #[s0]) w K :=
  up_call (fn := Tryz.f54) Tryz.func54 (by kernel_rfl) (by kernel_rfl) h

/-- errata/errataref10.Bytes -/
def errataref10_Bytes.pt (s0 : Value) (w : World) (K : Value → World → Prop) : Prop :=
  readK Tryz.prog (sBlt .len #[T_s_api_Producer] T_int #[false] #[s0]) w fun t6 =>
  upK Tryz.prog (sCall F_errataref01_Num #[t6]) w fun t7 w1 =>
  LOOP (X := Value × Value × Unit) (fun lv2 w2 next2 =>
   readK Tryz.prog (sBlt .len #[T_s_api_Producer] T_int #[false] #[s0]) w2 fun t10 =>
   pureK Tryz.prog (sBin .lss T_int (.tmp 8) (.tmp 10) lv2.2.1 t10) fun t11 =>
   ifB t11
   (pureK Tryz.prog (sIdxAddr T_s_api_Producer s0 lv2.2.1) fun t17 =>
    pureK Tryz.prog (sFieldAddr T_api_Producer t17 0) fun t18 =>
    readK Tryz.prog (sLoad T_int t18) (tick w2) fun t19 =>
    pureK Tryz.prog (sIdxAddr T_s_api_Producer s0 lv2.2.1) fun t24 =>
    pureK Tryz.prog (sFieldAddr T_api_Producer t24 1) fun t25 =>
    readK Tryz.prog (sLoad T_int t25) (tick w2) fun t26 =>
    pureK Tryz.prog (sIdxAddr T_s_api_Producer s0 lv2.2.1) fun t31 =>
    pureK Tryz.prog (sFieldAddr T_api_Producer t31 2) fun t32 =>
    readK Tryz.prog (sLoad T_int t32) (tick w2) fun t33 =>
    pureK Tryz.prog (sIdxAddr T_s_api_Producer s0 lv2.2.1) fun t38 =>
    pureK Tryz.prog (sFieldAddr T_api_Producer t38 3) fun t39 =>
    readK Tryz.prog (sLoad T_s_int t39) (tick w2) fun t40 =>
    upK Tryz.prog (sCall F_errataref01_Int #[t19]) (tick w2) fun t20 w3 =>
    Is Tryz.prog (sLoad T_s_int t39) t40 w3 ∧ Is Tryz.prog (sLoad T_int t32) t33 w3 ∧ Is Tryz.prog (sLoad T_int t25) t26 w3 ∧ pureK Tryz.prog (sBin .add T_string (.tmp 14) (.tmp 20) lv2.1 t20) fun t21 =>
    upK Tryz.prog (sCall F_errataref01_Int #[t26]) w3 fun t27 w4 =>
    Is Tryz.prog (sLoad T_s_int t39) t40 w4 ∧ Is Tryz.prog (sLoad T_int t32) t33 w4 ∧ pureK Tryz.prog (sBin .add T_string (.tmp 21) (.tmp 27) t21 t27) fun t28 =>
    upK Tryz.prog (sCall F_errataref01_Int #[t33]) w4 fun t34 w5 =>
    Is Tryz.prog (sLoad T_s_int t39) t40 w5 ∧ pureK Tryz.prog (sBin .add T_string (.tmp 28) (.tmp 34) t28 t34) fun t35 =>
    upK Tryz.prog (sCall F_errataref01_Nums #[t40]) w5 fun t41 w6 =>
    pureK Tryz.prog (sBin .add T_string (.tmp 35) (.tmp 41) t35 t41) fun t42 =>
    pureK Tryz.prog (sBin .add T_int (.tmp 12) (.const (.int .i64 1)) lv2.2.1 (.int .i64 1)) fun t13 =>
    next2 (t42, t13, ()) w6)
   (K lv2.1 w2))
  (t7, (.int .i64 0), ()) w1
theorem errataref10_Bytes.pt_eq : errataref10_Bytes.pt = fun s0 w K => FN Tryz.prog Tryz.f55 (bodyOf Tryz.f55) [2] .leaf [s0] w K := by kernel_rfl
theorem errataref10_Bytes.call {s0 : Value} {w : World} {K : Value → World → Prop} (h : errataref10_Bytes.pt s0 w K) : Calls Tryz.prog F_errataref10_Bytes #[s0] w (retK K) :=
  calls_FN (args := [s0]) Tryz.func55 (by kernel_rfl) (by rw [errataref10_Bytes.pt_eq] at h; exact h)
theorem errataref10_Bytes.up {s0 : Value} {w : World} {K : Value → World → Prop} (h : Calls Tryz.prog F_errataref10_Bytes #[s0] w (retK K)) : upK Tryz.prog (sCall F_errataref10_Bytes #[s0]) w K :=
  up_call (fn := Tryz.f55) Tryz.func55 (by kernel_rfl) (by kernel_rfl) h

/-- errata/errataref01.Num -/
def errataref01_Num.pt (n0 : Value) (w : World) (K : Value → World → Prop) : Prop :=
  pureK Tryz.prog (sBin .lss T_int (.tmp 3) (.const (.int .i64 0)) n0 (.int .i64 0)) fun t4 =>
  ifB t4
  (K (.string ⟨#[]⟩) w)
  (upK Tryz.prog (sCall F_errataref01_Int #[n0]) w fun t6 w1 =>
   K t6 w1)
theorem errataref01_Num.pt_eq : errataref01_Num.pt = fun n0 w K => FN Tryz.prog Tryz.f56 (bodyOf Tryz.f56) [2] .leaf [n0] w K := by kernel_rfl
theorem errataref01_Num.call {n0 : Value} {w : World} {K : Value → World → Prop} (h : errataref01_Num.pt n0 w K) : Calls Tryz.prog F_errataref01_Num #[n0] w (retK K) :=
  calls_FN (args := [n0]) Tryz.func56 (by kernel_rfl) (by rw [errataref01_Num.pt_eq] at h; exact h)
theorem errataref01_Num.up {n0 : Value} {w : World} {K : Value → World → Prop} (h : Calls Tryz.prog F_errataref01_Num #[n0] w (retK K)) : upK Tryz.prog (sCall F_errataref01_Num #[n0]) w K :=
  up_call (fn := Tryz.f56) Tryz.func56 (by kernel_rfl) (by kernel_rfl) h

/-- errata/errataref10.SameNums -/
def errataref10_SameNums.pt (a0 b1 : Value) (w : World) (K : Value → World → Prop) : Prop :=
  readK Tryz.prog (sBlt .len #[T_s_int] T_int #[false] #[a0]) w fun t7 =>
  readK Tryz.prog (sBlt .len #[T_s_int] T_int #[false] #[b1]) w fun t9 =>
  pureK Tryz.prog (sBin .neq T_int (.tmp 7) (.tmp 9) t7 t9) fun t10 =>
  ifB t10
  (K (.bool false) w)
  (LOOP (X := Value × Unit) (fun lv1 w1 next1 =>
    readK Tryz.prog (sBlt .len #[T_s_int] T_int #[false] #[a0]) w1 fun t13 =>
    pureK Tryz.prog (sBin .lss T_int (.tmp 11) (.tmp 13) lv1.1 t13) fun t14 =>
    ifB t14
    (pureK Tryz.prog (sIdxAddr T_s_int a0 lv1.1) fun t19 =>
     readK Tryz.prog (sLoad T_int t19) (tick w1) fun t20 =>
     pureK Tryz.prog (sIdxAddr T_s_int b1 lv1.1) fun t23 =>
     readK Tryz.prog (sLoad T_int t23) (tick w1) fun t24 =>
     pureK Tryz.prog (sBin .neq T_int (.tmp 20) (.tmp 24) t20 t24) fun t25 =>
     ifB t25
     (K (.bool false) (tick w1))
     (pureK Tryz.prog (sBin .add T_int (.tmp 15) (.const (.int .i64 1)) lv1.1 (.int .i64 1)) fun t16 =>
      next1 (t16, ()) (tick w1)))
    (K (.bool true) w1))
   ((.int .i64 0), ()) w)
theorem errataref10_SameNums.pt_eq : errataref10_SameNums.pt = fun a0 b1 w K => FN Tryz.prog Tryz.f57 (bodyOf Tryz.f57) [4] .leaf [a0, b1] w K := by kernel_rfl
theorem errataref10_SameNums.call {a0 b1 : Value} {w : World} {K : Value → World → Prop} (h : errataref10_SameNums.pt a0 b1 w K) : Calls Tryz.prog F_errataref10_SameNums #[a0, b1] w (retK K) :=
  calls_FN (args := [a0, b1]) Tryz.func57 (by kernel_rfl) (by rw [errataref10_SameNums.pt_eq] at h; exact h)
theorem errataref10_SameNums.up {a0 b1 : Value} {w : World} {K : Value → World → Prop} (h : Calls Tryz.prog F_errataref10_SameNums #[a0, b1] w (retK K)) : upK Tryz.prog (sCall F_errataref10_SameNums #[a0, b1]) w K :=
  up_call (fn := Tryz.f57) Tryz.func57 (by kernel_rfl) (by kernel_rfl) h

/-- slices.Clone[[]int,int] -/
def slices_Clone_s_int_int.pt (s0 : Value) (w : World) (K : Value → World → Prop) : Prop :=
  pureK Tryz.prog (sBin .eql T_s_int (.tmp 3) (.const (.slice none 0 0)) s0 (.slice none 0 0)) fun t4 =>
  ifB t4
  (K (.slice none 0 0) w)
  (upK Tryz.prog (sBuildSlice T_s_int 0 #[]) w fun t5 w1 =>
   upK Tryz.prog (sBlt .append #[T_s_int, T_s_int] T_s_int #[false, false] #[t5, s0]) w1 fun t7 w2 =>
   K t7 w2)
theorem slices_Clone_s_int_int.pt_eq : slices_Clone_s_int_int.pt = fun s0 w K => FN Tryz.prog Tryz.f58 (bodyOf Tryz.f58) [2] .leaf [s0] w K := by kernel_rfl
theorem slices_Clone_s_int_int.call {s0 : Value} {w : World} {K : Value → World → Prop} (h : slices_Clone_s_int_int.pt s0 w K) : Calls Tryz.prog F_slices_Clone_s_int_int #[s0] w (retK K) :=
  calls_FN (args := [s0]) Tryz.func58 (by kernel_rfl) (by rw [slices_Clone_s_int_int.pt_eq] at h; exact h)
theorem slices_Clone_s_int_int.up {s0 : Value} {w : World} {K : Value → World → Prop} (h : Calls Tryz.prog F_slices_Clone_s_int_int #[s0] w (retK K)) : upK Tryz.prog (sCall F_slices_Clone_s_int_int #[s0]) w K :=
  up_call (fn := Tryz.f58) Tryz.func58 (by kernel_rfl) (by kernel_rfl) h

/-- errata/wire.Open -/
def wire_Open.pt (s0 : Value) (w : World) (K : Value → World → Prop) : Prop :=
  pureK Tryz.prog (sBuild T_wire_Reader #[(0, s0)]) fun t4 =>
  upK Tryz.prog (sBox T_wire_Reader t4) w fun t5 w1 =>
  K t5 w1
theorem wire_Open.pt_eq : wire_Open.pt = fun s0 w K => FN Tryz.prog Tryz.f59 (bodyOf Tryz.f59) [2] .leaf [s0] w K := by kernel_rfl
theorem wire_Open.call {s0 : Value} {w : World} {K : Value → World → Prop} (h : wire_Open.pt s0 w K) : Calls Tryz.prog F_wire_Open #[s0] w (retK K) :=
  calls_FN (args := [s0]) Tryz.func59 (by kernel_rfl) (by rw [wire_Open.pt_eq] at h; exact h)
theorem wire_Open.up {s0 : Value} {w : World} {K : Value → World → Prop} (h : Calls Tryz.prog F_wire_Open #[s0] w (retK K)) : upK Tryz.prog (sCall F_wire_Open #[s0]) w K :=
  up_call (fn := Tryz.f59) Tryz.func59 (by kernel_rfl) (by kernel_rfl) h

/-- (*errata/wire.Reader).Int -/
def wire_Reader_Int.pt (r0 : Value) (w : World) (K : Value → World → Prop) : Prop :=
  upK Tryz.prog (sCall F_wire_Reader_number #[r0, (.int .u8 59), (.int .i64 (-9223372036854775808))]) w fun t4 w1 =>
  K t4 w1
theorem wire_Reader_Int.pt_eq : wire_Reader_Int.pt = fun r0 w K => FN Tryz.prog Tryz.f60 (bodyOf Tryz.f60) [2] .leaf [r0] w K := by kernel_rfl
theorem wire_Reader_Int.call {r0 : Value} {w : World} {K : Value → World → Prop} (h : wire_Reader_Int.pt r0 w K) : Calls Tryz.prog F_wire_Reader_Int #[r0] w (retK K) :=
  calls_FN (args := [r0]) Tryz.func60 (by kernel_rfl) (by rw [wire_Reader_Int.pt_eq] at h; exact h)
theorem wire_Reader_Int.up {r0 : Value} {w : World} {K : Value → World → Prop} (h : Calls Tryz.prog F_wire_Reader_Int #[r0] w (retK K)) : upK Tryz.prog (sCall F_wire_Reader_Int #[r0]) w K :=
  up_call (fn := Tryz.f60) Tryz.func60 (by kernel_rfl) (by kernel_rfl) h

/-- errata/producer.Read -/
def producer_Read.pt (s0 : Value) (w : World) (K : Value → World → Prop) : Prop :=
  upK Tryz.prog (sCall F_wire_Open #[s0]) w fun t8 w1 =>
  LETJ (X := Value × Unit) (fun jv1 w2 =>
   upK Tryz.prog (sCall F_wire_Reader_Done #[t8]) w2 fun t33 w3 =>
   pureK Tryz.prog (sUn .not t33) fun t34 =>
   ifB t34
   (K (.tuple #[(.slice none 0 0), (.bool false)]) w3)
   (upK Tryz.prog (sCall F_producer_Right #[jv1.1]) w3 fun t37 w4 =>
    pureK Tryz.prog (sUn .not t37) fun t38 =>
    ifB t38
    (K (.tuple #[(.slice none 0 0), (.bool false)]) w4)
    (upK Tryz.prog (sCall F_producer_Bytes #[jv1.1]) w4 fun t42 w5 =>
     pureK Tryz.prog (sBin .neq T_string (.tmp 42) (.tmp 43) t42 s0) fun t44 =>
     ifB t44
     (K (.tuple #[(.slice none 0 0), (.bool false)]) w5)
     (K (.tuple #[jv1.1, (.bool true)]) w5))))
  (fun J1 =>
   upK Tryz.prog (sCall F_wire_Reader_Num #[t8]) w1 fun t10 w6 =>
   LOOP (X := Value × Value × Unit) (fun lv7 w7 next7 =>
    pureK Tryz.prog (sBin .gtr T_int (.tmp 11) (.const (.int .i64 0)) lv7.2.1 (.int .i64 0)) fun t12 =>
    ifB t12
    (upK Tryz.prog (sCall F_wire_Reader_Left #[t8]) w7 fun t15 w8 =>
     pureK Tryz.prog (sBin .gtr T_int (.tmp 15) (.const (.int .i64 0)) t15 (.int .i64 0)) fun t16 =>
     ifB t16
     (upK Tryz.prog (sCall F_wire_Reader_Int #[t8]) w8 fun t22 w9 =>
      upK Tryz.prog (sCall F_wire_Reader_Int #[t8]) w9 fun t24 w10 =>
      upK Tryz.prog (sCall F_wire_Reader_Int #[t8]) w10 fun t26 w11 =>
      upK Tryz.prog (sCall F_wire_Reader_Nums #[t8]) w11 fun t28 w12 =>
      pureK Tryz.prog (sBuild T_api_Producer #[(0, t22), (1, t24), (2, t26), (3, t28)]) fun t29 =>
      upK Tryz.prog (sBuildSlice T_s_api_Producer 1 #[(0, t29)]) w12 fun t30 w13 =>
      upK Tryz.prog (sBlt .append #[T_s_api_Producer, T_s_api_Producer] T_s_api_Producer #[false, false] #[lv7.1, t30]) w13 fun t31 w14 =>
      pureK Tryz.prog (sBin .sub T_int (.tmp 18) (.const (.int .i64 1)) lv7.2.1 (.int .i64 1)) fun t19 =>
      next7 (t31, t19, ()) w14)
     (J1 (lv7.1, ()) w8))
    (J1 (lv7.1, ()) w7))
   ((.slice none 0 0), t10, ()) w6)
theorem producer_Read.pt_eq : producer_Read.pt = fun s0 w K => FN Tryz.prog Tryz.f61 (bodyOf Tryz.f61) [2, 3] (.node none .leaf (.node none .leaf (.node none .leaf (.node (some [5]) .leaf .leaf)))) [s0] w K := by kernel_rfl
theorem producer_Read.call {s0 : Value} {w : World} {K : Value → World → Prop} (h : producer_Read.pt s0 w K) : Calls Tryz.prog F_producer_Read #[s0] w (retK K) :=
  calls_FN (args := [s0]) Tryz.func61 (by kernel_rfl) (by rw [producer_Read.pt_eq] at h; exact h)
theorem producer_Read.up {s0 : Value} {w : World} {K : Value → World → Prop} (h : Calls Tryz.prog F_producer_Read #[s0] w (retK K)) : upK Tryz.prog (sCall F_producer_Read #[s0]) w K :=
  up_call (fn := Tryz.f61) Tryz.func61 (by kernel_rfl) (by kernel_rfl) h

/-- (*errata/wire.Reader).Text -/
def wire_Reader_Text.pt (r0 : Value) (w : World) (K : Value → World → Prop) : Prop :=
  upK Tryz.prog (sCall F_wire_Reader_number #[r0, (.int .u8 58), (.int .i64 0)]) w fun t6 w1 =>
  pureK Tryz.prog (sNil r0) fun t9 =>
  pureK Tryz.prog (sFieldAddr T_wire_Reader t9 0) fun t10 =>
  readK Tryz.prog (sLoad T_string t10) w1 fun t11 =>
  readK Tryz.prog (sBlt .len #[T_string] T_int #[false] #[t11]) w1 fun t12 =>
  pureK Tryz.prog (sBin .gtr T_int (.tmp 7) (.tmp 12) t6 t12) fun t13 =>
  ifB t13
  (upK Tryz.prog (sCall F_wire_Reader_fail #[r0]) w1 fun t15 w2 =>
   K (.string ⟨#[]⟩) w2)
  (pureK Tryz.prog (sNil r0) fun t17 =>
   pureK Tryz.prog (sFieldAddr T_wire_Reader t17 0) fun t18 =>
   readK Tryz.prog (sLoad T_string t18) w1 fun t19 =>
   pureK Tryz.prog (sSlice T_string t19 none (some t6) none) fun t21 =>
   pureK Tryz.prog (sNil r0) fun t24 =>
   pureK Tryz.prog (sFieldAddr T_wire_Reader t24 0) fun t25 =>
   readK Tryz.prog (sLoad T_string t25) w1 fun t26 =>
   pureK Tryz.prog (sSlice T_string t26 (some t6) none none) fun t28 =>
   pureK Tryz.prog (sNil r0) fun t29 =>
   pureK Tryz.prog (sFieldAddr T_wire_Reader t29 0) fun t30 =>
   upK Tryz.prog (sStore T_string t30 t28) w1 fun tu w3 =>
   upK Tryz.prog (sCall F_wire_Reader_close #[r0, (.string ⟨#[44]⟩)]) w3 fun t32 w4 =>
   pureK Tryz.prog (sNil r0) fun t34 =>
   pureK Tryz.prog (sFieldAddr T_wire_Reader t34 1) fun t35 =>
   readK Tryz.prog (sLoad T_bool t35) w4 fun t36 =>
   ifB t36
   (K (.string ⟨#[]⟩) w4)
   (K t21 w4))
theorem wire_Reader_Text.pt_eq : wire_Reader_Text.pt = fun r0 w K => FN Tryz.prog Tryz.f62 (bodyOf Tryz.f62) [2] .leaf [r0] w K := by kernel_rfl
theorem wire_Reader_Text.call {r0 : Value} {w : World} {K : Value → World → Prop} (h : wire_Reader_Text.pt r0 w K) : Calls Tryz.prog F_wire_Reader_Text #[r0] w (retK K) :=
  calls_FN (args := [r0]) Tryz.func62 (by kernel_rfl) (by rw [wire_Reader_Text.pt_eq] at h; exact h)
theorem wire_Reader_Text.up {r0 : Value} {w : World} {K : Value → World → Prop} (h : Calls Tryz.prog F_wire_Reader_Text #[r0] w (retK K)) : upK Tryz.prog (sCall F_wire_Reader_Text #[r0]) w K :=
  up_call (fn := Tryz.f62) Tryz.func62 (by kernel_rfl) (by kernel_rfl) h

/-- (*errata/wire.Reader).Num -/
def wire_Reader_Num.pt (r0 : Value) (w : World) (K : Value → World → Prop) : Prop :=
  upK Tryz.prog (sCall F_wire_Reader_number #[r0, (.int .u8 59), (.int .i64 0)]) w fun t4 w1 =>
  K t4 w1
theorem wire_Reader_Num.pt_eq : wire_Reader_Num.pt = fun r0 w K => FN Tryz.prog Tryz.f63 (bodyOf Tryz.f63) [2] .leaf [r0] w K := by kernel_rfl
theorem wire_Reader_Num.call {r0 : Value} {w : World} {K : Value → World → Prop} (h : wire_Reader_Num.pt r0 w K) : Calls Tryz.prog F_wire_Reader_Num #[r0] w (retK K) :=
  calls_FN (args := [r0]) Tryz.func63 (by kernel_rfl) (by rw [wire_Reader_Num.pt_eq] at h; exact h)
theorem wire_Reader_Num.up {r0 : Value} {w : World} {K : Value → World → Prop} (h : Calls Tryz.prog F_wire_Reader_Num #[r0] w (retK K)) : upK Tryz.prog (sCall F_wire_Reader_Num #[r0]) w K :=
  up_call (fn := Tryz.f63) Tryz.func63 (by kernel_rfl) (by kernel_rfl) h

/-- (*errata/wire.Reader).Left -/
def wire_Reader_Left.pt (r0 : Value) (w : World) (K : Value → World → Prop) : Prop :=
  pureK Tryz.prog (sNil r0) fun t4 =>
  pureK Tryz.prog (sFieldAddr T_wire_Reader t4 0) fun t5 =>
  readK Tryz.prog (sLoad T_string t5) w fun t6 =>
  readK Tryz.prog (sBlt .len #[T_string] T_int #[false] #[t6]) w fun t7 =>
  K t7 w
theorem wire_Reader_Left.pt_eq : wire_Reader_Left.pt = fun r0 w K => FN Tryz.prog Tryz.f64 (bodyOf Tryz.f64) [2] .leaf [r0] w K := by kernel_rfl
theorem wire_Reader_Left.call {r0 : Value} {w : World} {K : Value → World → Prop} (h : wire_Reader_Left.pt r0 w K) : Calls Tryz.prog F_wire_Reader_Left #[r0] w (retK K) :=
  calls_FN (args := [r0]) Tryz.func64 (by kernel_rfl) (by rw [wire_Reader_Left.pt_eq] at h; exact h)
theorem wire_Reader_Left.up {r0 : Value} {w : World} {K : Value → World → Prop} (h : Calls Tryz.prog F_wire_Reader_Left #[r0] w (retK K)) : upK Tryz.prog (sCall F_wire_Reader_Left #[r0]) w K :=
  up_call (fn := Tryz.f64) Tryz.func64 (by kernel_rfl) (by kernel_rfl) h

/-- (*errata/wire.Reader).Done -/
def wire_Reader_Done.pt (r0 : Value) (w : World) (K : Value → World → Prop) : Prop :=
  pureK Tryz.prog (sNil r0) fun t4 =>
  pureK Tryz.prog (sFieldAddr T_wire_Reader t4 1) fun t5 =>
  readK Tryz.prog (sLoad T_bool t5) w fun t6 =>
  pureK Tryz.prog (sUn .not t6) fun t7 =>
  ifB t7
  (pureK Tryz.prog (sNil r0) fun t10 =>
   pureK Tryz.prog (sFieldAddr T_wire_Reader t10 0) fun t11 =>
   readK Tryz.prog (sLoad T_string t11) w fun t12 =>
   pureK Tryz.prog (sBin .eql T_string (.tmp 12) (.const (.string ⟨#[]⟩)) t12 (.string ⟨#[]⟩)) fun t13 =>
   K t13 w)
  (K (.bool false) w)
theorem wire_Reader_Done.pt_eq : wire_Reader_Done.pt = fun r0 w K => FN Tryz.prog Tryz.f65 (bodyOf Tryz.f65) [2] .leaf [r0] w K := by kernel_rfl
theorem wire_Reader_Done.call {r0 : Value} {w : World} {K : Value → World → Prop} (h : wire_Reader_Done.pt r0 w K) : Calls Tryz.prog F_wire_Reader_Done #[r0] w (retK K) :=
  calls_FN (args := [r0]) Tryz.func65 (by kernel_rfl) (by rw [wire_Reader_Done.pt_eq] at h; exact h)
theorem wire_Reader_Done.up {r0 : Value} {w : World} {K : Value → World → Prop} (h : Calls Tryz.prog F_wire_Reader_Done #[r0] w (retK K)) : upK Tryz.prog (sCall F_wire_Reader_Done #[r0]) w K :=
  up_call (fn := Tryz.f65) Tryz.func65 (by kernel_rfl) (by kernel_rfl) h

/-- maps.Clone[map[int]int,int,int] -/
def maps_Clone_map_int_int_int_int.pt (m0 : Value) (w : World) (K : Value → World → Prop) : Prop :=
  pureK Tryz.prog (sBin .eql T_map_int_int (.tmp 3) (.const (.map none)) m0 (.map none)) fun t4 =>
  ifB t4
  (K (.map none) w)
  (pureK Tryz.prog (sMkIface T_map_int_int m0) fun t6 =>
   upK Tryz.prog (sCall F_maps_clone #[t6]) w fun t7 w1 =>
   upK Tryz.prog (sTypeAssert t7 T_interface T_map_int_int false) w1 fun t8 w2 =>
   K t8 w2)
theorem maps_Clone_map_int_int_int_int.pt_eq : maps_Clone_map_int_int_int_int.pt = fun m0 w K => FN Tryz.prog Tryz.f66 (bodyOf Tryz.f66) [2] .leaf [m0] w K := by kernel_rfl
theorem maps_Clone_map_int_int_int_int.call {m0 : Value} {w : World} {K : Value → World → Prop} (h : maps_Clone_map_int_int_int_int.pt m0 w K) : Calls Tryz.prog F_maps_Clone_map_int_int_int_int #[m0] w (retK K) :=
  calls_FN (args := [m0]) Tryz.func66 (by kernel_rfl) (by rw [maps_Clone_map_int_int_int_int.pt_eq] at h; exact h)
theorem maps_Clone_map_int_int_int_int.up {m0 : Value} {w : World} {K : Value → World → Prop} (h : Calls Tryz.prog F_maps_Clone_map_int_int_int_int #[m0] w (retK K)) : upK Tryz.prog (sCall F_maps_Clone_map_int_int_int_int #[m0]) w K :=
  up_call (fn := Tryz.f66) Tryz.func66 (by kernel_rfl) (by kernel_rfl) h

/-- errata/errataref01.Open -/
def errataref01_Open.pt (s0 : Value) (w : World) (K : Value → World → Prop) : Prop :=
  pureK Tryz.prog (sBuild T_errataref01_Reader #[(0, s0)]) fun t4 =>
  upK Tryz.prog (sBox T_errataref01_Reader t4) w fun t5 w1 =>
  K t5 w1
theorem errataref01_Open.pt_eq : errataref01_Open.pt = fun s0 w K => FN Tryz.prog Tryz.f67 (bodyOf Tryz.f67) [2] .leaf [s0] w K := by kernel_rfl
theorem errataref01_Open.call {s0 : Value} {w : World} {K : Value → World → Prop} (h : errataref01_Open.pt s0 w K) : Calls Tryz.prog F_errataref01_Open #[s0] w (retK K) :=
  calls_FN (args := [s0]) Tryz.func67 (by kernel_rfl) (by rw [errataref01_Open.pt_eq] at h; exact h)
theorem errataref01_Open.up {s0 : Value} {w : World} {K : Value → World → Prop} (h : Calls Tryz.prog F_errataref01_Open #[s0] w (retK K)) : upK Tryz.prog (sCall F_errataref01_Open #[s0]) w K :=
  up_call (fn := Tryz.f67) Tryz.func67 (by kernel_rfl) (by kernel_rfl) h

/-- (*errata/errataref01.Reader).Int -/
def errataref01_Reader_Int.pt (r0 : Value) (w : World) (K : Value → World → Prop) : Prop :=
  upK Tryz.prog (sCall F_errataref01_Reader_ahead #[r0, (.int .u8 59)]) w fun t4 w1 =>
  K t4 w1
theorem errataref01_Reader_Int.pt_eq : errataref01_Reader_Int.pt = fun r0 w K => FN Tryz.prog Tryz.f68 (bodyOf Tryz.f68) [2] .leaf [r0] w K := by kernel_rfl
theorem errataref01_Reader_Int.call {r0 : Value} {w : World} {K : Value → World → Prop} (h : errataref01_Reader_Int.pt r0 w K) : Calls Tryz.prog F_errataref01_Reader_Int #[r0] w (retK K) :=
  calls_FN (args := [r0]) Tryz.func68 (by kernel_rfl) (by rw [errataref01_Reader_Int.pt_eq] at h; exact h)
theorem errataref01_Reader_Int.up {r0 : Value} {w : World} {K : Value → World → Prop} (h : Calls Tryz.prog F_errataref01_Reader_Int #[r0] w (retK K)) : upK Tryz.prog (sCall F_errataref01_Reader_Int #[r0]) w K :=
  up_call (fn := Tryz.f68) Tryz.func68 (by kernel_rfl) (by kernel_rfl) h

/-- errata/errataref10.Read -/
def errataref10_Read.pt (s0 : Value) (w : World) (K : Value → World → Prop) : Prop :=
  upK Tryz.prog (sCall F_errataref01_Open #[s0]) w fun t10 w1 =>
  upK Tryz.prog (sCall F_errataref01_Reader_Num #[t10]) w1 fun t12 w2 =>
  LETJ (X := Value × Unit) (fun jv1 w3 =>
   upK Tryz.prog (sCall F_errataref01_Reader_Done #[t10]) w3 fun t42 w4 =>
   pureK Tryz.prog (sUn .not t42) fun t43 =>
   ifB t43
   (K (.tuple #[(.slice none 0 0), (.bool false)]) w4)
   (upK Tryz.prog (sCall F_errataref10_Right #[jv1.1]) w4 fun t46 w5 =>
    pureK Tryz.prog (sUn .not t46) fun t47 =>
    ifB t47
    (K (.tuple #[(.slice none 0 0), (.bool false)]) w5)
    (upK Tryz.prog (sCall F_errataref10_Bytes #[jv1.1]) w5 fun t51 w6 =>
     pureK Tryz.prog (sBin .neq T_string (.tmp 51) (.tmp 52) t51 s0) fun t53 =>
     ifB t53
     (K (.tuple #[(.slice none 0 0), (.bool false)]) w6)
     (K (.tuple #[jv1.1, (.bool true)]) w6))))
  (fun J1 =>
   LOOP (X := Value × Value × Unit) (fun lv7 w7 next7 =>
    pureK Tryz.prog (sBin .lss T_int (.tmp 13) (.tmp 14) lv7.2.1 t12) fun t15 =>
    ifB t15
    (readK Tryz.prog (sBlt .len #[T_string] T_int #[false] #[s0]) w7 fun t19 =>
     pureK Tryz.prog (sBin .leq T_int (.tmp 17) (.tmp 19) lv7.2.1 t19) fun t20 =>
     ifB t20
     (pureK Tryz.prog (sBuild T_api_Producer #[]) fun t24 =>
      upK Tryz.prog (sAlloc T_api_Producer) w7 fun p8 w8 =>
      upK Tryz.prog (sStore T_api_Producer p8 t24) w8 fun tu w9 =>
      upK Tryz.prog (sCall F_errataref01_Reader_Int #[t10]) w9 fun t26 w10 =>
      pureK Tryz.prog (sFieldAddr T_api_Producer p8 0) fun t27 =>
      upK Tryz.prog (sStore T_int t27 t26) w10 fun tu_1 w11 =>
      upK Tryz.prog (sCall F_errataref01_Reader_Int #[t10]) w11 fun t29 w12 =>
      pureK Tryz.prog (sFieldAddr T_api_Producer p8 1) fun t30 =>
      upK Tryz.prog (sStore T_int t30 t29) w12 fun tu_2 w13 =>
      upK Tryz.prog (sCall F_errataref01_Reader_Int #[t10]) w13 fun t32 w14 =>
      pureK Tryz.prog (sFieldAddr T_api_Producer p8 2) fun t33 =>
      upK Tryz.prog (sStore T_int t33 t32) w14 fun tu_3 w15 =>
      upK Tryz.prog (sCall F_errataref01_Reader_Nums #[t10]) w15 fun t35 w16 =>
      pureK Tryz.prog (sFieldAddr T_api_Producer p8 3) fun t36 =>
      upK Tryz.prog (sStore T_s_int t36 t35) w16 fun tu_4 w17 =>
      readK Tryz.prog (sLoad T_api_Producer p8) w17 fun t38 =>
      upK Tryz.prog (sBuildSlice T_s_api_Producer 1 #[(0, t38)]) w17 fun t39 w18 =>
      upK Tryz.prog (sBlt .append #[T_s_api_Producer, T_s_api_Producer] T_s_api_Producer #[false, false] #[lv7.1, t39]) w18 fun t40 w19 =>
      pureK Tryz.prog (sBin .add T_int (.tmp 22) (.const (.int .i64 1)) lv7.2.1 (.int .i64 1)) fun t23 =>
      next7 (t40, t23, ()) w19)
     (J1 (lv7.1, ()) w7))
    (J1 (lv7.1, ()) w7))
   ((.slice none 0 0), (.int .i64 0), ()) w2)
theorem errataref10_Read.pt_eq : errataref10_Read.pt = fun s0 w K => FN Tryz.prog Tryz.f69 (bodyOf Tryz.f69) [2, 3] (.node none .leaf (.node none .leaf (.node none .leaf (.node none .leaf (.node (some [6]) .leaf .leaf))))) [s0] w K := by kernel_rfl
theorem errataref10_Read.call {s0 : Value} {w : World} {K : Value → World → Prop} (h : errataref10_Read.pt s0 w K) : Calls Tryz.prog F_errataref10_Read #[s0] w (retK K) :=
  calls_FN (args := [s0]) Tryz.func69 (by kernel_rfl) (by rw [errataref10_Read.pt_eq] at h; exact h)
theorem errataref10_Read.up {s0 : Value} {w : World} {K : Value → World → Prop} (h : Calls Tryz.prog F_errataref10_Read #[s0] w (retK K)) : upK Tryz.prog (sCall F_errataref10_Read #[s0]) w K :=
  up_call (fn := Tryz.f69) Tryz.func69 (by kernel_rfl) (by kernel_rfl) h

/-- (*errata/errataref01.Reader).Text -/
def errataref01_Reader_Text.pt (r0 : Value) (w : World) (K : Value → World → Prop) : Prop :=
  upK Tryz.prog (sCall F_errataref01_Reader_number #[r0, (.int .u8 58)]) w fun t6 w1 =>
  pureK Tryz.prog (sNil r0) fun t8 =>
  pureK Tryz.prog (sFieldAddr T_errataref01_Reader t8 1) fun t9 =>
  readK Tryz.prog (sLoad T_bool t9) w1 fun t10 =>
  ifB t10
  (upK Tryz.prog (sCall F_errataref01_Reader_fail #[r0]) w1 fun t21 w2 =>
   K (.string ⟨#[]⟩) w2)
  (pureK Tryz.prog (sNil r0) fun t14 =>
   pureK Tryz.prog (sFieldAddr T_errataref01_Reader t14 0) fun t15 =>
   readK Tryz.prog (sLoad T_string t15) w1 fun t16 =>
   readK Tryz.prog (sBlt .len #[T_string] T_int #[false] #[t16]) w1 fun t17 =>
   pureK Tryz.prog (sBin .geq T_int (.tmp 12) (.tmp 17) t6 t17) fun t18 =>
   ifB t18
   (upK Tryz.prog (sCall F_errataref01_Reader_fail #[r0]) w1 fun t21_1 w3 =>
    K (.string ⟨#[]⟩) w3)
   (pureK Tryz.prog (sNil r0) fun t23 =>
    pureK Tryz.prog (sFieldAddr T_errataref01_Reader t23 0) fun t24 =>
    readK Tryz.prog (sLoad T_string t24) w1 fun t25 =>
    pureK Tryz.prog (sSlice T_string t25 none (some t6) none) fun t27 =>
    pureK Tryz.prog (sNil r0) fun t30 =>
    pureK Tryz.prog (sFieldAddr T_errataref01_Reader t30 0) fun t31 =>
    readK Tryz.prog (sLoad T_string t31) w1 fun t32 =>
    pureK Tryz.prog (sSlice T_string t32 (some t6) none none) fun t34 =>
    pureK Tryz.prog (sNil r0) fun t35 =>
    pureK Tryz.prog (sFieldAddr T_errataref01_Reader t35 0) fun t36 =>
    upK Tryz.prog (sStore T_string t36 t34) w1 fun tu w4 =>
    upK Tryz.prog (sCall F_errataref01_Reader_close #[r0, (.int .u8 44)]) w4 fun t38 w5 =>
    pureK Tryz.prog (sUn .not t38) fun t39 =>
    ifB t39
    (K (.string ⟨#[]⟩) w5)
    (K t27 w5)))
theorem errataref01_Reader_Text.pt_eq : errataref01_Reader_Text.pt = fun r0 w K => FN Tryz.prog Tryz.f70 (bodyOf Tryz.f70) [2] .leaf [r0] w K := by kernel_rfl
theorem errataref01_Reader_Text.call {r0 : Value} {w : World} {K : Value → World → Prop} (h : errataref01_Reader_Text.pt r0 w K) : Calls Tryz.prog F_errataref01_Reader_Text #[r0] w (retK K) :=
  calls_FN (args := [r0]) Tryz.func70 (by kernel_rfl) (by rw [errataref01_Reader_Text.pt_eq] at h; exact h)
theorem errataref01_Reader_Text.up {r0 : Value} {w : World} {K : Value → World → Prop} (h : Calls Tryz.prog F_errataref01_Reader_Text #[r0] w (retK K)) : upK Tryz.prog (sCall F_errataref01_Reader_Text #[r0]) w K :=
  up_call (fn := Tryz.f70) Tryz.func70 (by kernel_rfl) (by kernel_rfl) h

/-- (*errata/errataref01.Reader).Num -/
def errataref01_Reader_Num.pt (r0 : Value) (w : World) (K : Value → World → Prop) : Prop :=
  upK Tryz.prog (sCall F_errataref01_Reader_number #[r0, (.int .u8 59)]) w fun t4 w1 =>
  K t4 w1
theorem errataref01_Reader_Num.pt_eq : errataref01_Reader_Num.pt = fun r0 w K => FN Tryz.prog Tryz.f71 (bodyOf Tryz.f71) [2] .leaf [r0] w K := by kernel_rfl
theorem errataref01_Reader_Num.call {r0 : Value} {w : World} {K : Value → World → Prop} (h : errataref01_Reader_Num.pt r0 w K) : Calls Tryz.prog F_errataref01_Reader_Num #[r0] w (retK K) :=
  calls_FN (args := [r0]) Tryz.func71 (by kernel_rfl) (by rw [errataref01_Reader_Num.pt_eq] at h; exact h)
theorem errataref01_Reader_Num.up {r0 : Value} {w : World} {K : Value → World → Prop} (h : Calls Tryz.prog F_errataref01_Reader_Num #[r0] w (retK K)) : upK Tryz.prog (sCall F_errataref01_Reader_Num #[r0]) w K :=
  up_call (fn := Tryz.f71) Tryz.func71 (by kernel_rfl) (by kernel_rfl) h

/-- (*errata/errataref01.Reader).Left -/
def errataref01_Reader_Left.pt (r0 : Value) (w : World) (K : Value → World → Prop) : Prop :=
  pureK Tryz.prog (sNil r0) fun t4 =>
  pureK Tryz.prog (sFieldAddr T_errataref01_Reader t4 0) fun t5 =>
  readK Tryz.prog (sLoad T_string t5) w fun t6 =>
  readK Tryz.prog (sBlt .len #[T_string] T_int #[false] #[t6]) w fun t7 =>
  K t7 w
theorem errataref01_Reader_Left.pt_eq : errataref01_Reader_Left.pt = fun r0 w K => FN Tryz.prog Tryz.f72 (bodyOf Tryz.f72) [2] .leaf [r0] w K := by kernel_rfl
theorem errataref01_Reader_Left.call {r0 : Value} {w : World} {K : Value → World → Prop} (h : errataref01_Reader_Left.pt r0 w K) : Calls Tryz.prog F_errataref01_Reader_Left #[r0] w (retK K) :=
  calls_FN (args := [r0]) Tryz.func72 (by kernel_rfl) (by rw [errataref01_Reader_Left.pt_eq] at h; exact h)
theorem errataref01_Reader_Left.up {r0 : Value} {w : World} {K : Value → World → Prop} (h : Calls Tryz.prog F_errataref01_Reader_Left #[r0] w (retK K)) : upK Tryz.prog (sCall F_errataref01_Reader_Left #[r0]) w K :=
  up_call (fn := Tryz.f72) Tryz.func72 (by kernel_rfl) (by kernel_rfl) h

/-- (*errata/errataref01.Reader).Done -/
def errataref01_Reader_Done.pt (r0 : Value) (w : World) (K : Value → World → Prop) : Prop :=
  pureK Tryz.prog (sNil r0) fun t4 =>
  pureK Tryz.prog (sFieldAddr T_errataref01_Reader t4 1) fun t5 =>
  readK Tryz.prog (sLoad T_bool t5) w fun t6 =>
  pureK Tryz.prog (sUn .not t6) fun t7 =>
  ifB t7
  (pureK Tryz.prog (sNil r0) fun t10 =>
   pureK Tryz.prog (sFieldAddr T_errataref01_Reader t10 0) fun t11 =>
   readK Tryz.prog (sLoad T_string t11) w fun t12 =>
   pureK Tryz.prog (sBin .eql T_string (.tmp 12) (.const (.string ⟨#[]⟩)) t12 (.string ⟨#[]⟩)) fun t13 =>
   K t13 w)
  (K (.bool false) w)
theorem errataref01_Reader_Done.pt_eq : errataref01_Reader_Done.pt = fun r0 w K => FN Tryz.prog Tryz.f73 (bodyOf Tryz.f73) [2] .leaf [r0] w K := by kernel_rfl
theorem errataref01_Reader_Done.call {r0 : Value} {w : World} {K : Value → World → Prop} (h : errataref01_Reader_Done.pt r0 w K) : Calls Tryz.prog F_errataref01_Reader_Done #[r0] w (retK K) :=
  calls_FN (args := [r0]) Tryz.func73 (by kernel_rfl) (by rw [errataref01_Reader_Done.pt_eq] at h; exact h)
theorem errataref01_Reader_Done.up {r0 : Value} {w : World} {K : Value → World → Prop} (h : Calls Tryz.prog F_errataref01_Reader_Done #[r0] w (retK K)) : upK Tryz.prog (sCall F_errataref01_Reader_Done #[r0]) w K :=
  up_call (fn := Tryz.f73) Tryz.func73 (by kernel_rfl) (by kernel_rfl) h

/-- (*strings.Builder).WriteString -/
def strings_Builder_WriteString.pt (b0 s1 : Value) (w : World) (K : Value → World → Prop) : Prop :=
  upK Tryz.prog (sCall F_strings_Builder_copyCheck #[b0]) w fun t7 w1 =>
  pureK Tryz.prog (sNil b0) fun t10 =>
  pureK Tryz.prog (sFieldAddr T_strings_Builder t10 1) fun t11 =>
  readK Tryz.prog (sLoad T_s_uint8 t11) w1 fun t12 =>
  upK Tryz.prog (sBlt .append #[T_s_uint8, T_string] T_s_uint8 #[false, false] #[t12, s1]) w1 fun t14 w2 =>
  pureK Tryz.prog (sNil b0) fun t15 =>
  pureK Tryz.prog (sFieldAddr T_strings_Builder t15 1) fun t16 =>
  upK Tryz.prog (sStore T_s_uint8 t16 t14) w2 fun tu w3 =>
  readK Tryz.prog (sBlt .len #[T_string] T_int #[false] #[s1]) w3 fun t18 =>
  K (.tuple #[t18, .nilIface]) w3
theorem strings_Builder_WriteString.pt_eq : strings_Builder_WriteString.pt = fun b0 s1 w K => FN Tryz.prog Tryz.f74 (bodyOf Tryz.f74) [4, 5] .leaf [b0, s1] w K := by kernel_rfl
theorem strings_Builder_WriteString.call {b0 s1 : Value} {w : World} {K : Value → World → Prop} (h : strings_Builder_WriteString.pt b0 s1 w K) : Calls Tryz.prog F_strings_Builder_WriteString #[b0, s1] w (retK K) :=
  calls_FN (args := [b0, s1]) Tryz.func74 (by kernel_rfl) (by rw [strings_Builder_WriteString.pt_eq] at h; exact h)
theorem strings_Builder_WriteString.up {b0 s1 : Value} {w : World} {K : Value → World → Prop} (h : Calls Tryz.prog F_strings_Builder_WriteString #[b0, s1] w (retK K)) : upK Tryz.prog (sCall F_strings_Builder_WriteString #[b0, s1]) w K :=
  up_call (fn := Tryz.f74) Tryz.func74 (by kernel_rfl) (by kernel_rfl) h

/-- errata/wire.Nums -/
def wire_Nums.pt (l0 : Value) (w : World) (K : Value → World → Prop) : Prop :=
  upK Tryz.prog (sCall F_wire_list_int #[l0, (.func (.func 48) #[] #[])]) w fun t4 w1 =>
  K t4 w1
theorem wire_Nums.pt_eq : wire_Nums.pt = fun l0 w K => FN Tryz.prog Tryz.f75 (bodyOf Tryz.f75) [2] .leaf [l0] w K := by kernel_rfl
theorem wire_Nums.call {l0 : Value} {w : World} {K : Value → World → Prop} (h : wire_Nums.pt l0 w K) : Calls Tryz.prog F_wire_Nums #[l0] w (retK K) :=
  calls_FN (args := [l0]) Tryz.func75 (by kernel_rfl) (by rw [wire_Nums.pt_eq] at h; exact h)
theorem wire_Nums.up {l0 : Value} {w : World} {K : Value → World → Prop} (h : Calls Tryz.prog F_wire_Nums #[l0] w (retK K)) : upK Tryz.prog (sCall F_wire_Nums #[l0]) w K :=
  up_call (fn := Tryz.f75) Tryz.func75 (by kernel_rfl) (by kernel_rfl) h

/-- (*strings.Builder).String -/
theorem strings_Builder_String.up {p0 : Value} {w : World} {K : Value → World → Prop} (h : Calls Tryz.prog F_strings_Builder_String #[p0] w (retK K)) : upK Tryz.prog (sCall F_strings_Builder_String #[p0]) w K :=
  up_call (fn := Tryz.f76) Tryz.func76 (by kernel_rfl) (by kernel_rfl) h

/-- errata/producer.Look -/
def producer_Look.pt (s0 e1 : Value) (w : World) (K : Value → World → Prop) : Prop :=
  upK Tryz.prog (sBox T_api_Entry e1) w fun e3 w1 =>
  pureK Tryz.prog (sFieldAddr T_api_Entry e3 1) fun t11 =>
  readK Tryz.prog (sLoad T_int t11) w1 fun t12 =>
  pureK Tryz.prog (sFieldAddr T_api_Entry e3 2) fun t13 =>
  readK Tryz.prog (sLoad T_int t13) w1 fun t14 =>
  pureK Tryz.prog (sFieldAddr T_api_Entry e3 3) fun t15 =>
  readK Tryz.prog (sLoad T_int t15) w1 fun t16 =>
  upK Tryz.prog (sBuildSlice T_s_int 3 #[(0, t12), (1, t14), (2, t16)]) w1 fun t17 w2 =>
  readK Tryz.prog (sBlt .len #[T_s_int] T_int #[false] #[t17]) w2 fun t18 =>
  LOOP (X := Value × Unit) (fun lv3 w3 next3 =>
   pureK Tryz.prog (sBin .lss T_int (.tmp 19) (.tmp 18) lv3.1 t18) fun t20 =>
   ifB t20
   (pureK Tryz.prog (sIdxAddr T_s_int t17 lv3.1) fun t21 =>
    readK Tryz.prog (sLoad T_int t21) w3 fun t22 =>
    upK Tryz.prog (sCall F_producer_in #[t22]) w3 fun t24 w4 =>
    pureK Tryz.prog (sUn .not t24) fun t25 =>
    ifB t25
    (K (.tuple #[(.int .i64 0), (.int .i64 1)]) w4)
    (pureK Tryz.prog (sBin .eql T_int (.tmp 27) (.const (.int .i64 1099511627776)) t22 (.int .i64 1099511627776)) fun t28 =>
     ifB t28
     (K (.tuple #[(.int .i64 0), (.int .i64 1)]) w4)
     (pureK Tryz.prog (sBin .add T_int (.tmp 19) (.const (.int .i64 1)) lv3.1 (.int .i64 1)) fun t30 =>
      next3 (t30, ()) w4)))
   (pureK Tryz.prog (sFieldAddr T_api_Entry e3 1) fun t33 =>
    readK Tryz.prog (sLoad T_int t33) w3 fun t34 =>
    upK Tryz.prog (sCall F_producer_find #[s0, t34]) w3 fun t35 w5 =>
    pureK Tryz.prog (sExtract t35 0) fun t36 =>
    pureK Tryz.prog (sExtract t35 1) fun t37 =>
    upK Tryz.prog (sAlloc T_api_Producer) w5 fun p8 w6 =>
    upK Tryz.prog (sStore T_api_Producer p8 t36) w6 fun tu w7 =>
    LETJ (X := Unit) (fun jv1 w8 =>
     pureK Tryz.prog (sFieldAddr T_api_Producer p8 3) fun t70 =>
     readK Tryz.prog (sLoad T_s_int t70) w8 fun t71 =>
     readK Tryz.prog (sBlt .len #[T_s_int] T_int #[false] #[t71]) w8 fun t72 =>
     pureK Tryz.prog (sFieldAddr T_api_Producer p8 2) fun t73 =>
     readK Tryz.prog (sLoad T_int t73) w8 fun t74 =>
     pureK Tryz.prog (sFieldAddr T_api_Entry e3 3) fun t75 =>
     readK Tryz.prog (sLoad T_int t75) w8 fun t76 =>
     pureK Tryz.prog (sBin .sub T_int (.tmp 74) (.tmp 76) t74 t76) fun t77 =>
     pureK Tryz.prog (sBin .sub T_int (.tmp 72) (.tmp 77) t72 t77) fun t78 =>
     pureK Tryz.prog (sBin .geq T_int (.tmp 79) (.const (.int .i64 0)) t78 (.int .i64 0)) fun t80 =>
     ifB t80
     (pureK Tryz.prog (sFieldAddr T_api_Producer p8 3) fun t81 =>
      readK Tryz.prog (sLoad T_s_int t81) w8 fun t82 =>
      pureK Tryz.prog (sIdxAddr T_s_int t82 t78) fun t84 =>
      readK Tryz.prog (sLoad T_int t84) w8 fun t85 =>
      K (.tuple #[t85, (.int .i64 5)]) w8)
     (K (.tuple #[(.int .i64 (-1)), (.int .i64 5)]) w8))
    (fun J1 =>
     pureK Tryz.prog (sFieldAddr T_api_Entry e3 2) fun t39 =>
     readK Tryz.prog (sLoad T_int t39) w7 fun t40 =>
     pureK Tryz.prog (sFieldAddr T_api_Producer p8 1) fun t41 =>
     readK Tryz.prog (sLoad T_int t41) w7 fun t42 =>
     pureK Tryz.prog (sBin .lss T_int (.tmp 40) (.tmp 42) t40 t42) fun t43 =>
     ifB t43
     (K (.tuple #[(.int .i64 0), (.int .i64 18)]) w7)
     (pureK Tryz.prog (sFieldAddr T_api_Entry e3 2) fun t45 =>
      readK Tryz.prog (sLoad T_int t45) w7 fun t46 =>
      pureK Tryz.prog (sFieldAddr T_api_Producer p8 1) fun t47 =>
      readK Tryz.prog (sLoad T_int t47) w7 fun t48 =>
      pureK Tryz.prog (sBin .gtr T_int (.tmp 46) (.tmp 48) t46 t48) fun t49 =>
      ifB t49
      (K (.tuple #[(.int .i64 0), (.int .i64 25)]) w7)
      (pureK Tryz.prog (sFieldAddr T_api_Entry e3 3) fun t51 =>
       readK Tryz.prog (sLoad T_int t51) w7 fun t52 =>
       pureK Tryz.prog (sFieldAddr T_api_Producer p8 2) fun t53 =>
       readK Tryz.prog (sLoad T_int t53) w7 fun t54 =>
       pureK Tryz.prog (sBin .gtr T_int (.tmp 52) (.tmp 54) t52 t54) fun t55 =>
       ifB t55
       (K (.tuple #[(.int .i64 0), (.int .i64 19)]) w7)
       (pureK Tryz.prog (sUn .not t37) fun t58 =>
        ifB t58
        (readK Tryz.prog (sBlt .len #[T_s_api_Producer] T_int #[false] #[s0]) w7 fun t61 =>
         pureK Tryz.prog (sBin .geq T_int (.tmp 61) (.const (.int .i64 50)) t61 (.int .i64 50)) fun t62 =>
         ifB t62
         (K (.tuple #[(.int .i64 0), (.int .i64 6)]) w7)
         (pureK Tryz.prog (sFieldAddr T_api_Entry e3 3) fun t65 =>
          readK Tryz.prog (sLoad T_int t65) w7 fun t66 =>
          pureK Tryz.prog (sFieldAddr T_api_Producer p8 2) fun t67 =>
          readK Tryz.prog (sLoad T_int t67) w7 fun t68 =>
          pureK Tryz.prog (sBin .eql T_int (.tmp 66) (.tmp 68) t66 t68) fun t69 =>
          ifB t69
          (K (.tuple #[(.int .i64 0), (.int .i64 0)]) w7)
          (J1 (()) w7)))
        (pureK Tryz.prog (sFieldAddr T_api_Entry e3 3) fun t65_1 =>
         readK Tryz.prog (sLoad T_int t65_1) w7 fun t66_1 =>
         pureK Tryz.prog (sFieldAddr T_api_Producer p8 2) fun t67_1 =>
         readK Tryz.prog (sLoad T_int t67_1) w7 fun t68_1 =>
         pureK Tryz.prog (sBin .eql T_int (.tmp 66) (.tmp 68) t66_1 t68_1) fun t69_1 =>
         ifB t69_1
         (K (.tuple #[(.int .i64 0), (.int .i64 0)]) w7)
         (J1 (()) w7))))))))
  ((.int .i64 0), ()) w2
theorem producer_Look.pt_eq : producer_Look.pt = fun s0 e1 w K => FN Tryz.prog Tryz.f77 (bodyOf Tryz.f77) [4, 5] (.node none .leaf (.node none .leaf (.node none .leaf (.node (some []) .leaf .leaf)))) [s0, e1] w K := by kernel_rfl
theorem producer_Look.call {s0 e1 : Value} {w : World} {K : Value → World → Prop} (h : producer_Look.pt s0 e1 w K) : Calls Tryz.prog F_producer_Look #[s0, e1] w (retK K) :=
  calls_FN (args := [s0, e1]) Tryz.func77 (by kernel_rfl) (by rw [producer_Look.pt_eq] at h; exact h)
theorem producer_Look.up {s0 e1 : Value} {w : World} {K : Value → World → Prop} (h : Calls Tryz.prog F_producer_Look #[s0, e1] w (retK K)) : upK Tryz.prog (sCall F_producer_Look #[s0, e1]) w K :=
  up_call (fn := Tryz.f77) Tryz.func77 (by kernel_rfl) (by kernel_rfl) h

/-- (*errata/intake.Intake).fits -/
def intake_Intake_fits.pt (x0 e1 : Value) (w : World) (K : Value → World → Prop) : Prop :=
  upK Tryz.prog (sBox T_api_Entry e1) w fun e3 w1 =>
  pureK Tryz.prog (sNil x0) fun t8 =>
  pureK Tryz.prog (sFieldAddr T_intake_Intake t8 1) fun t9 =>
  readK Tryz.prog (sLoad T_s_api_Known t9) w1 fun t10 =>
  pureK Tryz.prog (sMkFunc (.func F_intake_Intake_fits_1) #[] #[e3]) fun t11 =>
  upK Tryz.prog (sCall F_slices_IndexFunc_s_api_Known_api_Known #[t10, t11]) w1 fun t12 w2 =>
  pureK Tryz.prog (sBin .lss T_int (.tmp 13) (.const (.int .i64 0)) t12 (.int .i64 0)) fun t14 =>
  ifB t14
  (K (.int .i64 17) w2)
  (pureK Tryz.prog (sFieldAddr T_api_Entry e3 7) fun t15 =>
   readK Tryz.prog (sLoad T_s_api_Value t15) (tick w2) fun t16 =>
   pureK Tryz.prog (sNil x0) fun t18 =>
   pureK Tryz.prog (sFieldAddr T_intake_Intake t18 1) fun t19 =>
   readK Tryz.prog (sLoad T_s_api_Known t19) (tick w2) fun t20 =>
   pureK Tryz.prog (sIdxAddr T_s_api_Known t20 t12) fun t22 =>
   pureK Tryz.prog (sFieldAddr T_api_Known t22 2) fun t23 =>
   readK Tryz.prog (sLoad T_s_api_Col t23) (tick w2) fun t24 =>
   upK Tryz.prog (sCall F_slices_EqualFunc_s_api_Value_s_api_Col_api_Value_api_Col #[t16, t24, (.func (.func 114) #[] #[])]) (tick w2) fun t25 w3 =>
   pureK Tryz.prog (sUn .not t25) fun t27 =>
   ifB t27
   (K (.int .i64 16) w3)
   (pureK Tryz.prog (sFieldAddr T_api_Entry e3 7) fun t29 =>
    readK Tryz.prog (sLoad T_s_api_Value t29) w3 fun t30 =>
    upK Tryz.prog (sCall F_value_RightRow #[t30]) w3 fun t31 w4 =>
    pureK Tryz.prog (sUn .not t31) fun t32 =>
    ifB t32
    (K (.int .i64 16) w4)
    (K (.int .i64 0) w4)))
theorem intake_Intake_fits.pt_eq : intake_Intake_fits.pt = fun x0 e1 w K => FN Tryz.prog Tryz.f78 (bodyOf Tryz.f78) [4] .leaf [x0, e1] w K := by kernel_rfl
theorem intake_Intake_fits.call {x0 e1 : Value} {w : World} {K : Value → World → Prop} (h : intake_Intake_fits.pt x0 e1 w K) : Calls Tryz.prog F_intake_Intake_fits #[x0, e1] w (retK K) :=
  calls_FN (args := [x0, e1]) Tryz.func78 (by kernel_rfl) (by rw [intake_Intake_fits.pt_eq] at h; exact h)
theorem intake_Intake_fits.up {x0 e1 : Value} {w : World} {K : Value → World → Prop} (h : Calls Tryz.prog F_intake_Intake_fits #[x0, e1] w (retK K)) : upK Tryz.prog (sCall F_intake_Intake_fits #[x0, e1]) w K :=
  up_call (fn := Tryz.f78) Tryz.func78 (by kernel_rfl) (by kernel_rfl) h

/-- errata/producer.Put -/
def producer_Put.pt (s0 e1 pos2 : Value) (w : World) (K : Value → World → Prop) : Prop :=
  upK Tryz.prog (sBox T_api_Entry e1) w fun e4 w1 =>
  pureK Tryz.prog (sFieldAddr T_api_Entry e4 1) fun t13 =>
  readK Tryz.prog (sLoad T_int t13) w1 fun t14 =>
  upK Tryz.prog (sCall F_producer_find #[s0, t14]) w1 fun t15 w2 =>
  pureK Tryz.prog (sExtract t15 0) fun t16 =>
  pureK Tryz.prog (sExtract t15 1) fun t17 =>
  upK Tryz.prog (sAlloc T_api_Producer) w2 fun p7 w3 =>
  upK Tryz.prog (sStore T_api_Producer p7 t16) w3 fun tu w4 =>
  LETJ (X := Unit) (fun jv1 w5 =>
   pureK Tryz.prog (sFieldAddr T_api_Producer p7 2) fun t51 =>
   readK Tryz.prog (sLoad T_int t51) w5 fun t52 =>
   pureK Tryz.prog (sBin .add T_int (.tmp 52) (.const (.int .i64 1)) t52 (.int .i64 1)) fun t53 =>
   pureK Tryz.prog (sFieldAddr T_api_Producer p7 2) fun t54 =>
   upK Tryz.prog (sStore T_int t54 t53) w5 fun tu_1 w6 =>
   pureK Tryz.prog (sFieldAddr T_api_Producer p7 3) fun t55 =>
   readK Tryz.prog (sLoad T_s_int t55) w6 fun t56 =>
   upK Tryz.prog (sCall F_slices_Clone_s_int_int #[t56]) w6 fun t57 w7 =>
   upK Tryz.prog (sBuildSlice T_s_int 1 #[(0, pos2)]) w7 fun t59 w8 =>
   upK Tryz.prog (sBlt .append #[T_s_int, T_s_int] T_s_int #[false, false] #[t57, t59]) w8 fun t60 w9 =>
   pureK Tryz.prog (sFieldAddr T_api_Producer p7 3) fun t61 =>
   upK Tryz.prog (sStore T_s_int t61 t60) w9 fun tu_2 w10 =>
   pureK Tryz.prog (sFieldAddr T_api_Producer p7 3) fun t62 =>
   readK Tryz.prog (sLoad T_s_int t62) w10 fun t63 =>
   pureK Tryz.prog (sFieldAddr T_api_Producer p7 3) fun t64 =>
   readK Tryz.prog (sLoad T_s_int t64) w10 fun t65 =>
   readK Tryz.prog (sBlt .len #[T_s_int] T_int #[false] #[t65]) w10 fun t66 =>
   pureK Tryz.prog (sBin .sub T_int (.tmp 66) (.const (.int .i64 20)) t66 (.int .i64 20)) fun t67 =>
   pureK Tryz.prog (sBlt .max #[T_int, T_int] T_int #[false, true] #[t67, (.int .i64 0)]) fun t68 =>
   pureK Tryz.prog (sSlice T_s_int t63 (some t68) none none) fun t69 =>
   pureK Tryz.prog (sFieldAddr T_api_Producer p7 3) fun t70 =>
   upK Tryz.prog (sStore T_s_int t70 t69) w10 fun tu_3 w11 =>
   readK Tryz.prog (sLoad T_api_Producer p7) w11 fun t72 =>
   upK Tryz.prog (sCall F_producer_with #[s0, t72]) w11 fun t73 w12 =>
   K t73 w12)
  (fun J1 =>
   readK Tryz.prog (sLoad T_api_Entry e4) w4 fun t20 =>
   upK Tryz.prog (sCall F_producer_Look #[s0, t20]) w4 fun t21 w13 =>
   pureK Tryz.prog (sExtract t21 0) fun t22 =>
   pureK Tryz.prog (sExtract t21 1) fun t23 =>
   pureK Tryz.prog (sBin .neq T_api_Errno (.tmp 24) (.const (.int .i64 0)) t23 (.int .i64 0)) fun t25 =>
   ifB t25
   (upK Tryz.prog (sCall F_producer_clone #[s0]) w13 fun t50 w14 =>
    K t50 w14)
   (upK Tryz.prog (sCall F_producer_in #[pos2]) w13 fun t28 w15 =>
    pureK Tryz.prog (sUn .not t28) fun t29 =>
    ifB t29
    (upK Tryz.prog (sCall F_producer_clone #[s0]) w15 fun t50_1 w16 =>
     K t50_1 w16)
    (pureK Tryz.prog (sFieldAddr T_api_Producer p7 3) fun t32 =>
     readK Tryz.prog (sLoad T_s_int t32) w15 fun t33 =>
     readK Tryz.prog (sBlt .len #[T_s_int] T_int #[false] #[t33]) w15 fun t34 =>
     pureK Tryz.prog (sBin .gtr T_int (.tmp 34) (.const (.int .i64 0)) t34 (.int .i64 0)) fun t35 =>
     ifB t35
     (pureK Tryz.prog (sFieldAddr T_api_Producer p7 3) fun t38 =>
      readK Tryz.prog (sLoad T_s_int t38) w15 fun t39 =>
      pureK Tryz.prog (sFieldAddr T_api_Producer p7 3) fun t40 =>
      readK Tryz.prog (sLoad T_s_int t40) w15 fun t41 =>
      readK Tryz.prog (sBlt .len #[T_s_int] T_int #[false] #[t41]) w15 fun t42 =>
      pureK Tryz.prog (sBin .sub T_int (.tmp 42) (.const (.int .i64 1)) t42 (.int .i64 1)) fun t43 =>
      pureK Tryz.prog (sIdxAddr T_s_int t39 t43) fun t44 =>
      readK Tryz.prog (sLoad T_int t44) w15 fun t45 =>
      pureK Tryz.prog (sBin .leq T_int (.tmp 37) (.tmp 45) pos2 t45) fun t46 =>
      ifB t46
      (upK Tryz.prog (sCall F_producer_clone #[s0]) w15 fun t50_2 w17 =>
       K t50_2 w17)
      (J1 (()) w15))
     (J1 (()) w15))))
theorem producer_Put.pt_eq : producer_Put.pt = fun s0 e1 pos2 w K => FN Tryz.prog Tryz.f79 (bodyOf Tryz.f79) [6] (.node none .leaf (.node none .leaf (.node (some []) .leaf .leaf))) [s0, e1, pos2] w K := by kernel_rfl
theorem producer_Put.call {s0 e1 pos2 : Value} {w : World} {K : Value → World → Prop} (h : producer_Put.pt s0 e1 pos2 w K) : Calls Tryz.prog F_producer_Put #[s0, e1, pos2] w (retK K) :=
  calls_FN (args := [s0, e1, pos2]) Tryz.func79 (by kernel_rfl) (by rw [producer_Put.pt_eq] at h; exact h)
theorem producer_Put.up {s0 e1 pos2 : Value} {w : World} {K : Value → World → Prop} (h : Calls Tryz.prog F_producer_Put #[s0, e1, pos2] w (retK K)) : upK Tryz.prog (sCall F_producer_Put #[s0, e1, pos2]) w K :=
  up_call (fn := Tryz.f79) Tryz.func79 (by kernel_rfl) (by kernel_rfl) h

/-- errata/producer.find -/
def producer_find.pt (s0 id1 : Value) (w : World) (K : Value → World → Prop) : Prop :=
  upK Tryz.prog (sBox T_int id1) w fun id3 w1 =>
  upK Tryz.prog (sAlloc T_api_Producer) w1 fun t4 w2 =>
  pureK Tryz.prog (sMkFunc (.func F_producer_find_1) #[] #[id3]) fun t8 =>
  upK Tryz.prog (sCall F_slices_IndexFunc_s_api_Producer_api_Producer #[s0, t8]) w2 fun t9 w3 =>
  pureK Tryz.prog (sBin .lss T_int (.tmp 10) (.const (.int .i64 0)) t9 (.int .i64 0)) fun t11 =>
  ifB t11
  (readK Tryz.prog (sLoad T_int id3) w3 fun t12 =>
   pureK Tryz.prog (sBuild T_api_Producer #[(0, t12)]) fun t13 =>
   upK Tryz.prog (sStore T_api_Producer t4 t13) w3 fun tu w4 =>
   readV Tryz.prog (do loadVar T_api_Producer (← asAddr t4)) w4 fun t4_1 =>
   K (.tuple #[t4_1, (.bool false)]) w4)
  (pureK Tryz.prog (sIdxAddr T_s_api_Producer s0 t9) fun t16 =>
   readK Tryz.prog (sLoad T_api_Producer t16) w3 fun t17 =>
   upK Tryz.prog (sStore T_api_Producer t4 t17) w3 fun tu_1 w5 =>
   readV Tryz.prog (do loadVar T_api_Producer (← asAddr t4)) w5 fun t4_2 =>
   K (.tuple #[t4_2, (.bool true)]) w5)
theorem producer_find.pt_eq : producer_find.pt = fun s0 id1 w K => FN Tryz.prog Tryz.f80 (bodyOf Tryz.f80) [5] .leaf [s0, id1] w K := by kernel_rfl
theorem producer_find.call {s0 id1 : Value} {w : World} {K : Value → World → Prop} (h : producer_find.pt s0 id1 w K) : Calls Tryz.prog F_producer_find #[s0, id1] w (retK K) :=
  calls_FN (args := [s0, id1]) Tryz.func80 (by kernel_rfl) (by rw [producer_find.pt_eq] at h; exact h)
theorem producer_find.up {s0 id1 : Value} {w : World} {K : Value → World → Prop} (h : Calls Tryz.prog F_producer_find #[s0, id1] w (retK K)) : upK Tryz.prog (sCall F_producer_find #[s0, id1]) w K :=
  up_call (fn := Tryz.f80) Tryz.func80 (by kernel_rfl) (by kernel_rfl) h

/-- errata/producer.in -/
def producer_in.pt (n0 : Value) (w : World) (K : Value → World → Prop) : Prop :=
  pureK Tryz.prog (sBin .geq T_int (.tmp 3) (.const (.int .i64 0)) n0 (.int .i64 0)) fun t4 =>
  ifB t4
  (pureK Tryz.prog (sBin .leq T_int (.tmp 6) (.const (.int .i64 1099511627776)) n0 (.int .i64 1099511627776)) fun t7 =>
   K t7 w)
  (K (.bool false) w)
theorem producer_in.pt_eq : producer_in.pt = fun n0 w K => FN Tryz.prog Tryz.f81 (bodyOf Tryz.f81) [2] .leaf [n0] w K := by kernel_rfl
theorem producer_in.call {n0 : Value} {w : World} {K : Value → World → Prop} (h : producer_in.pt n0 w K) : Calls Tryz.prog F_producer_in #[n0] w (retK K) :=
  calls_FN (args := [n0]) Tryz.func81 (by kernel_rfl) (by rw [producer_in.pt_eq] at h; exact h)
theorem producer_in.up {n0 : Value} {w : World} {K : Value → World → Prop} (h : Calls Tryz.prog F_producer_in #[n0] w (retK K)) : upK Tryz.prog (sCall F_producer_in #[n0]) w K :=
  up_call (fn := Tryz.f81) Tryz.func81 (by kernel_rfl) (by kernel_rfl) h

/-- errata/producer.with -/
def producer_with.pt (s0 p1 : Value) (w : World) (K : Value → World → Prop) : Prop :=
  upK Tryz.prog (sBox T_api_Producer p1) w fun p3 w1 =>
  upK Tryz.prog (sCall F_producer_clone #[s0]) w1 fun t9 w2 =>
  pureK Tryz.prog (sFieldAddr T_api_Producer p3 0) fun t12 =>
  readK Tryz.prog (sLoad T_int t12) w2 fun t13 =>
  upK Tryz.prog (sCall F_slices_BinarySearchFunc_s_api_Producer_api_Producer_int #[t9, t13, (.func (.func 120) #[] #[])]) w2 fun t14 w3 =>
  pureK Tryz.prog (sExtract t14 0) fun t15 =>
  pureK Tryz.prog (sExtract t14 1) fun t16 =>
  ifB t16
  (readK Tryz.prog (sLoad T_api_Producer p3) w3 fun t20 =>
   pureK Tryz.prog (sIdxAddr T_s_api_Producer t9 t15) fun t21 =>
   upK Tryz.prog (sStore T_api_Producer t21 t20) w3 fun tu w4 =>
   K t9 w4)
  (readK Tryz.prog (sLoad T_api_Producer p3) w3 fun t25 =>
   upK Tryz.prog (sBuildSlice T_s_api_Producer 1 #[(0, t25)]) w3 fun t26 w5 =>
   upK Tryz.prog (sCall F_slices_Insert_s_api_Producer_api_Producer #[t9, t15, t26]) w5 fun t27 w6 =>
   K t27 w6)
theorem producer_with.pt_eq : producer_with.pt = fun s0 p1 w K => FN Tryz.prog Tryz.f82 (bodyOf Tryz.f82) [4] .leaf [s0, p1] w K := by kernel_rfl
theorem producer_with.call {s0 p1 : Value} {w : World} {K : Value → World → Prop} (h : producer_with.pt s0 p1 w K) : Calls Tryz.prog F_producer_with #[s0, p1] w (retK K) :=
  calls_FN (args := [s0, p1]) Tryz.func82 (by kernel_rfl) (by rw [producer_with.pt_eq] at h; exact h)
theorem producer_with.up {s0 p1 : Value} {w : World} {K : Value → World → Prop} (h : Calls Tryz.prog F_producer_with #[s0, p1] w (retK K)) : upK Tryz.prog (sCall F_producer_with #[s0, p1]) w K :=
  up_call (fn := Tryz.f82) Tryz.func82 (by kernel_rfl) (by kernel_rfl) h

/-- maps.DeleteFunc[map[int]int,int,int] -/
def maps_DeleteFunc_map_int_int_int_int.pt (m0 del1 : Value) (w : World) (K : Value → World → Prop) : Prop :=
  upK Tryz.prog (sRange T_map_int_int m0) w fun t7 w1 =>
  LOOP (X := Unit) (fun lv2 w2 next2 =>
   upK Tryz.prog (sNext t7 false T_) w2 fun t8 w3 =>
   pureK Tryz.prog (sExtract t8 0) fun t9 =>
   ifB t9
   (upK Tryz.prog (sEntry t7) w3 fun t10 w4 =>
    pureK Tryz.prog (sExtract t10 0) fun t11 =>
    pureK Tryz.prog (sExtract t10 1) fun t12 =>
    upK Tryz.prog (sCallV del1 #[t11, t12]) w4 fun t16 w5 =>
    ifB t16
    (upK Tryz.prog (sBlt .delete #[T_map_int_int, T_int] T_ #[false, false] #[m0, t11]) w5 fun tu w6 =>
     next2 (()) w6)
    (next2 (()) w5))
   (K (.tuple #[]) w3))
  (()) w1
theorem maps_DeleteFunc_map_int_int_int_int.pt_eq : maps_DeleteFunc_map_int_int_int_int.pt = fun m0 del1 w K => FN Tryz.prog Tryz.f83 (bodyOf Tryz.f83) [] .leaf [m0, del1] w K := by kernel_rfl
theorem maps_DeleteFunc_map_int_int_int_int.call {m0 del1 : Value} {w : World} {K : Value → World → Prop} (h : maps_DeleteFunc_map_int_int_int_int.pt m0 del1 w K) : Calls Tryz.prog F_maps_DeleteFunc_map_int_int_int_int #[m0, del1] w (retK K) :=
  calls_FN (args := [m0, del1]) Tryz.func83 (by kernel_rfl) (by rw [maps_DeleteFunc_map_int_int_int_int.pt_eq] at h; exact h)
theorem maps_DeleteFunc_map_int_int_int_int.up {m0 del1 : Value} {w : World} {K : Value → World → Prop} (h : Calls Tryz.prog F_maps_DeleteFunc_map_int_int_int_int #[m0, del1] w (retK K)) : upK Tryz.prog (sCall F_maps_DeleteFunc_map_int_int_int_int #[m0, del1]) w K :=
  up_call (fn := Tryz.f83) Tryz.func83 (by kernel_rfl) (by kernel_rfl) h

/-- (*errata/intake.Intake).raise$1 -/
def intake_Intake_raise_1.pt (time0 t1 t2 : Value) (w : World) (K : Value → World → Prop) : Prop :=
  readK Tryz.prog (sLoad T_int t2) w fun t7 =>
  pureK Tryz.prog (sBin .leq T_int (.tmp 6) (.tmp 7) time0 t7) fun t8 =>
  K t8 w
theorem intake_Intake_raise_1.pt_eq : intake_Intake_raise_1.pt = fun time0 t1 t2 w K => FN Tryz.prog Tryz.f84 (bodyOf Tryz.f84) [5] .leaf [time0, t1, t2] w K := by kernel_rfl
theorem intake_Intake_raise_1.call {time0 t1 t2 : Value} {w : World} {K : Value → World → Prop} (h : intake_Intake_raise_1.pt time0 t1 t2 w K) : Calls Tryz.prog F_intake_Intake_raise_1 #[time0, t1, t2] w (retK K) :=
  calls_FN (args := [time0, t1, t2]) Tryz.func84 (by kernel_rfl) (by rw [intake_Intake_raise_1.pt_eq] at h; exact h)
theorem intake_Intake_raise_1.up {time0 t1 t2 : Value} {w : World} {K : Value → World → Prop} (h : Calls Tryz.prog F_intake_Intake_raise_1 #[time0, t1, t2] w (retK K)) : upK Tryz.prog (sCall F_intake_Intake_raise_1 #[time0, t1, t2]) w K :=
  up_call (fn := Tryz.f84) Tryz.func84 (by kernel_rfl) (by kernel_rfl) h

/-- errata/errataref10.Look -/
def errataref10_Look.pt (s0 e1 : Value) (w : World) (K : Value → World → Prop) : Prop :=
  upK Tryz.prog (sBox T_api_Entry e1) w fun e3 w1 =>
  pureK Tryz.prog (sFieldAddr T_api_Entry e3 1) fun t8 =>
  readK Tryz.prog (sLoad T_int t8) w1 fun t9 =>
  upK Tryz.prog (sCall F_errataref10_in #[t9]) w1 fun t10 w2 =>
  pureK Tryz.prog (sUn .not t10) fun t11 =>
  ifB t11
  (K (.tuple #[(.int .i64 0), (.int .i64 1)]) w2)
  (pureK Tryz.prog (sFieldAddr T_api_Entry e3 2) fun t13 =>
   readK Tryz.prog (sLoad T_int t13) w2 fun t14 =>
   upK Tryz.prog (sCall F_errataref10_in #[t14]) w2 fun t15 w3 =>
   pureK Tryz.prog (sUn .not t15) fun t16 =>
   ifB t16
   (K (.tuple #[(.int .i64 0), (.int .i64 1)]) w3)
   (pureK Tryz.prog (sFieldAddr T_api_Entry e3 3) fun t19 =>
    readK Tryz.prog (sLoad T_int t19) w3 fun t20 =>
    upK Tryz.prog (sCall F_errataref10_in #[t20]) w3 fun t21 w4 =>
    pureK Tryz.prog (sUn .not t21) fun t22 =>
    ifB t22
    (K (.tuple #[(.int .i64 0), (.int .i64 1)]) w4)
    (pureK Tryz.prog (sFieldAddr T_api_Entry e3 1) fun t25 =>
     readK Tryz.prog (sLoad T_int t25) w4 fun t26 =>
     pureK Tryz.prog (sBin .eql T_int (.tmp 26) (.const (.int .i64 1099511627776)) t26 (.int .i64 1099511627776)) fun t27 =>
     ifB t27
     (K (.tuple #[(.int .i64 0), (.int .i64 1)]) w4)
     (pureK Tryz.prog (sFieldAddr T_api_Entry e3 2) fun t30 =>
      readK Tryz.prog (sLoad T_int t30) w4 fun t31 =>
      pureK Tryz.prog (sBin .eql T_int (.tmp 31) (.const (.int .i64 1099511627776)) t31 (.int .i64 1099511627776)) fun t32 =>
      ifB t32
      (K (.tuple #[(.int .i64 0), (.int .i64 1)]) w4)
      (pureK Tryz.prog (sFieldAddr T_api_Entry e3 3) fun t35 =>
       readK Tryz.prog (sLoad T_int t35) w4 fun t36 =>
       pureK Tryz.prog (sBin .eql T_int (.tmp 36) (.const (.int .i64 1099511627776)) t36 (.int .i64 1099511627776)) fun t37 =>
       ifB t37
       (K (.tuple #[(.int .i64 0), (.int .i64 1)]) w4)
       (pureK Tryz.prog (sFieldAddr T_api_Entry e3 1) fun t40 =>
        readK Tryz.prog (sLoad T_int t40) w4 fun t41 =>
        upK Tryz.prog (sCall F_errataref10_get #[s0, t41]) w4 fun t42 w5 =>
        upK Tryz.prog (sAlloc T_api_Producer) w5 fun p6 w6 =>
        upK Tryz.prog (sStore T_api_Producer p6 t42) w6 fun tu w7 =>
        pureK Tryz.prog (sFieldAddr T_api_Entry e3 2) fun t43 =>
        readK Tryz.prog (sLoad T_int t43) w7 fun t44 =>
        pureK Tryz.prog (sFieldAddr T_api_Producer p6 1) fun t45 =>
        readK Tryz.prog (sLoad T_int t45) w7 fun t46 =>
        pureK Tryz.prog (sBin .lss T_int (.tmp 44) (.tmp 46) t44 t46) fun t47 =>
        ifB t47
        (K (.tuple #[(.int .i64 0), (.int .i64 18)]) w7)
        (pureK Tryz.prog (sFieldAddr T_api_Entry e3 2) fun t48 =>
         readK Tryz.prog (sLoad T_int t48) w7 fun t49 =>
         pureK Tryz.prog (sFieldAddr T_api_Producer p6 1) fun t50 =>
         readK Tryz.prog (sLoad T_int t50) w7 fun t51 =>
         pureK Tryz.prog (sBin .gtr T_int (.tmp 49) (.tmp 51) t49 t51) fun t52 =>
         ifB t52
         (K (.tuple #[(.int .i64 0), (.int .i64 25)]) w7)
         (pureK Tryz.prog (sFieldAddr T_api_Entry e3 3) fun t53 =>
          readK Tryz.prog (sLoad T_int t53) w7 fun t54 =>
          pureK Tryz.prog (sFieldAddr T_api_Producer p6 2) fun t55 =>
          readK Tryz.prog (sLoad T_int t55) w7 fun t56 =>
          pureK Tryz.prog (sBin .gtr T_int (.tmp 54) (.tmp 56) t54 t56) fun t57 =>
          ifB t57
          (K (.tuple #[(.int .i64 0), (.int .i64 19)]) w7)
          (LETJ (X := Unit) (fun jv1 w8 =>
            pureK Tryz.prog (sFieldAddr T_api_Entry e3 3) fun t68 =>
            readK Tryz.prog (sLoad T_int t68) w8 fun t69 =>
            pureK Tryz.prog (sFieldAddr T_api_Producer p6 2) fun t70 =>
            readK Tryz.prog (sLoad T_int t70) w8 fun t71 =>
            pureK Tryz.prog (sBin .eql T_int (.tmp 69) (.tmp 71) t69 t71) fun t72 =>
            ifB t72
            (K (.tuple #[(.int .i64 0), (.int .i64 0)]) w8)
            (pureK Tryz.prog (sFieldAddr T_api_Producer p6 2) fun t73 =>
             readK Tryz.prog (sLoad T_int t73) w8 fun t74 =>
             pureK Tryz.prog (sFieldAddr T_api_Entry e3 3) fun t75 =>
             readK Tryz.prog (sLoad T_int t75) w8 fun t76 =>
             pureK Tryz.prog (sBin .sub T_int (.tmp 74) (.tmp 76) t74 t76) fun t77 =>
             pureK Tryz.prog (sFieldAddr T_api_Producer p6 3) fun t79 =>
             readK Tryz.prog (sLoad T_s_int t79) w8 fun t80 =>
             readK Tryz.prog (sBlt .len #[T_s_int] T_int #[false] #[t80]) w8 fun t81 =>
             pureK Tryz.prog (sBin .gtr T_int (.tmp 78) (.tmp 81) t77 t81) fun t82 =>
             ifB t82
             (K (.tuple #[(.int .i64 (-1)), (.int .i64 5)]) w8)
             (pureK Tryz.prog (sFieldAddr T_api_Producer p6 3) fun t83 =>
              readK Tryz.prog (sLoad T_s_int t83) w8 fun t84 =>
              pureK Tryz.prog (sFieldAddr T_api_Producer p6 3) fun t85 =>
              readK Tryz.prog (sLoad T_s_int t85) w8 fun t86 =>
              readK Tryz.prog (sBlt .len #[T_s_int] T_int #[false] #[t86]) w8 fun t87 =>
              pureK Tryz.prog (sBin .sub T_int (.tmp 87) (.tmp 88) t87 t77) fun t89 =>
              pureK Tryz.prog (sIdxAddr T_s_int t84 t89) fun t90 =>
              readK Tryz.prog (sLoad T_int t90) w8 fun t91 =>
              K (.tuple #[t91, (.int .i64 5)]) w8)))
           (fun J1 =>
            pureK Tryz.prog (sFieldAddr T_api_Entry e3 1) fun t59 =>
            readK Tryz.prog (sLoad T_int t59) w7 fun t60 =>
            upK Tryz.prog (sCall F_errataref10_find #[s0, t60]) w7 fun t61 w9 =>
            pureK Tryz.prog (sBin .lss T_int (.tmp 61) (.const (.int .i64 0)) t61 (.int .i64 0)) fun t62 =>
            ifB t62
            (readK Tryz.prog (sBlt .len #[T_s_api_Producer] T_int #[false] #[s0]) w9 fun t65 =>
             pureK Tryz.prog (sBin .geq T_int (.tmp 65) (.const (.int .i64 50)) t65 (.int .i64 50)) fun t66 =>
             ifB t66
             (K (.tuple #[(.int .i64 0), (.int .i64 6)]) w9)
             (J1 (()) w9))
            (J1 (()) w9)))))))))))
theorem errataref10_Look.pt_eq : errataref10_Look.pt = fun s0 e1 w K => FN Tryz.prog Tryz.f85 (bodyOf Tryz.f85) [4, 5] (.node none .leaf (.node none .leaf (.node none .leaf (.node none .leaf (.node none .leaf (.node none .leaf (.node (some []) .leaf .leaf))))))) [s0, e1] w K := by kernel_rfl
theorem errataref10_Look.call {s0 e1 : Value} {w : World} {K : Value → World → Prop} (h : errataref10_Look.pt s0 e1 w K) : Calls Tryz.prog F_errataref10_Look #[s0, e1] w (retK K) :=
  calls_FN (args := [s0, e1]) Tryz.func85 (by kernel_rfl) (by rw [errataref10_Look.pt_eq] at h; exact h)
theorem errataref10_Look.up {s0 e1 : Value} {w : World} {K : Value → World → Prop} (h : Calls Tryz.prog F_errataref10_Look #[s0, e1] w (retK K)) : upK Tryz.prog (sCall F_errataref10_Look #[s0, e1]) w K :=
  up_call (fn := Tryz.f85) Tryz.func85 (by kernel_rfl) (by kernel_rfl) h

/-- (*errata/errataref11.Intake).fits -/
def errataref11_Intake_fits.pt (x0 e1 : Value) (w : World) (K : Value → World → Prop) : Prop :=
  upK Tryz.prog (sBox T_api_Entry e1) w fun e3 w1 =>
  LOOP (X := Value × Unit) (fun lv2 w2 next2 =>
   pureK Tryz.prog (sNil x0) fun t10 =>
   pureK Tryz.prog (sFieldAddr T_errataref11_Intake t10 1) fun t11 =>
   readK Tryz.prog (sLoad T_s_api_Known t11) w2 fun t12 =>
   readK Tryz.prog (sBlt .len #[T_s_api_Known] T_int #[false] #[t12]) w2 fun t13 =>
   pureK Tryz.prog (sBin .lss T_int (.tmp 8) (.tmp 13) lv2.1 t13) fun t14 =>
   ifB t14
   (LETJ (X := Unit) (fun jv1 w3 =>
     pureK Tryz.prog (sBin .add T_int (.tmp 15) (.const (.int .i64 1)) lv2.1 (.int .i64 1)) fun t16 =>
     next2 (t16, ()) w3)
    (fun J1 =>
     pureK Tryz.prog (sNil x0) fun t18 =>
     pureK Tryz.prog (sFieldAddr T_errataref11_Intake t18 1) fun t19 =>
     readK Tryz.prog (sLoad T_s_api_Known t19) w2 fun t20 =>
     pureK Tryz.prog (sIdxAddr T_s_api_Known t20 lv2.1) fun t22 =>
     readK Tryz.prog (sLoad T_api_Known t22) w2 fun t23 =>
     upK Tryz.prog (sAlloc T_api_Known) w2 fun k6 w4 =>
     upK Tryz.prog (sStore T_api_Known k6 t23) w4 fun tu w5 =>
     pureK Tryz.prog (sFieldAddr T_api_Known k6 0) fun t24 =>
     readK Tryz.prog (sLoad T_string t24) w5 fun t25 =>
     pureK Tryz.prog (sFieldAddr T_api_Entry e3 4) fun t26 =>
     readK Tryz.prog (sLoad T_string t26) w5 fun t27 =>
     pureK Tryz.prog (sBin .neq T_string (.tmp 25) (.tmp 27) t25 t27) fun t28 =>
     ifB t28
     (J1 (()) w5)
     (pureK Tryz.prog (sFieldAddr T_api_Known k6 1) fun t30 =>
      readK Tryz.prog (sLoad T_int t30) w5 fun t31 =>
      pureK Tryz.prog (sFieldAddr T_api_Entry e3 5) fun t32 =>
      readK Tryz.prog (sLoad T_int t32) w5 fun t33 =>
      pureK Tryz.prog (sBin .neq T_int (.tmp 31) (.tmp 33) t31 t33) fun t34 =>
      ifB t34
      (J1 (()) w5)
      (pureK Tryz.prog (sFieldAddr T_api_Entry e3 7) fun t36 =>
       readK Tryz.prog (sLoad T_s_api_Value t36) w5 fun t37 =>
       upK Tryz.prog (sCall F_errataref03_RightRow #[t37]) w5 fun t38 w6 =>
       pureK Tryz.prog (sUn .not t38) fun t39 =>
       ifB t39
       (K (.int .i64 16) w6)
       (pureK Tryz.prog (sFieldAddr T_api_Entry e3 7) fun t41 =>
        readK Tryz.prog (sLoad T_s_api_Value t41) w6 fun t42 =>
        readK Tryz.prog (sBlt .len #[T_s_api_Value] T_int #[false] #[t42]) w6 fun t43 =>
        pureK Tryz.prog (sFieldAddr T_api_Known k6 2) fun t44 =>
        readK Tryz.prog (sLoad T_s_api_Col t44) w6 fun t45 =>
        readK Tryz.prog (sBlt .len #[T_s_api_Col] T_int #[false] #[t45]) w6 fun t46 =>
        pureK Tryz.prog (sBin .neq T_int (.tmp 43) (.tmp 46) t43 t46) fun t47 =>
        ifB t47
        (K (.int .i64 16) w6)
        (LOOP (X := Value × Unit) (fun lv7 w7 next7 =>
          pureK Tryz.prog (sFieldAddr T_api_Known k6 2) fun t50 =>
          readK Tryz.prog (sLoad T_s_api_Col t50) w7 fun t51 =>
          readK Tryz.prog (sBlt .len #[T_s_api_Col] T_int #[false] #[t51]) w7 fun t52 =>
          pureK Tryz.prog (sBin .lss T_int (.tmp 49) (.tmp 52) lv7.1 t52) fun t53 =>
          ifB t53
          (pureK Tryz.prog (sFieldAddr T_api_Entry e3 7) fun t56 =>
           readK Tryz.prog (sLoad T_s_api_Value t56) (tick w7) fun t57 =>
           pureK Tryz.prog (sIdxAddr T_s_api_Value t57 lv7.1) fun t59 =>
           pureK Tryz.prog (sFieldAddr T_api_Value t59 0) fun t60 =>
           readK Tryz.prog (sLoad T_int t60) (tick w7) fun t61 =>
           pureK Tryz.prog (sFieldAddr T_api_Known k6 2) fun t62 =>
           readK Tryz.prog (sLoad T_s_api_Col t62) (tick w7) fun t63 =>
           pureK Tryz.prog (sIdxAddr T_s_api_Col t63 lv7.1) fun t65 =>
           pureK Tryz.prog (sFieldAddr T_api_Col t65 1) fun t66 =>
           readK Tryz.prog (sLoad T_int t66) (tick w7) fun t67 =>
           pureK Tryz.prog (sBin .neq T_int (.tmp 61) (.tmp 67) t61 t67) fun t68 =>
           ifB t68
           (K (.int .i64 16) (tick w7))
           (pureK Tryz.prog (sBin .add T_int (.tmp 54) (.const (.int .i64 1)) lv7.1 (.int .i64 1)) fun t55 =>
            next7 (t55, ()) (tick w7)))
          (K (.int .i64 0) w7))
         ((.int .i64 0), ()) w6))))))
   (K (.int .i64 17) w2))
  ((.int .i64 0), ()) w1
theorem errataref11_Intake_fits.pt_eq : errataref11_Intake_fits.pt = fun x0 e1 w K => FN Tryz.prog Tryz.f86 (bodyOf Tryz.f86) [4] (.node none .leaf (.node none (.node none .leaf (.node none (.node none (.node none .leaf (.node (some []) .leaf .leaf)) .leaf) .leaf)) .leaf)) [x0, e1] w K := by kernel_rfl
theorem errataref11_Intake_fits.call {x0 e1 : Value} {w : World} {K : Value → World → Prop} (h : errataref11_Intake_fits.pt x0 e1 w K) : Calls Tryz.prog F_errataref11_Intake_fits #[x0, e1] w (retK K) :=
  calls_FN (args := [x0, e1]) Tryz.func86 (by kernel_rfl) (by rw [errataref11_Intake_fits.pt_eq] at h; exact h)
theorem errataref11_Intake_fits.up {x0 e1 : Value} {w : World} {K : Value → World → Prop} (h : Calls Tryz.prog F_errataref11_Intake_fits #[x0, e1] w (retK K)) : upK Tryz.prog (sCall F_errataref11_Intake_fits #[x0, e1]) w K :=
  up_call (fn := Tryz.f86) Tryz.func86 (by kernel_rfl) (by kernel_rfl) h

/-- errata/errataref10.get -/
def errataref10_get.pt (s0 id1 : Value) (w : World) (K : Value → World → Prop) : Prop :=
  upK Tryz.prog (sAlloc T_api_Producer) w fun t4 w1 =>
  upK Tryz.prog (sCall F_errataref10_find #[s0, id1]) w1 fun t8 w2 =>
  pureK Tryz.prog (sBin .lss T_int (.tmp 9) (.const (.int .i64 0)) t8 (.int .i64 0)) fun t10 =>
  ifB t10
  (pureK Tryz.prog (sBuild T_api_Producer #[(0, id1)]) fun t12 =>
   upK Tryz.prog (sStore T_api_Producer t4 t12) w2 fun tu w3 =>
   readV Tryz.prog (do loadVar T_api_Producer (← asAddr t4)) w3 fun t4_1 =>
   K t4_1 w3)
  (pureK Tryz.prog (sIdxAddr T_s_api_Producer s0 t8) fun t15 =>
   readK Tryz.prog (sLoad T_api_Producer t15) w2 fun t16 =>
   upK Tryz.prog (sStore T_api_Producer t4 t16) w2 fun tu_1 w4 =>
   readV Tryz.prog (do loadVar T_api_Producer (← asAddr t4)) w4 fun t4_2 =>
   K t4_2 w4)
theorem errataref10_get.pt_eq : errataref10_get.pt = fun s0 id1 w K => FN Tryz.prog Tryz.f87 (bodyOf Tryz.f87) [] .leaf [s0, id1] w K := by kernel_rfl
theorem errataref10_get.call {s0 id1 : Value} {w : World} {K : Value → World → Prop} (h : errataref10_get.pt s0 id1 w K) : Calls Tryz.prog F_errataref10_get #[s0, id1] w (retK K) :=
  calls_FN (args := [s0, id1]) Tryz.func87 (by kernel_rfl) (by rw [errataref10_get.pt_eq] at h; exact h)
theorem errataref10_get.up {s0 id1 : Value} {w : World} {K : Value → World → Prop} (h : Calls Tryz.prog F_errataref10_get #[s0, id1] w (retK K)) : upK Tryz.prog (sCall F_errataref10_get #[s0, id1]) w K :=
  up_call (fn := Tryz.f87) Tryz.func87 (by kernel_rfl) (by kernel_rfl) h

/-- errata/errataref10.in -/
def errataref10_in.pt (n0 : Value) (w : World) (K : Value → World → Prop) : Prop :=
  pureK Tryz.prog (sBin .geq T_int (.tmp 3) (.const (.int .i64 0)) n0 (.int .i64 0)) fun t4 =>
  ifB t4
  (pureK Tryz.prog (sBin .leq T_int (.tmp 6) (.const (.int .i64 1099511627776)) n0 (.int .i64 1099511627776)) fun t7 =>
   K t7 w)
  (K (.bool false) w)
theorem errataref10_in.pt_eq : errataref10_in.pt = fun n0 w K => FN Tryz.prog Tryz.f88 (bodyOf Tryz.f88) [2] .leaf [n0] w K := by kernel_rfl
theorem errataref10_in.call {n0 : Value} {w : World} {K : Value → World → Prop} (h : errataref10_in.pt n0 w K) : Calls Tryz.prog F_errataref10_in #[n0] w (retK K) :=
  calls_FN (args := [n0]) Tryz.func88 (by kernel_rfl) (by rw [errataref10_in.pt_eq] at h; exact h)
theorem errataref10_in.up {n0 : Value} {w : World} {K : Value → World → Prop} (h : Calls Tryz.prog F_errataref10_in #[n0] w (retK K)) : upK Tryz.prog (sCall F_errataref10_in #[n0]) w K :=
  up_call (fn := Tryz.f88) Tryz.func88 (by kernel_rfl) (by kernel_rfl) h

end Go.Proofs.YtefinemhfgdpdaaGreatDoor
