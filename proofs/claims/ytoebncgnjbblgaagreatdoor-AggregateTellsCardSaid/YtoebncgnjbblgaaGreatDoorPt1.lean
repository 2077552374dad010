/-
  The reckoned conditions of the functions that this seat's statements reach, printed by program, each held against the translation by the kernel. No condition.
-/
import Derived.Test.YtoebncgnjbblgaaGreatDoorNames
namespace Go.Proofs.YtoebncgnjbblgaaGreatDoor
set_option linter.unusedVariables false
set_option maxRecDepth 100000

/-- errata/aggregate.Cols -/
def aggregate_Cols.pt (aggs0 cols1 : Value) (w : World) (K : Value → World → Prop) : Prop :=
  readK Tryz.prog (sBlt .len #[T_s_api_Agg] T_int #[false] #[aggs0]) w fun t13 =>
  LOOP (X := Value × Value × Unit) (fun lv1 w1 next1 =>
   pureK Tryz.prog (sBin .lss T_int (.tmp 14) (.tmp 13) lv1.2.1 t13) fun t15 =>
   ifB t15
   (pureK Tryz.prog (sIdxAddr T_s_api_Agg aggs0 lv1.2.1) fun t16 =>
    readK Tryz.prog (sLoad T_api_Agg t16) w1 fun t17 =>
    upK Tryz.prog (sAlloc T_api_Agg) w1 fun g8 w2 =>
    upK Tryz.prog (sStore T_api_Agg g8 t17) w2 fun tu w3 =>
    readK Tryz.prog (sLoad T_api_Agg g8) w3 fun t19 =>
    upK Tryz.prog (sCall F_aggregate_Type #[t19, cols1]) w3 fun t21 w4 =>
    pureK Tryz.prog (sExtract t21 0) fun t22 =>
    pureK Tryz.prog (sExtract t21 1) fun t23 =>
    pureK Tryz.prog (sBin .neq T_api_Errno (.tmp 24) (.const (.int .i64 0)) t23 (.int .i64 0)) fun t25 =>
    ifB t25
    (K (.tuple #[(.slice none 0 0), t23]) w4)
    (pureK Tryz.prog (sFieldAddr T_api_Agg g8 2) fun t27 =>
     readK Tryz.prog (sLoad T_string t27) w4 fun t28 =>
     pureK Tryz.prog (sBuild T_api_Col #[(0, t28), (1, t22)]) fun t30 =>
     upK Tryz.prog (sAlloc T_api_Col) w4 fun c11 w5 =>
     upK Tryz.prog (sStore T_api_Col c11 t30) w5 fun tu_1 w6 =>
     LETJ (X := Unit) (fun jv1 w7 =>
      readK Tryz.prog (sLoad T_api_Col c11) w7 fun t42 =>
      upK Tryz.prog (sBuildSlice T_s_api_Col 1 #[(0, t42)]) w7 fun t43 w8 =>
      upK Tryz.prog (sBlt .append #[T_s_api_Col, T_s_api_Col] T_s_api_Col #[false, false] #[lv1.1, t43]) w8 fun t44 w9 =>
      pureK Tryz.prog (sBin .add T_int (.tmp 14) (.const (.int .i64 1)) lv1.2.1 (.int .i64 1)) fun t45 =>
      next1 (t44, t45, ()) w9)
     (fun J1 =>
      pureK Tryz.prog (sFieldAddr T_api_Agg g8 0) fun t31 =>
      readK Tryz.prog (sLoad T_int t31) w6 fun t32 =>
      pureK Tryz.prog (sBin .neq T_int (.tmp 32) (.const (.int .i64 0)) t32 (.int .i64 0)) fun t33 =>
      ifB t33
      (pureK Tryz.prog (sFieldAddr T_api_Agg g8 1) fun t35 =>
       readK Tryz.prog (sLoad T_int t35) w6 fun t36 =>
       pureK Tryz.prog (sIdxAddr T_s_api_Col cols1 t36) fun t37 =>
       pureK Tryz.prog (sFieldAddr T_api_Col t37 2) fun t38 =>
       readK Tryz.prog (sLoad T_string t38) w6 fun t39 =>
       pureK Tryz.prog (sFieldAddr T_api_Col c11 2) fun t40 =>
       upK Tryz.prog (sStore T_string t40 t39) w6 fun tu_2 w10 =>
       J1 (()) w10)
      (J1 (()) w6))))
   (K (.tuple #[lv1.1, (.int .i64 0)]) w1))
  ((.slice none 0 0), (.int .i64 0), ()) w
theorem aggregate_Cols.pt_eq : aggregate_Cols.pt = fun aggs0 cols1 w K => FN Tryz.prog Tryz.f27 (bodyOf Tryz.f27) [4, 5] (.node none .leaf (.node none .leaf (.node none (.node none .leaf (.node none (.node none (.node none .leaf (.node none .leaf (.node none (.node none (.node none .leaf (.node none .leaf (.node none .leaf (.node none .leaf (.node (some []) .leaf .leaf))))) .leaf) .leaf))) .leaf) .leaf)) .leaf))) [aggs0, cols1] w K := by kernel_rfl
theorem aggregate_Cols.call {aggs0 cols1 : Value} {w : World} {K : Value → World → Prop} (h : aggregate_Cols.pt aggs0 cols1 w K) : Calls Tryz.prog F_aggregate_Cols #[aggs0, cols1] w (retK K) :=
  calls_FN (args := [aggs0, cols1]) Tryz.func27 (by kernel_rfl) (by rw [aggregate_Cols.pt_eq] at h; exact h)
theorem aggregate_Cols.up {aggs0 cols1 : Value} {w : World} {K : Value → World → Prop} (h : Calls Tryz.prog F_aggregate_Cols #[aggs0, cols1] w (retK K)) : upK Tryz.prog (sCall F_aggregate_Cols #[aggs0, cols1]) w K :=
  up_call (fn := Tryz.f27) Tryz.func27 (by kernel_rfl) (by kernel_rfl) h

/-- errata/errataref30.Cols -/
def errataref30_Cols.pt (aggs0 cols1 : Value) (w : World) (K : Value → World → Prop) : Prop :=
  LOOP (X := Value × Value × Unit) (fun lv1 w1 next1 =>
   readK Tryz.prog (sBlt .len #[T_s_api_Agg] T_int #[false] #[aggs0]) w1 fun t13 =>
   pureK Tryz.prog (sBin .lss T_int (.tmp 11) (.tmp 13) lv1.2.1 t13) fun t14 =>
   ifB t14
   (pureK Tryz.prog (sIdxAddr T_s_api_Agg aggs0 lv1.2.1) fun t20 =>
    readK Tryz.prog (sLoad T_api_Agg t20) w1 fun t21 =>
    upK Tryz.prog (sCall F_errataref30_Type #[t21, cols1]) w1 fun t23 w2 =>
    pureK Tryz.prog (sExtract t23 0) fun t24 =>
    pureK Tryz.prog (sExtract t23 1) fun t25 =>
    pureK Tryz.prog (sBin .neq T_api_Errno (.tmp 26) (.const (.int .i64 0)) t25 (.int .i64 0)) fun t27 =>
    ifB t27
    (K (.tuple #[(.slice none 0 0), t25]) w2)
    (pureK Tryz.prog (sIdxAddr T_s_api_Agg aggs0 lv1.2.1) fun t31 =>
     pureK Tryz.prog (sFieldAddr T_api_Agg t31 2) fun t32 =>
     readK Tryz.prog (sLoad T_string t32) w2 fun t33 =>
     pureK Tryz.prog (sBuild T_api_Col #[(0, t33), (1, t24)]) fun t35 =>
     upK Tryz.prog (sAlloc T_api_Col) w2 fun c10 w3 =>
     upK Tryz.prog (sStore T_api_Col c10 t35) w3 fun tu w4 =>
     LETJ (X := Unit) (fun jv1 w5 =>
      readK Tryz.prog (sLoad T_api_Col c10) w5 fun t53 =>
      upK Tryz.prog (sBuildSlice T_s_api_Col 1 #[(0, t53)]) w5 fun t54 w6 =>
      upK Tryz.prog (sBlt .append #[T_s_api_Col, T_s_api_Col] T_s_api_Col #[false, false] #[lv1.1, t54]) w6 fun t55 w7 =>
      pureK Tryz.prog (sBin .add T_int (.tmp 15) (.const (.int .i64 1)) lv1.2.1 (.int .i64 1)) fun t16 =>
      next1 (t55, t16, ()) w7)
     (fun J1 =>
      pureK Tryz.prog (sIdxAddr T_s_api_Agg aggs0 lv1.2.1) fun t38 =>
      pureK Tryz.prog (sFieldAddr T_api_Agg t38 0) fun t39 =>
      readK Tryz.prog (sLoad T_int t39) w4 fun t40 =>
      pureK Tryz.prog (sBin .neq T_int (.tmp 40) (.const (.int .i64 0)) t40 (.int .i64 0)) fun t41 =>
      ifB t41
      (pureK Tryz.prog (sIdxAddr T_s_api_Agg aggs0 lv1.2.1) fun t45 =>
       pureK Tryz.prog (sFieldAddr T_api_Agg t45 1) fun t46 =>
       readK Tryz.prog (sLoad T_int t46) w4 fun t47 =>
       pureK Tryz.prog (sIdxAddr T_s_api_Col cols1 t47) fun t48 =>
       pureK Tryz.prog (sFieldAddr T_api_Col t48 2) fun t49 =>
       readK Tryz.prog (sLoad T_string t49) w4 fun t50 =>
       pureK Tryz.prog (sFieldAddr T_api_Col c10 2) fun t51 =>
       upK Tryz.prog (sStore T_string t51 t50) w4 fun tu_1 w8 =>
       J1 (()) w8)
      (J1 (()) w4))))
   (K (.tuple #[lv1.1, (.int .i64 0)]) w1))
  ((.slice none 0 0), (.int .i64 0), ()) w
theorem errataref30_Cols.pt_eq : errataref30_Cols.pt = fun aggs0 cols1 w K => FN Tryz.prog Tryz.f28 (bodyOf Tryz.f28) [4, 5] (.node none .leaf (.node none .leaf (.node none (.node none .leaf (.node none (.node none (.node none .leaf (.node none (.node none (.node none .leaf (.node none .leaf (.node none .leaf (.node (some []) .leaf .leaf)))) .leaf) .leaf)) .leaf) .leaf)) .leaf))) [aggs0, cols1] w K := by kernel_rfl
theorem errataref30_Cols.call {aggs0 cols1 : Value} {w : World} {K : Value → World → Prop} (h : errataref30_Cols.pt aggs0 cols1 w K) : Calls Tryz.prog F_errataref30_Cols #[aggs0, cols1] w (retK K) :=
  calls_FN (args := [aggs0, cols1]) Tryz.func28 (by kernel_rfl) (by rw [errataref30_Cols.pt_eq] at h; exact h)
theorem errataref30_Cols.up {aggs0 cols1 : Value} {w : World} {K : Value → World → Prop} (h : Calls Tryz.prog F_errataref30_Cols #[aggs0, cols1] w (retK K)) : upK Tryz.prog (sCall F_errataref30_Cols #[aggs0, cols1]) w K :=
  up_call (fn := Tryz.f28) Tryz.func28 (by kernel_rfl) (by kernel_rfl) h

/-- errata/errataref13.Same -/
def errataref13_Same.pt (a0 b1 : Value) (w : World) (K : Value → World → Prop) : Prop :=
  readK Tryz.prog (sBlt .len #[T_s_api_Col] T_int #[false] #[a0]) w fun t7 =>
  readK Tryz.prog (sBlt .len #[T_s_api_Col] T_int #[false] #[b1]) w fun t9 =>
  pureK Tryz.prog (sBin .neq T_int (.tmp 7) (.tmp 9) t7 t9) fun t10 =>
  ifB t10
  (K (.bool false) w)
  (LOOP (X := Value × Unit) (fun lv1 w1 next1 =>
    readK Tryz.prog (sBlt .len #[T_s_api_Col] T_int #[false] #[a0]) w1 fun t13 =>
    pureK Tryz.prog (sBin .lss T_int (.tmp 11) (.tmp 13) lv1.1 t13) fun t14 =>
    ifB t14
    (pureK Tryz.prog (sIdxAddr T_s_api_Col a0 lv1.1) fun t19 =>
     readK Tryz.prog (sLoad T_api_Col t19) (tick w1) fun t20 =>
     pureK Tryz.prog (sIdxAddr T_s_api_Col b1 lv1.1) fun t23 =>
     readK Tryz.prog (sLoad T_api_Col t23) (tick w1) fun t24 =>
     pureK Tryz.prog (sBin .neq T_api_Col (.tmp 20) (.tmp 24) t20 t24) fun t25 =>
     ifB t25
     (K (.bool false) (tick w1))
     (pureK Tryz.prog (sBin .add T_int (.tmp 15) (.const (.int .i64 1)) lv1.1 (.int .i64 1)) fun t16 =>
      next1 (t16, ()) (tick w1)))
    (K (.bool true) w1))
   ((.int .i64 0), ()) w)
theorem errataref13_Same.pt_eq : errataref13_Same.pt = fun a0 b1 w K => FN Tryz.prog Tryz.f29 (bodyOf Tryz.f29) [4] .leaf [a0, b1] w K := by kernel_rfl
theorem errataref13_Same.call {a0 b1 : Value} {w : World} {K : Value → World → Prop} (h : errataref13_Same.pt a0 b1 w K) : Calls Tryz.prog F_errataref13_Same #[a0, b1] w (retK K) :=
  calls_FN (args := [a0, b1]) Tryz.func29 (by kernel_rfl) (by rw [errataref13_Same.pt_eq] at h; exact h)
theorem errataref13_Same.up {a0 b1 : Value} {w : World} {K : Value → World → Prop} (h : Calls Tryz.prog F_errataref13_Same #[a0, b1] w (retK K)) : upK Tryz.prog (sCall F_errataref13_Same #[a0, b1]) w K :=
  up_call (fn := Tryz.f29) Tryz.func29 (by kernel_rfl) (by kernel_rfl) h

/-- errata/errataref03.All -/
def errataref03_All.pt (r0 : Value) (w : World) (K : Value → World → Prop) : Prop :=
  LOOP (X := Value × Unit) (fun lv1 w1 next1 =>
   readK Tryz.prog (sBlt .len #[T_s_api_Value] T_int #[false] #[r0]) w1 fun t6 =>
   pureK Tryz.prog (sBin .lss T_int (.tmp 4) (.tmp 6) lv1.1 t6) fun t7 =>
   ifB t7
   (pureK Tryz.prog (sIdxAddr T_s_api_Value r0 lv1.1) fun t12 =>
    readK Tryz.prog (sLoad T_api_Value t12) w1 fun t13 =>
    upK Tryz.prog (sCall F_errataref03_Right #[t13]) w1 fun t14 w2 =>
    pureK Tryz.prog (sUn .not t14) fun t15 =>
    ifB t15
    (K (.bool false) w2)
    (pureK Tryz.prog (sBin .add T_int (.tmp 8) (.const (.int .i64 1)) lv1.1 (.int .i64 1)) fun t9 =>
     next1 (t9, ()) w2))
   (K (.bool true) w1))
  ((.int .i64 0), ()) w
theorem errataref03_All.pt_eq : errataref03_All.pt = fun r0 w K => FN Tryz.prog Tryz.f30 (bodyOf Tryz.f30) [2] .leaf [r0] w K := by kernel_rfl
theorem errataref03_All.call {r0 : Value} {w : World} {K : Value → World → Prop} (h : errataref03_All.pt r0 w K) : Calls Tryz.prog F_errataref03_All #[r0] w (retK K) :=
  calls_FN (args := [r0]) Tryz.func30 (by kernel_rfl) (by rw [errataref03_All.pt_eq] at h; exact h)
theorem errataref03_All.up {r0 : Value} {w : World} {K : Value → World → Prop} (h : Calls Tryz.prog F_errataref03_All #[r0] w (retK K)) : upK Tryz.prog (sCall F_errataref03_All #[r0]) w K :=
  up_call (fn := Tryz.f30) Tryz.func30 (by kernel_rfl) (by kernel_rfl) h

/-- slices.Clone[[]errata/api.Agg,errata/api.Agg] -/
def slices_Clone_s_api_Agg_api_Agg.pt (s0 : Value) (w : World) (K : Value → World → Prop) : Prop :=
  pureK Tryz.prog (sBin .eql T_s_api_Agg (.tmp 3) (.const (.slice none 0 0)) s0 (.slice none 0 0)) fun t4 =>
  ifB t4
  (K (.slice none 0 0) w)
  (upK Tryz.prog (sBuildSlice T_s_api_Agg 0 #[]) w fun t5 w1 =>
   upK Tryz.prog (sBlt .append #[T_s_api_Agg, T_s_api_Agg] T_s_api_Agg #[false, false] #[t5, s0]) w1 fun t7 w2 =>
   K t7 w2)
theorem slices_Clone_s_api_Agg_api_Agg.pt_eq : slices_Clone_s_api_Agg_api_Agg.pt = fun s0 w K => FN Tryz.prog Tryz.f31 (bodyOf Tryz.f31) [2] .leaf [s0] w K := by kernel_rfl
theorem slices_Clone_s_api_Agg_api_Agg.call {s0 : Value} {w : World} {K : Value → World → Prop} (h : slices_Clone_s_api_Agg_api_Agg.pt s0 w K) : Calls Tryz.prog F_slices_Clone_s_api_Agg_api_Agg #[s0] w (retK K) :=
  calls_FN (args := [s0]) Tryz.func31 (by kernel_rfl) (by rw [slices_Clone_s_api_Agg_api_Agg.pt_eq] at h; exact h)
theorem slices_Clone_s_api_Agg_api_Agg.up {s0 : Value} {w : World} {K : Value → World → Prop} (h : Calls Tryz.prog F_slices_Clone_s_api_Agg_api_Agg #[s0] w (retK K)) : upK Tryz.prog (sCall F_slices_Clone_s_api_Agg_api_Agg #[s0]) w K :=
  up_call (fn := Tryz.f31) Tryz.func31 (by kernel_rfl) (by kernel_rfl) h

/-- errata/aggregate.ordered -/
def aggregate_ordered.pt (g0 : Value) (w : World) (K : Value → World → Prop) : Prop :=
  upK Tryz.prog (sBox T_api_Agg g0) w fun g1 w1 =>
  pureK Tryz.prog (sFieldAddr T_api_Agg g1 0) fun t3 =>
  readK Tryz.prog (sLoad T_int t3) w1 fun t4 =>
  pureK Tryz.prog (sBin .eql T_int (.tmp 4) (.const (.int .i64 2)) t4 (.int .i64 2)) fun t5 =>
  ifB t5
  (K (.bool true) w1)
  (pureK Tryz.prog (sFieldAddr T_api_Agg g1 0) fun t7 =>
   readK Tryz.prog (sLoad T_int t7) w1 fun t8 =>
   pureK Tryz.prog (sBin .eql T_int (.tmp 8) (.const (.int .i64 3)) t8 (.int .i64 3)) fun t9 =>
   K t9 w1)
theorem aggregate_ordered.pt_eq : aggregate_ordered.pt = fun g0 w K => FN Tryz.prog Tryz.f32 (bodyOf Tryz.f32) [2] .leaf [g0] w K := by kernel_rfl
theorem aggregate_ordered.call {g0 : Value} {w : World} {K : Value → World → Prop} (h : aggregate_ordered.pt g0 w K) : Calls Tryz.prog F_aggregate_ordered #[g0] w (retK K) :=
  calls_FN (args := [g0]) Tryz.func32 (by kernel_rfl) (by rw [aggregate_ordered.pt_eq] at h; exact h)
theorem aggregate_ordered.up {g0 : Value} {w : World} {K : Value → World → Prop} (h : Calls Tryz.prog F_aggregate_ordered #[g0] w (retK K)) : upK Tryz.prog (sCall F_aggregate_ordered #[g0]) w K :=
  up_call (fn := Tryz.f32) Tryz.func32 (by kernel_rfl) (by kernel_rfl) h

/-- errata/aggregate.at -/
def aggregate_at.pt (row0 col1 : Value) (w : World) (K : Value → World → Prop) : Prop :=
  upK Tryz.prog (sAlloc T_api_Value) w fun t4 w1 =>
  pureK Tryz.prog (sBin .lss T_int (.tmp 5) (.const (.int .i64 0)) col1 (.int .i64 0)) fun t6 =>
  ifB t6
  (pureK Tryz.prog (sBuild T_api_Value #[]) fun t13 =>
   upK Tryz.prog (sStore T_api_Value t4 t13) w1 fun tu w2 =>
   readV Tryz.prog (do loadVar T_api_Value (← asAddr t4)) w2 fun t4_1 =>
   K t4_1 w2)
  (readK Tryz.prog (sBlt .len #[T_s_api_Value] T_int #[false] #[row0]) w1 fun t10 =>
   pureK Tryz.prog (sBin .geq T_int (.tmp 8) (.tmp 10) col1 t10) fun t11 =>
   ifB t11
   (pureK Tryz.prog (sBuild T_api_Value #[]) fun t13_1 =>
    upK Tryz.prog (sStore T_api_Value t4 t13_1) w1 fun tu_1 w3 =>
    readV Tryz.prog (do loadVar T_api_Value (← asAddr t4)) w3 fun t4_2 =>
    K t4_2 w3)
   (pureK Tryz.prog (sIdxAddr T_s_api_Value row0 col1) fun t16 =>
    readK Tryz.prog (sLoad T_api_Value t16) w1 fun t17 =>
    upK Tryz.prog (sStore T_api_Value t4 t17) w1 fun tu_2 w4 =>
    readV Tryz.prog (do loadVar T_api_Value (← asAddr t4)) w4 fun t4_3 =>
    K t4_3 w4))
theorem aggregate_at.pt_eq : aggregate_at.pt = fun row0 col1 w K => FN Tryz.prog Tryz.f33 (bodyOf Tryz.f33) [] .leaf [row0, col1] w K := by kernel_rfl
theorem aggregate_at.call {row0 col1 : Value} {w : World} {K : Value → World → Prop} (h : aggregate_at.pt row0 col1 w K) : Calls Tryz.prog F_aggregate_at #[row0, col1] w (retK K) :=
  calls_FN (args := [row0, col1]) Tryz.func33 (by kernel_rfl) (by rw [aggregate_at.pt_eq] at h; exact h)
theorem aggregate_at.up {row0 col1 : Value} {w : World} {K : Value → World → Prop} (h : Calls Tryz.prog F_aggregate_at #[row0, col1] w (retK K)) : upK Tryz.prog (sCall F_aggregate_at #[row0, col1]) w K :=
  up_call (fn := Tryz.f33) Tryz.func33 (by kernel_rfl) (by kernel_rfl) h

/-- errata/aggregate.put -/
def aggregate_put.pt (bag0 v1 n2 : Value) (w : World) (K : Value → World → Prop) : Prop :=
  upK Tryz.prog (sBox T_api_Value v1) w fun v4 w1 =>
  readK Tryz.prog (sLoad T_api_Value v4) (tick w1) fun t7 =>
  readK Tryz.prog (sLookup T_map_api_Value_int bag0 t7 false) (tick w1) fun t8 =>
  pureK Tryz.prog (sBin .add T_int (.tmp 8) (.tmp 9) t8 n2) fun t10 =>
  upK Tryz.prog (sMapEntry T_map_api_Value_int bag0 t7) (tick w1) fun t11 w2 =>
  Is Tryz.prog (sLookup T_map_api_Value_int bag0 t7 false) t8 w2 ∧ pureK Tryz.prog (sExtract t11 1) fun t12 =>
  upK Tryz.prog (sEntryStore T_map_api_Value_int bag0 t12 t10) w2 fun tu w3 =>
  readK Tryz.prog (sLoad T_api_Value v4) w3 fun t14 =>
  readK Tryz.prog (sLookup T_map_api_Value_int bag0 t14 false) w3 fun t15 =>
  pureK Tryz.prog (sBin .eql T_int (.tmp 15) (.const (.int .i64 0)) t15 (.int .i64 0)) fun t16 =>
  ifB t16
  (readK Tryz.prog (sLoad T_api_Value v4) w3 fun t18 =>
   upK Tryz.prog (sBlt .delete #[T_map_api_Value_int, T_api_Value] T_ #[false, false] #[bag0, t18]) w3 fun tu_1 w4 =>
   K (.tuple #[]) w4)
  (K (.tuple #[]) w3)
theorem aggregate_put.pt_eq : aggregate_put.pt = fun bag0 v1 n2 w K => FN Tryz.prog Tryz.f34 (bodyOf Tryz.f34) [] .leaf [bag0, v1, n2] w K := by kernel_rfl
theorem aggregate_put.call {bag0 v1 n2 : Value} {w : World} {K : Value → World → Prop} (h : aggregate_put.pt bag0 v1 n2 w K) : Calls Tryz.prog F_aggregate_put #[bag0, v1, n2] w (retK K) :=
  calls_FN (args := [bag0, v1, n2]) Tryz.func34 (by kernel_rfl) (by rw [aggregate_put.pt_eq] at h; exact h)
theorem aggregate_put.up {bag0 v1 n2 : Value} {w : World} {K : Value → World → Prop} (h : Calls Tryz.prog F_aggregate_put #[bag0, v1, n2] w (retK K)) : upK Tryz.prog (sCall F_aggregate_put #[bag0, v1, n2]) w K :=
  up_call (fn := Tryz.f34) Tryz.func34 (by kernel_rfl) (by kernel_rfl) h

/-- errata/wire.Open -/
def wire_Open.pt (s0 : Value) (w : World) (K : Value → World → Prop) : Prop :=
  pureK Tryz.prog (sBuild T_wire_Reader #[(0, s0)]) fun t4 =>
  upK Tryz.prog (sBox T_wire_Reader t4) w fun t5 w1 =>
  K t5 w1
theorem wire_Open.pt_eq : wire_Open.pt = fun s0 w K => FN Tryz.prog Tryz.f35 (bodyOf Tryz.f35) [2] .leaf [s0] w K := by kernel_rfl
theorem wire_Open.call {s0 : Value} {w : World} {K : Value → World → Prop} (h : wire_Open.pt s0 w K) : Calls Tryz.prog F_wire_Open #[s0] w (retK K) :=
  calls_FN (args := [s0]) Tryz.func35 (by kernel_rfl) (by rw [wire_Open.pt_eq] at h; exact h)
theorem wire_Open.up {s0 : Value} {w : World} {K : Value → World → Prop} (h : Calls Tryz.prog F_wire_Open #[s0] w (retK K)) : upK Tryz.prog (sCall F_wire_Open #[s0]) w K :=
  up_call (fn := Tryz.f35) Tryz.func35 (by kernel_rfl) (by kernel_rfl) h

/-- (*errata/wire.Reader).Int -/
def wire_Reader_Int.pt (r0 : Value) (w : World) (K : Value → World → Prop) : Prop :=
  upK Tryz.prog (sCall F_wire_Reader_number #[r0, (.int .u8 59), (.int .i64 (-9223372036854775808))]) w fun t4 w1 =>
  K t4 w1
theorem wire_Reader_Int.pt_eq : wire_Reader_Int.pt = fun r0 w K => FN Tryz.prog Tryz.f36 (bodyOf Tryz.f36) [2] .leaf [r0] w K := by kernel_rfl
theorem wire_Reader_Int.call {r0 : Value} {w : World} {K : Value → World → Prop} (h : wire_Reader_Int.pt r0 w K) : Calls Tryz.prog F_wire_Reader_Int #[r0] w (retK K) :=
  calls_FN (args := [r0]) Tryz.func36 (by kernel_rfl) (by rw [wire_Reader_Int.pt_eq] at h; exact h)
theorem wire_Reader_Int.up {r0 : Value} {w : World} {K : Value → World → Prop} (h : Calls Tryz.prog F_wire_Reader_Int #[r0] w (retK K)) : upK Tryz.prog (sCall F_wire_Reader_Int #[r0]) w K :=
  up_call (fn := Tryz.f36) Tryz.func36 (by kernel_rfl) (by kernel_rfl) h

/-- (*errata/wire.Reader).Num -/
def wire_Reader_Num.pt (r0 : Value) (w : World) (K : Value → World → Prop) : Prop :=
  upK Tryz.prog (sCall F_wire_Reader_number #[r0, (.int .u8 59), (.int .i64 0)]) w fun t4 w1 =>
  K t4 w1
theorem wire_Reader_Num.pt_eq : wire_Reader_Num.pt = fun r0 w K => FN Tryz.prog Tryz.f37 (bodyOf Tryz.f37) [2] .leaf [r0] w K := by kernel_rfl
theorem wire_Reader_Num.call {r0 : Value} {w : World} {K : Value → World → Prop} (h : wire_Reader_Num.pt r0 w K) : Calls Tryz.prog F_wire_Reader_Num #[r0] w (retK K) :=
  calls_FN (args := [r0]) Tryz.func37 (by kernel_rfl) (by rw [wire_Reader_Num.pt_eq] at h; exact h)
theorem wire_Reader_Num.up {r0 : Value} {w : World} {K : Value → World → Prop} (h : Calls Tryz.prog F_wire_Reader_Num #[r0] w (retK K)) : upK Tryz.prog (sCall F_wire_Reader_Num #[r0]) w K :=
  up_call (fn := Tryz.f37) Tryz.func37 (by kernel_rfl) (by kernel_rfl) h

/-- errata/value.Read -/
def value_Read.pt (s0 : Value) (w : World) (K : Value → World → Prop) : Prop :=
  upK Tryz.prog (sAlloc T_api_Value) w fun t2 w1 =>
  upK Tryz.prog (sCall F_wire_Open #[s0]) w1 fun t7 w2 =>
  upK Tryz.prog (sCall F_value_take #[t7]) w2 fun t9 w3 =>
  upK Tryz.prog (sAlloc T_api_Value) w3 fun v5 w4 =>
  upK Tryz.prog (sStore T_api_Value v5 t9) w4 fun tu w5 =>
  upK Tryz.prog (sCall F_wire_Reader_Done #[t7]) w5 fun t11 w6 =>
  pureK Tryz.prog (sUn .not t11) fun t12 =>
  ifB t12
  (pureK Tryz.prog (sBuild T_api_Value #[]) fun t13 =>
   upK Tryz.prog (sStore T_api_Value t2 t13) w6 fun tu_1 w7 =>
   readV Tryz.prog (do loadVar T_api_Value (← asAddr t2)) w7 fun t2_1 =>
   K (.tuple #[t2_1, (.bool false)]) w7)
  (readK Tryz.prog (sLoad T_api_Value v5) w6 fun t14 =>
   upK Tryz.prog (sStore T_api_Value t2 t14) w6 fun tu_2 w8 =>
   readV Tryz.prog (do loadVar T_api_Value (← asAddr t2)) w8 fun t2_2 =>
   K (.tuple #[t2_2, (.bool true)]) w8)
theorem value_Read.pt_eq : value_Read.pt = fun s0 w K => FN Tryz.prog Tryz.f38 (bodyOf Tryz.f38) [3] .leaf [s0] w K := by kernel_rfl
theorem value_Read.call {s0 : Value} {w : World} {K : Value → World → Prop} (h : value_Read.pt s0 w K) : Calls Tryz.prog F_value_Read #[s0] w (retK K) :=
  calls_FN (args := [s0]) Tryz.func38 (by kernel_rfl) (by rw [value_Read.pt_eq] at h; exact h)
theorem value_Read.up {s0 : Value} {w : World} {K : Value → World → Prop} (h : Calls Tryz.prog F_value_Read #[s0] w (retK K)) : upK Tryz.prog (sCall F_value_Read #[s0]) w K :=
  up_call (fn := Tryz.f38) Tryz.func38 (by kernel_rfl) (by kernel_rfl) h

/-- (*errata/wire.Reader).Text -/
def wire_Reader_Text.pt (r0 : Value) (w : World) (K : Value → World → Prop) : Prop :=
  upK Tryz.prog (sCall F_wire_Reader_number #[r0, (.int .u8 58), (.int .i64 0)]) w fun t6 w1 =>
  pureK Tryz.prog (sNil r0) fun t9 =>
  pureK Tryz.prog (sFieldAddr T_wire_Reader t9 0) fun t10 =>
  readK Tryz.prog (sLoad T_string t10) w1 fun t11 =>
  readK Tryz.prog (sBlt .len #[T_string] T_int #[false] #[t11]) w1 fun t12 =>
  pureK Tryz.prog (sBin .gtr T_int (.tmp 7) (.tmp 12) t6 t12) fun t13 =>
  ifB t13
  (upK Tryz.prog (sCall F_wire_Reader_fail #[r0]) w1 fun t15 w2 =>
   K (.string ⟨#[]⟩) w2)
  (pureK Tryz.prog (sNil r0) fun t17 =>
   pureK Tryz.prog (sFieldAddr T_wire_Reader t17 0) fun t18 =>
   readK Tryz.prog (sLoad T_string t18) w1 fun t19 =>
   pureK Tryz.prog (sSlice T_string t19 none (some t6) none) fun t21 =>
   pureK Tryz.prog (sNil r0) fun t24 =>
   pureK Tryz.prog (sFieldAddr T_wire_Reader t24 0) fun t25 =>
   readK Tryz.prog (sLoad T_string t25) w1 fun t26 =>
   pureK Tryz.prog (sSlice T_string t26 (some t6) none none) fun t28 =>
   pureK Tryz.prog (sNil r0) fun t29 =>
   pureK Tryz.prog (sFieldAddr T_wire_Reader t29 0) fun t30 =>
   upK Tryz.prog (sStore T_string t30 t28) w1 fun tu w3 =>
   upK Tryz.prog (sCall F_wire_Reader_close #[r0, (.string ⟨#[44]⟩)]) w3 fun t32 w4 =>
   pureK Tryz.prog (sNil r0) fun t34 =>
   pureK Tryz.prog (sFieldAddr T_wire_Reader t34 1) fun t35 =>
   readK Tryz.prog (sLoad T_bool t35) w4 fun t36 =>
   ifB t36
   (K (.string ⟨#[]⟩) w4)
   (K t21 w4))
theorem wire_Reader_Text.pt_eq : wire_Reader_Text.pt = fun r0 w K => FN Tryz.prog Tryz.f39 (bodyOf Tryz.f39) [2] .leaf [r0] w K := by kernel_rfl
theorem wire_Reader_Text.call {r0 : Value} {w : World} {K : Value → World → Prop} (h : wire_Reader_Text.pt r0 w K) : Calls Tryz.prog F_wire_Reader_Text #[r0] w (retK K) :=
  calls_FN (args := [r0]) Tryz.func39 (by kernel_rfl) (by rw [wire_Reader_Text.pt_eq] at h; exact h)
theorem wire_Reader_Text.up {r0 : Value} {w : World} {K : Value → World → Prop} (h : Calls Tryz.prog F_wire_Reader_Text #[r0] w (retK K)) : upK Tryz.prog (sCall F_wire_Reader_Text #[r0]) w K :=
  up_call (fn := Tryz.f39) Tryz.func39 (by kernel_rfl) (by kernel_rfl) h

/-- errata/value.Right -/
def value_Right.pt (v0 : Value) (w : World) (K : Value → World → Prop) : Prop :=
  upK Tryz.prog (sBox T_api_Value v0) w fun v1 w1 =>
  pureK Tryz.prog (sFieldAddr T_api_Value v1 0) fun t3 =>
  readK Tryz.prog (sLoad T_int t3) w1 fun t4 =>
  pureK Tryz.prog (sBin .eql T_int (.tmp 4) (.const (.int .i64 0)) t4 (.int .i64 0)) fun t6 =>
  ifB t6
  (readK Tryz.prog (sLoad T_api_Value v1) (tick w1) fun t7 =>
   pureK Tryz.prog (sFieldAddr T_api_Value v1 1) fun t8 =>
   readK Tryz.prog (sLoad T_int t8) (tick w1) fun t9 =>
   upK Tryz.prog (sCall F_value_Int #[t9]) (tick w1) fun t10 w2 =>
   Is Tryz.prog (sLoad T_api_Value v1) t7 w2 ∧ pureK Tryz.prog (sBin .eql T_api_Value (.tmp 7) (.tmp 10) t7 t10) fun t11 =>
   K t11 w2)
  (pureK Tryz.prog (sBin .eql T_int (.tmp 4) (.const (.int .i64 1)) t4 (.int .i64 1)) fun t13 =>
   ifB t13
   (readK Tryz.prog (sLoad T_api_Value v1) (tick w1) fun t14 =>
    pureK Tryz.prog (sFieldAddr T_api_Value v1 2) fun t15 =>
    readK Tryz.prog (sLoad T_string t15) (tick w1) fun t16 =>
    upK Tryz.prog (sCall F_value_Text #[t16]) (tick w1) fun t17 w3 =>
    Is Tryz.prog (sLoad T_api_Value v1) t14 w3 ∧ pureK Tryz.prog (sBin .eql T_api_Value (.tmp 14) (.tmp 17) t14 t17) fun t18 =>
    ifB t18
    (pureK Tryz.prog (sFieldAddr T_api_Value v1 2) fun t20 =>
     readK Tryz.prog (sLoad T_string t20) w3 fun t21 =>
     readK Tryz.prog (sBlt .len #[T_string] T_int #[false] #[t21]) w3 fun t22 =>
     pureK Tryz.prog (sBin .leq T_int (.tmp 22) (.const (.int .i64 200)) t22 (.int .i64 200)) fun t23 =>
     K t23 w3)
    (K (.bool false) w3))
   (readK Tryz.prog (sLoad T_api_Value v1) (tick w1) fun t25 =>
    upK Tryz.prog (sCall F_value_Bool #[(.bool false)]) (tick w1) fun t26 w4 =>
    Is Tryz.prog (sLoad T_api_Value v1) t25 w4 ∧ pureK Tryz.prog (sBin .eql T_api_Value (.tmp 25) (.tmp 26) t25 t26) fun t27 =>
    ifB t27
    (K (.bool true) w4)
    (readK Tryz.prog (sLoad T_api_Value v1) w4 fun t29 =>
     upK Tryz.prog (sCall F_value_Bool #[(.bool true)]) w4 fun t30 w5 =>
     Is Tryz.prog (sLoad T_api_Value v1) t29 w5 ∧ pureK Tryz.prog (sBin .eql T_api_Value (.tmp 29) (.tmp 30) t29 t30) fun t31 =>
     K t31 w5)))
theorem value_Right.pt_eq : value_Right.pt = fun v0 w K => FN Tryz.prog Tryz.f40 (bodyOf Tryz.f40) [2] .leaf [v0] w K := by kernel_rfl
theorem value_Right.call {v0 : Value} {w : World} {K : Value → World → Prop} (h : value_Right.pt v0 w K) : Calls Tryz.prog F_value_Right #[v0] w (retK K) :=
  calls_FN (args := [v0]) Tryz.func40 (by kernel_rfl) (by rw [value_Right.pt_eq] at h; exact h)
theorem value_Right.up {v0 : Value} {w : World} {K : Value → World → Prop} (h : Calls Tryz.prog F_value_Right #[v0] w (retK K)) : upK Tryz.prog (sCall F_value_Right #[v0]) w K :=
  up_call (fn := Tryz.f40) Tryz.func40 (by kernel_rfl) (by kernel_rfl) h

/-- (*errata/wire.Reader).Done -/
def wire_Reader_Done.pt (r0 : Value) (w : World) (K : Value → World → Prop) : Prop :=
  pureK Tryz.prog (sNil r0) fun t4 =>
  pureK Tryz.prog (sFieldAddr T_wire_Reader t4 1) fun t5 =>
  readK Tryz.prog (sLoad T_bool t5) w fun t6 =>
  pureK Tryz.prog (sUn .not t6) fun t7 =>
  ifB t7
  (pureK Tryz.prog (sNil r0) fun t10 =>
   pureK Tryz.prog (sFieldAddr T_wire_Reader t10 0) fun t11 =>
   readK Tryz.prog (sLoad T_string t11) w fun t12 =>
   pureK Tryz.prog (sBin .eql T_string (.tmp 12) (.const (.string ⟨#[]⟩)) t12 (.string ⟨#[]⟩)) fun t13 =>
   K t13 w)
  (K (.bool false) w)
theorem wire_Reader_Done.pt_eq : wire_Reader_Done.pt = fun r0 w K => FN Tryz.prog Tryz.f41 (bodyOf Tryz.f41) [2] .leaf [r0] w K := by kernel_rfl
theorem wire_Reader_Done.call {r0 : Value} {w : World} {K : Value → World → Prop} (h : wire_Reader_Done.pt r0 w K) : Calls Tryz.prog F_wire_Reader_Done #[r0] w (retK K) :=
  calls_FN (args := [r0]) Tryz.func41 (by kernel_rfl) (by rw [wire_Reader_Done.pt_eq] at h; exact h)
theorem wire_Reader_Done.up {r0 : Value} {w : World} {K : Value → World → Prop} (h : Calls Tryz.prog F_wire_Reader_Done #[r0] w (retK K)) : upK Tryz.prog (sCall F_wire_Reader_Done #[r0]) w K :=
  up_call (fn := Tryz.f41) Tryz.func41 (by kernel_rfl) (by kernel_rfl) h

/-- slices.ContainsFunc[[]map[errata/api.Value]int,map[errata/api.Value]int] -/
def slices_ContainsFunc_s_map_api_Value_int_map_api_Value_int.pt (s0 f1 : Value) (w : World) (K : Value → World → Prop) : Prop :=
  upK Tryz.prog (sCall F_slices_IndexFunc_s_map_api_Value_int_map_api_Value_int #[s0, f1]) w fun t7 w1 =>
  pureK Tryz.prog (sBin .geq T_int (.tmp 7) (.const (.int .i64 0)) t7 (.int .i64 0)) fun t8 =>
  K t8 w1
theorem slices_ContainsFunc_s_map_api_Value_int_map_api_Value_int.pt_eq : slices_ContainsFunc_s_map_api_Value_int_map_api_Value_int.pt = fun s0 f1 w K => FN Tryz.prog Tryz.f42 (bodyOf Tryz.f42) [4] .leaf [s0, f1] w K := by kernel_rfl
theorem slices_ContainsFunc_s_map_api_Value_int_map_api_Value_int.call {s0 f1 : Value} {w : World} {K : Value → World → Prop} (h : slices_ContainsFunc_s_map_api_Value_int_map_api_Value_int.pt s0 f1 w K) : Calls Tryz.prog F_slices_ContainsFunc_s_map_api_Value_int_map_api_Value_int #[s0, f1] w (retK K) :=
  calls_FN (args := [s0, f1]) Tryz.func42 (by kernel_rfl) (by rw [slices_ContainsFunc_s_map_api_Value_int_map_api_Value_int.pt_eq] at h; exact h)
theorem slices_ContainsFunc_s_map_api_Value_int_map_api_Value_int.up {s0 f1 : Value} {w : World} {K : Value → World → Prop} (h : Calls Tryz.prog F_slices_ContainsFunc_s_map_api_Value_int_map_api_Value_int #[s0, f1] w (retK K)) : upK Tryz.prog (sCall F_slices_ContainsFunc_s_map_api_Value_int_map_api_Value_int #[s0, f1]) w K :=
  up_call (fn := Tryz.f42) Tryz.func42 (by kernel_rfl) (by kernel_rfl) h

/-- errata/aggregate.zero -/
def aggregate_zero.pt (bag0 : Value) (w : World) (K : Value → World → Prop) : Prop :=
  upK Tryz.prog (sRange T_map_api_Value_int bag0) w fun t6 w1 =>
  LOOP (X := Unit) (fun lv2 w2 next2 =>
   upK Tryz.prog (sNext t6 false T_) w2 fun t7 w3 =>
   pureK Tryz.prog (sExtract t7 0) fun t8 =>
   ifB t8
   (upK Tryz.prog (sEntry t6) w3 fun t9 w4 =>
    pureK Tryz.prog (sExtract t9 1) fun t10 =>
    pureK Tryz.prog (sBin .eql T_int (.tmp 11) (.const (.int .i64 0)) t10 (.int .i64 0)) fun t12 =>
    ifB t12
    (K (.bool true) w4)
    (next2 (()) w4))
   (K (.bool false) w3))
  (()) w1
theorem aggregate_zero.pt_eq : aggregate_zero.pt = fun bag0 w K => FN Tryz.prog Tryz.f43 (bodyOf Tryz.f43) [2] .leaf [bag0] w K := by kernel_rfl
theorem aggregate_zero.call {bag0 : Value} {w : World} {K : Value → World → Prop} (h : aggregate_zero.pt bag0 w K) : Calls Tryz.prog F_aggregate_zero #[bag0] w (retK K) :=
  calls_FN (args := [bag0]) Tryz.func43 (by kernel_rfl) (by rw [aggregate_zero.pt_eq] at h; exact h)
theorem aggregate_zero.up {bag0 : Value} {w : World} {K : Value → World → Prop} (h : Calls Tryz.prog F_aggregate_zero #[bag0] w (retK K)) : upK Tryz.prog (sCall F_aggregate_zero #[bag0]) w K :=
  up_call (fn := Tryz.f43) Tryz.func43 (by kernel_rfl) (by kernel_rfl) h

/-- (*strings.Builder).WriteString -/
def strings_Builder_WriteString.pt (b0 s1 : Value) (w : World) (K : Value → World → Prop) : Prop :=
  upK Tryz.prog (sCall F_strings_Builder_copyCheck #[b0]) w fun t7 w1 =>
  pureK Tryz.prog (sNil b0) fun t10 =>
  pureK Tryz.prog (sFieldAddr T_strings_Builder t10 1) fun t11 =>
  readK Tryz.prog (sLoad T_s_uint8 t11) w1 fun t12 =>
  upK Tryz.prog (sBlt .append #[T_s_uint8, T_string] T_s_uint8 #[false, false] #[t12, s1]) w1 fun t14 w2 =>
  pureK Tryz.prog (sNil b0) fun t15 =>
  pureK Tryz.prog (sFieldAddr T_strings_Builder t15 1) fun t16 =>
  upK Tryz.prog (sStore T_s_uint8 t16 t14) w2 fun tu w3 =>
  readK Tryz.prog (sBlt .len #[T_string] T_int #[false] #[s1]) w3 fun t18 =>
  K (.tuple #[t18, .nilIface]) w3
theorem strings_Builder_WriteString.pt_eq : strings_Builder_WriteString.pt = fun b0 s1 w K => FN Tryz.prog Tryz.f44 (bodyOf Tryz.f44) [4, 5] .leaf [b0, s1] w K := by kernel_rfl
theorem strings_Builder_WriteString.call {b0 s1 : Value} {w : World} {K : Value → World → Prop} (h : strings_Builder_WriteString.pt b0 s1 w K) : Calls Tryz.prog F_strings_Builder_WriteString #[b0, s1] w (retK K) :=
  calls_FN (args := [b0, s1]) Tryz.func44 (by kernel_rfl) (by rw [strings_Builder_WriteString.pt_eq] at h; exact h)
theorem strings_Builder_WriteString.up {b0 s1 : Value} {w : World} {K : Value → World → Prop} (h : Calls Tryz.prog F_strings_Builder_WriteString #[b0, s1] w (retK K)) : upK Tryz.prog (sCall F_strings_Builder_WriteString #[b0, s1]) w K :=
  up_call (fn := Tryz.f44) Tryz.func44 (by kernel_rfl) (by kernel_rfl) h

/-- errata/wire.Int -/
def wire_Int.pt (n0 : Value) (w : World) (K : Value → World → Prop) : Prop :=
  upK Tryz.prog (sCall F_strconv_Itoa #[n0]) w fun t4 w1 =>
  pureK Tryz.prog (sBin .add T_string (.tmp 4) (.const (.string ⟨#[59]⟩)) t4 (.string ⟨#[59]⟩)) fun t5 =>
  K t5 w1
theorem wire_Int.pt_eq : wire_Int.pt = fun n0 w K => FN Tryz.prog Tryz.f45 (bodyOf Tryz.f45) [2] .leaf [n0] w K := by kernel_rfl
theorem wire_Int.call {n0 : Value} {w : World} {K : Value → World → Prop} (h : wire_Int.pt n0 w K) : Calls Tryz.prog F_wire_Int #[n0] w (retK K) :=
  calls_FN (args := [n0]) Tryz.func45 (by kernel_rfl) (by rw [wire_Int.pt_eq] at h; exact h)
theorem wire_Int.up {n0 : Value} {w : World} {K : Value → World → Prop} (h : Calls Tryz.prog F_wire_Int #[n0] w (retK K)) : upK Tryz.prog (sCall F_wire_Int #[n0]) w K :=
  up_call (fn := Tryz.f45) Tryz.func45 (by kernel_rfl) (by kernel_rfl) h

/-- errata/wire.Num -/
def wire_Num.pt (n0 : Value) (w : World) (K : Value → World → Prop) : Prop :=
  pureK Tryz.prog (sBin .lss T_int (.tmp 3) (.const (.int .i64 0)) n0 (.int .i64 0)) fun t4 =>
  ifB t4
  (K (.string ⟨#[]⟩) w)
  (upK Tryz.prog (sCall F_wire_Int #[n0]) w fun t6 w1 =>
   K t6 w1)
theorem wire_Num.pt_eq : wire_Num.pt = fun n0 w K => FN Tryz.prog Tryz.f46 (bodyOf Tryz.f46) [2] .leaf [n0] w K := by kernel_rfl
theorem wire_Num.call {n0 : Value} {w : World} {K : Value → World → Prop} (h : wire_Num.pt n0 w K) : Calls Tryz.prog F_wire_Num #[n0] w (retK K) :=
  calls_FN (args := [n0]) Tryz.func46 (by kernel_rfl) (by rw [wire_Num.pt_eq] at h; exact h)
theorem wire_Num.up {n0 : Value} {w : World} {K : Value → World → Prop} (h : Calls Tryz.prog F_wire_Num #[n0] w (retK K)) : upK Tryz.prog (sCall F_wire_Num #[n0]) w K :=
  up_call (fn := Tryz.f46) Tryz.func46 (by kernel_rfl) (by kernel_rfl) h

/-- (*errata/aggregate.Acc).sorted -/
def aggregate_Acc_sorted.pt (a0 i1 : Value) (w : World) (K : Value → World → Prop) : Prop :=
  pureK Tryz.prog (sNil a0) fun t6 =>
  pureK Tryz.prog (sFieldAddr T_aggregate_Acc t6 3) fun t7 =>
  readK Tryz.prog (sLoad T_s_map_api_Value_int t7) w fun t8 =>
  pureK Tryz.prog (sIdxAddr T_s_map_api_Value_int t8 i1) fun t10 =>
  readK Tryz.prog (sLoad T_map_api_Value_int t10) w fun t11 =>
  upK Tryz.prog (sCall F_maps_Keys_map_api_Value_int_api_Value_int #[t11]) w fun t12 w1 =>
  upK Tryz.prog (sCall F_slices_SortedFunc_api_Value #[t12, (.func (.func 90) #[] #[])]) w1 fun t13 w2 =>
  K t13 w2
theorem aggregate_Acc_sorted.pt_eq : aggregate_Acc_sorted.pt = fun a0 i1 w K => FN Tryz.prog Tryz.f47 (bodyOf Tryz.f47) [4] .leaf [a0, i1] w K := by kernel_rfl
theorem aggregate_Acc_sorted.call {a0 i1 : Value} {w : World} {K : Value → World → Prop} (h : aggregate_Acc_sorted.pt a0 i1 w K) : Calls Tryz.prog F_aggregate_Acc_sorted #[a0, i1] w (retK K) :=
  calls_FN (args := [a0, i1]) Tryz.func47 (by kernel_rfl) (by rw [aggregate_Acc_sorted.pt_eq] at h; exact h)
theorem aggregate_Acc_sorted.up {a0 i1 : Value} {w : World} {K : Value → World → Prop} (h : Calls Tryz.prog F_aggregate_Acc_sorted #[a0, i1] w (retK K)) : upK Tryz.prog (sCall F_aggregate_Acc_sorted #[a0, i1]) w K :=
  up_call (fn := Tryz.f47) Tryz.func47 (by kernel_rfl) (by kernel_rfl) h

/-- errata/wire.Text -/
def wire_Text.pt (s0 : Value) (w : World) (K : Value → World → Prop) : Prop :=
  readK Tryz.prog (sBlt .len #[T_string] T_int #[false] #[s0]) w fun t4 =>
  upK Tryz.prog (sCall F_strconv_Itoa #[t4]) w fun t5 w1 =>
  pureK Tryz.prog (sBin .add T_string (.tmp 5) (.const (.string ⟨#[58]⟩)) t5 (.string ⟨#[58]⟩)) fun t6 =>
  pureK Tryz.prog (sBin .add T_string (.tmp 6) (.tmp 7) t6 s0) fun t8 =>
  pureK Tryz.prog (sBin .add T_string (.tmp 8) (.const (.string ⟨#[44]⟩)) t8 (.string ⟨#[44]⟩)) fun t9 =>
  K t9 w1
theorem wire_Text.pt_eq : wire_Text.pt = fun s0 w K => FN Tryz.prog Tryz.f48 (bodyOf Tryz.f48) [2] .leaf [s0] w K := by kernel_rfl
theorem wire_Text.call {s0 : Value} {w : World} {K : Value → World → Prop} (h : wire_Text.pt s0 w K) : Calls Tryz.prog F_wire_Text #[s0] w (retK K) :=
  calls_FN (args := [s0]) Tryz.func48 (by kernel_rfl) (by rw [wire_Text.pt_eq] at h; exact h)
theorem wire_Text.up {s0 : Value} {w : World} {K : Value → World → Prop} (h : Calls Tryz.prog F_wire_Text #[s0] w (retK K)) : upK Tryz.prog (sCall F_wire_Text #[s0]) w K :=
  up_call (fn := Tryz.f48) Tryz.func48 (by kernel_rfl) (by kernel_rfl) h

/-- errata/value.Bytes -/
def value_Bytes.pt (v0 : Value) (w : World) (K : Value → World → Prop) : Prop :=
  upK Tryz.prog (sBox T_api_Value v0) w fun v1 w1 =>
  pureK Tryz.prog (sFieldAddr T_api_Value v1 0) fun t3 =>
  readK Tryz.prog (sLoad T_int t3) (tick w1) fun t4 =>
  pureK Tryz.prog (sFieldAddr T_api_Value v1 1) fun t6 =>
  readK Tryz.prog (sLoad T_int t6) (tick w1) fun t7 =>
  pureK Tryz.prog (sFieldAddr T_api_Value v1 2) fun t10 =>
  readK Tryz.prog (sLoad T_string t10) (tick w1) fun t11 =>
  upK Tryz.prog (sCall F_wire_Int #[t4]) (tick w1) fun t5 w2 =>
  Is Tryz.prog (sLoad T_string t10) t11 w2 ∧ Is Tryz.prog (sLoad T_int t6) t7 w2 ∧ upK Tryz.prog (sCall F_wire_Int #[t7]) w2 fun t8 w3 =>
  Is Tryz.prog (sLoad T_string t10) t11 w3 ∧ pureK Tryz.prog (sBin .add T_string (.tmp 5) (.tmp 8) t5 t8) fun t9 =>
  upK Tryz.prog (sCall F_wire_Text #[t11]) w3 fun t12 w4 =>
  pureK Tryz.prog (sBin .add T_string (.tmp 9) (.tmp 12) t9 t12) fun t13 =>
  K t13 w4
theorem value_Bytes.pt_eq : value_Bytes.pt = fun v0 w K => FN Tryz.prog Tryz.f49 (bodyOf Tryz.f49) [2] .leaf [v0] w K := by kernel_rfl
theorem value_Bytes.call {v0 : Value} {w : World} {K : Value → World → Prop} (h : value_Bytes.pt v0 w K) : Calls Tryz.prog F_value_Bytes #[v0] w (retK K) :=
  calls_FN (args := [v0]) Tryz.func49 (by kernel_rfl) (by rw [value_Bytes.pt_eq] at h; exact h)
theorem value_Bytes.up {v0 : Value} {w : World} {K : Value → World → Prop} (h : Calls Tryz.prog F_value_Bytes #[v0] w (retK K)) : upK Tryz.prog (sCall F_value_Bytes #[v0]) w K :=
  up_call (fn := Tryz.f49) Tryz.func49 (by kernel_rfl) (by kernel_rfl) h

/-- (*strings.Builder).String -/
theorem strings_Builder_String.up {p0 : Value} {w : World} {K : Value → World → Prop} (h : Calls Tryz.prog F_strings_Builder_String #[p0] w (retK K)) : upK Tryz.prog (sCall F_strings_Builder_String #[p0]) w K :=
  up_call (fn := Tryz.f50) Tryz.func50 (by kernel_rfl) (by kernel_rfl) h

/-- slices.Clone[[]int,int] -/
def slices_Clone_s_int_int.pt (s0 : Value) (w : World) (K : Value → World → Prop) : Prop :=
  pureK Tryz.prog (sBin .eql T_s_int (.tmp 3) (.const (.slice none 0 0)) s0 (.slice none 0 0)) fun t4 =>
  ifB t4
  (K (.slice none 0 0) w)
  (upK Tryz.prog (sBuildSlice T_s_int 0 #[]) w fun t5 w1 =>
   upK Tryz.prog (sBlt .append #[T_s_int, T_s_int] T_s_int #[false, false] #[t5, s0]) w1 fun t7 w2 =>
   K t7 w2)
theorem slices_Clone_s_int_int.pt_eq : slices_Clone_s_int_int.pt = fun s0 w K => FN Tryz.prog Tryz.f51 (bodyOf Tryz.f51) [2] .leaf [s0] w K := by kernel_rfl
theorem slices_Clone_s_int_int.call {s0 : Value} {w : World} {K : Value → World → Prop} (h : slices_Clone_s_int_int.pt s0 w K) : Calls Tryz.prog F_slices_Clone_s_int_int #[s0] w (retK K) :=
  calls_FN (args := [s0]) Tryz.func51 (by kernel_rfl) (by rw [slices_Clone_s_int_int.pt_eq] at h; exact h)
theorem slices_Clone_s_int_int.up {s0 : Value} {w : World} {K : Value → World → Prop} (h : Calls Tryz.prog F_slices_Clone_s_int_int #[s0] w (retK K)) : upK Tryz.prog (sCall F_slices_Clone_s_int_int #[s0]) w K :=
  up_call (fn := Tryz.f51) Tryz.func51 (by kernel_rfl) (by kernel_rfl) h

/-- maps.Clone[map[errata/api.Value]int,errata/api.Value,int] -/
def maps_Clone_map_api_Value_int_api_Value_int.pt (m0 : Value) (w : World) (K : Value → World → Prop) : Prop :=
  pureK Tryz.prog (sBin .eql T_map_api_Value_int (.tmp 3) (.const (.map none)) m0 (.map none)) fun t4 =>
  ifB t4
  (K (.map none) w)
  (pureK Tryz.prog (sMkIface T_map_api_Value_int m0) fun t6 =>
   upK Tryz.prog (sCall F_maps_clone #[t6]) w fun t7 w1 =>
   upK Tryz.prog (sTypeAssert t7 T_interface T_map_api_Value_int false) w1 fun t8 w2 =>
   K t8 w2)
theorem maps_Clone_map_api_Value_int_api_Value_int.pt_eq : maps_Clone_map_api_Value_int_api_Value_int.pt = fun m0 w K => FN Tryz.prog Tryz.f52 (bodyOf Tryz.f52) [2] .leaf [m0] w K := by kernel_rfl
theorem maps_Clone_map_api_Value_int_api_Value_int.call {m0 : Value} {w : World} {K : Value → World → Prop} (h : maps_Clone_map_api_Value_int_api_Value_int.pt m0 w K) : Calls Tryz.prog F_maps_Clone_map_api_Value_int_api_Value_int #[m0] w (retK K) :=
  calls_FN (args := [m0]) Tryz.func52 (by kernel_rfl) (by rw [maps_Clone_map_api_Value_int_api_Value_int.pt_eq] at h; exact h)
theorem maps_Clone_map_api_Value_int_api_Value_int.up {m0 : Value} {w : World} {K : Value → World → Prop} (h : Calls Tryz.prog F_maps_Clone_map_api_Value_int_api_Value_int #[m0] w (retK K)) : upK Tryz.prog (sCall F_maps_Clone_map_api_Value_int_api_Value_int #[m0]) w K :=
  up_call (fn := Tryz.f52) Tryz.func52 (by kernel_rfl) (by kernel_rfl) h

/-- errata/errataref03.CompareRows -/
def errataref03_CompareRows.pt (a0 b1 : Value) (w : World) (K : Value → World → Prop) : Prop :=
  LETJ (X := Unit) (fun jv1 w1 =>
   readK Tryz.prog (sBlt .len #[T_s_api_Value] T_int #[false] #[a0]) w1 fun t32 =>
   readK Tryz.prog (sBlt .len #[T_s_api_Value] T_int #[false] #[b1]) w1 fun t34 =>
   pureK Tryz.prog (sBin .lss T_int (.tmp 32) (.tmp 34) t32 t34) fun t35 =>
   ifB t35
   (K (.int .i64 (-1)) w1)
   (readK Tryz.prog (sBlt .len #[T_s_api_Value] T_int #[false] #[a0]) w1 fun t37 =>
    readK Tryz.prog (sBlt .len #[T_s_api_Value] T_int #[false] #[b1]) w1 fun t39 =>
    pureK Tryz.prog (sBin .gtr T_int (.tmp 37) (.tmp 39) t37 t39) fun t40 =>
    ifB t40
    (K (.int .i64 1) w1)
    (K (.int .i64 0) w1)))
  (fun J1 =>
   LOOP (X := Value × Unit) (fun lv2 w2 next2 =>
    readK Tryz.prog (sBlt .len #[T_s_api_Value] T_int #[false] #[a0]) w2 fun t9 =>
    pureK Tryz.prog (sBin .lss T_int (.tmp 7) (.tmp 9) lv2.1 t9) fun t10 =>
    ifB t10
    (readK Tryz.prog (sBlt .len #[T_s_api_Value] T_int #[false] #[b1]) w2 fun t14 =>
     pureK Tryz.prog (sBin .lss T_int (.tmp 12) (.tmp 14) lv2.1 t14) fun t15 =>
     ifB t15
     (pureK Tryz.prog (sIdxAddr T_s_api_Value a0 lv2.1) fun t21 =>
      readK Tryz.prog (sLoad T_api_Value t21) (tick w2) fun t22 =>
      pureK Tryz.prog (sIdxAddr T_s_api_Value b1 lv2.1) fun t25 =>
      readK Tryz.prog (sLoad T_api_Value t25) (tick w2) fun t26 =>
      upK Tryz.prog (sCall F_errataref03_Compare #[t22, t26]) (tick w2) fun t27 w3 =>
      pureK Tryz.prog (sBin .neq T_int (.tmp 28) (.const (.int .i64 0)) t27 (.int .i64 0)) fun t29 =>
      ifB t29
      (K t27 w3)
      (pureK Tryz.prog (sBin .add T_int (.tmp 17) (.const (.int .i64 1)) lv2.1 (.int .i64 1)) fun t18 =>
       next2 (t18, ()) w3))
     (J1 (()) w2))
    (J1 (()) w2))
   ((.int .i64 0), ()) w)
theorem errataref03_CompareRows.pt_eq : errataref03_CompareRows.pt = fun a0 b1 w K => FN Tryz.prog Tryz.f53 (bodyOf Tryz.f53) [4] (.node none .leaf (.node (some []) .leaf .leaf)) [a0, b1] w K := by kernel_rfl
theorem errataref03_CompareRows.call {a0 b1 : Value} {w : World} {K : Value → World → Prop} (h : errataref03_CompareRows.pt a0 b1 w K) : Calls Tryz.prog F_errataref03_CompareRows #[a0, b1] w (retK K) :=
  calls_FN (args := [a0, b1]) Tryz.func53 (by kernel_rfl) (by rw [errataref03_CompareRows.pt_eq] at h; exact h)
theorem errataref03_CompareRows.up {a0 b1 : Value} {w : World} {K : Value → World → Prop} (h : Calls Tryz.prog F_errataref03_CompareRows #[a0, b1] w (retK K)) : upK Tryz.prog (sCall F_errataref03_CompareRows #[a0, b1]) w K :=
  up_call (fn := Tryz.f53) Tryz.func53 (by kernel_rfl) (by kernel_rfl) h

/-- errata/value.Int -/
def value_Int.pt (n0 : Value) (w : World) (K : Value → World → Prop) : Prop :=
  upK Tryz.prog (sAlloc T_api_Value) w fun t2 w1 =>
  pureK Tryz.prog (sBuild T_api_Value #[(0, (.int .i64 0)), (1, n0)]) fun t4 =>
  upK Tryz.prog (sStore T_api_Value t2 t4) w1 fun tu w2 =>
  readV Tryz.prog (do loadVar T_api_Value (← asAddr t2)) w2 fun t2_1 =>
  K t2_1 w2
theorem value_Int.pt_eq : value_Int.pt = fun n0 w K => FN Tryz.prog Tryz.f54 (bodyOf Tryz.f54) [] .leaf [n0] w K := by kernel_rfl
theorem value_Int.call {n0 : Value} {w : World} {K : Value → World → Prop} (h : value_Int.pt n0 w K) : Calls Tryz.prog F_value_Int #[n0] w (retK K) :=
  calls_FN (args := [n0]) Tryz.func54 (by kernel_rfl) (by rw [value_Int.pt_eq] at h; exact h)
theorem value_Int.up {n0 : Value} {w : World} {K : Value → World → Prop} (h : Calls Tryz.prog F_value_Int #[n0] w (retK K)) : upK Tryz.prog (sCall F_value_Int #[n0]) w K :=
  up_call (fn := Tryz.f54) Tryz.func54 (by kernel_rfl) (by kernel_rfl) h

/-- (*errata/aggregate.Acc).best -/
def aggregate_Acc_best.pt (a0 i1 : Value) (w : World) (K : Value → World → Prop) : Prop :=
  upK Tryz.prog (sBox T_p_aggregate_Acc a0) w fun a2 w1 =>
  upK Tryz.prog (sBox T_int i1) w1 fun i3 w2 =>
  upK Tryz.prog (sAlloc T_api_Value) w2 fun t4 w3 =>
  readK Tryz.prog (sLoad T_p_aggregate_Acc a2) w3 fun t6 =>
  readK Tryz.prog (sLoad T_int i3) w3 fun t7 =>
  upK Tryz.prog (sCall F_aggregate_Acc_sorted #[t6, t7]) w3 fun t8 w4 =>
  pureK Tryz.prog (sMkFunc (.func F_aggregate_Acc_best_1) #[] #[a2, i3]) fun t9 =>
  upK Tryz.prog (sCall F_slices_DeleteFunc_s_api_Value_api_Value #[t8, t9]) w4 fun t10 w5 =>
  readK Tryz.prog (sBlt .len #[T_s_api_Value] T_int #[false] #[t10]) w5 fun t13 =>
  pureK Tryz.prog (sBin .eql T_int (.tmp 13) (.const (.int .i64 0)) t13 (.int .i64 0)) fun t14 =>
  ifB t14
  (upK Tryz.prog (sCall F_value_Int #[(.int .i64 0)]) w5 fun t15 w6 =>
   upK Tryz.prog (sStore T_api_Value t4 t15) w6 fun tu w7 =>
   readV Tryz.prog (do loadVar T_api_Value (← asAddr t4)) w7 fun t4_1 =>
   K t4_1 w7)
  (readK Tryz.prog (sLoad T_p_aggregate_Acc a2) (tick w5) fun t17 =>
   pureK Tryz.prog (sNil t17) fun t18 =>
   pureK Tryz.prog (sFieldAddr T_aggregate_Acc t18 0) fun t19 =>
   readK Tryz.prog (sLoad T_s_api_Agg t19) (tick w5) fun t20 =>
   readK Tryz.prog (sLoad T_int i3) (tick w5) fun t21 =>
   pureK Tryz.prog (sIdxAddr T_s_api_Agg t20 t21) fun t22 =>
   pureK Tryz.prog (sFieldAddr T_api_Agg t22 0) fun t23 =>
   readK Tryz.prog (sLoad T_int t23) (tick w5) fun t24 =>
   pureK Tryz.prog (sBin .eql T_int (.tmp 24) (.const (.int .i64 2)) t24 (.int .i64 2)) fun t25 =>
   ifB t25
   (pureK Tryz.prog (sIdxAddr T_s_api_Value t10 (.int .i64 0)) fun t27 =>
    readK Tryz.prog (sLoad T_api_Value t27) (tick w5) fun t28 =>
    upK Tryz.prog (sStore T_api_Value t4 t28) (tick w5) fun tu_1 w8 =>
    readV Tryz.prog (do loadVar T_api_Value (← asAddr t4)) w8 fun t4_2 =>
    K t4_2 w8)
   (readK Tryz.prog (sBlt .len #[T_s_api_Value] T_int #[false] #[t10]) (tick w5) fun t31 =>
    pureK Tryz.prog (sBin .sub T_int (.tmp 31) (.const (.int .i64 1)) t31 (.int .i64 1)) fun t32 =>
    pureK Tryz.prog (sIdxAddr T_s_api_Value t10 t32) fun t33 =>
    readK Tryz.prog (sLoad T_api_Value t33) (tick w5) fun t34 =>
    upK Tryz.prog (sStore T_api_Value t4 t34) (tick w5) fun tu_2 w9 =>
    readV Tryz.prog (do loadVar T_api_Value (← asAddr t4)) w9 fun t4_3 =>
    K t4_3 w9))
theorem aggregate_Acc_best.pt_eq : aggregate_Acc_best.pt = fun a0 i1 w K => FN Tryz.prog Tryz.f55 (bodyOf Tryz.f55) [] .leaf [a0, i1] w K := by kernel_rfl
theorem aggregate_Acc_best.call {a0 i1 : Value} {w : World} {K : Value → World → Prop} (h : aggregate_Acc_best.pt a0 i1 w K) : Calls Tryz.prog F_aggregate_Acc_best #[a0, i1] w (retK K) :=
  calls_FN (args := [a0, i1]) Tryz.func55 (by kernel_rfl) (by rw [aggregate_Acc_best.pt_eq] at h; exact h)
theorem aggregate_Acc_best.up {a0 i1 : Value} {w : World} {K : Value → World → Prop} (h : Calls Tryz.prog F_aggregate_Acc_best #[a0, i1] w (retK K)) : upK Tryz.prog (sCall F_aggregate_Acc_best #[a0, i1]) w K :=
  up_call (fn := Tryz.f55) Tryz.func55 (by kernel_rfl) (by kernel_rfl) h

/-- errata/errataref30.At -/
def errataref30_At.pt (row0 col1 : Value) (w : World) (K : Value → World → Prop) : Prop :=
  upK Tryz.prog (sAlloc T_api_Value) w fun t4 w1 =>
  pureK Tryz.prog (sBin .lss T_int (.tmp 5) (.const (.int .i64 0)) col1 (.int .i64 0)) fun t6 =>
  ifB t6
  (pureK Tryz.prog (sBuild T_api_Value #[]) fun t13 =>
   upK Tryz.prog (sStore T_api_Value t4 t13) w1 fun tu w2 =>
   readV Tryz.prog (do loadVar T_api_Value (← asAddr t4)) w2 fun t4_1 =>
   K t4_1 w2)
  (readK Tryz.prog (sBlt .len #[T_s_api_Value] T_int #[false] #[row0]) w1 fun t10 =>
   pureK Tryz.prog (sBin .geq T_int (.tmp 8) (.tmp 10) col1 t10) fun t11 =>
   ifB t11
   (pureK Tryz.prog (sBuild T_api_Value #[]) fun t13_1 =>
    upK Tryz.prog (sStore T_api_Value t4 t13_1) w1 fun tu_1 w3 =>
    readV Tryz.prog (do loadVar T_api_Value (← asAddr t4)) w3 fun t4_2 =>
    K t4_2 w3)
   (pureK Tryz.prog (sIdxAddr T_s_api_Value row0 col1) fun t16 =>
    readK Tryz.prog (sLoad T_api_Value t16) w1 fun t17 =>
    upK Tryz.prog (sStore T_api_Value t4 t17) w1 fun tu_2 w4 =>
    readV Tryz.prog (do loadVar T_api_Value (← asAddr t4)) w4 fun t4_3 =>
    K t4_3 w4))
theorem errataref30_At.pt_eq : errataref30_At.pt = fun row0 col1 w K => FN Tryz.prog Tryz.f56 (bodyOf Tryz.f56) [] .leaf [row0, col1] w K := by kernel_rfl
theorem errataref30_At.call {row0 col1 : Value} {w : World} {K : Value → World → Prop} (h : errataref30_At.pt row0 col1 w K) : Calls Tryz.prog F_errataref30_At #[row0, col1] w (retK K) :=
  calls_FN (args := [row0, col1]) Tryz.func56 (by kernel_rfl) (by rw [errataref30_At.pt_eq] at h; exact h)
theorem errataref30_At.up {row0 col1 : Value} {w : World} {K : Value → World → Prop} (h : Calls Tryz.prog F_errataref30_At #[row0, col1] w (retK K)) : upK Tryz.prog (sCall F_errataref30_At #[row0, col1]) w K :=
  up_call (fn := Tryz.f56) Tryz.func56 (by kernel_rfl) (by kernel_rfl) h

/-- errata/errataref30.Ordered -/
def errataref30_Ordered.pt (g0 : Value) (w : World) (K : Value → World → Prop) : Prop :=
  upK Tryz.prog (sBox T_api_Agg g0) w fun g1 w1 =>
  pureK Tryz.prog (sFieldAddr T_api_Agg g1 0) fun t3 =>
  readK Tryz.prog (sLoad T_int t3) w1 fun t4 =>
  pureK Tryz.prog (sBin .eql T_int (.tmp 4) (.const (.int .i64 2)) t4 (.int .i64 2)) fun t5 =>
  ifB t5
  (K (.bool true) w1)
  (pureK Tryz.prog (sFieldAddr T_api_Agg g1 0) fun t7 =>
   readK Tryz.prog (sLoad T_int t7) w1 fun t8 =>
   pureK Tryz.prog (sBin .eql T_int (.tmp 8) (.const (.int .i64 3)) t8 (.int .i64 3)) fun t9 =>
   K t9 w1)
theorem errataref30_Ordered.pt_eq : errataref30_Ordered.pt = fun g0 w K => FN Tryz.prog Tryz.f57 (bodyOf Tryz.f57) [2] .leaf [g0] w K := by kernel_rfl
theorem errataref30_Ordered.call {g0 : Value} {w : World} {K : Value → World → Prop} (h : errataref30_Ordered.pt g0 w K) : Calls Tryz.prog F_errataref30_Ordered #[g0] w (retK K) :=
  calls_FN (args := [g0]) Tryz.func57 (by kernel_rfl) (by rw [errataref30_Ordered.pt_eq] at h; exact h)
theorem errataref30_Ordered.up {g0 : Value} {w : World} {K : Value → World → Prop} (h : Calls Tryz.prog F_errataref30_Ordered #[g0] w (retK K)) : upK Tryz.prog (sCall F_errataref30_Ordered #[g0]) w K :=
  up_call (fn := Tryz.f57) Tryz.func57 (by kernel_rfl) (by kernel_rfl) h

/-- errata/errataref30.With -/
def errataref30_With.pt (l0 v1 n2 : Value) (w : World) (K : Value → World → Prop) : Prop :=
  upK Tryz.prog (sBox T_api_Value v1) w fun v4 w1 =>
  LOOP (X := Value × Value × Value × Unit) (fun lv2 w2 next2 =>
   readK Tryz.prog (sBlt .len #[T_s_errataref30_Counted] T_int #[false] #[l0]) w2 fun t14 =>
   pureK Tryz.prog (sBin .lss T_int (.tmp 12) (.tmp 14) lv2.2.2.1 t14) fun t15 =>
   ifB t15
   (LETJ (X := Value × Value × Unit) (fun jv1 w3 =>
     pureK Tryz.prog (sBin .add T_int (.tmp 16) (.const (.int .i64 1)) lv2.2.2.1 (.int .i64 1)) fun t17 =>
     next2 (jv1.1, jv1.2.1, t17, ()) w3)
    (fun J1 =>
     readK Tryz.prog (sLoad T_api_Value v4) (tick w2) fun t18 =>
     pureK Tryz.prog (sIdxAddr T_s_errataref30_Counted l0 lv2.2.2.1) fun t21 =>
     pureK Tryz.prog (sFieldAddr T_errataref30_Counted t21 0) fun t22 =>
     readK Tryz.prog (sLoad T_api_Value t22) (tick w2) fun t23 =>
     upK Tryz.prog (sCall F_errataref03_Compare #[t18, t23]) (tick w2) fun t24 w4 =>
     LETJ (X := Value × Value × Unit) (fun jv2 w5 =>
      pureK Tryz.prog (sIdxAddr T_s_errataref30_Counted l0 lv2.2.2.1) fun t39 =>
      readK Tryz.prog (sLoad T_errataref30_Counted t39) w5 fun t40 =>
      upK Tryz.prog (sAlloc T_errataref30_Counted) w5 fun x11 w6 =>
      upK Tryz.prog (sStore T_errataref30_Counted x11 t40) w6 fun tu w7 =>
      LETJ (X := Value × Unit) (fun jv3 w8 =>
       pureK Tryz.prog (sFieldAddr T_errataref30_Counted x11 1) fun t48 =>
       readK Tryz.prog (sLoad T_int t48) w8 fun t49 =>
       pureK Tryz.prog (sBin .neq T_int (.tmp 49) (.const (.int .i64 0)) t49 (.int .i64 0)) fun t50 =>
       ifB t50
       (readK Tryz.prog (sLoad T_errataref30_Counted x11) w8 fun t52 =>
        upK Tryz.prog (sBuildSlice T_s_errataref30_Counted 1 #[(0, t52)]) w8 fun t53 w9 =>
        upK Tryz.prog (sBlt .append #[T_s_errataref30_Counted, T_s_errataref30_Counted] T_s_errataref30_Counted #[false, false] #[jv2.1, t53]) w9 fun t54 w10 =>
        J1 (t54, jv3.1, ()) w10)
       (J1 (jv2.1, jv3.1, ()) w8))
      (fun J3 =>
       pureK Tryz.prog (sBin .eql T_int (.tmp 41) (.const (.int .i64 0)) t24 (.int .i64 0)) fun t42 =>
       ifB t42
       (pureK Tryz.prog (sFieldAddr T_errataref30_Counted x11 1) fun t43 =>
        readK Tryz.prog (sLoad T_int t43) w7 fun t44 =>
        pureK Tryz.prog (sBin .add T_int (.tmp 44) (.tmp 45) t44 n2) fun t46 =>
        pureK Tryz.prog (sFieldAddr T_errataref30_Counted x11 1) fun t47 =>
        upK Tryz.prog (sStore T_int t47 t46) w7 fun tu_1 w11 =>
        J3 ((.bool true), ()) w11)
       (J3 (jv2.2.1, ()) w7)))
     (fun J2 =>
      pureK Tryz.prog (sBin .lss T_int (.tmp 25) (.const (.int .i64 0)) t24 (.int .i64 0)) fun t26 =>
      ifB t26
      (pureK Tryz.prog (sUn .not lv2.2.1) fun t29 =>
       ifB t29
       (readK Tryz.prog (sLoad T_api_Value v4) w4 fun t32 =>
        pureK Tryz.prog (sBuild T_errataref30_Counted #[(0, t32), (1, n2)]) fun t34 =>
        upK Tryz.prog (sBuildSlice T_s_errataref30_Counted 1 #[(0, t34)]) w4 fun t35 w12 =>
        upK Tryz.prog (sBlt .append #[T_s_errataref30_Counted, T_s_errataref30_Counted] T_s_errataref30_Counted #[false, false] #[lv2.1, t35]) w12 fun t36 w13 =>
        J2 (t36, (.bool true), ()) w13)
       (J2 (lv2.1, lv2.2.1, ()) w4))
      (J2 (lv2.1, lv2.2.1, ()) w4))))
   (LETJ (X := Value × Unit) (fun jv4 w14 =>
     K jv4.1 w14)
    (fun J4 =>
     pureK Tryz.prog (sUn .not lv2.2.1) fun t56 =>
     ifB t56
     (readK Tryz.prog (sLoad T_api_Value v4) w2 fun t58 =>
      pureK Tryz.prog (sBuild T_errataref30_Counted #[(0, t58), (1, n2)]) fun t60 =>
      upK Tryz.prog (sBuildSlice T_s_errataref30_Counted 1 #[(0, t60)]) w2 fun t61 w15 =>
      upK Tryz.prog (sBlt .append #[T_s_errataref30_Counted, T_s_errataref30_Counted] T_s_errataref30_Counted #[false, false] #[lv2.1, t61]) w15 fun t62 w16 =>
      J4 (t62, ()) w16)
     (J4 (lv2.1, ()) w2))))
  ((.slice none 0 0), (.bool false), (.int .i64 0), ()) w1
theorem errataref30_With.pt_eq : errataref30_With.pt = fun l0 v1 n2 w K => FN Tryz.prog Tryz.f58 (bodyOf Tryz.f58) [6] (.node none .leaf (.node none .leaf (.node none .leaf (.node none (.node none .leaf (.node none (.node none (.node none .leaf (.node (some [7, 8]) (.node none (.node none .leaf (.node (some [7, 8]) .leaf (.node none .leaf (.node (some [8]) .leaf .leaf)))) .leaf) .leaf)) .leaf) .leaf)) (.node (some [7]) .leaf .leaf))))) [l0, v1, n2] w K := by kernel_rfl
theorem errataref30_With.call {l0 v1 n2 : Value} {w : World} {K : Value → World → Prop} (h : errataref30_With.pt l0 v1 n2 w K) : Calls Tryz.prog F_errataref30_With #[l0, v1, n2] w (retK K) :=
  calls_FN (args := [l0, v1, n2]) Tryz.func58 (by kernel_rfl) (by rw [errataref30_With.pt_eq] at h; exact h)
theorem errataref30_With.up {l0 v1 n2 : Value} {w : World} {K : Value → World → Prop} (h : Calls Tryz.prog F_errataref30_With #[l0, v1, n2] w (retK K)) : upK Tryz.prog (sCall F_errataref30_With #[l0, v1, n2]) w K :=
  up_call (fn := Tryz.f58) Tryz.func58 (by kernel_rfl) (by kernel_rfl) h

/-- slices.ContainsFunc[[]int,int] -/
def slices_ContainsFunc_s_int_int.pt (s0 f1 : Value) (w : World) (K : Value → World → Prop) : Prop :=
  upK Tryz.prog (sCall F_slices_IndexFunc_s_int_int #[s0, f1]) w fun t7 w1 =>
  pureK Tryz.prog (sBin .geq T_int (.tmp 7) (.const (.int .i64 0)) t7 (.int .i64 0)) fun t8 =>
  K t8 w1
theorem slices_ContainsFunc_s_int_int.pt_eq : slices_ContainsFunc_s_int_int.pt = fun s0 f1 w K => FN Tryz.prog Tryz.f59 (bodyOf Tryz.f59) [4] .leaf [s0, f1] w K := by kernel_rfl
theorem slices_ContainsFunc_s_int_int.call {s0 f1 : Value} {w : World} {K : Value → World → Prop} (h : slices_ContainsFunc_s_int_int.pt s0 f1 w K) : Calls Tryz.prog F_slices_ContainsFunc_s_int_int #[s0, f1] w (retK K) :=
  calls_FN (args := [s0, f1]) Tryz.func59 (by kernel_rfl) (by rw [slices_ContainsFunc_s_int_int.pt_eq] at h; exact h)
theorem slices_ContainsFunc_s_int_int.up {s0 f1 : Value} {w : World} {K : Value → World → Prop} (h : Calls Tryz.prog F_slices_ContainsFunc_s_int_int #[s0, f1] w (retK K)) : upK Tryz.prog (sCall F_slices_ContainsFunc_s_int_int #[s0, f1]) w K :=
  up_call (fn := Tryz.f59) Tryz.func59 (by kernel_rfl) (by kernel_rfl) h

/-- (*errata/aggregate.Acc).Empty$1 -/
def aggregate_Acc_Empty_1.pt (n0 : Value) (w : World) (K : Value → World → Prop) : Prop :=
  pureK Tryz.prog (sBin .neq T_int (.tmp 3) (.const (.int .i64 0)) n0 (.int .i64 0)) fun t4 =>
  K t4 w
theorem aggregate_Acc_Empty_1.pt_eq : aggregate_Acc_Empty_1.pt = fun n0 w K => FN Tryz.prog Tryz.f60 (bodyOf Tryz.f60) [2] .leaf [n0] w K := by kernel_rfl
theorem aggregate_Acc_Empty_1.call {n0 : Value} {w : World} {K : Value → World → Prop} (h : aggregate_Acc_Empty_1.pt n0 w K) : Calls Tryz.prog F_aggregate_Acc_Empty_1 #[n0] w (retK K) :=
  calls_FN (args := [n0]) Tryz.func60 (by kernel_rfl) (by rw [aggregate_Acc_Empty_1.pt_eq] at h; exact h)
theorem aggregate_Acc_Empty_1.up {n0 : Value} {w : World} {K : Value → World → Prop} (h : Calls Tryz.prog F_aggregate_Acc_Empty_1 #[n0] w (retK K)) : upK Tryz.prog (sCall F_aggregate_Acc_Empty_1 #[n0]) w K :=
  up_call (fn := Tryz.f60) Tryz.func60 (by kernel_rfl) (by kernel_rfl) h

/-- errata/errataref01.Int -/
def errataref01_Int.pt (n0 : Value) (w : World) (K : Value → World → Prop) : Prop :=
  pureK Tryz.prog (sBin .lss T_int (.tmp 3) (.const (.int .i64 0)) n0 (.int .i64 0)) fun t4 =>
  ifB t4
  (upK Tryz.prog (sCall F_errataref01_digits #[n0]) w fun t6 w1 =>
   pureK Tryz.prog (sBin .add T_string (.const (.string ⟨#[45]⟩)) (.tmp 6) (.string ⟨#[45]⟩) t6) fun t7 =>
   pureK Tryz.prog (sBin .add T_string (.tmp 7) (.const (.string ⟨#[59]⟩)) t7 (.string ⟨#[59]⟩)) fun t8 =>
   K t8 w1)
  (pureK Tryz.prog (sUn .neg n0) fun t10 =>
   upK Tryz.prog (sCall F_errataref01_digits #[t10]) w fun t11 w2 =>
   pureK Tryz.prog (sBin .add T_string (.tmp 11) (.const (.string ⟨#[59]⟩)) t11 (.string ⟨#[59]⟩)) fun t12 =>
   K t12 w2)
theorem errataref01_Int.pt_eq : errataref01_Int.pt = fun n0 w K => FN Tryz.prog Tryz.f61 (bodyOf Tryz.f61) [2] .leaf [n0] w K := by kernel_rfl
theorem errataref01_Int.call {n0 : Value} {w : World} {K : Value → World → Prop} (h : errataref01_Int.pt n0 w K) : Calls Tryz.prog F_errataref01_Int #[n0] w (retK K) :=
  calls_FN (args := [n0]) Tryz.func61 (by kernel_rfl) (by rw [errataref01_Int.pt_eq] at h; exact h)
theorem errataref01_Int.up {n0 : Value} {w : World} {K : Value → World → Prop} (h : Calls Tryz.prog F_errataref01_Int #[n0] w (retK K)) : upK Tryz.prog (sCall F_errataref01_Int #[n0]) w K :=
  up_call (fn := Tryz.f61) Tryz.func61 (by kernel_rfl) (by kernel_rfl) h

/-- errata/errataref01.Num -/
def errataref01_Num.pt (n0 : Value) (w : World) (K : Value → World → Prop) : Prop :=
  pureK Tryz.prog (sBin .lss T_int (.tmp 3) (.const (.int .i64 0)) n0 (.int .i64 0)) fun t4 =>
  ifB t4
  (K (.string ⟨#[]⟩) w)
  (upK Tryz.prog (sCall F_errataref01_Int #[n0]) w fun t6 w1 =>
   K t6 w1)
theorem errataref01_Num.pt_eq : errataref01_Num.pt = fun n0 w K => FN Tryz.prog Tryz.f62 (bodyOf Tryz.f62) [2] .leaf [n0] w K := by kernel_rfl
theorem errataref01_Num.call {n0 : Value} {w : World} {K : Value → World → Prop} (h : errataref01_Num.pt n0 w K) : Calls Tryz.prog F_errataref01_Num #[n0] w (retK K) :=
  calls_FN (args := [n0]) Tryz.func62 (by kernel_rfl) (by rw [errataref01_Num.pt_eq] at h; exact h)
theorem errataref01_Num.up {n0 : Value} {w : World} {K : Value → World → Prop} (h : Calls Tryz.prog F_errataref01_Num #[n0] w (retK K)) : upK Tryz.prog (sCall F_errataref01_Num #[n0]) w K :=
  up_call (fn := Tryz.f62) Tryz.func62 (by kernel_rfl) (by kernel_rfl) h

/-- errata/errataref01.Text -/
def errataref01_Text.pt (s0 : Value) (w : World) (K : Value → World → Prop) : Prop :=
  readK Tryz.prog (sBlt .len #[T_string] T_int #[false] #[s0]) w fun t4 =>
  pureK Tryz.prog (sUn .neg t4) fun t5 =>
  upK Tryz.prog (sCall F_errataref01_digits #[t5]) w fun t6 w1 =>
  pureK Tryz.prog (sBin .add T_string (.tmp 6) (.const (.string ⟨#[58]⟩)) t6 (.string ⟨#[58]⟩)) fun t7 =>
  pureK Tryz.prog (sBin .add T_string (.tmp 7) (.tmp 8) t7 s0) fun t9 =>
  pureK Tryz.prog (sBin .add T_string (.tmp 9) (.const (.string ⟨#[44]⟩)) t9 (.string ⟨#[44]⟩)) fun t10 =>
  K t10 w1
theorem errataref01_Text.pt_eq : errataref01_Text.pt = fun s0 w K => FN Tryz.prog Tryz.f63 (bodyOf Tryz.f63) [2] .leaf [s0] w K := by kernel_rfl
theorem errataref01_Text.call {s0 : Value} {w : World} {K : Value → World → Prop} (h : errataref01_Text.pt s0 w K) : Calls Tryz.prog F_errataref01_Text #[s0] w (retK K) :=
  calls_FN (args := [s0]) Tryz.func63 (by kernel_rfl) (by rw [errataref01_Text.pt_eq] at h; exact h)
theorem errataref01_Text.up {s0 : Value} {w : World} {K : Value → World → Prop} (h : Calls Tryz.prog F_errataref01_Text #[s0] w (retK K)) : upK Tryz.prog (sCall F_errataref01_Text #[s0]) w K :=
  up_call (fn := Tryz.f63) Tryz.func63 (by kernel_rfl) (by kernel_rfl) h

/-- errata/errataref03.Bytes -/
def errataref03_Bytes.pt (v0 : Value) (w : World) (K : Value → World → Prop) : Prop :=
  upK Tryz.prog (sBox T_api_Value v0) w fun v1 w1 =>
  pureK Tryz.prog (sFieldAddr T_api_Value v1 0) fun t3 =>
  readK Tryz.prog (sLoad T_int t3) (tick w1) fun t4 =>
  pureK Tryz.prog (sFieldAddr T_api_Value v1 1) fun t6 =>
  readK Tryz.prog (sLoad T_int t6) (tick w1) fun t7 =>
  pureK Tryz.prog (sFieldAddr T_api_Value v1 2) fun t10 =>
  readK Tryz.prog (sLoad T_string t10) (tick w1) fun t11 =>
  upK Tryz.prog (sCall F_errataref01_Int #[t4]) (tick w1) fun t5 w2 =>
  Is Tryz.prog (sLoad T_string t10) t11 w2 ∧ Is Tryz.prog (sLoad T_int t6) t7 w2 ∧ upK Tryz.prog (sCall F_errataref01_Int #[t7]) w2 fun t8 w3 =>
  Is Tryz.prog (sLoad T_string t10) t11 w3 ∧ pureK Tryz.prog (sBin .add T_string (.tmp 5) (.tmp 8) t5 t8) fun t9 =>
  upK Tryz.prog (sCall F_errataref01_Text #[t11]) w3 fun t12 w4 =>
  pureK Tryz.prog (sBin .add T_string (.tmp 9) (.tmp 12) t9 t12) fun t13 =>
  K t13 w4
theorem errataref03_Bytes.pt_eq : errataref03_Bytes.pt = fun v0 w K => FN Tryz.prog Tryz.f64 (bodyOf Tryz.f64) [2] .leaf [v0] w K := by kernel_rfl
theorem errataref03_Bytes.call {v0 : Value} {w : World} {K : Value → World → Prop} (h : errataref03_Bytes.pt v0 w K) : Calls Tryz.prog F_errataref03_Bytes #[v0] w (retK K) :=
  calls_FN (args := [v0]) Tryz.func64 (by kernel_rfl) (by rw [errataref03_Bytes.pt_eq] at h; exact h)
theorem errataref03_Bytes.up {v0 : Value} {w : World} {K : Value → World → Prop} (h : Calls Tryz.prog F_errataref03_Bytes #[v0] w (retK K)) : upK Tryz.prog (sCall F_errataref03_Bytes #[v0]) w K :=
  up_call (fn := Tryz.f64) Tryz.func64 (by kernel_rfl) (by kernel_rfl) h

/-- slices.EqualFunc[[]errata/api.Agg,[]errata/api.Agg,errata/api.Agg,errata/api.Agg] -/
def slices_EqualFunc_s_api_Agg_s_api_Agg_api_Agg_api_Agg.pt (s10 s21 eq2 : Value) (w : World) (K : Value → World → Prop) : Prop :=
  readK Tryz.prog (sBlt .len #[T_s_api_Agg] T_int #[false] #[s10]) w fun t11 =>
  readK Tryz.prog (sBlt .len #[T_s_api_Agg] T_int #[false] #[s21]) w fun t13 =>
  pureK Tryz.prog (sBin .neq T_int (.tmp 11) (.tmp 13) t11 t13) fun t14 =>
  ifB t14
  (K (.bool false) w)
  (readK Tryz.prog (sBlt .len #[T_s_api_Agg] T_int #[false] #[s10]) w fun t16 =>
   LOOP (X := Value × Unit) (fun lv1 w1 next1 =>
    pureK Tryz.prog (sBin .lss T_int (.tmp 17) (.tmp 16) lv1.1 t16) fun t18 =>
    ifB t18
    (pureK Tryz.prog (sIdxAddr T_s_api_Agg s10 lv1.1) fun t20 =>
     readK Tryz.prog (sLoad T_api_Agg t20) w1 fun t21 =>
     upK Tryz.prog (sAlloc T_api_Agg) w1 fun v18 w2 =>
     upK Tryz.prog (sStore T_api_Agg v18 t21) w2 fun tu w3 =>
     pureK Tryz.prog (sIdxAddr T_s_api_Agg s21 lv1.1) fun t24 =>
     readK Tryz.prog (sLoad T_api_Agg t24) w3 fun t25 =>
     upK Tryz.prog (sAlloc T_api_Agg) w3 fun v29 w4 =>
     upK Tryz.prog (sStore T_api_Agg v29 t25) w4 fun tu_1 w5 =>
     readK Tryz.prog (sLoad T_api_Agg v18) w5 fun t27 =>
     readK Tryz.prog (sLoad T_api_Agg v29) w5 fun t28 =>
     upK Tryz.prog (sCallV eq2 #[t27, t28]) w5 fun t29 w6 =>
     pureK Tryz.prog (sUn .not t29) fun t30 =>
     ifB t30
     (K (.bool false) w6)
     (pureK Tryz.prog (sBin .add T_int (.tmp 17) (.const (.int .i64 1)) lv1.1 (.int .i64 1)) fun t31 =>
      next1 (t31, ()) w6))
    (K (.bool true) w1))
   ((.int .i64 0), ()) w)
theorem slices_EqualFunc_s_api_Agg_s_api_Agg_api_Agg_api_Agg.pt_eq : slices_EqualFunc_s_api_Agg_s_api_Agg_api_Agg_api_Agg.pt = fun s10 s21 eq2 w K => FN Tryz.prog Tryz.f65 (bodyOf Tryz.f65) [6] .leaf [s10, s21, eq2] w K := by kernel_rfl
theorem slices_EqualFunc_s_api_Agg_s_api_Agg_api_Agg_api_Agg.call {s10 s21 eq2 : Value} {w : World} {K : Value → World → Prop} (h : slices_EqualFunc_s_api_Agg_s_api_Agg_api_Agg_api_Agg.pt s10 s21 eq2 w K) : Calls Tryz.prog F_slices_EqualFunc_s_api_Agg_s_api_Agg_api_Agg_api_Agg #[s10, s21, eq2] w (retK K) :=
  calls_FN (args := [s10, s21, eq2]) Tryz.func65 (by kernel_rfl) (by rw [slices_EqualFunc_s_api_Agg_s_api_Agg_api_Agg_api_Agg.pt_eq] at h; exact h)
theorem slices_EqualFunc_s_api_Agg_s_api_Agg_api_Agg_api_Agg.up {s10 s21 eq2 : Value} {w : World} {K : Value → World → Prop} (h : Calls Tryz.prog F_slices_EqualFunc_s_api_Agg_s_api_Agg_api_Agg_api_Agg #[s10, s21, eq2] w (retK K)) : upK Tryz.prog (sCall F_slices_EqualFunc_s_api_Agg_s_api_Agg_api_Agg_api_Agg #[s10, s21, eq2]) w K :=
  up_call (fn := Tryz.f65) Tryz.func65 (by kernel_rfl) (by kernel_rfl) h

/-- errata/aggregate.alike -/
def aggregate_alike.pt (g0 h1 : Value) (w : World) (K : Value → World → Prop) : Prop :=
  upK Tryz.prog (sBox T_api_Agg g0) w fun g2 w1 =>
  upK Tryz.prog (sBox T_api_Agg h1) w1 fun h3 w2 =>
  pureK Tryz.prog (sFieldAddr T_api_Agg g2 0) fun t5 =>
  readK Tryz.prog (sLoad T_int t5) w2 fun t6 =>
  pureK Tryz.prog (sFieldAddr T_api_Agg h3 0) fun t7 =>
  readK Tryz.prog (sLoad T_int t7) w2 fun t8 =>
  pureK Tryz.prog (sBin .eql T_int (.tmp 6) (.tmp 8) t6 t8) fun t9 =>
  ifB t9
  (pureK Tryz.prog (sFieldAddr T_api_Agg g2 1) fun t11 =>
   readK Tryz.prog (sLoad T_int t11) w2 fun t12 =>
   pureK Tryz.prog (sFieldAddr T_api_Agg h3 1) fun t13 =>
   readK Tryz.prog (sLoad T_int t13) w2 fun t14 =>
   pureK Tryz.prog (sBin .eql T_int (.tmp 12) (.tmp 14) t12 t14) fun t15 =>
   ifB t15
   (K (.bool true) w2)
   (pureK Tryz.prog (sFieldAddr T_api_Agg g2 0) fun t17 =>
    readK Tryz.prog (sLoad T_int t17) w2 fun t18 =>
    pureK Tryz.prog (sBin .eql T_int (.tmp 18) (.const (.int .i64 0)) t18 (.int .i64 0)) fun t19 =>
    K t19 w2))
  (K (.bool false) w2)
theorem aggregate_alike.pt_eq : aggregate_alike.pt = fun g0 h1 w K => FN Tryz.prog Tryz.f66 (bodyOf Tryz.f66) [4] .leaf [g0, h1] w K := by kernel_rfl
theorem aggregate_alike.call {g0 h1 : Value} {w : World} {K : Value → World → Prop} (h : aggregate_alike.pt g0 h1 w K) : Calls Tryz.prog F_aggregate_alike #[g0, h1] w (retK K) :=
  calls_FN (args := [g0, h1]) Tryz.func66 (by kernel_rfl) (by rw [aggregate_alike.pt_eq] at h; exact h)
theorem aggregate_alike.up {g0 h1 : Value} {w : World} {K : Value → World → Prop} (h : Calls Tryz.prog F_aggregate_alike #[g0, h1] w (retK K)) : upK Tryz.prog (sCall F_aggregate_alike #[g0, h1]) w K :=
  up_call (fn := Tryz.f66) Tryz.func66 (by kernel_rfl) (by kernel_rfl) h

/-- errata/errataref30.Alike -/
def errataref30_Alike.pt (g0 h1 : Value) (w : World) (K : Value → World → Prop) : Prop :=
  readK Tryz.prog (sBlt .len #[T_s_api_Agg] T_int #[false] #[g0]) w fun t7 =>
  readK Tryz.prog (sBlt .len #[T_s_api_Agg] T_int #[false] #[h1]) w fun t9 =>
  pureK Tryz.prog (sBin .neq T_int (.tmp 7) (.tmp 9) t7 t9) fun t10 =>
  ifB t10
  (K (.bool false) w)
  (LOOP (X := Value × Unit) (fun lv1 w1 next1 =>
    readK Tryz.prog (sBlt .len #[T_s_api_Agg] T_int #[false] #[g0]) w1 fun t13 =>
    pureK Tryz.prog (sBin .lss T_int (.tmp 11) (.tmp 13) lv1.1 t13) fun t14 =>
    ifB t14
    (LETJ (X := Unit) (fun jv1 w2 =>
      pureK Tryz.prog (sBin .add T_int (.tmp 15) (.const (.int .i64 1)) lv1.1 (.int .i64 1)) fun t16 =>
      next1 (t16, ()) w2)
     (fun J1 =>
      pureK Tryz.prog (sIdxAddr T_s_api_Agg g0 lv1.1) fun t19 =>
      pureK Tryz.prog (sFieldAddr T_api_Agg t19 0) fun t20 =>
      readK Tryz.prog (sLoad T_int t20) (tick w1) fun t21 =>
      pureK Tryz.prog (sIdxAddr T_s_api_Agg h1 lv1.1) fun t24 =>
      pureK Tryz.prog (sFieldAddr T_api_Agg t24 0) fun t25 =>
      readK Tryz.prog (sLoad T_int t25) (tick w1) fun t26 =>
      pureK Tryz.prog (sBin .neq T_int (.tmp 21) (.tmp 26) t21 t26) fun t27 =>
      ifB t27
      (K (.bool false) (tick w1))
      (pureK Tryz.prog (sIdxAddr T_s_api_Agg g0 lv1.1) fun t31 =>
       pureK Tryz.prog (sFieldAddr T_api_Agg t31 0) fun t32 =>
       readK Tryz.prog (sLoad T_int t32) (tick w1) fun t33 =>
       pureK Tryz.prog (sBin .neq T_int (.tmp 33) (.const (.int .i64 0)) t33 (.int .i64 0)) fun t34 =>
       ifB t34
       (pureK Tryz.prog (sIdxAddr T_s_api_Agg g0 lv1.1) fun t38 =>
        pureK Tryz.prog (sFieldAddr T_api_Agg t38 1) fun t39 =>
        readK Tryz.prog (sLoad T_int t39) (tick w1) fun t40 =>
        pureK Tryz.prog (sIdxAddr T_s_api_Agg h1 lv1.1) fun t43 =>
        pureK Tryz.prog (sFieldAddr T_api_Agg t43 1) fun t44 =>
        readK Tryz.prog (sLoad T_int t44) (tick w1) fun t45 =>
        pureK Tryz.prog (sBin .neq T_int (.tmp 40) (.tmp 45) t40 t45) fun t46 =>
        ifB t46
        (K (.bool false) (tick w1))
        (J1 (()) (tick w1)))
       (J1 (()) (tick w1)))))
    (K (.bool true) w1))
   ((.int .i64 0), ()) w)
theorem errataref30_Alike.pt_eq : errataref30_Alike.pt = fun g0 h1 w K => FN Tryz.prog Tryz.f67 (bodyOf Tryz.f67) [4] (.node none .leaf (.node none .leaf (.node none (.node none .leaf (.node none (.node none (.node none .leaf (.node (some []) .leaf .leaf)) .leaf) .leaf)) .leaf))) [g0, h1] w K := by kernel_rfl
theorem errataref30_Alike.call {g0 h1 : Value} {w : World} {K : Value → World → Prop} (h : errataref30_Alike.pt g0 h1 w K) : Calls Tryz.prog F_errataref30_Alike #[g0, h1] w (retK K) :=
  calls_FN (args := [g0, h1]) Tryz.func67 (by kernel_rfl) (by rw [errataref30_Alike.pt_eq] at h; exact h)
theorem errataref30_Alike.up {g0 h1 : Value} {w : World} {K : Value → World → Prop} (h : Calls Tryz.prog F_errataref30_Alike #[g0, h1] w (retK K)) : upK Tryz.prog (sCall F_errataref30_Alike #[g0, h1]) w K :=
  up_call (fn := Tryz.f67) Tryz.func67 (by kernel_rfl) (by kernel_rfl) h

/-- errata/errataref01.Open -/
def errataref01_Open.pt (s0 : Value) (w : World) (K : Value → World → Prop) : Prop :=
  pureK Tryz.prog (sBuild T_errataref01_Reader #[(0, s0)]) fun t4 =>
  upK Tryz.prog (sBox T_errataref01_Reader t4) w fun t5 w1 =>
  K t5 w1
theorem errataref01_Open.pt_eq : errataref01_Open.pt = fun s0 w K => FN Tryz.prog Tryz.f68 (bodyOf Tryz.f68) [2] .leaf [s0] w K := by kernel_rfl
theorem errataref01_Open.call {s0 : Value} {w : World} {K : Value → World → Prop} (h : errataref01_Open.pt s0 w K) : Calls Tryz.prog F_errataref01_Open #[s0] w (retK K) :=
  calls_FN (args := [s0]) Tryz.func68 (by kernel_rfl) (by rw [errataref01_Open.pt_eq] at h; exact h)
theorem errataref01_Open.up {s0 : Value} {w : World} {K : Value → World → Prop} (h : Calls Tryz.prog F_errataref01_Open #[s0] w (retK K)) : upK Tryz.prog (sCall F_errataref01_Open #[s0]) w K :=
  up_call (fn := Tryz.f68) Tryz.func68 (by kernel_rfl) (by kernel_rfl) h

/-- (*errata/errataref01.Reader).Int -/
def errataref01_Reader_Int.pt (r0 : Value) (w : World) (K : Value → World → Prop) : Prop :=
  upK Tryz.prog (sCall F_errataref01_Reader_ahead #[r0, (.int .u8 59)]) w fun t4 w1 =>
  K t4 w1
theorem errataref01_Reader_Int.pt_eq : errataref01_Reader_Int.pt = fun r0 w K => FN Tryz.prog Tryz.f69 (bodyOf Tryz.f69) [2] .leaf [r0] w K := by kernel_rfl
theorem errataref01_Reader_Int.call {r0 : Value} {w : World} {K : Value → World → Prop} (h : errataref01_Reader_Int.pt r0 w K) : Calls Tryz.prog F_errataref01_Reader_Int #[r0] w (retK K) :=
  calls_FN (args := [r0]) Tryz.func69 (by kernel_rfl) (by rw [errataref01_Reader_Int.pt_eq] at h; exact h)
theorem errataref01_Reader_Int.up {r0 : Value} {w : World} {K : Value → World → Prop} (h : Calls Tryz.prog F_errataref01_Reader_Int #[r0] w (retK K)) : upK Tryz.prog (sCall F_errataref01_Reader_Int #[r0]) w K :=
  up_call (fn := Tryz.f69) Tryz.func69 (by kernel_rfl) (by kernel_rfl) h

/-- (*errata/errataref01.Reader).Num -/
def errataref01_Reader_Num.pt (r0 : Value) (w : World) (K : Value → World → Prop) : Prop :=
  upK Tryz.prog (sCall F_errataref01_Reader_number #[r0, (.int .u8 59)]) w fun t4 w1 =>
  K t4 w1
theorem errataref01_Reader_Num.pt_eq : errataref01_Reader_Num.pt = fun r0 w K => FN Tryz.prog Tryz.f70 (bodyOf Tryz.f70) [2] .leaf [r0] w K := by kernel_rfl
theorem errataref01_Reader_Num.call {r0 : Value} {w : World} {K : Value → World → Prop} (h : errataref01_Reader_Num.pt r0 w K) : Calls Tryz.prog F_errataref01_Reader_Num #[r0] w (retK K) :=
  calls_FN (args := [r0]) Tryz.func70 (by kernel_rfl) (by rw [errataref01_Reader_Num.pt_eq] at h; exact h)
theorem errataref01_Reader_Num.up {r0 : Value} {w : World} {K : Value → World → Prop} (h : Calls Tryz.prog F_errataref01_Reader_Num #[r0] w (retK K)) : upK Tryz.prog (sCall F_errataref01_Reader_Num #[r0]) w K :=
  up_call (fn := Tryz.f70) Tryz.func70 (by kernel_rfl) (by kernel_rfl) h

/-- (*errata/errataref01.Reader).Left -/
def errataref01_Reader_Left.pt (r0 : Value) (w : World) (K : Value → World → Prop) : Prop :=
  pureK Tryz.prog (sNil r0) fun t4 =>
  pureK Tryz.prog (sFieldAddr T_errataref01_Reader t4 0) fun t5 =>
  readK Tryz.prog (sLoad T_string t5) w fun t6 =>
  readK Tryz.prog (sBlt .len #[T_string] T_int #[false] #[t6]) w fun t7 =>
  K t7 w
theorem errataref01_Reader_Left.pt_eq : errataref01_Reader_Left.pt = fun r0 w K => FN Tryz.prog Tryz.f71 (bodyOf Tryz.f71) [2] .leaf [r0] w K := by kernel_rfl
theorem errataref01_Reader_Left.call {r0 : Value} {w : World} {K : Value → World → Prop} (h : errataref01_Reader_Left.pt r0 w K) : Calls Tryz.prog F_errataref01_Reader_Left #[r0] w (retK K) :=
  calls_FN (args := [r0]) Tryz.func71 (by kernel_rfl) (by rw [errataref01_Reader_Left.pt_eq] at h; exact h)
theorem errataref01_Reader_Left.up {r0 : Value} {w : World} {K : Value → World → Prop} (h : Calls Tryz.prog F_errataref01_Reader_Left #[r0] w (retK K)) : upK Tryz.prog (sCall F_errataref01_Reader_Left #[r0]) w K :=
  up_call (fn := Tryz.f71) Tryz.func71 (by kernel_rfl) (by kernel_rfl) h

/-- errata/errataref03.Read -/
def errataref03_Read.pt (s0 : Value) (w : World) (K : Value → World → Prop) : Prop :=
  upK Tryz.prog (sAlloc T_api_Value) w fun t2 w1 =>
  upK Tryz.prog (sCall F_errataref01_Open #[s0]) w1 fun t7 w2 =>
  pureK Tryz.prog (sBuild T_api_Value #[]) fun t8 =>
  upK Tryz.prog (sAlloc T_api_Value) w2 fun v5 w3 =>
  upK Tryz.prog (sStore T_api_Value v5 t8) w3 fun tu w4 =>
  upK Tryz.prog (sCall F_errataref01_Reader_Int #[t7]) w4 fun t10 w5 =>
  pureK Tryz.prog (sFieldAddr T_api_Value v5 0) fun t11 =>
  upK Tryz.prog (sStore T_int t11 t10) w5 fun tu_1 w6 =>
  upK Tryz.prog (sCall F_errataref01_Reader_Int #[t7]) w6 fun t13 w7 =>
  pureK Tryz.prog (sFieldAddr T_api_Value v5 1) fun t14 =>
  upK Tryz.prog (sStore T_int t14 t13) w7 fun tu_2 w8 =>
  upK Tryz.prog (sCall F_errataref01_Reader_Text #[t7]) w8 fun t16 w9 =>
  pureK Tryz.prog (sFieldAddr T_api_Value v5 2) fun t17 =>
  upK Tryz.prog (sStore T_string t17 t16) w9 fun tu_3 w10 =>
  upK Tryz.prog (sCall F_errataref01_Reader_Done #[t7]) w10 fun t19 w11 =>
  pureK Tryz.prog (sUn .not t19) fun t20 =>
  ifB t20
  (pureK Tryz.prog (sBuild T_api_Value #[]) fun t21 =>
   upK Tryz.prog (sStore T_api_Value t2 t21) w11 fun tu_4 w12 =>
   readV Tryz.prog (do loadVar T_api_Value (← asAddr t2)) w12 fun t2_1 =>
   K (.tuple #[t2_1, (.bool false)]) w12)
  (readK Tryz.prog (sLoad T_api_Value v5) w11 fun t22 =>
   upK Tryz.prog (sStore T_api_Value t2 t22) w11 fun tu_5 w13 =>
   readV Tryz.prog (do loadVar T_api_Value (← asAddr t2)) w13 fun t2_2 =>
   K (.tuple #[t2_2, (.bool true)]) w13)
theorem errataref03_Read.pt_eq : errataref03_Read.pt = fun s0 w K => FN Tryz.prog Tryz.f72 (bodyOf Tryz.f72) [3] .leaf [s0] w K := by kernel_rfl
theorem errataref03_Read.call {s0 : Value} {w : World} {K : Value → World → Prop} (h : errataref03_Read.pt s0 w K) : Calls Tryz.prog F_errataref03_Read #[s0] w (retK K) :=
  calls_FN (args := [s0]) Tryz.func72 (by kernel_rfl) (by rw [errataref03_Read.pt_eq] at h; exact h)
theorem errataref03_Read.up {s0 : Value} {w : World} {K : Value → World → Prop} (h : Calls Tryz.prog F_errataref03_Read #[s0] w (retK K)) : upK Tryz.prog (sCall F_errataref03_Read #[s0]) w K :=
  up_call (fn := Tryz.f72) Tryz.func72 (by kernel_rfl) (by kernel_rfl) h

/-- (*errata/errataref01.Reader).Text -/
def errataref01_Reader_Text.pt (r0 : Value) (w : World) (K : Value → World → Prop) : Prop :=
  upK Tryz.prog (sCall F_errataref01_Reader_number #[r0, (.int .u8 58)]) w fun t6 w1 =>
  pureK Tryz.prog (sNil r0) fun t8 =>
  pureK Tryz.prog (sFieldAddr T_errataref01_Reader t8 1) fun t9 =>
  readK Tryz.prog (sLoad T_bool t9) w1 fun t10 =>
  ifB t10
  (upK Tryz.prog (sCall F_errataref01_Reader_fail #[r0]) w1 fun t21 w2 =>
   K (.string ⟨#[]⟩) w2)
  (pureK Tryz.prog (sNil r0) fun t14 =>
   pureK Tryz.prog (sFieldAddr T_errataref01_Reader t14 0) fun t15 =>
   readK Tryz.prog (sLoad T_string t15) w1 fun t16 =>
   readK Tryz.prog (sBlt .len #[T_string] T_int #[false] #[t16]) w1 fun t17 =>
   pureK Tryz.prog (sBin .geq T_int (.tmp 12) (.tmp 17) t6 t17) fun t18 =>
   ifB t18
   (upK Tryz.prog (sCall F_errataref01_Reader_fail #[r0]) w1 fun t21_1 w3 =>
    K (.string ⟨#[]⟩) w3)
   (pureK Tryz.prog (sNil r0) fun t23 =>
    pureK Tryz.prog (sFieldAddr T_errataref01_Reader t23 0) fun t24 =>
    readK Tryz.prog (sLoad T_string t24) w1 fun t25 =>
    pureK Tryz.prog (sSlice T_string t25 none (some t6) none) fun t27 =>
    pureK Tryz.prog (sNil r0) fun t30 =>
    pureK Tryz.prog (sFieldAddr T_errataref01_Reader t30 0) fun t31 =>
    readK Tryz.prog (sLoad T_string t31) w1 fun t32 =>
    pureK Tryz.prog (sSlice T_string t32 (some t6) none none) fun t34 =>
    pureK Tryz.prog (sNil r0) fun t35 =>
    pureK Tryz.prog (sFieldAddr T_errataref01_Reader t35 0) fun t36 =>
    upK Tryz.prog (sStore T_string t36 t34) w1 fun tu w4 =>
    upK Tryz.prog (sCall F_errataref01_Reader_close #[r0, (.int .u8 44)]) w4 fun t38 w5 =>
    pureK Tryz.prog (sUn .not t38) fun t39 =>
    ifB t39
    (K (.string ⟨#[]⟩) w5)
    (K t27 w5)))
theorem errataref01_Reader_Text.pt_eq : errataref01_Reader_Text.pt = fun r0 w K => FN Tryz.prog Tryz.f73 (bodyOf Tryz.f73) [2] .leaf [r0] w K := by kernel_rfl
theorem errataref01_Reader_Text.call {r0 : Value} {w : World} {K : Value → World → Prop} (h : errataref01_Reader_Text.pt r0 w K) : Calls Tryz.prog F_errataref01_Reader_Text #[r0] w (retK K) :=
  calls_FN (args := [r0]) Tryz.func73 (by kernel_rfl) (by rw [errataref01_Reader_Text.pt_eq] at h; exact h)
theorem errataref01_Reader_Text.up {r0 : Value} {w : World} {K : Value → World → Prop} (h : Calls Tryz.prog F_errataref01_Reader_Text #[r0] w (retK K)) : upK Tryz.prog (sCall F_errataref01_Reader_Text #[r0]) w K :=
  up_call (fn := Tryz.f73) Tryz.func73 (by kernel_rfl) (by kernel_rfl) h

/-- errata/errataref03.Right -/
def errataref03_Right.pt (v0 : Value) (w : World) (K : Value → World → Prop) : Prop :=
  upK Tryz.prog (sBox T_api_Value v0) w fun v1 w1 =>
  pureK Tryz.prog (sFieldAddr T_api_Value v1 0) fun t3 =>
  readK Tryz.prog (sLoad T_int t3) w1 fun t4 =>
  pureK Tryz.prog (sBin .eql T_int (.tmp 4) (.const (.int .i64 0)) t4 (.int .i64 0)) fun t5 =>
  ifB t5
  (pureK Tryz.prog (sFieldAddr T_api_Value v1 2) fun t6 =>
   readK Tryz.prog (sLoad T_string t6) w1 fun t7 =>
   pureK Tryz.prog (sBin .eql T_string (.tmp 7) (.const (.string ⟨#[]⟩)) t7 (.string ⟨#[]⟩)) fun t8 =>
   K t8 w1)
  (pureK Tryz.prog (sFieldAddr T_api_Value v1 0) fun t9 =>
   readK Tryz.prog (sLoad T_int t9) w1 fun t10 =>
   pureK Tryz.prog (sBin .eql T_int (.tmp 10) (.const (.int .i64 1)) t10 (.int .i64 1)) fun t11 =>
   ifB t11
   (pureK Tryz.prog (sFieldAddr T_api_Value v1 1) fun t12 =>
    readK Tryz.prog (sLoad T_int t12) w1 fun t13 =>
    pureK Tryz.prog (sBin .eql T_int (.tmp 13) (.const (.int .i64 0)) t13 (.int .i64 0)) fun t14 =>
    ifB t14
    (pureK Tryz.prog (sFieldAddr T_api_Value v1 2) fun t16 =>
     readK Tryz.prog (sLoad T_string t16) w1 fun t17 =>
     readK Tryz.prog (sBlt .len #[T_string] T_int #[false] #[t17]) w1 fun t18 =>
     pureK Tryz.prog (sBin .leq T_int (.tmp 18) (.const (.int .i64 200)) t18 (.int .i64 200)) fun t19 =>
     K t19 w1)
    (K (.bool false) w1))
   (pureK Tryz.prog (sFieldAddr T_api_Value v1 0) fun t21 =>
    readK Tryz.prog (sLoad T_int t21) w1 fun t22 =>
    pureK Tryz.prog (sBin .eql T_int (.tmp 22) (.const (.int .i64 2)) t22 (.int .i64 2)) fun t23 =>
    ifB t23
    (pureK Tryz.prog (sFieldAddr T_api_Value v1 1) fun t25 =>
     readK Tryz.prog (sLoad T_int t25) w1 fun t26 =>
     pureK Tryz.prog (sBin .eql T_int (.tmp 26) (.const (.int .i64 0)) t26 (.int .i64 0)) fun t27 =>
     ifB t27
     (pureK Tryz.prog (sFieldAddr T_api_Value v1 2) fun t35 =>
      readK Tryz.prog (sLoad T_string t35) w1 fun t36 =>
      pureK Tryz.prog (sBin .eql T_string (.tmp 36) (.const (.string ⟨#[]⟩)) t36 (.string ⟨#[]⟩)) fun t37 =>
      K t37 w1)
     (pureK Tryz.prog (sFieldAddr T_api_Value v1 1) fun t29 =>
      readK Tryz.prog (sLoad T_int t29) w1 fun t30 =>
      pureK Tryz.prog (sBin .eql T_int (.tmp 30) (.const (.int .i64 1)) t30 (.int .i64 1)) fun t31 =>
      ifB t31
      (pureK Tryz.prog (sFieldAddr T_api_Value v1 2) fun t35_1 =>
       readK Tryz.prog (sLoad T_string t35_1) w1 fun t36_1 =>
       pureK Tryz.prog (sBin .eql T_string (.tmp 36) (.const (.string ⟨#[]⟩)) t36_1 (.string ⟨#[]⟩)) fun t37_1 =>
       K t37_1 w1)
      (K (.bool false) w1)))
    (K (.bool false) w1)))
theorem errataref03_Right.pt_eq : errataref03_Right.pt = fun v0 w K => FN Tryz.prog Tryz.f74 (bodyOf Tryz.f74) [2] .leaf [v0] w K := by kernel_rfl
theorem errataref03_Right.call {v0 : Value} {w : World} {K : Value → World → Prop} (h : errataref03_Right.pt v0 w K) : Calls Tryz.prog F_errataref03_Right #[v0] w (retK K) :=
  calls_FN (args := [v0]) Tryz.func74 (by kernel_rfl) (by rw [errataref03_Right.pt_eq] at h; exact h)
theorem errataref03_Right.up {v0 : Value} {w : World} {K : Value → World → Prop} (h : Calls Tryz.prog F_errataref03_Right #[v0] w (retK K)) : upK Tryz.prog (sCall F_errataref03_Right #[v0]) w K :=
  up_call (fn := Tryz.f74) Tryz.func74 (by kernel_rfl) (by kernel_rfl) h

/-- errata/errataref03.Compare -/
def errataref03_Compare.pt (a0 b1 : Value) (w : World) (K : Value → World → Prop) : Prop :=
  upK Tryz.prog (sBox T_api_Value a0) w fun a2 w1 =>
  upK Tryz.prog (sBox T_api_Value b1) w1 fun b3 w2 =>
  pureK Tryz.prog (sFieldAddr T_api_Value a2 0) fun t5 =>
  readK Tryz.prog (sLoad T_int t5) w2 fun t6 =>
  pureK Tryz.prog (sFieldAddr T_api_Value b3 0) fun t7 =>
  readK Tryz.prog (sLoad T_int t7) w2 fun t8 =>
  pureK Tryz.prog (sBin .lss T_int (.tmp 6) (.tmp 8) t6 t8) fun t9 =>
  ifB t9
  (K (.int .i64 (-1)) w2)
  (pureK Tryz.prog (sFieldAddr T_api_Value a2 0) fun t10 =>
   readK Tryz.prog (sLoad T_int t10) w2 fun t11 =>
   pureK Tryz.prog (sFieldAddr T_api_Value b3 0) fun t12 =>
   readK Tryz.prog (sLoad T_int t12) w2 fun t13 =>
   pureK Tryz.prog (sBin .gtr T_int (.tmp 11) (.tmp 13) t11 t13) fun t14 =>
   ifB t14
   (K (.int .i64 1) w2)
   (pureK Tryz.prog (sFieldAddr T_api_Value a2 1) fun t15 =>
    readK Tryz.prog (sLoad T_int t15) w2 fun t16 =>
    pureK Tryz.prog (sFieldAddr T_api_Value b3 1) fun t17 =>
    readK Tryz.prog (sLoad T_int t17) w2 fun t18 =>
    pureK Tryz.prog (sBin .lss T_int (.tmp 16) (.tmp 18) t16 t18) fun t19 =>
    ifB t19
    (K (.int .i64 (-1)) w2)
    (pureK Tryz.prog (sFieldAddr T_api_Value a2 1) fun t20 =>
     readK Tryz.prog (sLoad T_int t20) w2 fun t21 =>
     pureK Tryz.prog (sFieldAddr T_api_Value b3 1) fun t22 =>
     readK Tryz.prog (sLoad T_int t22) w2 fun t23 =>
     pureK Tryz.prog (sBin .gtr T_int (.tmp 21) (.tmp 23) t21 t23) fun t24 =>
     ifB t24
     (K (.int .i64 1) w2)
     (pureK Tryz.prog (sFieldAddr T_api_Value a2 2) fun t25 =>
      readK Tryz.prog (sLoad T_string t25) w2 fun t26 =>
      pureK Tryz.prog (sFieldAddr T_api_Value b3 2) fun t27 =>
      readK Tryz.prog (sLoad T_string t27) w2 fun t28 =>
      pureK Tryz.prog (sBin .lss T_string (.tmp 26) (.tmp 28) t26 t28) fun t29 =>
      ifB t29
      (K (.int .i64 (-1)) w2)
      (pureK Tryz.prog (sFieldAddr T_api_Value a2 2) fun t30 =>
       readK Tryz.prog (sLoad T_string t30) w2 fun t31 =>
       pureK Tryz.prog (sFieldAddr T_api_Value b3 2) fun t32 =>
       readK Tryz.prog (sLoad T_string t32) w2 fun t33 =>
       pureK Tryz.prog (sBin .gtr T_string (.tmp 31) (.tmp 33) t31 t33) fun t34 =>
       ifB t34
       (K (.int .i64 1) w2)
       (K (.int .i64 0) w2))))))
theorem errataref03_Compare.pt_eq : errataref03_Compare.pt = fun a0 b1 w K => FN Tryz.prog Tryz.f75 (bodyOf Tryz.f75) [4] .leaf [a0, b1] w K := by kernel_rfl
theorem errataref03_Compare.call {a0 b1 : Value} {w : World} {K : Value → World → Prop} (h : errataref03_Compare.pt a0 b1 w K) : Calls Tryz.prog F_errataref03_Compare #[a0, b1] w (retK K) :=
  calls_FN (args := [a0, b1]) Tryz.func75 (by kernel_rfl) (by rw [errataref03_Compare.pt_eq] at h; exact h)
theorem errataref03_Compare.up {a0 b1 : Value} {w : World} {K : Value → World → Prop} (h : Calls Tryz.prog F_errataref03_Compare #[a0, b1] w (retK K)) : upK Tryz.prog (sCall F_errataref03_Compare #[a0, b1]) w K :=
  up_call (fn := Tryz.f75) Tryz.func75 (by kernel_rfl) (by kernel_rfl) h

/-- (*errata/errataref01.Reader).Done -/
def errataref01_Reader_Done.pt (r0 : Value) (w : World) (K : Value → World → Prop) : Prop :=
  pureK Tryz.prog (sNil r0) fun t4 =>
  pureK Tryz.prog (sFieldAddr T_errataref01_Reader t4 1) fun t5 =>
  readK Tryz.prog (sLoad T_bool t5) w fun t6 =>
  pureK Tryz.prog (sUn .not t6) fun t7 =>
  ifB t7
  (pureK Tryz.prog (sNil r0) fun t10 =>
   pureK Tryz.prog (sFieldAddr T_errataref01_Reader t10 0) fun t11 =>
   readK Tryz.prog (sLoad T_string t11) w fun t12 =>
   pureK Tryz.prog (sBin .eql T_string (.tmp 12) (.const (.string ⟨#[]⟩)) t12 (.string ⟨#[]⟩)) fun t13 =>
   K t13 w)
  (K (.bool false) w)
theorem errataref01_Reader_Done.pt_eq : errataref01_Reader_Done.pt = fun r0 w K => FN Tryz.prog Tryz.f76 (bodyOf Tryz.f76) [2] .leaf [r0] w K := by kernel_rfl
theorem errataref01_Reader_Done.call {r0 : Value} {w : World} {K : Value → World → Prop} (h : errataref01_Reader_Done.pt r0 w K) : Calls Tryz.prog F_errataref01_Reader_Done #[r0] w (retK K) :=
  calls_FN (args := [r0]) Tryz.func76 (by kernel_rfl) (by rw [errataref01_Reader_Done.pt_eq] at h; exact h)
theorem errataref01_Reader_Done.up {r0 : Value} {w : World} {K : Value → World → Prop} (h : Calls Tryz.prog F_errataref01_Reader_Done #[r0] w (retK K)) : upK Tryz.prog (sCall F_errataref01_Reader_Done #[r0]) w K :=
  up_call (fn := Tryz.f76) Tryz.func76 (by kernel_rfl) (by kernel_rfl) h

/-- errata/aggregate.Type -/
def aggregate_Type.pt (g0 cols1 : Value) (w : World) (K : Value → World → Prop) : Prop :=
  upK Tryz.prog (sBox T_api_Agg g0) w fun g2 w1 =>
  LETJ (X := Unit) (fun jv1 w2 =>
   pureK Tryz.prog (sFieldAddr T_api_Agg g2 1) fun t44 =>
   readK Tryz.prog (sLoad T_int t44) w2 fun t45 =>
   pureK Tryz.prog (sIdxAddr T_s_api_Col cols1 t45) fun t46 =>
   pureK Tryz.prog (sFieldAddr T_api_Col t46 1) fun t47 =>
   readK Tryz.prog (sLoad T_int t47) w2 fun t48 =>
   K (.tuple #[t48, (.int .i64 0)]) w2)
  (fun J1 =>
   pureK Tryz.prog (sFieldAddr T_api_Agg g2 0) fun t7 =>
   readK Tryz.prog (sLoad T_int t7) w1 fun t8 =>
   pureK Tryz.prog (sBin .lss T_int (.tmp 8) (.const (.int .i64 0)) t8 (.int .i64 0)) fun t9 =>
   ifB t9
   (K (.tuple #[(.int .i64 0), (.int .i64 1)]) w1)
   (pureK Tryz.prog (sFieldAddr T_api_Agg g2 0) fun t11 =>
    readK Tryz.prog (sLoad T_int t11) w1 fun t12 =>
    pureK Tryz.prog (sBin .geq T_int (.tmp 12) (.const (.int .i64 4)) t12 (.int .i64 4)) fun t13 =>
    ifB t13
    (K (.tuple #[(.int .i64 0), (.int .i64 1)]) w1)
    (pureK Tryz.prog (sFieldAddr T_api_Agg g2 0) fun t16 =>
     readK Tryz.prog (sLoad T_int t16) w1 fun t17 =>
     pureK Tryz.prog (sBin .eql T_int (.tmp 17) (.const (.int .i64 0)) t17 (.int .i64 0)) fun t18 =>
     ifB t18
     (K (.tuple #[(.int .i64 0), (.int .i64 0)]) w1)
     (pureK Tryz.prog (sFieldAddr T_api_Agg g2 1) fun t20 =>
      readK Tryz.prog (sLoad T_int t20) w1 fun t21 =>
      pureK Tryz.prog (sBin .lss T_int (.tmp 21) (.const (.int .i64 0)) t21 (.int .i64 0)) fun t22 =>
      ifB t22
      (K (.tuple #[(.int .i64 0), (.int .i64 3)]) w1)
      (pureK Tryz.prog (sFieldAddr T_api_Agg g2 1) fun t24 =>
       readK Tryz.prog (sLoad T_int t24) w1 fun t25 =>
       readK Tryz.prog (sBlt .len #[T_s_api_Col] T_int #[false] #[cols1]) w1 fun t27 =>
       pureK Tryz.prog (sBin .geq T_int (.tmp 25) (.tmp 27) t25 t27) fun t28 =>
       ifB t28
       (K (.tuple #[(.int .i64 0), (.int .i64 3)]) w1)
       (pureK Tryz.prog (sFieldAddr T_api_Agg g2 0) fun t31 =>
        readK Tryz.prog (sLoad T_int t31) w1 fun t32 =>
        pureK Tryz.prog (sBin .eql T_int (.tmp 32) (.const (.int .i64 1)) t32 (.int .i64 1)) fun t33 =>
        ifB t33
        (pureK Tryz.prog (sFieldAddr T_api_Agg g2 1) fun t36 =>
         readK Tryz.prog (sLoad T_int t36) w1 fun t37 =>
         pureK Tryz.prog (sIdxAddr T_s_api_Col cols1 t37) fun t38 =>
         pureK Tryz.prog (sFieldAddr T_api_Col t38 1) fun t39 =>
         readK Tryz.prog (sLoad T_int t39) w1 fun t40 =>
         pureK Tryz.prog (sBin .neq T_int (.tmp 40) (.const (.int .i64 0)) t40 (.int .i64 0)) fun t41 =>
         ifB t41
         (K (.tuple #[(.int .i64 0), (.int .i64 13)]) w1)
         (J1 (()) w1))
        (J1 (()) w1)))))))
theorem aggregate_Type.pt_eq : aggregate_Type.pt = fun g0 cols1 w K => FN Tryz.prog Tryz.f77 (bodyOf Tryz.f77) [4, 5] (.node none .leaf (.node (some []) .leaf .leaf)) [g0, cols1] w K := by kernel_rfl
theorem aggregate_Type.call {g0 cols1 : Value} {w : World} {K : Value → World → Prop} (h : aggregate_Type.pt g0 cols1 w K) : Calls Tryz.prog F_aggregate_Type #[g0, cols1] w (retK K) :=
  calls_FN (args := [g0, cols1]) Tryz.func77 (by kernel_rfl) (by rw [aggregate_Type.pt_eq] at h; exact h)
theorem aggregate_Type.up {g0 cols1 : Value} {w : World} {K : Value → World → Prop} (h : Calls Tryz.prog F_aggregate_Type #[g0, cols1] w (retK K)) : upK Tryz.prog (sCall F_aggregate_Type #[g0, cols1]) w K :=
  up_call (fn := Tryz.f77) Tryz.func77 (by kernel_rfl) (by kernel_rfl) h

/-- errata/errataref30.Type -/
def errataref30_Type.pt (g0 cols1 : Value) (w : World) (K : Value → World → Prop) : Prop :=
  upK Tryz.prog (sBox T_api_Agg g0) w fun g2 w1 =>
  pureK Tryz.prog (sFieldAddr T_api_Agg g2 0) fun t6 =>
  readK Tryz.prog (sLoad T_int t6) w1 fun t7 =>
  pureK Tryz.prog (sBin .lss T_int (.tmp 7) (.const (.int .i64 0)) t7 (.int .i64 0)) fun t8 =>
  ifB t8
  (K (.tuple #[(.int .i64 0), (.int .i64 1)]) w1)
  (pureK Tryz.prog (sFieldAddr T_api_Agg g2 0) fun t10 =>
   readK Tryz.prog (sLoad T_int t10) w1 fun t11 =>
   pureK Tryz.prog (sBin .gtr T_int (.tmp 11) (.const (.int .i64 3)) t11 (.int .i64 3)) fun t12 =>
   ifB t12
   (K (.tuple #[(.int .i64 0), (.int .i64 1)]) w1)
   (pureK Tryz.prog (sFieldAddr T_api_Agg g2 0) fun t14 =>
    readK Tryz.prog (sLoad T_int t14) w1 fun t15 =>
    pureK Tryz.prog (sBin .eql T_int (.tmp 15) (.const (.int .i64 0)) t15 (.int .i64 0)) fun t16 =>
    ifB t16
    (K (.tuple #[(.int .i64 0), (.int .i64 0)]) w1)
    (pureK Tryz.prog (sFieldAddr T_api_Agg g2 1) fun t17 =>
     readK Tryz.prog (sLoad T_int t17) w1 fun t18 =>
     pureK Tryz.prog (sBin .lss T_int (.tmp 18) (.const (.int .i64 0)) t18 (.int .i64 0)) fun t19 =>
     ifB t19
     (K (.tuple #[(.int .i64 0), (.int .i64 3)]) w1)
     (pureK Tryz.prog (sFieldAddr T_api_Agg g2 1) fun t21 =>
      readK Tryz.prog (sLoad T_int t21) w1 fun t22 =>
      readK Tryz.prog (sBlt .len #[T_s_api_Col] T_int #[false] #[cols1]) w1 fun t24 =>
      pureK Tryz.prog (sBin .geq T_int (.tmp 22) (.tmp 24) t22 t24) fun t25 =>
      ifB t25
      (K (.tuple #[(.int .i64 0), (.int .i64 3)]) w1)
      (LETJ (X := Unit) (fun jv1 w2 =>
        pureK Tryz.prog (sFieldAddr T_api_Agg g2 1) fun t40 =>
        readK Tryz.prog (sLoad T_int t40) w2 fun t41 =>
        pureK Tryz.prog (sIdxAddr T_s_api_Col cols1 t41) fun t42 =>
        pureK Tryz.prog (sFieldAddr T_api_Col t42 1) fun t43 =>
        readK Tryz.prog (sLoad T_int t43) w2 fun t44 =>
        K (.tuple #[t44, (.int .i64 0)]) w2)
       (fun J1 =>
        pureK Tryz.prog (sFieldAddr T_api_Agg g2 0) fun t27 =>
        readK Tryz.prog (sLoad T_int t27) w1 fun t28 =>
        pureK Tryz.prog (sBin .eql T_int (.tmp 28) (.const (.int .i64 1)) t28 (.int .i64 1)) fun t29 =>
        ifB t29
        (pureK Tryz.prog (sFieldAddr T_api_Agg g2 1) fun t32 =>
         readK Tryz.prog (sLoad T_int t32) w1 fun t33 =>
         pureK Tryz.prog (sIdxAddr T_s_api_Col cols1 t33) fun t34 =>
         pureK Tryz.prog (sFieldAddr T_api_Col t34 1) fun t35 =>
         readK Tryz.prog (sLoad T_int t35) w1 fun t36 =>
         pureK Tryz.prog (sBin .neq T_int (.tmp 36) (.const (.int .i64 0)) t36 (.int .i64 0)) fun t37 =>
         ifB t37
         (K (.tuple #[(.int .i64 0), (.int .i64 13)]) w1)
         (J1 (()) w1))
        (J1 (()) w1)))))))
theorem errataref30_Type.pt_eq : errataref30_Type.pt = fun g0 cols1 w K => FN Tryz.prog Tryz.f78 (bodyOf Tryz.f78) [4, 5] (.node none .leaf (.node none .leaf (.node none .leaf (.node none .leaf (.node (some []) .leaf .leaf))))) [g0, cols1] w K := by kernel_rfl
theorem errataref30_Type.call {g0 cols1 : Value} {w : World} {K : Value → World → Prop} (h : errataref30_Type.pt g0 cols1 w K) : Calls Tryz.prog F_errataref30_Type #[g0, cols1] w (retK K) :=
  calls_FN (args := [g0, cols1]) Tryz.func78 (by kernel_rfl) (by rw [errataref30_Type.pt_eq] at h; exact h)
theorem errataref30_Type.up {g0 cols1 : Value} {w : World} {K : Value → World → Prop} (h : Calls Tryz.prog F_errataref30_Type #[g0, cols1] w (retK K)) : upK Tryz.prog (sCall F_errataref30_Type #[g0, cols1]) w K :=
  up_call (fn := Tryz.f78) Tryz.func78 (by kernel_rfl) (by kernel_rfl) h

/-- (*errata/wire.Reader).number -/
def wire_Reader_number.pt (r0 end1 least2 : Value) (w : World) (K : Value → World → Prop) : Prop :=
  pureK Tryz.prog (sNil r0) fun t12 =>
  pureK Tryz.prog (sFieldAddr T_wire_Reader t12 0) fun t13 =>
  readK Tryz.prog (sLoad T_string t13) (tick w) fun t14 =>
  pureK Tryz.prog (sNil r0) fun t16 =>
  pureK Tryz.prog (sFieldAddr T_wire_Reader t16 0) fun t17 =>
  readK Tryz.prog (sLoad T_string t17) (tick w) fun t18 =>
  readK Tryz.prog (sBlt .len #[T_string] T_int #[false] #[t18]) (tick w) fun t19 =>
  pureK Tryz.prog (sBlt .min #[T_int, T_int] T_int #[false, true] #[t19, (.int .i64 21)]) fun t20 =>
  pureK Tryz.prog (sSlice T_string t14 none (some t20) none) fun t21 =>
  upK Tryz.prog (sCall F_strings_IndexByte #[t21, end1]) (tick w) fun t24 w1 =>
  pureK Tryz.prog (sBin .lss T_int (.tmp 25) (.const (.int .i64 0)) t24 (.int .i64 0)) fun t26 =>
  ifB t26
  (upK Tryz.prog (sCall F_wire_Reader_fail #[r0]) w1 fun t28 w2 =>
   K (.int .i64 0) w2)
  (pureK Tryz.prog (sSlice T_string t21 none (some t24) none) fun t32 =>
   upK Tryz.prog (sCall F_strconv_Atoi #[t32]) w1 fun t33 w3 =>
   pureK Tryz.prog (sExtract t33 0) fun t34 =>
   pureK Tryz.prog (sExtract t33 1) fun t35 =>
   pureK Tryz.prog (sBin .neq T_error (.tmp 36) (.const .nilIface) t35 .nilIface) fun t37 =>
   ifB t37
   (upK Tryz.prog (sCall F_wire_Reader_fail #[r0]) (tick w3) fun t52 w4 =>
    K (.int .i64 0) w4)
   (pureK Tryz.prog (sSlice T_string t21 none (some t24) none) fun t43 =>
    upK Tryz.prog (sCall F_strconv_Itoa #[t34]) (tick w3) fun t40 w5 =>
    pureK Tryz.prog (sBin .neq T_string (.tmp 40) (.tmp 43) t40 t43) fun t44 =>
    ifB t44
    (upK Tryz.prog (sCall F_wire_Reader_fail #[r0]) w5 fun t52_1 w6 =>
     K (.int .i64 0) w6)
    (pureK Tryz.prog (sBin .lss T_int (.tmp 47) (.tmp 48) t34 least2) fun t49 =>
     ifB t49
     (upK Tryz.prog (sCall F_wire_Reader_fail #[r0]) w5 fun t52_2 w7 =>
      K (.int .i64 0) w7)
     (pureK Tryz.prog (sNil r0) fun t55 =>
      pureK Tryz.prog (sFieldAddr T_wire_Reader t55 0) fun t56 =>
      readK Tryz.prog (sLoad T_string t56) w5 fun t57 =>
      pureK Tryz.prog (sBin .add T_int (.tmp 58) (.const (.int .i64 1)) t24 (.int .i64 1)) fun t59 =>
      pureK Tryz.prog (sSlice T_string t57 (some t59) none none) fun t60 =>
      pureK Tryz.prog (sNil r0) fun t61 =>
      pureK Tryz.prog (sFieldAddr T_wire_Reader t61 0) fun t62 =>
      upK Tryz.prog (sStore T_string t62 t60) w5 fun tu w8 =>
      K t34 w8))))
theorem wire_Reader_number.pt_eq : wire_Reader_number.pt = fun r0 end1 least2 w K => FN Tryz.prog Tryz.f79 (bodyOf Tryz.f79) [6] .leaf [r0, end1, least2] w K := by kernel_rfl
theorem wire_Reader_number.call {r0 end1 least2 : Value} {w : World} {K : Value → World → Prop} (h : wire_Reader_number.pt r0 end1 least2 w K) : Calls Tryz.prog F_wire_Reader_number #[r0, end1, least2] w (retK K) :=
  calls_FN (args := [r0, end1, least2]) Tryz.func79 (by kernel_rfl) (by rw [wire_Reader_number.pt_eq] at h; exact h)
theorem wire_Reader_number.up {r0 end1 least2 : Value} {w : World} {K : Value → World → Prop} (h : Calls Tryz.prog F_wire_Reader_number #[r0, end1, least2] w (retK K)) : upK Tryz.prog (sCall F_wire_Reader_number #[r0, end1, least2]) w K :=
  up_call (fn := Tryz.f79) Tryz.func79 (by kernel_rfl) (by kernel_rfl) h

/-- errata/value.take -/
def value_take.pt (r0 : Value) (w : World) (K : Value → World → Prop) : Prop :=
  upK Tryz.prog (sAlloc T_api_Value) w fun t2 w1 =>
  upK Tryz.prog (sCall F_wire_Reader_Int #[r0]) w1 fun t5 w2 =>
  upK Tryz.prog (sCall F_wire_Reader_Int #[r0]) w2 fun t7 w3 =>
  pureK Tryz.prog (sBuild T_api_Value #[(0, t5), (1, t7)]) fun t8 =>
  upK Tryz.prog (sAlloc T_api_Value) w3 fun v3 w4 =>
  upK Tryz.prog (sStore T_api_Value v3 t8) w4 fun tu w5 =>
  upK Tryz.prog (sCall F_wire_Reader_Text #[r0]) w5 fun t10 w6 =>
  pureK Tryz.prog (sFieldAddr T_api_Value v3 2) fun t11 =>
  upK Tryz.prog (sStore T_string t11 t10) w6 fun tu_1 w7 =>
  readK Tryz.prog (sLoad T_api_Value v3) w7 fun t12 =>
  upK Tryz.prog (sStore T_api_Value t2 t12) w7 fun tu_2 w8 =>
  readV Tryz.prog (do loadVar T_api_Value (← asAddr t2)) w8 fun t2_1 =>
  K t2_1 w8
theorem value_take.pt_eq : value_take.pt = fun r0 w K => FN Tryz.prog Tryz.f80 (bodyOf Tryz.f80) [] .leaf [r0] w K := by kernel_rfl
theorem value_take.call {r0 : Value} {w : World} {K : Value → World → Prop} (h : value_take.pt r0 w K) : Calls Tryz.prog F_value_take #[r0] w (retK K) :=
  calls_FN (args := [r0]) Tryz.func80 (by kernel_rfl) (by rw [value_take.pt_eq] at h; exact h)
theorem value_take.up {r0 : Value} {w : World} {K : Value → World → Prop} (h : Calls Tryz.prog F_value_take #[r0] w (retK K)) : upK Tryz.prog (sCall F_value_take #[r0]) w K :=
  up_call (fn := Tryz.f80) Tryz.func80 (by kernel_rfl) (by kernel_rfl) h

/-- (*errata/wire.Reader).fail -/
def wire_Reader_fail.pt (r0 : Value) (w : World) (K : Value → World → Prop) : Prop :=
  pureK Tryz.prog (sNil r0) fun t4 =>
  pureK Tryz.prog (sFieldAddr T_wire_Reader t4 0) fun t5 =>
  upK Tryz.prog (sStore T_string t5 (.string ⟨#[]⟩)) w fun tu w1 =>
  pureK Tryz.prog (sNil r0) fun t6 =>
  pureK Tryz.prog (sFieldAddr T_wire_Reader t6 1) fun t7 =>
  upK Tryz.prog (sStore T_bool t7 (.bool true)) w1 fun tu_1 w2 =>
  K (.tuple #[]) w2
theorem wire_Reader_fail.pt_eq : wire_Reader_fail.pt = fun r0 w K => FN Tryz.prog Tryz.f81 (bodyOf Tryz.f81) [] .leaf [r0] w K := by kernel_rfl
theorem wire_Reader_fail.call {r0 : Value} {w : World} {K : Value → World → Prop} (h : wire_Reader_fail.pt r0 w K) : Calls Tryz.prog F_wire_Reader_fail #[r0] w (retK K) :=
  calls_FN (args := [r0]) Tryz.func81 (by kernel_rfl) (by rw [wire_Reader_fail.pt_eq] at h; exact h)
theorem wire_Reader_fail.up {r0 : Value} {w : World} {K : Value → World → Prop} (h : Calls Tryz.prog F_wire_Reader_fail #[r0] w (retK K)) : upK Tryz.prog (sCall F_wire_Reader_fail #[r0]) w K :=
  up_call (fn := Tryz.f81) Tryz.func81 (by kernel_rfl) (by kernel_rfl) h

/-- (*errata/wire.Reader).close -/
def wire_Reader_close.pt (r0 end1 : Value) (w : World) (K : Value → World → Prop) : Prop :=
  pureK Tryz.prog (sNil r0) fun t8 =>
  pureK Tryz.prog (sFieldAddr T_wire_Reader t8 0) fun t9 =>
  readK Tryz.prog (sLoad T_string t9) w fun t10 =>
  upK Tryz.prog (sCall F_strings_CutPrefix #[t10, end1]) w fun t12 w1 =>
  pureK Tryz.prog (sExtract t12 0) fun t13 =>
  pureK Tryz.prog (sExtract t12 1) fun t14 =>
  pureK Tryz.prog (sNil r0) fun t17 =>
  pureK Tryz.prog (sFieldAddr T_wire_Reader t17 0) fun t18 =>
  upK Tryz.prog (sStore T_string t18 t13) w1 fun tu w2 =>
  pureK Tryz.prog (sUn .not t14) fun t20 =>
  ifB t20
  (upK Tryz.prog (sCall F_wire_Reader_fail #[r0]) w2 fun t22 w3 =>
   K (.tuple #[]) w3)
  (K (.tuple #[]) w2)
theorem wire_Reader_close.pt_eq : wire_Reader_close.pt = fun r0 end1 w K => FN Tryz.prog Tryz.f82 (bodyOf Tryz.f82) [] .leaf [r0, end1] w K := by kernel_rfl
theorem wire_Reader_close.call {r0 end1 : Value} {w : World} {K : Value → World → Prop} (h : wire_Reader_close.pt r0 end1 w K) : Calls Tryz.prog F_wire_Reader_close #[r0, end1] w (retK K) :=
  calls_FN (args := [r0, end1]) Tryz.func82 (by kernel_rfl) (by rw [wire_Reader_close.pt_eq] at h; exact h)
theorem wire_Reader_close.up {r0 end1 : Value} {w : World} {K : Value → World → Prop} (h : Calls Tryz.prog F_wire_Reader_close #[r0, end1] w (retK K)) : upK Tryz.prog (sCall F_wire_Reader_close #[r0, end1]) w K :=
  up_call (fn := Tryz.f82) Tryz.func82 (by kernel_rfl) (by kernel_rfl) h

/-- errata/value.Text -/
def value_Text.pt (s0 : Value) (w : World) (K : Value → World → Prop) : Prop :=
  upK Tryz.prog (sAlloc T_api_Value) w fun t2 w1 =>
  pureK Tryz.prog (sBuild T_api_Value #[(0, (.int .i64 1)), (2, s0)]) fun t4 =>
  upK Tryz.prog (sStore T_api_Value t2 t4) w1 fun tu w2 =>
  readV Tryz.prog (do loadVar T_api_Value (← asAddr t2)) w2 fun t2_1 =>
  K t2_1 w2
theorem value_Text.pt_eq : value_Text.pt = fun s0 w K => FN Tryz.prog Tryz.f83 (bodyOf Tryz.f83) [] .leaf [s0] w K := by kernel_rfl
theorem value_Text.call {s0 : Value} {w : World} {K : Value → World → Prop} (h : value_Text.pt s0 w K) : Calls Tryz.prog F_value_Text #[s0] w (retK K) :=
  calls_FN (args := [s0]) Tryz.func83 (by kernel_rfl) (by rw [value_Text.pt_eq] at h; exact h)
theorem value_Text.up {s0 : Value} {w : World} {K : Value → World → Prop} (h : Calls Tryz.prog F_value_Text #[s0] w (retK K)) : upK Tryz.prog (sCall F_value_Text #[s0]) w K :=
  up_call (fn := Tryz.f83) Tryz.func83 (by kernel_rfl) (by kernel_rfl) h

/-- errata/value.Bool -/
def value_Bool.pt (b0 : Value) (w : World) (K : Value → World → Prop) : Prop :=
  upK Tryz.prog (sAlloc T_api_Value) w fun t2 w1 =>
  ifB b0
  (pureK Tryz.prog (sBuild T_api_Value #[(0, (.int .i64 2)), (1, (.int .i64 1))]) fun t4 =>
   upK Tryz.prog (sStore T_api_Value t2 t4) w1 fun tu w2 =>
   readV Tryz.prog (do loadVar T_api_Value (← asAddr t2)) w2 fun t2_1 =>
   K t2_1 w2)
  (pureK Tryz.prog (sBuild T_api_Value #[(0, (.int .i64 2))]) fun t5 =>
   upK Tryz.prog (sStore T_api_Value t2 t5) w1 fun tu_1 w3 =>
   readV Tryz.prog (do loadVar T_api_Value (← asAddr t2)) w3 fun t2_2 =>
   K t2_2 w3)
theorem value_Bool.pt_eq : value_Bool.pt = fun b0 w K => FN Tryz.prog Tryz.f84 (bodyOf Tryz.f84) [] .leaf [b0] w K := by kernel_rfl
theorem value_Bool.call {b0 : Value} {w : World} {K : Value → World → Prop} (h : value_Bool.pt b0 w K) : Calls Tryz.prog F_value_Bool #[b0] w (retK K) :=
  calls_FN (args := [b0]) Tryz.func84 (by kernel_rfl) (by rw [value_Bool.pt_eq] at h; exact h)
theorem value_Bool.up {b0 : Value} {w : World} {K : Value → World → Prop} (h : Calls Tryz.prog F_value_Bool #[b0] w (retK K)) : upK Tryz.prog (sCall F_value_Bool #[b0]) w K :=
  up_call (fn := Tryz.f84) Tryz.func84 (by kernel_rfl) (by kernel_rfl) h

/-- slices.IndexFunc[[]map[errata/api.Value]int,map[errata/api.Value]int] -/
def slices_IndexFunc_s_map_api_Value_int_map_api_Value_int.pt (s0 f1 : Value) (w : World) (K : Value → World → Prop) : Prop :=
  readK Tryz.prog (sBlt .len #[T_s_map_api_Value_int] T_int #[false] #[s0]) w fun t7 =>
  LOOP (X := Value × Unit) (fun lv1 w1 next1 =>
   pureK Tryz.prog (sBin .lss T_int (.tmp 8) (.tmp 7) lv1.1 t7) fun t9 =>
   ifB t9
   (pureK Tryz.prog (sIdxAddr T_s_map_api_Value_int s0 lv1.1) fun t14 =>
    readK Tryz.prog (sLoad T_map_api_Value_int t14) w1 fun t15 =>
    upK Tryz.prog (sCallV f1 #[t15]) w1 fun t16 w2 =>
    ifB t16
    (K lv1.1 w2)
    (pureK Tryz.prog (sBin .add T_int (.tmp 8) (.const (.int .i64 1)) lv1.1 (.int .i64 1)) fun t18 =>
     next1 (t18, ()) w2))
   (K (.int .i64 (-1)) w1))
  ((.int .i64 0), ()) w
theorem slices_IndexFunc_s_map_api_Value_int_map_api_Value_int.pt_eq : slices_IndexFunc_s_map_api_Value_int_map_api_Value_int.pt = fun s0 f1 w K => FN Tryz.prog Tryz.f85 (bodyOf Tryz.f85) [4] .leaf [s0, f1] w K := by kernel_rfl
theorem slices_IndexFunc_s_map_api_Value_int_map_api_Value_int.call {s0 f1 : Value} {w : World} {K : Value → World → Prop} (h : slices_IndexFunc_s_map_api_Value_int_map_api_Value_int.pt s0 f1 w K) : Calls Tryz.prog F_slices_IndexFunc_s_map_api_Value_int_map_api_Value_int #[s0, f1] w (retK K) :=
  calls_FN (args := [s0, f1]) Tryz.func85 (by kernel_rfl) (by rw [slices_IndexFunc_s_map_api_Value_int_map_api_Value_int.pt_eq] at h; exact h)
theorem slices_IndexFunc_s_map_api_Value_int_map_api_Value_int.up {s0 f1 : Value} {w : World} {K : Value → World → Prop} (h : Calls Tryz.prog F_slices_IndexFunc_s_map_api_Value_int_map_api_Value_int #[s0, f1] w (retK K)) : upK Tryz.prog (sCall F_slices_IndexFunc_s_map_api_Value_int_map_api_Value_int #[s0, f1]) w K :=
  up_call (fn := Tryz.f85) Tryz.func85 (by kernel_rfl) (by kernel_rfl) h

/-- (*strings.Builder).copyCheck -/
def strings_Builder_copyCheck.pt (b0 : Value) (w : World) (K : Value → World → Prop) : Prop :=
  pureK Tryz.prog (sNil b0) fun t3 =>
  pureK Tryz.prog (sFieldAddr T_strings_Builder t3 0) fun t4 =>
  readK Tryz.prog (sLoad T_p_strings_Builder t4) w fun t5 =>
  pureK Tryz.prog (sBin .eql T_p_strings_Builder (.tmp 5) (.const (.pointer none)) t5 (.pointer none)) fun t6 =>
  ifB t6
  (upK Tryz.prog (sConv T_p_strings_Builder T_unsafe_Pointer b0) w fun t9 w1 =>
   upK Tryz.prog (sCall F_internal_abi_NoEscape #[t9]) w1 fun t10 w2 =>
   upK Tryz.prog (sConv T_unsafe_Pointer T_p_strings_Builder t10) w2 fun t11 w3 =>
   pureK Tryz.prog (sNil b0) fun t12 =>
   pureK Tryz.prog (sFieldAddr T_strings_Builder t12 0) fun t13 =>
   upK Tryz.prog (sStore T_p_strings_Builder t13 t11) w3 fun tu w4 =>
   K (.tuple #[]) w4)
  (pureK Tryz.prog (sNil b0) fun t15 =>
   pureK Tryz.prog (sFieldAddr T_strings_Builder t15 0) fun t16 =>
   readK Tryz.prog (sLoad T_p_strings_Builder t16) w fun t17 =>
   pureK Tryz.prog (sBin .neq T_p_strings_Builder (.tmp 17) (.tmp 18) t17 b0) fun t19 =>
   ifB t19
   (False)
   (K (.tuple #[]) w))
theorem strings_Builder_copyCheck.pt_eq : strings_Builder_copyCheck.pt = fun b0 w K => FN Tryz.prog Tryz.f86 (bodyOf Tryz.f86) [] .leaf [b0] w K := by kernel_rfl
theorem strings_Builder_copyCheck.call {b0 : Value} {w : World} {K : Value → World → Prop} (h : strings_Builder_copyCheck.pt b0 w K) : Calls Tryz.prog F_strings_Builder_copyCheck #[b0] w (retK K) :=
  calls_FN (args := [b0]) Tryz.func86 (by kernel_rfl) (by rw [strings_Builder_copyCheck.pt_eq] at h; exact h)
theorem strings_Builder_copyCheck.up {b0 : Value} {w : World} {K : Value → World → Prop} (h : Calls Tryz.prog F_strings_Builder_copyCheck #[b0] w (retK K)) : upK Tryz.prog (sCall F_strings_Builder_copyCheck #[b0]) w K :=
  up_call (fn := Tryz.f86) Tryz.func86 (by kernel_rfl) (by kernel_rfl) h

/-- strconv.Itoa -/
theorem strconv_Itoa.up {p0 : Value} {w : World} {K : Value → World → Prop} (h : Calls Tryz.prog F_strconv_Itoa #[p0] w (retK K)) : upK Tryz.prog (sCall F_strconv_Itoa #[p0]) w K :=
  up_call (fn := Tryz.f87) Tryz.func87 (by kernel_rfl) (by kernel_rfl) h

/-- slices.SortedFunc[errata/api.Value] -/
def slices_SortedFunc_api_Value.pt (seq0 cmp1 : Value) (w : World) (K : Value → World → Prop) : Prop :=
  upK Tryz.prog (sCall F_slices_Collect_api_Value #[seq0]) w fun t7 w1 =>
  upK Tryz.prog (sCall F_slices_SortFunc_s_api_Value_api_Value #[t7, cmp1]) w1 fun t10 w2 =>
  K t7 w2
theorem slices_SortedFunc_api_Value.pt_eq : slices_SortedFunc_api_Value.pt = fun seq0 cmp1 w K => FN Tryz.prog Tryz.f88 (bodyOf Tryz.f88) [4] .leaf [seq0, cmp1] w K := by kernel_rfl
theorem slices_SortedFunc_api_Value.call {seq0 cmp1 : Value} {w : World} {K : Value → World → Prop} (h : slices_SortedFunc_api_Value.pt seq0 cmp1 w K) : Calls Tryz.prog F_slices_SortedFunc_api_Value #[seq0, cmp1] w (retK K) :=
  calls_FN (args := [seq0, cmp1]) Tryz.func88 (by kernel_rfl) (by rw [slices_SortedFunc_api_Value.pt_eq] at h; exact h)
theorem slices_SortedFunc_api_Value.up {seq0 cmp1 : Value} {w : World} {K : Value → World → Prop} (h : Calls Tryz.prog F_slices_SortedFunc_api_Value #[seq0, cmp1] w (retK K)) : upK Tryz.prog (sCall F_slices_SortedFunc_api_Value #[seq0, cmp1]) w K :=
  up_call (fn := Tryz.f88) Tryz.func88 (by kernel_rfl) (by kernel_rfl) h

/-- maps.Keys[map[errata/api.Value]int,errata/api.Value,int] -/
def maps_Keys_map_api_Value_int_api_Value_int.pt (m0 : Value) (w : World) (K : Value → World → Prop) : Prop :=
  upK Tryz.prog (sBox T_map_api_Value_int m0) w fun m1 w1 =>
  pureK Tryz.prog (sMkFunc (.func F_maps_Keys_map_api_Value_int_api_Value_int_1) #[] #[m1]) fun t3 =>
  K t3 w1
theorem maps_Keys_map_api_Value_int_api_Value_int.pt_eq : maps_Keys_map_api_Value_int_api_Value_int.pt = fun m0 w K => FN Tryz.prog Tryz.f89 (bodyOf Tryz.f89) [2] .leaf [m0] w K := by kernel_rfl
theorem maps_Keys_map_api_Value_int_api_Value_int.call {m0 : Value} {w : World} {K : Value → World → Prop} (h : maps_Keys_map_api_Value_int_api_Value_int.pt m0 w K) : Calls Tryz.prog F_maps_Keys_map_api_Value_int_api_Value_int #[m0] w (retK K) :=
  calls_FN (args := [m0]) Tryz.func89 (by kernel_rfl) (by rw [maps_Keys_map_api_Value_int_api_Value_int.pt_eq] at h; exact h)
theorem maps_Keys_map_api_Value_int_api_Value_int.up {m0 : Value} {w : World} {K : Value → World → Prop} (h : Calls Tryz.prog F_maps_Keys_map_api_Value_int_api_Value_int #[m0] w (retK K)) : upK Tryz.prog (sCall F_maps_Keys_map_api_Value_int_api_Value_int #[m0]) w K :=
  up_call (fn := Tryz.f89) Tryz.func89 (by kernel_rfl) (by kernel_rfl) h

/-- errata/value.Compare -/
def value_Compare.pt (a0 b1 : Value) (w : World) (K : Value → World → Prop) : Prop :=
  upK Tryz.prog (sBox T_api_Value a0) w fun a2 w1 =>
  upK Tryz.prog (sBox T_api_Value b1) w1 fun b3 w2 =>
  pureK Tryz.prog (sFieldAddr T_api_Value a2 0) fun t5 =>
  readK Tryz.prog (sLoad T_int t5) (tick w2) fun t6 =>
  pureK Tryz.prog (sFieldAddr T_api_Value b3 0) fun t7 =>
  readK Tryz.prog (sLoad T_int t7) (tick w2) fun t8 =>
  pureK Tryz.prog (sFieldAddr T_api_Value a2 1) fun t10 =>
  readK Tryz.prog (sLoad T_int t10) (tick w2) fun t11 =>
  pureK Tryz.prog (sFieldAddr T_api_Value b3 1) fun t12 =>
  readK Tryz.prog (sLoad T_int t12) (tick w2) fun t13 =>
  pureK Tryz.prog (sFieldAddr T_api_Value a2 2) fun t15 =>
  readK Tryz.prog (sLoad T_string t15) (tick w2) fun t16 =>
  pureK Tryz.prog (sFieldAddr T_api_Value b3 2) fun t17 =>
  readK Tryz.prog (sLoad T_string t17) (tick w2) fun t18 =>
  upK Tryz.prog (sCall F_cmp_Compare_int #[t6, t8]) (tick w2) fun t9 w3 =>
  Is Tryz.prog (sLoad T_string t17) t18 w3 ∧ Is Tryz.prog (sLoad T_string t15) t16 w3 ∧ Is Tryz.prog (sLoad T_int t12) t13 w3 ∧ Is Tryz.prog (sLoad T_int t10) t11 w3 ∧ upK Tryz.prog (sCall F_cmp_Compare_int #[t11, t13]) w3 fun t14 w4 =>
  Is Tryz.prog (sLoad T_string t17) t18 w4 ∧ Is Tryz.prog (sLoad T_string t15) t16 w4 ∧ upK Tryz.prog (sCall F_strings_Compare #[t16, t18]) w4 fun t19 w5 =>
  upK Tryz.prog (sBuildSlice T_s_int 3 #[(0, t9), (1, t14), (2, t19)]) w5 fun t20 w6 =>
  upK Tryz.prog (sCall F_cmp_Or_int #[t20]) w6 fun t21 w7 =>
  K t21 w7
theorem value_Compare.pt_eq : value_Compare.pt = fun a0 b1 w K => FN Tryz.prog Tryz.f90 (bodyOf Tryz.f90) [4] .leaf [a0, b1] w K := by kernel_rfl
theorem value_Compare.call {a0 b1 : Value} {w : World} {K : Value → World → Prop} (h : value_Compare.pt a0 b1 w K) : Calls Tryz.prog F_value_Compare #[a0, b1] w (retK K) :=
  calls_FN (args := [a0, b1]) Tryz.func90 (by kernel_rfl) (by rw [value_Compare.pt_eq] at h; exact h)
theorem value_Compare.up {a0 b1 : Value} {w : World} {K : Value → World → Prop} (h : Calls Tryz.prog F_value_Compare #[a0, b1] w (retK K)) : upK Tryz.prog (sCall F_value_Compare #[a0, b1]) w K :=
  up_call (fn := Tryz.f90) Tryz.func90 (by kernel_rfl) (by kernel_rfl) h

/-- slices.DeleteFunc[[]errata/api.Value,errata/api.Value] -/
def slices_DeleteFunc_s_api_Value_api_Value.pt (s0 del1 : Value) (w : World) (K : Value → World → Prop) : Prop :=
  upK Tryz.prog (sCall F_slices_IndexFunc_s_api_Value_api_Value #[s0, del1]) w fun t10 w1 =>
  pureK Tryz.prog (sBin .eql T_int (.tmp 11) (.const (.int .i64 (-1))) t10 (.int .i64 (-1))) fun t12 =>
  ifB t12
  (K s0 w1)
  (pureK Tryz.prog (sBin .add T_int (.tmp 14) (.const (.int .i64 1)) t10 (.int .i64 1)) fun t15 =>
   LOOP (X := Value × Value × Unit) (fun lv2 w2 next2 =>
    readK Tryz.prog (sBlt .len #[T_s_api_Value] T_int #[false] #[s0]) w2 fun t18 =>
    pureK Tryz.prog (sBin .lss T_int (.tmp 16) (.tmp 18) lv2.2.1 t18) fun t19 =>
    ifB t19
    (LETJ (X := Value × Unit) (fun jv1 w3 =>
      pureK Tryz.prog (sBin .add T_int (.tmp 20) (.const (.int .i64 1)) lv2.2.1 (.int .i64 1)) fun t21 =>
      next2 (jv1.1, t21, ()) w3)
     (fun J1 =>
      pureK Tryz.prog (sIdxAddr T_s_api_Value s0 lv2.2.1) fun t24 =>
      readK Tryz.prog (sLoad T_api_Value t24) w2 fun t25 =>
      upK Tryz.prog (sAlloc T_api_Value) w2 fun v7 w4 =>
      upK Tryz.prog (sStore T_api_Value v7 t25) w4 fun tu w5 =>
      readK Tryz.prog (sLoad T_api_Value v7) w5 fun t27 =>
      upK Tryz.prog (sCallV del1 #[t27]) w5 fun t28 w6 =>
      pureK Tryz.prog (sUn .not t28) fun t29 =>
      ifB t29
      (readK Tryz.prog (sLoad T_api_Value v7) w6 fun t32 =>
       pureK Tryz.prog (sIdxAddr T_s_api_Value s0 lv2.1) fun t33 =>
       upK Tryz.prog (sStore T_api_Value t33 t32) w6 fun tu_1 w7 =>
       pureK Tryz.prog (sBin .add T_int (.tmp 34) (.const (.int .i64 1)) lv2.1 (.int .i64 1)) fun t35 =>
       J1 (t35, ()) w7)
      (J1 (lv2.1, ()) w6)))
    (pureK Tryz.prog (sSlice T_s_api_Value s0 (some lv2.1) none none) fun t38 =>
     upK Tryz.prog (sBlt .clear #[T_s_api_Value] T_ #[false] #[t38]) w2 fun tu_2 w8 =>
     pureK Tryz.prog (sSlice T_s_api_Value s0 none (some lv2.1) none) fun t41 =>
     K t41 w8))
   (t10, t15, ()) w1)
theorem slices_DeleteFunc_s_api_Value_api_Value.pt_eq : slices_DeleteFunc_s_api_Value_api_Value.pt = fun s0 del1 w K => FN Tryz.prog Tryz.f92 (bodyOf Tryz.f92) [4] (.node none .leaf (.node none .leaf (.node none .leaf (.node none (.node none .leaf (.node none (.node none (.node none .leaf (.node (some [5]) .leaf .leaf)) .leaf) .leaf)) .leaf)))) [s0, del1] w K := by kernel_rfl
theorem slices_DeleteFunc_s_api_Value_api_Value.call {s0 del1 : Value} {w : World} {K : Value → World → Prop} (h : slices_DeleteFunc_s_api_Value_api_Value.pt s0 del1 w K) : Calls Tryz.prog F_slices_DeleteFunc_s_api_Value_api_Value #[s0, del1] w (retK K) :=
  calls_FN (args := [s0, del1]) Tryz.func92 (by kernel_rfl) (by rw [slices_DeleteFunc_s_api_Value_api_Value.pt_eq] at h; exact h)
theorem slices_DeleteFunc_s_api_Value_api_Value.up {s0 del1 : Value} {w : World} {K : Value → World → Prop} (h : Calls Tryz.prog F_slices_DeleteFunc_s_api_Value_api_Value #[s0, del1] w (retK K)) : upK Tryz.prog (sCall F_slices_DeleteFunc_s_api_Value_api_Value #[s0, del1]) w K :=
  up_call (fn := Tryz.f92) Tryz.func92 (by kernel_rfl) (by kernel_rfl) h

/-- (*errata/aggregate.Acc).best$1 -/
def aggregate_Acc_best_1.pt (v0 t1 t2 : Value) (w : World) (K : Value → World → Prop) : Prop :=
  upK Tryz.prog (sBox T_api_Value v0) w fun v3 w1 =>
  readK Tryz.prog (sLoad T_p_aggregate_Acc t1) (tick w1) fun t5 =>
  pureK Tryz.prog (sNil t5) fun t6 =>
  pureK Tryz.prog (sFieldAddr T_aggregate_Acc t6 3) fun t7 =>
  readK Tryz.prog (sLoad T_s_map_api_Value_int t7) (tick w1) fun t8 =>
  readK Tryz.prog (sLoad T_int t2) (tick w1) fun t9 =>
  pureK Tryz.prog (sIdxAddr T_s_map_api_Value_int t8 t9) fun t10 =>
  readK Tryz.prog (sLoad T_map_api_Value_int t10) (tick w1) fun t11 =>
  readK Tryz.prog (sLoad T_api_Value v3) (tick w1) fun t12 =>
  readK Tryz.prog (sLookup T_map_api_Value_int t11 t12 false) (tick w1) fun t13 =>
  pureK Tryz.prog (sBin .leq T_int (.tmp 13) (.const (.int .i64 0)) t13 (.int .i64 0)) fun t14 =>
  K t14 (tick w1)
theorem aggregate_Acc_best_1.pt_eq : aggregate_Acc_best_1.pt = fun v0 t1 t2 w K => FN Tryz.prog Tryz.f93 (bodyOf Tryz.f93) [4] .leaf [v0, t1, t2] w K := by kernel_rfl
theorem aggregate_Acc_best_1.call {v0 t1 t2 : Value} {w : World} {K : Value → World → Prop} (h : aggregate_Acc_best_1.pt v0 t1 t2 w K) : Calls Tryz.prog F_aggregate_Acc_best_1 #[v0, t1, t2] w (retK K) :=
  calls_FN (args := [v0, t1, t2]) Tryz.func93 (by kernel_rfl) (by rw [aggregate_Acc_best_1.pt_eq] at h; exact h)
theorem aggregate_Acc_best_1.up {v0 t1 t2 : Value} {w : World} {K : Value → World → Prop} (h : Calls Tryz.prog F_aggregate_Acc_best_1 #[v0, t1, t2] w (retK K)) : upK Tryz.prog (sCall F_aggregate_Acc_best_1 #[v0, t1, t2]) w K :=
  up_call (fn := Tryz.f93) Tryz.func93 (by kernel_rfl) (by kernel_rfl) h

/-- slices.IndexFunc[[]int,int] -/
def slices_IndexFunc_s_int_int.pt (s0 f1 : Value) (w : World) (K : Value → World → Prop) : Prop :=
  readK Tryz.prog (sBlt .len #[T_s_int] T_int #[false] #[s0]) w fun t7 =>
  LOOP (X := Value × Unit) (fun lv1 w1 next1 =>
   pureK Tryz.prog (sBin .lss T_int (.tmp 8) (.tmp 7) lv1.1 t7) fun t9 =>
   ifB t9
   (pureK Tryz.prog (sIdxAddr T_s_int s0 lv1.1) fun t14 =>
    readK Tryz.prog (sLoad T_int t14) w1 fun t15 =>
    upK Tryz.prog (sCallV f1 #[t15]) w1 fun t16 w2 =>
    ifB t16
    (K lv1.1 w2)
    (pureK Tryz.prog (sBin .add T_int (.tmp 8) (.const (.int .i64 1)) lv1.1 (.int .i64 1)) fun t18 =>
     next1 (t18, ()) w2))
   (K (.int .i64 (-1)) w1))
  ((.int .i64 0), ()) w
theorem slices_IndexFunc_s_int_int.pt_eq : slices_IndexFunc_s_int_int.pt = fun s0 f1 w K => FN Tryz.prog Tryz.f94 (bodyOf Tryz.f94) [4] .leaf [s0, f1] w K := by kernel_rfl
theorem slices_IndexFunc_s_int_int.call {s0 f1 : Value} {w : World} {K : Value → World → Prop} (h : slices_IndexFunc_s_int_int.pt s0 f1 w K) : Calls Tryz.prog F_slices_IndexFunc_s_int_int #[s0, f1] w (retK K) :=
  calls_FN (args := [s0, f1]) Tryz.func94 (by kernel_rfl) (by rw [slices_IndexFunc_s_int_int.pt_eq] at h; exact h)
theorem slices_IndexFunc_s_int_int.up {s0 f1 : Value} {w : World} {K : Value → World → Prop} (h : Calls Tryz.prog F_slices_IndexFunc_s_int_int #[s0, f1] w (retK K)) : upK Tryz.prog (sCall F_slices_IndexFunc_s_int_int #[s0, f1]) w K :=
  up_call (fn := Tryz.f94) Tryz.func94 (by kernel_rfl) (by kernel_rfl) h

end Go.Proofs.YtoebncgnjbblgaaGreatDoor
