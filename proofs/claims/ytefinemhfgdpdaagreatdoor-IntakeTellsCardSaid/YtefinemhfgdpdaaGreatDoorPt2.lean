/-
  The reckoned conditions of the functions that this seat's statements reach, printed by program, each held against the translation by the kernel. No condition.
-/
import Derived.Test.YtefinemhfgdpdaaGreatDoorNames
namespace Go.Proofs.YtefinemhfgdpdaaGreatDoor
set_option linter.unusedVariables false
set_option maxRecDepth 100000

/-- errata/errataref10.set -/
def errataref10_set.pt (s0 p1 : Value) (w : World) (K : Value → World → Prop) : Prop :=
  upK Tryz.prog (sBox T_api_Producer p1) w fun p3 w1 =>
  LOOP (X := Value × Value × Value × Unit) (fun lv2 w2 next2 =>
   readK Tryz.prog (sBlt .len #[T_s_api_Producer] T_int #[false] #[s0]) w2 fun t10 =>
   pureK Tryz.prog (sBin .lss T_int (.tmp 8) (.tmp 10) lv2.2.2.1 t10) fun t11 =>
   ifB t11
   (LETJ (X := Value × Value × Unit) (fun jv1 w3 =>
     pureK Tryz.prog (sBin .add T_int (.tmp 12) (.const (.int .i64 1)) lv2.2.2.1 (.int .i64 1)) fun t13 =>
     next2 (jv1.1, jv1.2.1, t13, ()) w3)
    (fun J1 =>
     LETJ (X := Value × Value × Unit) (fun jv2 w4 =>
      pureK Tryz.prog (sIdxAddr T_s_api_Producer s0 lv2.2.2.1) fun t32 =>
      pureK Tryz.prog (sFieldAddr T_api_Producer t32 0) fun t33 =>
      readK Tryz.prog (sLoad T_int t33) (tick w4) fun t34 =>
      pureK Tryz.prog (sFieldAddr T_api_Producer p3 0) fun t35 =>
      readK Tryz.prog (sLoad T_int t35) (tick w4) fun t36 =>
      pureK Tryz.prog (sBin .neq T_int (.tmp 34) (.tmp 36) t34 t36) fun t37 =>
      ifB t37
      (pureK Tryz.prog (sIdxAddr T_s_api_Producer s0 lv2.2.2.1) fun t41 =>
       readK Tryz.prog (sLoad T_api_Producer t41) (tick w4) fun t42 =>
       upK Tryz.prog (sBuildSlice T_s_api_Producer 1 #[(0, t42)]) (tick w4) fun t43 w5 =>
       upK Tryz.prog (sBlt .append #[T_s_api_Producer, T_s_api_Producer] T_s_api_Producer #[false, false] #[jv2.1, t43]) w5 fun t44 w6 =>
       J1 (t44, jv2.2.1, ()) w6)
      (J1 (jv2.1, jv2.2.1, ()) (tick w4)))
     (fun J2 =>
      pureK Tryz.prog (sUn .not lv2.2.1) fun t15 =>
      ifB t15
      (pureK Tryz.prog (sIdxAddr T_s_api_Producer s0 lv2.2.2.1) fun t19 =>
       pureK Tryz.prog (sFieldAddr T_api_Producer t19 0) fun t20 =>
       readK Tryz.prog (sLoad T_int t20) (tick w2) fun t21 =>
       pureK Tryz.prog (sFieldAddr T_api_Producer p3 0) fun t22 =>
       readK Tryz.prog (sLoad T_int t22) (tick w2) fun t23 =>
       pureK Tryz.prog (sBin .geq T_int (.tmp 21) (.tmp 23) t21 t23) fun t24 =>
       ifB t24
       (readK Tryz.prog (sLoad T_api_Producer p3) (tick w2) fun t27 =>
        upK Tryz.prog (sBuildSlice T_s_api_Producer 1 #[(0, t27)]) (tick w2) fun t28 w7 =>
        upK Tryz.prog (sBlt .append #[T_s_api_Producer, T_s_api_Producer] T_s_api_Producer #[false, false] #[lv2.1, t28]) w7 fun t29 w8 =>
        J2 (t29, (.bool true), ()) w8)
       (J2 (lv2.1, lv2.2.1, ()) (tick w2)))
      (J2 (lv2.1, lv2.2.1, ()) (tick w2)))))
   (LETJ (X := Value × Unit) (fun jv3 w9 =>
     K jv3.1 w9)
    (fun J3 =>
     pureK Tryz.prog (sUn .not lv2.2.1) fun t46 =>
     ifB t46
     (readK Tryz.prog (sLoad T_api_Producer p3) w2 fun t48 =>
      upK Tryz.prog (sBuildSlice T_s_api_Producer 1 #[(0, t48)]) w2 fun t49 w10 =>
      upK Tryz.prog (sBlt .append #[T_s_api_Producer, T_s_api_Producer] T_s_api_Producer #[false, false] #[lv2.1, t49]) w10 fun t50 w11 =>
      J3 (t50, ()) w11)
     (J3 (lv2.1, ()) w2))))
  ((.slice none 0 0), (.bool false), (.int .i64 0), ()) w1
theorem errataref10_set.pt_eq : errataref10_set.pt = fun s0 p1 w K => FN Tryz.prog Tryz.f89 (bodyOf Tryz.f89) [4] (.node none .leaf (.node none .leaf (.node none .leaf (.node none (.node none .leaf (.node none (.node none (.node none .leaf (.node (some [5, 6]) (.node none (.node (some [5, 6]) .leaf .leaf) .leaf) .leaf)) .leaf) .leaf)) (.node (some [5]) .leaf .leaf))))) [s0, p1] w K := by kernel_rfl
theorem errataref10_set.call {s0 p1 : Value} {w : World} {K : Value → World → Prop} (h : errataref10_set.pt s0 p1 w K) : Calls Tryz.prog F_errataref10_set #[s0, p1] w (retK K) :=
  calls_FN (args := [s0, p1]) Tryz.func89 (by kernel_rfl) (by rw [errataref10_set.pt_eq] at h; exact h)
theorem errataref10_set.up {s0 p1 : Value} {w : World} {K : Value → World → Prop} (h : Calls Tryz.prog F_errataref10_set #[s0, p1] w (retK K)) : upK Tryz.prog (sCall F_errataref10_set #[s0, p1]) w K :=
  up_call (fn := Tryz.f89) Tryz.func89 (by kernel_rfl) (by kernel_rfl) h

/-- errata/errataref10.find -/
def errataref10_find.pt (s0 id1 : Value) (w : World) (K : Value → World → Prop) : Prop :=
  LOOP (X := Value × Unit) (fun lv1 w1 next1 =>
   readK Tryz.prog (sBlt .len #[T_s_api_Producer] T_int #[false] #[s0]) w1 fun t8 =>
   pureK Tryz.prog (sBin .lss T_int (.tmp 6) (.tmp 8) lv1.1 t8) fun t9 =>
   ifB t9
   (pureK Tryz.prog (sIdxAddr T_s_api_Producer s0 lv1.1) fun t14 =>
    pureK Tryz.prog (sFieldAddr T_api_Producer t14 0) fun t15 =>
    readK Tryz.prog (sLoad T_int t15) w1 fun t16 =>
    pureK Tryz.prog (sBin .eql T_int (.tmp 16) (.tmp 17) t16 id1) fun t18 =>
    ifB t18
    (K lv1.1 w1)
    (pureK Tryz.prog (sBin .add T_int (.tmp 10) (.const (.int .i64 1)) lv1.1 (.int .i64 1)) fun t11 =>
     next1 (t11, ()) w1))
   (K (.int .i64 (-1)) w1))
  ((.int .i64 0), ()) w
theorem errataref10_find.pt_eq : errataref10_find.pt = fun s0 id1 w K => FN Tryz.prog Tryz.f90 (bodyOf Tryz.f90) [4] .leaf [s0, id1] w K := by kernel_rfl
theorem errataref10_find.call {s0 id1 : Value} {w : World} {K : Value → World → Prop} (h : errataref10_find.pt s0 id1 w K) : Calls Tryz.prog F_errataref10_find #[s0, id1] w (retK K) :=
  calls_FN (args := [s0, id1]) Tryz.func90 (by kernel_rfl) (by rw [errataref10_find.pt_eq] at h; exact h)
theorem errataref10_find.up {s0 id1 : Value} {w : World} {K : Value → World → Prop} (h : Calls Tryz.prog F_errataref10_find #[s0, id1] w (retK K)) : upK Tryz.prog (sCall F_errataref10_find #[s0, id1]) w K :=
  up_call (fn := Tryz.f90) Tryz.func90 (by kernel_rfl) (by kernel_rfl) h

/-- strconv.Itoa -/
theorem strconv_Itoa.up {p0 : Value} {w : World} {K : Value → World → Prop} (h : Calls Tryz.prog F_strconv_Itoa #[p0] w (retK K)) : upK Tryz.prog (sCall F_strconv_Itoa #[p0]) w K :=
  up_call (fn := Tryz.f91) Tryz.func91 (by kernel_rfl) (by kernel_rfl) h

/-- slices.Collect[int] -/
def slices_Collect_int.pt (seq0 : Value) (w : World) (K : Value → World → Prop) : Prop :=
  upK Tryz.prog (sCall F_slices_AppendSeq_s_int_int #[(.slice none 0 0), seq0]) w fun t4 w1 =>
  K t4 w1
theorem slices_Collect_int.pt_eq : slices_Collect_int.pt = fun seq0 w K => FN Tryz.prog Tryz.f92 (bodyOf Tryz.f92) [2] .leaf [seq0] w K := by kernel_rfl
theorem slices_Collect_int.call {seq0 : Value} {w : World} {K : Value → World → Prop} (h : slices_Collect_int.pt seq0 w K) : Calls Tryz.prog F_slices_Collect_int #[seq0] w (retK K) :=
  calls_FN (args := [seq0]) Tryz.func92 (by kernel_rfl) (by rw [slices_Collect_int.pt_eq] at h; exact h)
theorem slices_Collect_int.up {seq0 : Value} {w : World} {K : Value → World → Prop} (h : Calls Tryz.prog F_slices_Collect_int #[seq0] w (retK K)) : upK Tryz.prog (sCall F_slices_Collect_int #[seq0]) w K :=
  up_call (fn := Tryz.f92) Tryz.func92 (by kernel_rfl) (by kernel_rfl) h

/-- slices.Sort[[]int,int] -/
def slices_Sort_s_int_int.pt (x0 : Value) (w : World) (K : Value → World → Prop) : Prop :=
  readK Tryz.prog (sBlt .len #[T_s_int] T_int #[false] #[x0]) w fun t4 =>
  upK Tryz.prog (sConv T_int T_uint t4) w fun t8 w1 =>
  upK Tryz.prog (sCall F_math_bits_Len #[t8]) w1 fun t9 w2 =>
  upK Tryz.prog (sCall F_slices_pdqsortOrdered_int #[x0, (.int .i64 0), t4, t9]) w2 fun t10 w3 =>
  K (.tuple #[]) w3
theorem slices_Sort_s_int_int.pt_eq : slices_Sort_s_int_int.pt = fun x0 w K => FN Tryz.prog Tryz.f93 (bodyOf Tryz.f93) [] .leaf [x0] w K := by kernel_rfl
theorem slices_Sort_s_int_int.call {x0 : Value} {w : World} {K : Value → World → Prop} (h : slices_Sort_s_int_int.pt x0 w K) : Calls Tryz.prog F_slices_Sort_s_int_int #[x0] w (retK K) :=
  calls_FN (args := [x0]) Tryz.func93 (by kernel_rfl) (by rw [slices_Sort_s_int_int.pt_eq] at h; exact h)
theorem slices_Sort_s_int_int.up {x0 : Value} {w : World} {K : Value → World → Prop} (h : Calls Tryz.prog F_slices_Sort_s_int_int #[x0] w (retK K)) : upK Tryz.prog (sCall F_slices_Sort_s_int_int #[x0]) w K :=
  up_call (fn := Tryz.f93) Tryz.func93 (by kernel_rfl) (by kernel_rfl) h

/-- maps.Keys[map[int]int,int,int]$1 -/
def maps_Keys_map_int_int_int_int_1.pt (yield0 t1 : Value) (w : World) (K : Value → World → Prop) : Prop :=
  readK Tryz.prog (sLoad T_map_int_int t1) w fun t4 =>
  upK Tryz.prog (sRange T_map_int_int t4) w fun t5 w1 =>
  LOOP (X := Unit) (fun lv2 w2 next2 =>
   upK Tryz.prog (sNext t5 false T_) w2 fun t6 w3 =>
   pureK Tryz.prog (sExtract t6 0) fun t7 =>
   ifB t7
   (upK Tryz.prog (sEntry t5) w3 fun t8 w4 =>
    pureK Tryz.prog (sExtract t8 0) fun t9 =>
    upK Tryz.prog (sCallV yield0 #[t9]) w4 fun t12 w5 =>
    pureK Tryz.prog (sUn .not t12) fun t13 =>
    ifB t13
    (K (.tuple #[]) w5)
    (next2 (()) w5))
   (K (.tuple #[]) w3))
  (()) w1
theorem maps_Keys_map_int_int_int_int_1.pt_eq : maps_Keys_map_int_int_int_int_1.pt = fun yield0 t1 w K => FN Tryz.prog Tryz.f94 (bodyOf Tryz.f94) [] .leaf [yield0, t1] w K := by kernel_rfl
theorem maps_Keys_map_int_int_int_int_1.call {yield0 t1 : Value} {w : World} {K : Value → World → Prop} (h : maps_Keys_map_int_int_int_int_1.pt yield0 t1 w K) : Calls Tryz.prog F_maps_Keys_map_int_int_int_int_1 #[yield0, t1] w (retK K) :=
  calls_FN (args := [yield0, t1]) Tryz.func94 (by kernel_rfl) (by rw [maps_Keys_map_int_int_int_int_1.pt_eq] at h; exact h)
theorem maps_Keys_map_int_int_int_int_1.up {yield0 t1 : Value} {w : World} {K : Value → World → Prop} (h : Calls Tryz.prog F_maps_Keys_map_int_int_int_int_1 #[yield0, t1] w (retK K)) : upK Tryz.prog (sCall F_maps_Keys_map_int_int_int_int_1 #[yield0, t1]) w K :=
  up_call (fn := Tryz.f94) Tryz.func94 (by kernel_rfl) (by kernel_rfl) h

/-- errata/errataref01.digits -/
def errataref01_digits.pt (n0 : Value) (w : World) (K : Value → World → Prop) : Prop :=
  pureK Tryz.prog (sBin .rem T_int (.tmp 4) (.const (.int .i64 10)) n0 (.int .i64 10)) fun t5 =>
  pureK Tryz.prog (sBin .sub T_int (.const (.int .i64 48)) (.tmp 5) (.int .i64 48) t5) fun t6 =>
  upK Tryz.prog (sConv T_int T_uint8 t6) w fun t7 w1 =>
  upK Tryz.prog (sBuildSlice T_s_uint8 1 #[(0, t7)]) w1 fun t8 w2 =>
  upK Tryz.prog (sConv T_s_uint8 T_string t8) w2 fun t9 w3 =>
  pureK Tryz.prog (sBin .gtr T_int (.tmp 10) (.const (.int .i64 (-10))) n0 (.int .i64 (-10))) fun t11 =>
  ifB t11
  (K t9 w3)
  (pureK Tryz.prog (sBin .quo T_int (.tmp 13) (.const (.int .i64 10)) n0 (.int .i64 10)) fun t14 =>
   upK Tryz.prog (sCall F_errataref01_digits #[t14]) w3 fun t15 w4 =>
   pureK Tryz.prog (sBin .add T_string (.tmp 15) (.tmp 16) t15 t9) fun t17 =>
   K t17 w4)
theorem errataref01_digits.pt_eq : errataref01_digits.pt = fun n0 w K => FN Tryz.prog Tryz.f95 (bodyOf Tryz.f95) [2] .leaf [n0] w K := by kernel_rfl
theorem errataref01_digits.call {n0 : Value} {w : World} {K : Value → World → Prop} (h : errataref01_digits.pt n0 w K) : Calls Tryz.prog F_errataref01_digits #[n0] w (retK K) :=
  calls_FN (args := [n0]) Tryz.func95 (by kernel_rfl) (by rw [errataref01_digits.pt_eq] at h; exact h)
theorem errataref01_digits.up {n0 : Value} {w : World} {K : Value → World → Prop} (h : Calls Tryz.prog F_errataref01_digits #[n0] w (retK K)) : upK Tryz.prog (sCall F_errataref01_digits #[n0]) w K :=
  up_call (fn := Tryz.f95) Tryz.func95 (by kernel_rfl) (by kernel_rfl) h

/-- errata/errataref01.Nums -/
def errataref01_Nums.pt (l0 : Value) (w : World) (K : Value → World → Prop) : Prop :=
  readK Tryz.prog (sBlt .len #[T_s_int] T_int #[false] #[l0]) w fun t6 =>
  pureK Tryz.prog (sUn .neg t6) fun t7 =>
  upK Tryz.prog (sCall F_errataref01_digits #[t7]) w fun t8 w1 =>
  pureK Tryz.prog (sBin .add T_string (.tmp 8) (.const (.string ⟨#[91]⟩)) t8 (.string ⟨#[91]⟩)) fun t9 =>
  LOOP (X := Value × Value × Unit) (fun lv2 w2 next2 =>
   readK Tryz.prog (sBlt .len #[T_s_int] T_int #[false] #[l0]) w2 fun t12 =>
   pureK Tryz.prog (sBin .lss T_int (.tmp 10) (.tmp 12) lv2.2.1 t12) fun t13 =>
   ifB t13
   (pureK Tryz.prog (sIdxAddr T_s_int l0 lv2.2.1) fun t19 =>
    readK Tryz.prog (sLoad T_int t19) w2 fun t20 =>
    upK Tryz.prog (sCall F_errataref01_Int #[t20]) w2 fun t21 w3 =>
    pureK Tryz.prog (sBin .add T_string (.tmp 16) (.tmp 21) lv2.1 t21) fun t22 =>
    pureK Tryz.prog (sBin .add T_int (.tmp 14) (.const (.int .i64 1)) lv2.2.1 (.int .i64 1)) fun t15 =>
    next2 (t22, t15, ()) w3)
   (pureK Tryz.prog (sBin .add T_string (.tmp 23) (.const (.string ⟨#[93]⟩)) lv2.1 (.string ⟨#[93]⟩)) fun t24 =>
    K t24 w2))
  (t9, (.int .i64 0), ()) w1
theorem errataref01_Nums.pt_eq : errataref01_Nums.pt = fun l0 w K => FN Tryz.prog Tryz.f96 (bodyOf Tryz.f96) [2] .leaf [l0] w K := by kernel_rfl
theorem errataref01_Nums.call {l0 : Value} {w : World} {K : Value → World → Prop} (h : errataref01_Nums.pt l0 w K) : Calls Tryz.prog F_errataref01_Nums #[l0] w (retK K) :=
  calls_FN (args := [l0]) Tryz.func96 (by kernel_rfl) (by rw [errataref01_Nums.pt_eq] at h; exact h)
theorem errataref01_Nums.up {l0 : Value} {w : World} {K : Value → World → Prop} (h : Calls Tryz.prog F_errataref01_Nums #[l0] w (retK K)) : upK Tryz.prog (sCall F_errataref01_Nums #[l0]) w K :=
  up_call (fn := Tryz.f96) Tryz.func96 (by kernel_rfl) (by kernel_rfl) h

/-- (*errata/wire.Reader).number -/
def wire_Reader_number.pt (r0 end1 least2 : Value) (w : World) (K : Value → World → Prop) : Prop :=
  pureK Tryz.prog (sNil r0) fun t12 =>
  pureK Tryz.prog (sFieldAddr T_wire_Reader t12 0) fun t13 =>
  readK Tryz.prog (sLoad T_string t13) (tick w) fun t14 =>
  pureK Tryz.prog (sNil r0) fun t16 =>
  pureK Tryz.prog (sFieldAddr T_wire_Reader t16 0) fun t17 =>
  readK Tryz.prog (sLoad T_string t17) (tick w) fun t18 =>
  readK Tryz.prog (sBlt .len #[T_string] T_int #[false] #[t18]) (tick w) fun t19 =>
  pureK Tryz.prog (sBlt .min #[T_int, T_int] T_int #[false, true] #[t19, (.int .i64 21)]) fun t20 =>
  pureK Tryz.prog (sSlice T_string t14 none (some t20) none) fun t21 =>
  upK Tryz.prog (sCall F_strings_IndexByte #[t21, end1]) (tick w) fun t24 w1 =>
  pureK Tryz.prog (sBin .lss T_int (.tmp 25) (.const (.int .i64 0)) t24 (.int .i64 0)) fun t26 =>
  ifB t26
  (upK Tryz.prog (sCall F_wire_Reader_fail #[r0]) w1 fun t28 w2 =>
   K (.int .i64 0) w2)
  (pureK Tryz.prog (sSlice T_string t21 none (some t24) none) fun t32 =>
   upK Tryz.prog (sCall F_strconv_Atoi #[t32]) w1 fun t33 w3 =>
   pureK Tryz.prog (sExtract t33 0) fun t34 =>
   pureK Tryz.prog (sExtract t33 1) fun t35 =>
   pureK Tryz.prog (sBin .neq T_error (.tmp 36) (.const .nilIface) t35 .nilIface) fun t37 =>
   ifB t37
   (upK Tryz.prog (sCall F_wire_Reader_fail #[r0]) (tick w3) fun t52 w4 =>
    K (.int .i64 0) w4)
   (pureK Tryz.prog (sSlice T_string t21 none (some t24) none) fun t43 =>
    upK Tryz.prog (sCall F_strconv_Itoa #[t34]) (tick w3) fun t40 w5 =>
    pureK Tryz.prog (sBin .neq T_string (.tmp 40) (.tmp 43) t40 t43) fun t44 =>
    ifB t44
    (upK Tryz.prog (sCall F_wire_Reader_fail #[r0]) w5 fun t52_1 w6 =>
     K (.int .i64 0) w6)
    (pureK Tryz.prog (sBin .lss T_int (.tmp 47) (.tmp 48) t34 least2) fun t49 =>
     ifB t49
     (upK Tryz.prog (sCall F_wire_Reader_fail #[r0]) w5 fun t52_2 w7 =>
      K (.int .i64 0) w7)
     (pureK Tryz.prog (sNil r0) fun t55 =>
      pureK Tryz.prog (sFieldAddr T_wire_Reader t55 0) fun t56 =>
      readK Tryz.prog (sLoad T_string t56) w5 fun t57 =>
      pureK Tryz.prog (sBin .add T_int (.tmp 58) (.const (.int .i64 1)) t24 (.int .i64 1)) fun t59 =>
      pureK Tryz.prog (sSlice T_string t57 (some t59) none none) fun t60 =>
      pureK Tryz.prog (sNil r0) fun t61 =>
      pureK Tryz.prog (sFieldAddr T_wire_Reader t61 0) fun t62 =>
      upK Tryz.prog (sStore T_string t62 t60) w5 fun tu w8 =>
      K t34 w8))))
theorem wire_Reader_number.pt_eq : wire_Reader_number.pt = fun r0 end1 least2 w K => FN Tryz.prog Tryz.f97 (bodyOf Tryz.f97) [6] .leaf [r0, end1, least2] w K := by kernel_rfl
theorem wire_Reader_number.call {r0 end1 least2 : Value} {w : World} {K : Value → World → Prop} (h : wire_Reader_number.pt r0 end1 least2 w K) : Calls Tryz.prog F_wire_Reader_number #[r0, end1, least2] w (retK K) :=
  calls_FN (args := [r0, end1, least2]) Tryz.func97 (by kernel_rfl) (by rw [wire_Reader_number.pt_eq] at h; exact h)
theorem wire_Reader_number.up {r0 end1 least2 : Value} {w : World} {K : Value → World → Prop} (h : Calls Tryz.prog F_wire_Reader_number #[r0, end1, least2] w (retK K)) : upK Tryz.prog (sCall F_wire_Reader_number #[r0, end1, least2]) w K :=
  up_call (fn := Tryz.f97) Tryz.func97 (by kernel_rfl) (by kernel_rfl) h

/-- (*errata/wire.Reader).Nums -/
def wire_Reader_Nums.pt (r0 : Value) (w : World) (K : Value → World → Prop) : Prop :=
  pureK Tryz.prog (sMkFunc (.func F_wire_Reader_Int) #[r0] #[]) fun t5 =>
  upK Tryz.prog (sCall F_wire_items_int #[r0, t5]) w fun t6 w1 =>
  K t6 w1
theorem wire_Reader_Nums.pt_eq : wire_Reader_Nums.pt = fun r0 w K => FN Tryz.prog Tryz.f98 (bodyOf Tryz.f98) [2] .leaf [r0] w K := by kernel_rfl
theorem wire_Reader_Nums.call {r0 : Value} {w : World} {K : Value → World → Prop} (h : wire_Reader_Nums.pt r0 w K) : Calls Tryz.prog F_wire_Reader_Nums #[r0] w (retK K) :=
  calls_FN (args := [r0]) Tryz.func98 (by kernel_rfl) (by rw [wire_Reader_Nums.pt_eq] at h; exact h)
theorem wire_Reader_Nums.up {r0 : Value} {w : World} {K : Value → World → Prop} (h : Calls Tryz.prog F_wire_Reader_Nums #[r0] w (retK K)) : upK Tryz.prog (sCall F_wire_Reader_Nums #[r0]) w K :=
  up_call (fn := Tryz.f98) Tryz.func98 (by kernel_rfl) (by kernel_rfl) h

/-- errata/producer.Right -/
def producer_Right.pt (s0 : Value) (w : World) (K : Value → World → Prop) : Prop :=
  readK Tryz.prog (sBlt .len #[T_s_api_Producer] T_int #[false] #[s0]) w fun t6 =>
  LOOP (X := Value × Unit) (fun lv1 w1 next1 =>
   pureK Tryz.prog (sBin .lss T_int (.tmp 7) (.tmp 6) lv1.1 t6) fun t8 =>
   ifB t8
   (LETJ (X := Unit) (fun jv1 w2 =>
     pureK Tryz.prog (sBin .add T_int (.tmp 7) (.const (.int .i64 1)) lv1.1 (.int .i64 1)) fun t30 =>
     next1 (t30, ()) w2)
    (fun J1 =>
     pureK Tryz.prog (sIdxAddr T_s_api_Producer s0 lv1.1) fun t10 =>
     readK Tryz.prog (sLoad T_api_Producer t10) w1 fun t11 =>
     upK Tryz.prog (sAlloc T_api_Producer) w1 fun p4 w3 =>
     upK Tryz.prog (sStore T_api_Producer p4 t11) w3 fun tu w4 =>
     readK Tryz.prog (sLoad T_api_Producer p4) (tick w4) fun t12 =>
     upK Tryz.prog (sCall F_producer_fine #[t12]) (tick w4) fun t13 w5 =>
     pureK Tryz.prog (sUn .not t13) fun t14 =>
     ifB t14
     (K (.bool false) w5)
     (pureK Tryz.prog (sBin .gtr T_int (.tmp 16) (.const (.int .i64 0)) lv1.1 (.int .i64 0)) fun t17 =>
      ifB t17
      (pureK Tryz.prog (sFieldAddr T_api_Producer p4 0) fun t19 =>
       readK Tryz.prog (sLoad T_int t19) w5 fun t20 =>
       pureK Tryz.prog (sBin .sub T_int (.tmp 22) (.const (.int .i64 1)) lv1.1 (.int .i64 1)) fun t23 =>
       pureK Tryz.prog (sIdxAddr T_s_api_Producer s0 t23) fun t24 =>
       pureK Tryz.prog (sFieldAddr T_api_Producer t24 0) fun t25 =>
       readK Tryz.prog (sLoad T_int t25) w5 fun t26 =>
       pureK Tryz.prog (sBin .leq T_int (.tmp 20) (.tmp 26) t20 t26) fun t27 =>
       ifB t27
       (K (.bool false) w5)
       (J1 (()) w5))
      (J1 (()) w5))))
   (readK Tryz.prog (sBlt .len #[T_s_api_Producer] T_int #[false] #[s0]) w1 fun t32 =>
    pureK Tryz.prog (sBin .leq T_int (.tmp 32) (.const (.int .i64 50)) t32 (.int .i64 50)) fun t33 =>
    K t33 w1))
  ((.int .i64 0), ()) w
theorem producer_Right.pt_eq : producer_Right.pt = fun s0 w K => FN Tryz.prog Tryz.f99 (bodyOf Tryz.f99) [2] (.node none .leaf (.node none (.node none .leaf (.node none (.node none (.node none .leaf (.node none .leaf (.node (some []) .leaf .leaf))) .leaf) .leaf)) .leaf)) [s0] w K := by kernel_rfl
theorem producer_Right.call {s0 : Value} {w : World} {K : Value → World → Prop} (h : producer_Right.pt s0 w K) : Calls Tryz.prog F_producer_Right #[s0] w (retK K) :=
  calls_FN (args := [s0]) Tryz.func99 (by kernel_rfl) (by rw [producer_Right.pt_eq] at h; exact h)
theorem producer_Right.up {s0 : Value} {w : World} {K : Value → World → Prop} (h : Calls Tryz.prog F_producer_Right #[s0] w (retK K)) : upK Tryz.prog (sCall F_producer_Right #[s0]) w K :=
  up_call (fn := Tryz.f99) Tryz.func99 (by kernel_rfl) (by kernel_rfl) h

/-- (*errata/wire.Reader).fail -/
def wire_Reader_fail.pt (r0 : Value) (w : World) (K : Value → World → Prop) : Prop :=
  pureK Tryz.prog (sNil r0) fun t4 =>
  pureK Tryz.prog (sFieldAddr T_wire_Reader t4 0) fun t5 =>
  upK Tryz.prog (sStore T_string t5 (.string ⟨#[]⟩)) w fun tu w1 =>
  pureK Tryz.prog (sNil r0) fun t6 =>
  pureK Tryz.prog (sFieldAddr T_wire_Reader t6 1) fun t7 =>
  upK Tryz.prog (sStore T_bool t7 (.bool true)) w1 fun tu_1 w2 =>
  K (.tuple #[]) w2
theorem wire_Reader_fail.pt_eq : wire_Reader_fail.pt = fun r0 w K => FN Tryz.prog Tryz.f100 (bodyOf Tryz.f100) [] .leaf [r0] w K := by kernel_rfl
theorem wire_Reader_fail.call {r0 : Value} {w : World} {K : Value → World → Prop} (h : wire_Reader_fail.pt r0 w K) : Calls Tryz.prog F_wire_Reader_fail #[r0] w (retK K) :=
  calls_FN (args := [r0]) Tryz.func100 (by kernel_rfl) (by rw [wire_Reader_fail.pt_eq] at h; exact h)
theorem wire_Reader_fail.up {r0 : Value} {w : World} {K : Value → World → Prop} (h : Calls Tryz.prog F_wire_Reader_fail #[r0] w (retK K)) : upK Tryz.prog (sCall F_wire_Reader_fail #[r0]) w K :=
  up_call (fn := Tryz.f100) Tryz.func100 (by kernel_rfl) (by kernel_rfl) h

/-- (*errata/wire.Reader).close -/
def wire_Reader_close.pt (r0 end1 : Value) (w : World) (K : Value → World → Prop) : Prop :=
  pureK Tryz.prog (sNil r0) fun t8 =>
  pureK Tryz.prog (sFieldAddr T_wire_Reader t8 0) fun t9 =>
  readK Tryz.prog (sLoad T_string t9) w fun t10 =>
  upK Tryz.prog (sCall F_strings_CutPrefix #[t10, end1]) w fun t12 w1 =>
  pureK Tryz.prog (sExtract t12 0) fun t13 =>
  pureK Tryz.prog (sExtract t12 1) fun t14 =>
  pureK Tryz.prog (sNil r0) fun t17 =>
  pureK Tryz.prog (sFieldAddr T_wire_Reader t17 0) fun t18 =>
  upK Tryz.prog (sStore T_string t18 t13) w1 fun tu w2 =>
  pureK Tryz.prog (sUn .not t14) fun t20 =>
  ifB t20
  (upK Tryz.prog (sCall F_wire_Reader_fail #[r0]) w2 fun t22 w3 =>
   K (.tuple #[]) w3)
  (K (.tuple #[]) w2)
theorem wire_Reader_close.pt_eq : wire_Reader_close.pt = fun r0 end1 w K => FN Tryz.prog Tryz.f101 (bodyOf Tryz.f101) [] .leaf [r0, end1] w K := by kernel_rfl
theorem wire_Reader_close.call {r0 end1 : Value} {w : World} {K : Value → World → Prop} (h : wire_Reader_close.pt r0 end1 w K) : Calls Tryz.prog F_wire_Reader_close #[r0, end1] w (retK K) :=
  calls_FN (args := [r0, end1]) Tryz.func101 (by kernel_rfl) (by rw [wire_Reader_close.pt_eq] at h; exact h)
theorem wire_Reader_close.up {r0 end1 : Value} {w : World} {K : Value → World → Prop} (h : Calls Tryz.prog F_wire_Reader_close #[r0, end1] w (retK K)) : upK Tryz.prog (sCall F_wire_Reader_close #[r0, end1]) w K :=
  up_call (fn := Tryz.f101) Tryz.func101 (by kernel_rfl) (by kernel_rfl) h

/-- (*errata/errataref01.Reader).ahead -/
def errataref01_Reader_ahead.pt (r0 end1 : Value) (w : World) (K : Value → World → Prop) : Prop :=
  LETJ (X := Value × Unit) (fun jv1 w1 =>
   pureK Tryz.prog (sNil r0) fun t33 =>
   pureK Tryz.prog (sFieldAddr T_errataref01_Reader t33 0) fun t34 =>
   readK Tryz.prog (sLoad T_string t34) w1 fun t35 =>
   readK Tryz.prog (sBlt .len #[T_string] T_int #[false] #[t35]) w1 fun t36 =>
   pureK Tryz.prog (sBin .geq T_int (.tmp 31) (.tmp 36) jv1.1 t36) fun t37 =>
   ifB t37
   (upK Tryz.prog (sCall F_errataref01_Reader_fail #[r0]) w1 fun t39 w2 =>
    K t39 w2)
   (pureK Tryz.prog (sNil r0) fun t41 =>
    pureK Tryz.prog (sFieldAddr T_errataref01_Reader t41 0) fun t42 =>
    readK Tryz.prog (sLoad T_string t42) w1 fun t43 =>
    pureK Tryz.prog (sIdx T_string t43 jv1.1) fun t45 =>
    pureK Tryz.prog (sBin .neq T_uint8 (.tmp 45) (.tmp 46) t45 end1) fun t47 =>
    ifB t47
    (upK Tryz.prog (sCall F_errataref01_Reader_fail #[r0]) w1 fun t49 w3 =>
     K t49 w3)
    (pureK Tryz.prog (sNil r0) fun t52 =>
     pureK Tryz.prog (sFieldAddr T_errataref01_Reader t52 0) fun t53 =>
     readK Tryz.prog (sLoad T_string t53) w1 fun t54 =>
     pureK Tryz.prog (sSlice T_string t54 none (some jv1.1) none) fun t56 =>
     upK Tryz.prog (sCall F_errataref01_Back #[t56]) w1 fun t57 w4 =>
     pureK Tryz.prog (sExtract t57 0) fun t58 =>
     pureK Tryz.prog (sExtract t57 1) fun t59 =>
     pureK Tryz.prog (sUn .not t59) fun t61 =>
     ifB t61
     (upK Tryz.prog (sCall F_errataref01_Reader_fail #[r0]) w4 fun t63 w5 =>
      K t63 w5)
     (pureK Tryz.prog (sNil r0) fun t66 =>
      pureK Tryz.prog (sFieldAddr T_errataref01_Reader t66 0) fun t67 =>
      readK Tryz.prog (sLoad T_string t67) w4 fun t68 =>
      pureK Tryz.prog (sBin .add T_int (.tmp 69) (.const (.int .i64 1)) jv1.1 (.int .i64 1)) fun t70 =>
      pureK Tryz.prog (sSlice T_string t68 (some t70) none none) fun t71 =>
      pureK Tryz.prog (sNil r0) fun t72 =>
      pureK Tryz.prog (sFieldAddr T_errataref01_Reader t72 0) fun t73 =>
      upK Tryz.prog (sStore T_string t73 t71) w4 fun tu w6 =>
      K t58 w6))))
  (fun J1 =>
   LOOP (X := Value × Unit) (fun lv7 w7 next7 =>
    pureK Tryz.prog (sNil r0) fun t10 =>
    pureK Tryz.prog (sFieldAddr T_errataref01_Reader t10 0) fun t11 =>
    readK Tryz.prog (sLoad T_string t11) w7 fun t12 =>
    readK Tryz.prog (sBlt .len #[T_string] T_int #[false] #[t12]) w7 fun t13 =>
    pureK Tryz.prog (sBin .lss T_int (.tmp 8) (.tmp 13) lv7.1 t13) fun t14 =>
    ifB t14
    (pureK Tryz.prog (sBin .lss T_int (.tmp 16) (.const (.int .i64 21)) lv7.1 (.int .i64 21)) fun t17 =>
     ifB t17
     (pureK Tryz.prog (sNil r0) fun t21 =>
      pureK Tryz.prog (sFieldAddr T_errataref01_Reader t21 0) fun t22 =>
      readK Tryz.prog (sLoad T_string t22) w7 fun t23 =>
      pureK Tryz.prog (sIdx T_string t23 lv7.1) fun t25 =>
      pureK Tryz.prog (sBin .neq T_uint8 (.tmp 25) (.tmp 26) t25 end1) fun t27 =>
      ifB t27
      (pureK Tryz.prog (sBin .add T_int (.tmp 29) (.const (.int .i64 1)) lv7.1 (.int .i64 1)) fun t30 =>
       next7 (t30, ()) w7)
      (J1 (lv7.1, ()) w7))
     (J1 (lv7.1, ()) w7))
    (J1 (lv7.1, ()) w7))
   ((.int .i64 0), ()) w)
theorem errataref01_Reader_ahead.pt_eq : errataref01_Reader_ahead.pt = fun r0 end1 w K => FN Tryz.prog Tryz.f103 (bodyOf Tryz.f103) [4] (.node none .leaf (.node none .leaf (.node (some [5]) .leaf .leaf))) [r0, end1] w K := by kernel_rfl
theorem errataref01_Reader_ahead.call {r0 end1 : Value} {w : World} {K : Value → World → Prop} (h : errataref01_Reader_ahead.pt r0 end1 w K) : Calls Tryz.prog F_errataref01_Reader_ahead #[r0, end1] w (retK K) :=
  calls_FN (args := [r0, end1]) Tryz.func103 (by kernel_rfl) (by rw [errataref01_Reader_ahead.pt_eq] at h; exact h)
theorem errataref01_Reader_ahead.up {r0 end1 : Value} {w : World} {K : Value → World → Prop} (h : Calls Tryz.prog F_errataref01_Reader_ahead #[r0, end1] w (retK K)) : upK Tryz.prog (sCall F_errataref01_Reader_ahead #[r0, end1]) w K :=
  up_call (fn := Tryz.f103) Tryz.func103 (by kernel_rfl) (by kernel_rfl) h

/-- (*errata/errataref01.Reader).Nums -/
def errataref01_Reader_Nums.pt (r0 : Value) (w : World) (K : Value → World → Prop) : Prop :=
  upK Tryz.prog (sCall F_errataref01_Reader_number #[r0, (.int .u8 91)]) w fun t7 w1 =>
  LETJ (X := Value × Unit) (fun jv1 w2 =>
   pureK Tryz.prog (sNil r0) fun t26 =>
   pureK Tryz.prog (sFieldAddr T_errataref01_Reader t26 1) fun t27 =>
   readK Tryz.prog (sLoad T_bool t27) w2 fun t28 =>
   ifB t28
   (K (.slice none 0 0) w2)
   (upK Tryz.prog (sCall F_errataref01_Reader_close #[r0, (.int .u8 93)]) w2 fun t31 w3 =>
    pureK Tryz.prog (sUn .not t31) fun t32 =>
    ifB t32
    (K (.slice none 0 0) w3)
    (K jv1.1 w3)))
  (fun J1 =>
   LOOP (X := Value × Value × Unit) (fun lv4 w4 next4 =>
    pureK Tryz.prog (sBin .lss T_int (.tmp 8) (.tmp 9) lv4.2.1 t7) fun t10 =>
    ifB t10
    (pureK Tryz.prog (sNil r0) fun t13 =>
     pureK Tryz.prog (sFieldAddr T_errataref01_Reader t13 1) fun t14 =>
     readK Tryz.prog (sLoad T_bool t14) w4 fun t15 =>
     pureK Tryz.prog (sUn .not t15) fun t16 =>
     ifB t16
     (upK Tryz.prog (sCall F_errataref01_Reader_Int #[r0]) w4 fun t22 w5 =>
      upK Tryz.prog (sBuildSlice T_s_int 1 #[(0, t22)]) w5 fun t23 w6 =>
      upK Tryz.prog (sBlt .append #[T_s_int, T_s_int] T_s_int #[false, false] #[lv4.1, t23]) w6 fun t24 w7 =>
      pureK Tryz.prog (sBin .add T_int (.tmp 18) (.const (.int .i64 1)) lv4.2.1 (.int .i64 1)) fun t19 =>
      next4 (t24, t19, ()) w7)
     (J1 (lv4.1, ()) w4))
    (J1 (lv4.1, ()) w4))
   ((.slice none 0 0), (.int .i64 0), ()) w1)
theorem errataref01_Reader_Nums.pt_eq : errataref01_Reader_Nums.pt = fun r0 w K => FN Tryz.prog Tryz.f104 (bodyOf Tryz.f104) [2] (.node none .leaf (.node none .leaf (.node none .leaf (.node (some [4]) .leaf .leaf)))) [r0] w K := by kernel_rfl
theorem errataref01_Reader_Nums.call {r0 : Value} {w : World} {K : Value → World → Prop} (h : errataref01_Reader_Nums.pt r0 w K) : Calls Tryz.prog F_errataref01_Reader_Nums #[r0] w (retK K) :=
  calls_FN (args := [r0]) Tryz.func104 (by kernel_rfl) (by rw [errataref01_Reader_Nums.pt_eq] at h; exact h)
theorem errataref01_Reader_Nums.up {r0 : Value} {w : World} {K : Value → World → Prop} (h : Calls Tryz.prog F_errataref01_Reader_Nums #[r0] w (retK K)) : upK Tryz.prog (sCall F_errataref01_Reader_Nums #[r0]) w K :=
  up_call (fn := Tryz.f104) Tryz.func104 (by kernel_rfl) (by kernel_rfl) h

/-- errata/errataref10.Right -/
def errataref10_Right.pt (s0 : Value) (w : World) (K : Value → World → Prop) : Prop :=
  readK Tryz.prog (sBlt .len #[T_s_api_Producer] T_int #[false] #[s0]) w fun t9 =>
  pureK Tryz.prog (sBin .gtr T_int (.tmp 9) (.const (.int .i64 50)) t9 (.int .i64 50)) fun t10 =>
  ifB t10
  (K (.bool false) w)
  (LOOP (X := Value × Value × Unit) (fun lv1 w1 next1 =>
    readK Tryz.prog (sBlt .len #[T_s_api_Producer] T_int #[false] #[s0]) w1 fun t13 =>
    pureK Tryz.prog (sBin .lss T_int (.tmp 11) (.tmp 13) lv1.2.1 t13) fun t14 =>
    ifB t14
    (LETJ (X := Value × Unit) (fun jv1 w2 =>
      pureK Tryz.prog (sBin .add T_int (.tmp 15) (.const (.int .i64 1)) lv1.2.1 (.int .i64 1)) fun t16 =>
      next1 (jv1.1, t16, ()) w2)
     (fun J1 =>
      pureK Tryz.prog (sIdxAddr T_s_api_Producer s0 lv1.2.1) fun t19 =>
      readK Tryz.prog (sLoad T_api_Producer t19) w1 fun t20 =>
      upK Tryz.prog (sAlloc T_api_Producer) w1 fun p5 w3 =>
      upK Tryz.prog (sStore T_api_Producer p5 t20) w3 fun tu w4 =>
      pureK Tryz.prog (sFieldAddr T_api_Producer p5 0) fun t21 =>
      readK Tryz.prog (sLoad T_int t21) w4 fun t22 =>
      pureK Tryz.prog (sBin .leq T_int (.tmp 22) (.tmp 23) t22 lv1.1) fun t24 =>
      ifB t24
      (K (.bool false) w4)
      (pureK Tryz.prog (sFieldAddr T_api_Producer p5 0) fun t26 =>
       readK Tryz.prog (sLoad T_int t26) w4 fun t27 =>
       upK Tryz.prog (sCall F_errataref10_in #[t27]) w4 fun t28 w5 =>
       pureK Tryz.prog (sUn .not t28) fun t29 =>
       ifB t29
       (K (.bool false) w5)
       (pureK Tryz.prog (sFieldAddr T_api_Producer p5 1) fun t32 =>
        readK Tryz.prog (sLoad T_int t32) w5 fun t33 =>
        upK Tryz.prog (sCall F_errataref10_in #[t33]) w5 fun t34 w6 =>
        pureK Tryz.prog (sUn .not t34) fun t35 =>
        ifB t35
        (K (.bool false) w6)
        (pureK Tryz.prog (sFieldAddr T_api_Producer p5 2) fun t38 =>
         readK Tryz.prog (sLoad T_int t38) w6 fun t39 =>
         upK Tryz.prog (sCall F_errataref10_in #[t39]) w6 fun t40 w7 =>
         pureK Tryz.prog (sUn .not t40) fun t41 =>
         ifB t41
         (K (.bool false) w7)
         (pureK Tryz.prog (sFieldAddr T_api_Producer p5 3) fun t44 =>
          readK Tryz.prog (sLoad T_s_int t44) w7 fun t45 =>
          readK Tryz.prog (sBlt .len #[T_s_int] T_int #[false] #[t45]) w7 fun t46 =>
          pureK Tryz.prog (sFieldAddr T_api_Producer p5 2) fun t47 =>
          readK Tryz.prog (sLoad T_int t47) w7 fun t48 =>
          pureK Tryz.prog (sBlt .min #[T_int, T_int] T_int #[false, true] #[t48, (.int .i64 20)]) fun t49 =>
          pureK Tryz.prog (sBin .neq T_int (.tmp 46) (.tmp 49) t46 t49) fun t50 =>
          ifB t50
          (K (.bool false) w7)
          (pureK Tryz.prog (sFieldAddr T_api_Producer p5 0) fun t52 =>
           readK Tryz.prog (sLoad T_int t52) w7 fun t53 =>
           LOOP (X := Value × Value × Unit) (fun lv8 w8 next8 =>
            pureK Tryz.prog (sFieldAddr T_api_Producer p5 3) fun t55 =>
            readK Tryz.prog (sLoad T_s_int t55) w8 fun t56 =>
            readK Tryz.prog (sBlt .len #[T_s_int] T_int #[false] #[t56]) w8 fun t57 =>
            pureK Tryz.prog (sBin .lss T_int (.tmp 54) (.tmp 57) lv8.2.1 t57) fun t58 =>
            ifB t58
            (pureK Tryz.prog (sFieldAddr T_api_Producer p5 3) fun t61 =>
             readK Tryz.prog (sLoad T_s_int t61) w8 fun t62 =>
             pureK Tryz.prog (sIdxAddr T_s_int t62 lv8.2.1) fun t64 =>
             readK Tryz.prog (sLoad T_int t64) w8 fun t65 =>
             pureK Tryz.prog (sBin .leq T_int (.tmp 65) (.tmp 66) t65 lv8.1) fun t67 =>
             ifB t67
             (K (.bool false) w8)
             (pureK Tryz.prog (sFieldAddr T_api_Producer p5 3) fun t69 =>
              readK Tryz.prog (sLoad T_s_int t69) w8 fun t70 =>
              pureK Tryz.prog (sIdxAddr T_s_int t70 lv8.2.1) fun t72 =>
              readK Tryz.prog (sLoad T_int t72) w8 fun t73 =>
              upK Tryz.prog (sCall F_errataref10_in #[t73]) w8 fun t74 w9 =>
              pureK Tryz.prog (sUn .not t74) fun t75 =>
              ifB t75
              (K (.bool false) w9)
              (pureK Tryz.prog (sFieldAddr T_api_Producer p5 3) fun t77 =>
               readK Tryz.prog (sLoad T_s_int t77) w9 fun t78 =>
               pureK Tryz.prog (sIdxAddr T_s_int t78 lv8.2.1) fun t80 =>
               readK Tryz.prog (sLoad T_int t80) w9 fun t81 =>
               pureK Tryz.prog (sBin .add T_int (.tmp 59) (.const (.int .i64 1)) lv8.2.1 (.int .i64 1)) fun t60 =>
               next8 (t81, t60, ()) w9)))
            (J1 (t53, ()) w8))
           ((.int .i64 (-1)), (.int .i64 0), ()) w7)))))))
    (K (.bool true) w1))
   ((.int .i64 (-1)), (.int .i64 0), ()) w)
theorem errataref10_Right.pt_eq : errataref10_Right.pt = fun s0 w K => FN Tryz.prog Tryz.f105 (bodyOf Tryz.f105) [2] (.node none .leaf (.node none .leaf (.node none .leaf (.node none (.node none .leaf (.node none (.node none (.node none .leaf (.node (some [3]) .leaf .leaf)) .leaf) .leaf)) .leaf)))) [s0] w K := by kernel_rfl
theorem errataref10_Right.call {s0 : Value} {w : World} {K : Value → World → Prop} (h : errataref10_Right.pt s0 w K) : Calls Tryz.prog F_errataref10_Right #[s0] w (retK K) :=
  calls_FN (args := [s0]) Tryz.func105 (by kernel_rfl) (by rw [errataref10_Right.pt_eq] at h; exact h)
theorem errataref10_Right.up {s0 : Value} {w : World} {K : Value → World → Prop} (h : Calls Tryz.prog F_errataref10_Right #[s0] w (retK K)) : upK Tryz.prog (sCall F_errataref10_Right #[s0]) w K :=
  up_call (fn := Tryz.f105) Tryz.func105 (by kernel_rfl) (by kernel_rfl) h

/-- (*errata/errataref01.Reader).number -/
def errataref01_Reader_number.pt (r0 end1 : Value) (w : World) (K : Value → World → Prop) : Prop :=
  upK Tryz.prog (sCall F_errataref01_Reader_ahead #[r0, end1]) w fun t8 w1 =>
  pureK Tryz.prog (sBin .lss T_int (.tmp 9) (.const (.int .i64 0)) t8 (.int .i64 0)) fun t10 =>
  ifB t10
  (upK Tryz.prog (sCall F_errataref01_Reader_fail #[r0]) w1 fun t12 w2 =>
   K t12 w2)
  (K t8 w1)
theorem errataref01_Reader_number.pt_eq : errataref01_Reader_number.pt = fun r0 end1 w K => FN Tryz.prog Tryz.f106 (bodyOf Tryz.f106) [4] .leaf [r0, end1] w K := by kernel_rfl
theorem errataref01_Reader_number.call {r0 end1 : Value} {w : World} {K : Value → World → Prop} (h : errataref01_Reader_number.pt r0 end1 w K) : Calls Tryz.prog F_errataref01_Reader_number #[r0, end1] w (retK K) :=
  calls_FN (args := [r0, end1]) Tryz.func106 (by kernel_rfl) (by rw [errataref01_Reader_number.pt_eq] at h; exact h)
theorem errataref01_Reader_number.up {r0 end1 : Value} {w : World} {K : Value → World → Prop} (h : Calls Tryz.prog F_errataref01_Reader_number #[r0, end1] w (retK K)) : upK Tryz.prog (sCall F_errataref01_Reader_number #[r0, end1]) w K :=
  up_call (fn := Tryz.f106) Tryz.func106 (by kernel_rfl) (by kernel_rfl) h

/-- (*errata/errataref01.Reader).fail -/
def errataref01_Reader_fail.pt (r0 : Value) (w : World) (K : Value → World → Prop) : Prop :=
  pureK Tryz.prog (sNil r0) fun t4 =>
  pureK Tryz.prog (sFieldAddr T_errataref01_Reader t4 0) fun t5 =>
  upK Tryz.prog (sStore T_string t5 (.string ⟨#[]⟩)) w fun tu w1 =>
  pureK Tryz.prog (sNil r0) fun t7 =>
  pureK Tryz.prog (sFieldAddr T_errataref01_Reader t7 1) fun t8 =>
  upK Tryz.prog (sStore T_bool t8 (.bool true)) w1 fun tu_1 w2 =>
  K (.int .i64 0) w2
theorem errataref01_Reader_fail.pt_eq : errataref01_Reader_fail.pt = fun r0 w K => FN Tryz.prog Tryz.f107 (bodyOf Tryz.f107) [2] .leaf [r0] w K := by kernel_rfl
theorem errataref01_Reader_fail.call {r0 : Value} {w : World} {K : Value → World → Prop} (h : errataref01_Reader_fail.pt r0 w K) : Calls Tryz.prog F_errataref01_Reader_fail #[r0] w (retK K) :=
  calls_FN (args := [r0]) Tryz.func107 (by kernel_rfl) (by rw [errataref01_Reader_fail.pt_eq] at h; exact h)
theorem errataref01_Reader_fail.up {r0 : Value} {w : World} {K : Value → World → Prop} (h : Calls Tryz.prog F_errataref01_Reader_fail #[r0] w (retK K)) : upK Tryz.prog (sCall F_errataref01_Reader_fail #[r0]) w K :=
  up_call (fn := Tryz.f107) Tryz.func107 (by kernel_rfl) (by kernel_rfl) h

/-- (*errata/errataref01.Reader).close -/
def errataref01_Reader_close.pt (r0 end1 : Value) (w : World) (K : Value → World → Prop) : Prop :=
  pureK Tryz.prog (sNil r0) fun t6 =>
  pureK Tryz.prog (sFieldAddr T_errataref01_Reader t6 0) fun t7 =>
  readK Tryz.prog (sLoad T_string t7) w fun t8 =>
  readK Tryz.prog (sBlt .len #[T_string] T_int #[false] #[t8]) w fun t9 =>
  pureK Tryz.prog (sBin .eql T_int (.tmp 9) (.const (.int .i64 0)) t9 (.int .i64 0)) fun t10 =>
  ifB t10
  (upK Tryz.prog (sCall F_errataref01_Reader_fail #[r0]) w fun t12 w1 =>
   K (.bool false) w1)
  (pureK Tryz.prog (sNil r0) fun t14 =>
   pureK Tryz.prog (sFieldAddr T_errataref01_Reader t14 0) fun t15 =>
   readK Tryz.prog (sLoad T_string t15) w fun t16 =>
   pureK Tryz.prog (sIdx T_string t16 (.int .i64 0)) fun t17 =>
   pureK Tryz.prog (sBin .neq T_uint8 (.tmp 17) (.tmp 18) t17 end1) fun t19 =>
   ifB t19
   (upK Tryz.prog (sCall F_errataref01_Reader_fail #[r0]) w fun t21 w2 =>
    K (.bool false) w2)
   (pureK Tryz.prog (sNil r0) fun t24 =>
    pureK Tryz.prog (sFieldAddr T_errataref01_Reader t24 0) fun t25 =>
    readK Tryz.prog (sLoad T_string t25) w fun t26 =>
    pureK Tryz.prog (sSlice T_string t26 (some (.int .i64 1)) none none) fun t27 =>
    pureK Tryz.prog (sNil r0) fun t28 =>
    pureK Tryz.prog (sFieldAddr T_errataref01_Reader t28 0) fun t29 =>
    upK Tryz.prog (sStore T_string t29 t27) w fun tu w3 =>
    K (.bool true) w3))
theorem errataref01_Reader_close.pt_eq : errataref01_Reader_close.pt = fun r0 end1 w K => FN Tryz.prog Tryz.f108 (bodyOf Tryz.f108) [4] .leaf [r0, end1] w K := by kernel_rfl
theorem errataref01_Reader_close.call {r0 end1 : Value} {w : World} {K : Value → World → Prop} (h : errataref01_Reader_close.pt r0 end1 w K) : Calls Tryz.prog F_errataref01_Reader_close #[r0, end1] w (retK K) :=
  calls_FN (args := [r0, end1]) Tryz.func108 (by kernel_rfl) (by rw [errataref01_Reader_close.pt_eq] at h; exact h)
theorem errataref01_Reader_close.up {r0 end1 : Value} {w : World} {K : Value → World → Prop} (h : Calls Tryz.prog F_errataref01_Reader_close #[r0, end1] w (retK K)) : upK Tryz.prog (sCall F_errataref01_Reader_close #[r0, end1]) w K :=
  up_call (fn := Tryz.f108) Tryz.func108 (by kernel_rfl) (by kernel_rfl) h

/-- (*strings.Builder).copyCheck -/
def strings_Builder_copyCheck.pt (b0 : Value) (w : World) (K : Value → World → Prop) : Prop :=
  pureK Tryz.prog (sNil b0) fun t3 =>
  pureK Tryz.prog (sFieldAddr T_strings_Builder t3 0) fun t4 =>
  readK Tryz.prog (sLoad T_p_strings_Builder t4) w fun t5 =>
  pureK Tryz.prog (sBin .eql T_p_strings_Builder (.tmp 5) (.const (.pointer none)) t5 (.pointer none)) fun t6 =>
  ifB t6
  (upK Tryz.prog (sConv T_p_strings_Builder T_unsafe_Pointer b0) w fun t9 w1 =>
   upK Tryz.prog (sCall F_internal_abi_NoEscape #[t9]) w1 fun t10 w2 =>
   upK Tryz.prog (sConv T_unsafe_Pointer T_p_strings_Builder t10) w2 fun t11 w3 =>
   pureK Tryz.prog (sNil b0) fun t12 =>
   pureK Tryz.prog (sFieldAddr T_strings_Builder t12 0) fun t13 =>
   upK Tryz.prog (sStore T_p_strings_Builder t13 t11) w3 fun tu w4 =>
   K (.tuple #[]) w4)
  (pureK Tryz.prog (sNil b0) fun t15 =>
   pureK Tryz.prog (sFieldAddr T_strings_Builder t15 0) fun t16 =>
   readK Tryz.prog (sLoad T_p_strings_Builder t16) w fun t17 =>
   pureK Tryz.prog (sBin .neq T_p_strings_Builder (.tmp 17) (.tmp 18) t17 b0) fun t19 =>
   ifB t19
   (False)
   (K (.tuple #[]) w))
theorem strings_Builder_copyCheck.pt_eq : strings_Builder_copyCheck.pt = fun b0 w K => FN Tryz.prog Tryz.f109 (bodyOf Tryz.f109) [] .leaf [b0] w K := by kernel_rfl
theorem strings_Builder_copyCheck.call {b0 : Value} {w : World} {K : Value → World → Prop} (h : strings_Builder_copyCheck.pt b0 w K) : Calls Tryz.prog F_strings_Builder_copyCheck #[b0] w (retK K) :=
  calls_FN (args := [b0]) Tryz.func109 (by kernel_rfl) (by rw [strings_Builder_copyCheck.pt_eq] at h; exact h)
theorem strings_Builder_copyCheck.up {b0 : Value} {w : World} {K : Value → World → Prop} (h : Calls Tryz.prog F_strings_Builder_copyCheck #[b0] w (retK K)) : upK Tryz.prog (sCall F_strings_Builder_copyCheck #[b0]) w K :=
  up_call (fn := Tryz.f109) Tryz.func109 (by kernel_rfl) (by kernel_rfl) h

/-- errata/wire.list[int] -/
def wire_list_int.pt (l0 one1 : Value) (w : World) (K : Value → World → Prop) : Prop :=
  upK Tryz.prog (sAlloc T_strings_Builder) w fun b5 w1 =>
  readK Tryz.prog (sBlt .len #[T_s_int] T_int #[false] #[l0]) w1 fun t9 =>
  upK Tryz.prog (sCall F_strconv_Itoa #[t9]) w1 fun t10 w2 =>
  pureK Tryz.prog (sBin .add T_string (.tmp 10) (.const (.string ⟨#[91]⟩)) t10 (.string ⟨#[91]⟩)) fun t11 =>
  upK Tryz.prog (sCall F_strings_Builder_WriteString #[b5, t11]) w2 fun t12 w3 =>
  readK Tryz.prog (sBlt .len #[T_s_int] T_int #[false] #[l0]) w3 fun t14 =>
  LOOP (X := Value × Unit) (fun lv4 w4 next4 =>
   pureK Tryz.prog (sBin .lss T_int (.tmp 15) (.tmp 14) lv4.1 t14) fun t16 =>
   ifB t16
   (pureK Tryz.prog (sIdxAddr T_s_int l0 lv4.1) fun t17 =>
    readK Tryz.prog (sLoad T_int t17) w4 fun t18 =>
    upK Tryz.prog (sCallV one1 #[t18]) w4 fun t21 w5 =>
    upK Tryz.prog (sCall F_strings_Builder_WriteString #[b5, t21]) w5 fun t22 w6 =>
    pureK Tryz.prog (sBin .add T_int (.tmp 15) (.const (.int .i64 1)) lv4.1 (.int .i64 1)) fun t23 =>
    next4 (t23, ()) w6)
   (upK Tryz.prog (sCall F_strings_Builder_String #[b5]) w4 fun t24 w7 =>
    pureK Tryz.prog (sBin .add T_string (.tmp 24) (.const (.string ⟨#[93]⟩)) t24 (.string ⟨#[93]⟩)) fun t25 =>
    K t25 w7))
  ((.int .i64 0), ()) w3
theorem wire_list_int.pt_eq : wire_list_int.pt = fun l0 one1 w K => FN Tryz.prog Tryz.f110 (bodyOf Tryz.f110) [4] .leaf [l0, one1] w K := by kernel_rfl
theorem wire_list_int.call {l0 one1 : Value} {w : World} {K : Value → World → Prop} (h : wire_list_int.pt l0 one1 w K) : Calls Tryz.prog F_wire_list_int #[l0, one1] w (retK K) :=
  calls_FN (args := [l0, one1]) Tryz.func110 (by kernel_rfl) (by rw [wire_list_int.pt_eq] at h; exact h)
theorem wire_list_int.up {l0 one1 : Value} {w : World} {K : Value → World → Prop} (h : Calls Tryz.prog F_wire_list_int #[l0, one1] w (retK K)) : upK Tryz.prog (sCall F_wire_list_int #[l0, one1]) w K :=
  up_call (fn := Tryz.f110) Tryz.func110 (by kernel_rfl) (by kernel_rfl) h

/-- slices.IndexFunc[[]errata/api.Known,errata/api.Known] -/
def slices_IndexFunc_s_api_Known_api_Known.pt (s0 f1 : Value) (w : World) (K : Value → World → Prop) : Prop :=
  readK Tryz.prog (sBlt .len #[T_s_api_Known] T_int #[false] #[s0]) w fun t7 =>
  LOOP (X := Value × Unit) (fun lv1 w1 next1 =>
   pureK Tryz.prog (sBin .lss T_int (.tmp 8) (.tmp 7) lv1.1 t7) fun t9 =>
   ifB t9
   (pureK Tryz.prog (sIdxAddr T_s_api_Known s0 lv1.1) fun t14 =>
    readK Tryz.prog (sLoad T_api_Known t14) w1 fun t15 =>
    upK Tryz.prog (sCallV f1 #[t15]) w1 fun t16 w2 =>
    ifB t16
    (K lv1.1 w2)
    (pureK Tryz.prog (sBin .add T_int (.tmp 8) (.const (.int .i64 1)) lv1.1 (.int .i64 1)) fun t18 =>
     next1 (t18, ()) w2))
   (K (.int .i64 (-1)) w1))
  ((.int .i64 0), ()) w
theorem slices_IndexFunc_s_api_Known_api_Known.pt_eq : slices_IndexFunc_s_api_Known_api_Known.pt = fun s0 f1 w K => FN Tryz.prog Tryz.f111 (bodyOf Tryz.f111) [4] .leaf [s0, f1] w K := by kernel_rfl
theorem slices_IndexFunc_s_api_Known_api_Known.call {s0 f1 : Value} {w : World} {K : Value → World → Prop} (h : slices_IndexFunc_s_api_Known_api_Known.pt s0 f1 w K) : Calls Tryz.prog F_slices_IndexFunc_s_api_Known_api_Known #[s0, f1] w (retK K) :=
  calls_FN (args := [s0, f1]) Tryz.func111 (by kernel_rfl) (by rw [slices_IndexFunc_s_api_Known_api_Known.pt_eq] at h; exact h)
theorem slices_IndexFunc_s_api_Known_api_Known.up {s0 f1 : Value} {w : World} {K : Value → World → Prop} (h : Calls Tryz.prog F_slices_IndexFunc_s_api_Known_api_Known #[s0, f1] w (retK K)) : upK Tryz.prog (sCall F_slices_IndexFunc_s_api_Known_api_Known #[s0, f1]) w K :=
  up_call (fn := Tryz.f111) Tryz.func111 (by kernel_rfl) (by kernel_rfl) h

/-- (*errata/intake.Intake).fits$1 -/
def intake_Intake_fits_1.pt (k0 t1 : Value) (w : World) (K : Value → World → Prop) : Prop :=
  upK Tryz.prog (sBox T_api_Known k0) w fun k2 w1 =>
  pureK Tryz.prog (sFieldAddr T_api_Known k2 0) fun t4 =>
  readK Tryz.prog (sLoad T_string t4) w1 fun t5 =>
  pureK Tryz.prog (sFieldAddr T_api_Entry t1 4) fun t6 =>
  readK Tryz.prog (sLoad T_string t6) w1 fun t7 =>
  pureK Tryz.prog (sBin .eql T_string (.tmp 5) (.tmp 7) t5 t7) fun t8 =>
  ifB t8
  (pureK Tryz.prog (sFieldAddr T_api_Known k2 1) fun t10 =>
   readK Tryz.prog (sLoad T_int t10) w1 fun t11 =>
   pureK Tryz.prog (sFieldAddr T_api_Entry t1 5) fun t12 =>
   readK Tryz.prog (sLoad T_int t12) w1 fun t13 =>
   pureK Tryz.prog (sBin .eql T_int (.tmp 11) (.tmp 13) t11 t13) fun t14 =>
   K t14 w1)
  (K (.bool false) w1)
theorem intake_Intake_fits_1.pt_eq : intake_Intake_fits_1.pt = fun k0 t1 w K => FN Tryz.prog Tryz.f112 (bodyOf Tryz.f112) [3] .leaf [k0, t1] w K := by kernel_rfl
theorem intake_Intake_fits_1.call {k0 t1 : Value} {w : World} {K : Value → World → Prop} (h : intake_Intake_fits_1.pt k0 t1 w K) : Calls Tryz.prog F_intake_Intake_fits_1 #[k0, t1] w (retK K) :=
  calls_FN (args := [k0, t1]) Tryz.func112 (by kernel_rfl) (by rw [intake_Intake_fits_1.pt_eq] at h; exact h)
theorem intake_Intake_fits_1.up {k0 t1 : Value} {w : World} {K : Value → World → Prop} (h : Calls Tryz.prog F_intake_Intake_fits_1 #[k0, t1] w (retK K)) : upK Tryz.prog (sCall F_intake_Intake_fits_1 #[k0, t1]) w K :=
  up_call (fn := Tryz.f112) Tryz.func112 (by kernel_rfl) (by kernel_rfl) h

/-- slices.EqualFunc[[]errata/api.Value,[]errata/api.Col,errata/api.Value,errata/api.Col] -/
def slices_EqualFunc_s_api_Value_s_api_Col_api_Value_api_Col.pt (s10 s21 eq2 : Value) (w : World) (K : Value → World → Prop) : Prop :=
  readK Tryz.prog (sBlt .len #[T_s_api_Value] T_int #[false] #[s10]) w fun t11 =>
  readK Tryz.prog (sBlt .len #[T_s_api_Col] T_int #[false] #[s21]) w fun t13 =>
  pureK Tryz.prog (sBin .neq T_int (.tmp 11) (.tmp 13) t11 t13) fun t14 =>
  ifB t14
  (K (.bool false) w)
  (readK Tryz.prog (sBlt .len #[T_s_api_Value] T_int #[false] #[s10]) w fun t16 =>
   LOOP (X := Value × Unit) (fun lv1 w1 next1 =>
    pureK Tryz.prog (sBin .lss T_int (.tmp 17) (.tmp 16) lv1.1 t16) fun t18 =>
    ifB t18
    (pureK Tryz.prog (sIdxAddr T_s_api_Value s10 lv1.1) fun t20 =>
     readK Tryz.prog (sLoad T_api_Value t20) w1 fun t21 =>
     upK Tryz.prog (sAlloc T_api_Value) w1 fun v18 w2 =>
     upK Tryz.prog (sStore T_api_Value v18 t21) w2 fun tu w3 =>
     pureK Tryz.prog (sIdxAddr T_s_api_Col s21 lv1.1) fun t24 =>
     readK Tryz.prog (sLoad T_api_Col t24) w3 fun t25 =>
     upK Tryz.prog (sAlloc T_api_Col) w3 fun v29 w4 =>
     upK Tryz.prog (sStore T_api_Col v29 t25) w4 fun tu_1 w5 =>
     readK Tryz.prog (sLoad T_api_Value v18) w5 fun t27 =>
     readK Tryz.prog (sLoad T_api_Col v29) w5 fun t28 =>
     upK Tryz.prog (sCallV eq2 #[t27, t28]) w5 fun t29 w6 =>
     pureK Tryz.prog (sUn .not t29) fun t30 =>
     ifB t30
     (K (.bool false) w6)
     (pureK Tryz.prog (sBin .add T_int (.tmp 17) (.const (.int .i64 1)) lv1.1 (.int .i64 1)) fun t31 =>
      next1 (t31, ()) w6))
    (K (.bool true) w1))
   ((.int .i64 0), ()) w)
theorem slices_EqualFunc_s_api_Value_s_api_Col_api_Value_api_Col.pt_eq : slices_EqualFunc_s_api_Value_s_api_Col_api_Value_api_Col.pt = fun s10 s21 eq2 w K => FN Tryz.prog Tryz.f113 (bodyOf Tryz.f113) [6] .leaf [s10, s21, eq2] w K := by kernel_rfl
theorem slices_EqualFunc_s_api_Value_s_api_Col_api_Value_api_Col.call {s10 s21 eq2 : Value} {w : World} {K : Value → World → Prop} (h : slices_EqualFunc_s_api_Value_s_api_Col_api_Value_api_Col.pt s10 s21 eq2 w K) : Calls Tryz.prog F_slices_EqualFunc_s_api_Value_s_api_Col_api_Value_api_Col #[s10, s21, eq2] w (retK K) :=
  calls_FN (args := [s10, s21, eq2]) Tryz.func113 (by kernel_rfl) (by rw [slices_EqualFunc_s_api_Value_s_api_Col_api_Value_api_Col.pt_eq] at h; exact h)
theorem slices_EqualFunc_s_api_Value_s_api_Col_api_Value_api_Col.up {s10 s21 eq2 : Value} {w : World} {K : Value → World → Prop} (h : Calls Tryz.prog F_slices_EqualFunc_s_api_Value_s_api_Col_api_Value_api_Col #[s10, s21, eq2] w (retK K)) : upK Tryz.prog (sCall F_slices_EqualFunc_s_api_Value_s_api_Col_api_Value_api_Col #[s10, s21, eq2]) w K :=
  up_call (fn := Tryz.f113) Tryz.func113 (by kernel_rfl) (by kernel_rfl) h

/-- (*errata/intake.Intake).fits$2 -/
def intake_Intake_fits_2.pt (v0 c1 : Value) (w : World) (K : Value → World → Prop) : Prop :=
  upK Tryz.prog (sBox T_api_Value v0) w fun v2 w1 =>
  upK Tryz.prog (sBox T_api_Col c1) w1 fun c3 w2 =>
  pureK Tryz.prog (sFieldAddr T_api_Value v2 0) fun t5 =>
  readK Tryz.prog (sLoad T_int t5) w2 fun t6 =>
  pureK Tryz.prog (sFieldAddr T_api_Col c3 1) fun t7 =>
  readK Tryz.prog (sLoad T_int t7) w2 fun t8 =>
  pureK Tryz.prog (sBin .eql T_int (.tmp 6) (.tmp 8) t6 t8) fun t9 =>
  K t9 w2
theorem intake_Intake_fits_2.pt_eq : intake_Intake_fits_2.pt = fun v0 c1 w K => FN Tryz.prog Tryz.f114 (bodyOf Tryz.f114) [4] .leaf [v0, c1] w K := by kernel_rfl
theorem intake_Intake_fits_2.call {v0 c1 : Value} {w : World} {K : Value → World → Prop} (h : intake_Intake_fits_2.pt v0 c1 w K) : Calls Tryz.prog F_intake_Intake_fits_2 #[v0, c1] w (retK K) :=
  calls_FN (args := [v0, c1]) Tryz.func114 (by kernel_rfl) (by rw [intake_Intake_fits_2.pt_eq] at h; exact h)
theorem intake_Intake_fits_2.up {v0 c1 : Value} {w : World} {K : Value → World → Prop} (h : Calls Tryz.prog F_intake_Intake_fits_2 #[v0, c1] w (retK K)) : upK Tryz.prog (sCall F_intake_Intake_fits_2 #[v0, c1]) w K :=
  up_call (fn := Tryz.f114) Tryz.func114 (by kernel_rfl) (by kernel_rfl) h

/-- errata/value.RightRow -/
def value_RightRow.pt (r0 : Value) (w : World) (K : Value → World → Prop) : Prop :=
  readK Tryz.prog (sBlt .len #[T_s_api_Value] T_int #[false] #[r0]) w fun t4 =>
  pureK Tryz.prog (sBin .leq T_int (.tmp 4) (.const (.int .i64 12)) t4 (.int .i64 12)) fun t5 =>
  ifB t5
  (upK Tryz.prog (sCall F_value_all #[r0]) w fun t8 w1 =>
   K t8 w1)
  (K (.bool false) w)
theorem value_RightRow.pt_eq : value_RightRow.pt = fun r0 w K => FN Tryz.prog Tryz.f115 (bodyOf Tryz.f115) [2] .leaf [r0] w K := by kernel_rfl
theorem value_RightRow.call {r0 : Value} {w : World} {K : Value → World → Prop} (h : value_RightRow.pt r0 w K) : Calls Tryz.prog F_value_RightRow #[r0] w (retK K) :=
  calls_FN (args := [r0]) Tryz.func115 (by kernel_rfl) (by rw [value_RightRow.pt_eq] at h; exact h)
theorem value_RightRow.up {r0 : Value} {w : World} {K : Value → World → Prop} (h : Calls Tryz.prog F_value_RightRow #[r0] w (retK K)) : upK Tryz.prog (sCall F_value_RightRow #[r0]) w K :=
  up_call (fn := Tryz.f115) Tryz.func115 (by kernel_rfl) (by kernel_rfl) h

/-- errata/producer.clone -/
def producer_clone.pt (s0 : Value) (w : World) (K : Value → World → Prop) : Prop :=
  readK Tryz.prog (sBlt .len #[T_s_api_Producer] T_int #[false] #[s0]) w fun t6 =>
  upK Tryz.prog (sMkSlice T_s_api_Producer t6 t6) w fun t7 w1 =>
  upK Tryz.prog (sBlt .copy #[T_s_api_Producer, T_s_api_Producer] T_int #[false, false] #[t7, s0]) w1 fun t10 w2 =>
  readK Tryz.prog (sBlt .len #[T_s_api_Producer] T_int #[false] #[t7]) w2 fun t12 =>
  LOOP (X := Value × Unit) (fun lv3 w3 next3 =>
   pureK Tryz.prog (sBin .lss T_int (.tmp 13) (.tmp 12) lv3.1 t12) fun t14 =>
   ifB t14
   (pureK Tryz.prog (sIdxAddr T_s_api_Producer t7 lv3.1) fun t20 =>
    pureK Tryz.prog (sFieldAddr T_api_Producer t20 3) fun t21 =>
    readK Tryz.prog (sLoad T_s_int t21) w3 fun t22 =>
    upK Tryz.prog (sCall F_slices_Clone_s_int_int #[t22]) w3 fun t23 w4 =>
    pureK Tryz.prog (sIdxAddr T_s_api_Producer t7 lv3.1) fun t24 =>
    pureK Tryz.prog (sFieldAddr T_api_Producer t24 3) fun t25 =>
    upK Tryz.prog (sStore T_s_int t25 t23) w4 fun tu w5 =>
    pureK Tryz.prog (sBin .add T_int (.tmp 13) (.const (.int .i64 1)) lv3.1 (.int .i64 1)) fun t26 =>
    next3 (t26, ()) w5)
   (K t7 w3))
  ((.int .i64 0), ()) w2
theorem producer_clone.pt_eq : producer_clone.pt = fun s0 w K => FN Tryz.prog Tryz.f116 (bodyOf Tryz.f116) [2] .leaf [s0] w K := by kernel_rfl
theorem producer_clone.call {s0 : Value} {w : World} {K : Value → World → Prop} (h : producer_clone.pt s0 w K) : Calls Tryz.prog F_producer_clone #[s0] w (retK K) :=
  calls_FN (args := [s0]) Tryz.func116 (by kernel_rfl) (by rw [producer_clone.pt_eq] at h; exact h)
theorem producer_clone.up {s0 : Value} {w : World} {K : Value → World → Prop} (h : Calls Tryz.prog F_producer_clone #[s0] w (retK K)) : upK Tryz.prog (sCall F_producer_clone #[s0]) w K :=
  up_call (fn := Tryz.f116) Tryz.func116 (by kernel_rfl) (by kernel_rfl) h

/-- slices.IndexFunc[[]errata/api.Producer,errata/api.Producer] -/
def slices_IndexFunc_s_api_Producer_api_Producer.pt (s0 f1 : Value) (w : World) (K : Value → World → Prop) : Prop :=
  readK Tryz.prog (sBlt .len #[T_s_api_Producer] T_int #[false] #[s0]) w fun t7 =>
  LOOP (X := Value × Unit) (fun lv1 w1 next1 =>
   pureK Tryz.prog (sBin .lss T_int (.tmp 8) (.tmp 7) lv1.1 t7) fun t9 =>
   ifB t9
   (pureK Tryz.prog (sIdxAddr T_s_api_Producer s0 lv1.1) fun t14 =>
    readK Tryz.prog (sLoad T_api_Producer t14) w1 fun t15 =>
    upK Tryz.prog (sCallV f1 #[t15]) w1 fun t16 w2 =>
    ifB t16
    (K lv1.1 w2)
    (pureK Tryz.prog (sBin .add T_int (.tmp 8) (.const (.int .i64 1)) lv1.1 (.int .i64 1)) fun t18 =>
     next1 (t18, ()) w2))
   (K (.int .i64 (-1)) w1))
  ((.int .i64 0), ()) w
theorem slices_IndexFunc_s_api_Producer_api_Producer.pt_eq : slices_IndexFunc_s_api_Producer_api_Producer.pt = fun s0 f1 w K => FN Tryz.prog Tryz.f117 (bodyOf Tryz.f117) [4] .leaf [s0, f1] w K := by kernel_rfl
theorem slices_IndexFunc_s_api_Producer_api_Producer.call {s0 f1 : Value} {w : World} {K : Value → World → Prop} (h : slices_IndexFunc_s_api_Producer_api_Producer.pt s0 f1 w K) : Calls Tryz.prog F_slices_IndexFunc_s_api_Producer_api_Producer #[s0, f1] w (retK K) :=
  calls_FN (args := [s0, f1]) Tryz.func117 (by kernel_rfl) (by rw [slices_IndexFunc_s_api_Producer_api_Producer.pt_eq] at h; exact h)
theorem slices_IndexFunc_s_api_Producer_api_Producer.up {s0 f1 : Value} {w : World} {K : Value → World → Prop} (h : Calls Tryz.prog F_slices_IndexFunc_s_api_Producer_api_Producer #[s0, f1] w (retK K)) : upK Tryz.prog (sCall F_slices_IndexFunc_s_api_Producer_api_Producer #[s0, f1]) w K :=
  up_call (fn := Tryz.f117) Tryz.func117 (by kernel_rfl) (by kernel_rfl) h

/-- errata/producer.find$1 -/
def producer_find_1.pt (p0 t1 : Value) (w : World) (K : Value → World → Prop) : Prop :=
  upK Tryz.prog (sBox T_api_Producer p0) w fun p2 w1 =>
  pureK Tryz.prog (sFieldAddr T_api_Producer p2 0) fun t4 =>
  readK Tryz.prog (sLoad T_int t4) w1 fun t5 =>
  readK Tryz.prog (sLoad T_int t1) w1 fun t6 =>
  pureK Tryz.prog (sBin .eql T_int (.tmp 5) (.tmp 6) t5 t6) fun t7 =>
  K t7 w1
theorem producer_find_1.pt_eq : producer_find_1.pt = fun p0 t1 w K => FN Tryz.prog Tryz.f118 (bodyOf Tryz.f118) [3] .leaf [p0, t1] w K := by kernel_rfl
theorem producer_find_1.call {p0 t1 : Value} {w : World} {K : Value → World → Prop} (h : producer_find_1.pt p0 t1 w K) : Calls Tryz.prog F_producer_find_1 #[p0, t1] w (retK K) :=
  calls_FN (args := [p0, t1]) Tryz.func118 (by kernel_rfl) (by rw [producer_find_1.pt_eq] at h; exact h)
theorem producer_find_1.up {p0 t1 : Value} {w : World} {K : Value → World → Prop} (h : Calls Tryz.prog F_producer_find_1 #[p0, t1] w (retK K)) : upK Tryz.prog (sCall F_producer_find_1 #[p0, t1]) w K :=
  up_call (fn := Tryz.f118) Tryz.func118 (by kernel_rfl) (by kernel_rfl) h

/-- slices.BinarySearchFunc[[]errata/api.Producer,errata/api.Producer,int] -/
def slices_BinarySearchFunc_s_api_Producer_api_Producer_int.pt (x0 target1 cmp2 : Value) (w : World) (K : Value → World → Prop) : Prop :=
  readK Tryz.prog (sBlt .len #[T_s_api_Producer] T_int #[false] #[x0]) w fun t13 =>
  LETJ (X := Value × Unit) (fun jv1 w1 =>
   pureK Tryz.prog (sBin .lss T_int (.tmp 36) (.tmp 37) jv1.1 t13) fun t38 =>
   ifB t38
   (pureK Tryz.prog (sIdxAddr T_s_api_Producer x0 jv1.1) fun t43 =>
    readK Tryz.prog (sLoad T_api_Producer t43) w1 fun t44 =>
    upK Tryz.prog (sCallV cmp2 #[t44, target1]) w1 fun t46 w2 =>
    pureK Tryz.prog (sBin .eql T_int (.tmp 46) (.const (.int .i64 0)) t46 (.int .i64 0)) fun t47 =>
    K (.tuple #[jv1.1, t47]) w2)
   (K (.tuple #[jv1.1, (.bool false)]) w1))
  (fun J1 =>
   LOOP (X := Value × Value × Unit) (fun lv3 w3 next3 =>
    pureK Tryz.prog (sBin .lss T_int (.tmp 15) (.tmp 16) lv3.1 lv3.2.1) fun t17 =>
    ifB t17
    (pureK Tryz.prog (sBin .add T_int (.tmp 18) (.tmp 19) lv3.1 lv3.2.1) fun t20 =>
     upK Tryz.prog (sConv T_int T_uint t20) w3 fun t21 w4 =>
     pureK Tryz.prog (sBin .shr T_uint (.tmp 21) (.const (.int .u64 1)) t21 (.int .u64 1)) fun t22 =>
     upK Tryz.prog (sConv T_uint T_int t22) w4 fun t23 w5 =>
     pureK Tryz.prog (sIdxAddr T_s_api_Producer x0 t23) fun t27 =>
     readK Tryz.prog (sLoad T_api_Producer t27) w5 fun t28 =>
     upK Tryz.prog (sCallV cmp2 #[t28, target1]) w5 fun t30 w6 =>
     pureK Tryz.prog (sBin .lss T_int (.tmp 30) (.const (.int .i64 0)) t30 (.int .i64 0)) fun t31 =>
     ifB t31
     (pureK Tryz.prog (sBin .add T_int (.tmp 32) (.const (.int .i64 1)) t23 (.int .i64 1)) fun t33 =>
      next3 (t33, lv3.2.1, ()) w6)
     (next3 (lv3.1, t23, ()) w6))
    (J1 (lv3.1, ()) w3))
   ((.int .i64 0), t13, ()) w)
theorem slices_BinarySearchFunc_s_api_Producer_api_Producer_int.pt_eq : slices_BinarySearchFunc_s_api_Producer_api_Producer_int.pt = fun x0 target1 cmp2 w K => FN Tryz.prog Tryz.f119 (bodyOf Tryz.f119) [6, 7] (.node none .leaf (.node none .leaf (.node none .leaf (.node (some [9]) .leaf .leaf)))) [x0, target1, cmp2] w K := by kernel_rfl
theorem slices_BinarySearchFunc_s_api_Producer_api_Producer_int.call {x0 target1 cmp2 : Value} {w : World} {K : Value → World → Prop} (h : slices_BinarySearchFunc_s_api_Producer_api_Producer_int.pt x0 target1 cmp2 w K) : Calls Tryz.prog F_slices_BinarySearchFunc_s_api_Producer_api_Producer_int #[x0, target1, cmp2] w (retK K) :=
  calls_FN (args := [x0, target1, cmp2]) Tryz.func119 (by kernel_rfl) (by rw [slices_BinarySearchFunc_s_api_Producer_api_Producer_int.pt_eq] at h; exact h)
theorem slices_BinarySearchFunc_s_api_Producer_api_Producer_int.up {x0 target1 cmp2 : Value} {w : World} {K : Value → World → Prop} (h : Calls Tryz.prog F_slices_BinarySearchFunc_s_api_Producer_api_Producer_int #[x0, target1, cmp2] w (retK K)) : upK Tryz.prog (sCall F_slices_BinarySearchFunc_s_api_Producer_api_Producer_int #[x0, target1, cmp2]) w K :=
  up_call (fn := Tryz.f119) Tryz.func119 (by kernel_rfl) (by kernel_rfl) h

/-- errata/producer.with$1 -/
def producer_with_1.pt (x0 id1 : Value) (w : World) (K : Value → World → Prop) : Prop :=
  upK Tryz.prog (sBox T_api_Producer x0) w fun x2 w1 =>
  pureK Tryz.prog (sFieldAddr T_api_Producer x2 0) fun t5 =>
  readK Tryz.prog (sLoad T_int t5) w1 fun t6 =>
  pureK Tryz.prog (sBin .sub T_int (.tmp 6) (.tmp 7) t6 id1) fun t8 =>
  K t8 w1
theorem producer_with_1.pt_eq : producer_with_1.pt = fun x0 id1 w K => FN Tryz.prog Tryz.f120 (bodyOf Tryz.f120) [4] .leaf [x0, id1] w K := by kernel_rfl
theorem producer_with_1.call {x0 id1 : Value} {w : World} {K : Value → World → Prop} (h : producer_with_1.pt x0 id1 w K) : Calls Tryz.prog F_producer_with_1 #[x0, id1] w (retK K) :=
  calls_FN (args := [x0, id1]) Tryz.func120 (by kernel_rfl) (by rw [producer_with_1.pt_eq] at h; exact h)
theorem producer_with_1.up {x0 id1 : Value} {w : World} {K : Value → World → Prop} (h : Calls Tryz.prog F_producer_with_1 #[x0, id1] w (retK K)) : upK Tryz.prog (sCall F_producer_with_1 #[x0, id1]) w K :=
  up_call (fn := Tryz.f120) Tryz.func120 (by kernel_rfl) (by kernel_rfl) h

/-- slices.Insert[[]errata/api.Producer,errata/api.Producer] -/
def slices_Insert_s_api_Producer_api_Producer.pt (s0 i1 v2 : Value) (w : World) (K : Value → World → Prop) : Prop :=
  pureK Tryz.prog (sSlice T_s_api_Producer s0 (some i1) none none) fun t12 =>
  readK Tryz.prog (sBlt .len #[T_s_api_Producer] T_int #[false] #[v2]) w fun t14 =>
  pureK Tryz.prog (sBin .eql T_int (.tmp 15) (.const (.int .i64 0)) t14 (.int .i64 0)) fun t16 =>
  ifB t16
  (K s0 w)
  (readK Tryz.prog (sBlt .len #[T_s_api_Producer] T_int #[false] #[s0]) w fun t19 =>
   pureK Tryz.prog (sBin .eql T_int (.tmp 20) (.tmp 21) i1 t19) fun t22 =>
   ifB t22
   (upK Tryz.prog (sBlt .append #[T_s_api_Producer, T_s_api_Producer] T_s_api_Producer #[false, false] #[s0, v2]) w fun t25 w1 =>
    K t25 w1)
   (pureK Tryz.prog (sBin .add T_int (.tmp 26) (.tmp 27) t19 t14) fun t28 =>
    readK Tryz.prog (sBlt .cap #[T_s_api_Producer] T_int #[false] #[s0]) w fun t30 =>
    pureK Tryz.prog (sBin .gtr T_int (.tmp 28) (.tmp 30) t28 t30) fun t31 =>
    ifB t31
    (pureK Tryz.prog (sSlice T_s_api_Producer s0 none (some i1) none) fun t34 =>
     pureK Tryz.prog (sBin .add T_int (.tmp 35) (.tmp 36) t19 t14) fun t37 =>
     pureK Tryz.prog (sBin .sub T_int (.tmp 37) (.tmp 38) t37 i1) fun t39 =>
     upK Tryz.prog (sBlt .append #[T_s_api_Producer, T_int] T_s_api_Producer #[false, false] #[t34, t39]) w fun t40 w2 =>
     pureK Tryz.prog (sSlice T_s_api_Producer t40 (some i1) none none) fun t43 =>
     upK Tryz.prog (sBlt .copy #[T_s_api_Producer, T_s_api_Producer] T_int #[false, false] #[t43, v2]) w2 fun t45 w3 =>
     pureK Tryz.prog (sBin .add T_int (.tmp 47) (.tmp 48) i1 t14) fun t49 =>
     pureK Tryz.prog (sSlice T_s_api_Producer t40 (some t49) none none) fun t50 =>
     pureK Tryz.prog (sSlice T_s_api_Producer s0 (some i1) none none) fun t53 =>
     upK Tryz.prog (sBlt .copy #[T_s_api_Producer, T_s_api_Producer] T_int #[false, false] #[t50, t53]) (tick w3) fun t54 w4 =>
     K t40 w4)
    (pureK Tryz.prog (sBin .add T_int (.tmp 57) (.tmp 58) t19 t14) fun t59 =>
     pureK Tryz.prog (sSlice T_s_api_Producer s0 none (some t59) none) fun t60 =>
     pureK Tryz.prog (sBin .add T_int (.tmp 63) (.tmp 64) i1 t14) fun t65 =>
     pureK Tryz.prog (sSlice T_s_api_Producer t60 (some t65) none none) fun t66 =>
     upK Tryz.prog (sCall F_slices_overlaps_api_Producer #[v2, t66]) w fun t67 w5 =>
     pureK Tryz.prog (sUn .not t67) fun t68 =>
     ifB t68
     (pureK Tryz.prog (sBin .add T_int (.tmp 70) (.tmp 71) i1 t14) fun t72 =>
      pureK Tryz.prog (sSlice T_s_api_Producer t60 (some t72) none none) fun t73 =>
      pureK Tryz.prog (sSlice T_s_api_Producer t60 (some i1) none none) fun t76 =>
      upK Tryz.prog (sBlt .copy #[T_s_api_Producer, T_s_api_Producer] T_int #[false, false] #[t73, t76]) (tick w5) fun t77 w6 =>
      pureK Tryz.prog (sSlice T_s_api_Producer t60 (some i1) none none) fun t80 =>
      upK Tryz.prog (sBlt .copy #[T_s_api_Producer, T_s_api_Producer] T_int #[false, false] #[t80, v2]) w6 fun t82 w7 =>
      K t60 w7)
     (pureK Tryz.prog (sSlice T_s_api_Producer t60 (some t19) none none) fun t86 =>
      upK Tryz.prog (sBlt .copy #[T_s_api_Producer, T_s_api_Producer] T_int #[false, false] #[t86, v2]) w5 fun t88 w8 =>
      pureK Tryz.prog (sSlice T_s_api_Producer t60 (some i1) none none) fun t91 =>
      upK Tryz.prog (sCall F_slices_rotateRight_api_Producer #[t91, t14]) w8 fun t93 w9 =>
      K t60 w9))))
theorem slices_Insert_s_api_Producer_api_Producer.pt_eq : slices_Insert_s_api_Producer_api_Producer.pt = fun s0 i1 v2 w K => FN Tryz.prog Tryz.f121 (bodyOf Tryz.f121) [6] .leaf [s0, i1, v2] w K := by kernel_rfl
theorem slices_Insert_s_api_Producer_api_Producer.call {s0 i1 v2 : Value} {w : World} {K : Value → World → Prop} (h : slices_Insert_s_api_Producer_api_Producer.pt s0 i1 v2 w K) : Calls Tryz.prog F_slices_Insert_s_api_Producer_api_Producer #[s0, i1, v2] w (retK K) :=
  calls_FN (args := [s0, i1, v2]) Tryz.func121 (by kernel_rfl) (by rw [slices_Insert_s_api_Producer_api_Producer.pt_eq] at h; exact h)
theorem slices_Insert_s_api_Producer_api_Producer.up {s0 i1 v2 : Value} {w : World} {K : Value → World → Prop} (h : Calls Tryz.prog F_slices_Insert_s_api_Producer_api_Producer #[s0, i1, v2] w (retK K)) : upK Tryz.prog (sCall F_slices_Insert_s_api_Producer_api_Producer #[s0, i1, v2]) w K :=
  up_call (fn := Tryz.f121) Tryz.func121 (by kernel_rfl) (by kernel_rfl) h

/-- errata/errataref03.RightRow -/
def errataref03_RightRow.pt (r0 : Value) (w : World) (K : Value → World → Prop) : Prop :=
  readK Tryz.prog (sBlt .len #[T_s_api_Value] T_int #[false] #[r0]) w fun t4 =>
  pureK Tryz.prog (sBin .leq T_int (.tmp 4) (.const (.int .i64 12)) t4 (.int .i64 12)) fun t5 =>
  ifB t5
  (upK Tryz.prog (sCall F_errataref03_All #[r0]) w fun t8 w1 =>
   K t8 w1)
  (K (.bool false) w)
theorem errataref03_RightRow.pt_eq : errataref03_RightRow.pt = fun r0 w K => FN Tryz.prog Tryz.f122 (bodyOf Tryz.f122) [2] .leaf [r0] w K := by kernel_rfl
theorem errataref03_RightRow.call {r0 : Value} {w : World} {K : Value → World → Prop} (h : errataref03_RightRow.pt r0 w K) : Calls Tryz.prog F_errataref03_RightRow #[r0] w (retK K) :=
  calls_FN (args := [r0]) Tryz.func122 (by kernel_rfl) (by rw [errataref03_RightRow.pt_eq] at h; exact h)
theorem errataref03_RightRow.up {r0 : Value} {w : World} {K : Value → World → Prop} (h : Calls Tryz.prog F_errataref03_RightRow #[r0] w (retK K)) : upK Tryz.prog (sCall F_errataref03_RightRow #[r0]) w K :=
  up_call (fn := Tryz.f122) Tryz.func122 (by kernel_rfl) (by kernel_rfl) h

/-- internal/strconv.Itoa -/
theorem internal_strconv_Itoa.up {p0 : Value} {w : World} {K : Value → World → Prop} (h : Calls Tryz.prog F_internal_strconv_Itoa #[p0] w (retK K)) : upK Tryz.prog (sCall F_internal_strconv_Itoa #[p0]) w K :=
  up_call (fn := Tryz.f123) Tryz.func123 (by kernel_rfl) (by kernel_rfl) h

/-- slices.pdqsortOrdered[int] -/
def slices_pdqsortOrdered_int.pt (data0 a1 b2 limit3 : Value) (w : World) (K : Value → World → Prop) : Prop :=
  LOOP (X := Value × Value × Value × Value × Value × Unit) (fun lv1 w1 next1 =>
   pureK Tryz.prog (sBin .sub T_int (.tmp 19) (.tmp 20) lv1.2.2.2.2.1 lv1.2.1) fun t21 =>
   pureK Tryz.prog (sBin .leq T_int (.tmp 22) (.const (.int .i64 12)) t21 (.int .i64 12)) fun t23 =>
   ifB t23
   (upK Tryz.prog (sCall F_slices_insertionSortOrdered_int #[data0, lv1.2.1, lv1.2.2.2.2.1]) w1 fun t27 w2 =>
    K (.tuple #[]) w2)
   (pureK Tryz.prog (sBin .eql T_int (.tmp 28) (.const (.int .i64 0)) lv1.1 (.int .i64 0)) fun t29 =>
    ifB t29
    (upK Tryz.prog (sCall F_slices_heapSortOrdered_int #[data0, lv1.2.1, lv1.2.2.2.2.1]) w1 fun t33 w3 =>
     K (.tuple #[]) w3)
    (LETJ (X := Value × Unit) (fun jv1 w4 =>
      upK Tryz.prog (sCall F_slices_choosePivotOrdered_int #[data0, lv1.2.1, lv1.2.2.2.2.1]) w4 fun t46 w5 =>
      pureK Tryz.prog (sExtract t46 0) fun t47 =>
      pureK Tryz.prog (sExtract t46 1) fun t48 =>
      LETJ (X := Value × Value × Unit) (fun jv2 w6 =>
       LETJ (X := Unit) (fun jv3 w7 =>
        LETJ (X := Value × Unit) (fun jv4 w8 =>
         upK Tryz.prog (sCall F_slices_partitionOrdered_int #[data0, jv4.1, lv1.2.2.2.2.1, jv2.1]) w8 fun t99 w9 =>
         pureK Tryz.prog (sExtract t99 0) fun t100 =>
         pureK Tryz.prog (sExtract t99 1) fun t101 =>
         pureK Tryz.prog (sBin .sub T_int (.tmp 103) (.tmp 104) t100 jv4.1) fun t105 =>
         pureK Tryz.prog (sBin .sub T_int (.tmp 106) (.tmp 107) lv1.2.2.2.2.1 t100) fun t108 =>
         pureK Tryz.prog (sBin .quo T_int (.tmp 109) (.const (.int .i64 8)) t21 (.int .i64 8)) fun t110 =>
         pureK Tryz.prog (sBin .lss T_int (.tmp 111) (.tmp 112) t105 t108) fun t113 =>
         ifB t113
         (pureK Tryz.prog (sBin .geq T_int (.tmp 114) (.tmp 115) t105 t110) fun t116 =>
          upK Tryz.prog (sCall F_slices_pdqsortOrdered_int #[data0, jv4.1, t100, jv1.1]) w9 fun t121 w10 =>
          pureK Tryz.prog (sBin .add T_int (.tmp 122) (.const (.int .i64 1)) t100 (.int .i64 1)) fun t123 =>
          next1 (jv1.1, t123, t101, t116, lv1.2.2.2.2.1, ()) w10)
         (pureK Tryz.prog (sBin .geq T_int (.tmp 124) (.tmp 125) t108 t110) fun t126 =>
          pureK Tryz.prog (sBin .add T_int (.tmp 128) (.const (.int .i64 1)) t100 (.int .i64 1)) fun t129 =>
          upK Tryz.prog (sCall F_slices_pdqsortOrdered_int #[data0, t129, lv1.2.2.2.2.1, jv1.1]) w9 fun t132 w11 =>
          next1 (jv1.1, jv4.1, t101, t126, t100, ()) w11))
        (fun J4 =>
         pureK Tryz.prog (sBin .gtr T_int (.tmp 73) (.const (.int .i64 0)) lv1.2.1 (.int .i64 0)) fun t74 =>
         ifB t74
         (pureK Tryz.prog (sBin .sub T_int (.tmp 77) (.const (.int .i64 1)) lv1.2.1 (.int .i64 1)) fun t78 =>
          pureK Tryz.prog (sIdxAddr T_s_int data0 t78) fun t79 =>
          readK Tryz.prog (sLoad T_int t79) (tick w7) fun t80 =>
          pureK Tryz.prog (sIdxAddr T_s_int data0 jv2.1) fun t83 =>
          readK Tryz.prog (sLoad T_int t83) (tick w7) fun t84 =>
          upK Tryz.prog (sCall F_cmp_Less_int #[t80, t84]) (tick w7) fun t85 w12 =>
          pureK Tryz.prog (sUn .not t85) fun t86 =>
          ifB t86
          (upK Tryz.prog (sCall F_slices_partitionEqualOrdered_int #[data0, lv1.2.1, lv1.2.2.2.2.1, jv2.1]) w12 fun t92 w13 =>
           next1 (jv1.1, t92, lv1.2.2.1, lv1.2.2.2.1, lv1.2.2.2.2.1, ()) w13)
          (J4 (lv1.2.1, ()) w12))
         (J4 (lv1.2.1, ()) (tick w7))))
       (fun J3 =>
        ifB lv1.2.2.2.1
        (ifB lv1.2.2.1
         (pureK Tryz.prog (sBin .eql T_slices_sortedHint (.tmp 66) (.const (.int .i64 1)) jv2.2.1 (.int .i64 1)) fun t67 =>
          ifB t67
          (upK Tryz.prog (sCall F_slices_partialInsertionSortOrdered_int #[data0, lv1.2.1, lv1.2.2.2.2.1]) w6 fun t72 w14 =>
           ifB t72
           (K (.tuple #[]) w14)
           (J3 (()) w14))
          (J3 (()) w6))
         (J3 (()) w6))
        (J3 (()) w6)))
      (fun J2 =>
       pureK Tryz.prog (sBin .eql T_slices_sortedHint (.tmp 49) (.const (.int .i64 2)) t48 (.int .i64 2)) fun t50 =>
       ifB t50
       (upK Tryz.prog (sCall F_slices_reverseRangeOrdered_int #[data0, lv1.2.1, lv1.2.2.2.2.1]) w5 fun t54 w15 =>
        pureK Tryz.prog (sBin .sub T_int (.tmp 55) (.const (.int .i64 1)) lv1.2.2.2.2.1 (.int .i64 1)) fun t56 =>
        pureK Tryz.prog (sBin .sub T_int (.tmp 57) (.tmp 58) t47 lv1.2.1) fun t59 =>
        pureK Tryz.prog (sBin .sub T_int (.tmp 56) (.tmp 59) t56 t59) fun t60 =>
        J2 (t60, (.int .i64 1), ()) w15)
       (J2 (t47, t48, ()) w5)))
     (fun J1 =>
      pureK Tryz.prog (sUn .not lv1.2.2.2.1) fun t35 =>
      ifB t35
      (upK Tryz.prog (sCall F_slices_breakPatternsOrdered_int #[data0, lv1.2.1, lv1.2.2.2.2.1]) w1 fun t39 w16 =>
       pureK Tryz.prog (sBin .sub T_int (.tmp 40) (.const (.int .i64 1)) lv1.1 (.int .i64 1)) fun t41 =>
       J1 (t41, ()) w16)
      (J1 (lv1.1, ()) w1)))))
  (limit3, a1, (.bool true), (.bool true), b2, ()) w
theorem slices_pdqsortOrdered_int.pt_eq : slices_pdqsortOrdered_int.pt = fun data0 a1 b2 limit3 w K => FN Tryz.prog Tryz.f125 (bodyOf Tryz.f125) [] (.node none .leaf (.node none .leaf (.node none (.node none (.node none (.node none .leaf (.node none .leaf (.node none .leaf (.node (some [3]) .leaf (.node none .leaf (.node (some [11, 12]) .leaf (.node (some []) .leaf (.node (some [1]) .leaf .leaf)))))))) .leaf) .leaf) .leaf))) [data0, a1, b2, limit3] w K := by kernel_rfl
theorem slices_pdqsortOrdered_int.call {data0 a1 b2 limit3 : Value} {w : World} {K : Value → World → Prop} (h : slices_pdqsortOrdered_int.pt data0 a1 b2 limit3 w K) : Calls Tryz.prog F_slices_pdqsortOrdered_int #[data0, a1, b2, limit3] w (retK K) :=
  calls_FN (args := [data0, a1, b2, limit3]) Tryz.func125 (by kernel_rfl) (by rw [slices_pdqsortOrdered_int.pt_eq] at h; exact h)
theorem slices_pdqsortOrdered_int.up {data0 a1 b2 limit3 : Value} {w : World} {K : Value → World → Prop} (h : Calls Tryz.prog F_slices_pdqsortOrdered_int #[data0, a1, b2, limit3] w (retK K)) : upK Tryz.prog (sCall F_slices_pdqsortOrdered_int #[data0, a1, b2, limit3]) w K :=
  up_call (fn := Tryz.f125) Tryz.func125 (by kernel_rfl) (by kernel_rfl) h

/-- math/bits.Len -/
theorem math_bits_Len.up {p0 : Value} {w : World} {K : Value → World → Prop} (h : Calls Tryz.prog F_math_bits_Len #[p0] w (retK K)) : upK Tryz.prog (sCall F_math_bits_Len #[p0]) w K :=
  up_call (fn := Tryz.f126) Tryz.func126 (by kernel_rfl) (by kernel_rfl) h

/-- strings.IndexByte -/
theorem strings_IndexByte.up {p0 p1 : Value} {w : World} {K : Value → World → Prop} (h : Calls Tryz.prog F_strings_IndexByte #[p0, p1] w (retK K)) : upK Tryz.prog (sCall F_strings_IndexByte #[p0, p1]) w K :=
  up_call (fn := Tryz.f127) Tryz.func127 (by kernel_rfl) (by kernel_rfl) h

/-- strconv.Atoi -/
theorem strconv_Atoi.up {p0 : Value} {w : World} {K : Value → World → Prop} (h : Calls Tryz.prog F_strconv_Atoi #[p0] w (retK K)) : upK Tryz.prog (sCall F_strconv_Atoi #[p0]) w K :=
  up_call (fn := Tryz.f128) Tryz.func128 (by kernel_rfl) (by kernel_rfl) h

/-- errata/wire.items[int] -/
def wire_items_int.pt (r0 one1 : Value) (w : World) (K : Value → World → Prop) : Prop :=
  LETJ (X := Value × Unit) (fun jv1 w1 =>
   upK Tryz.prog (sCall F_wire_Reader_close #[r0, (.string ⟨#[93]⟩)]) w1 fun t26 w2 =>
   pureK Tryz.prog (sNil r0) fun t28 =>
   pureK Tryz.prog (sFieldAddr T_wire_Reader t28 1) fun t29 =>
   readK Tryz.prog (sLoad T_bool t29) w2 fun t30 =>
   ifB t30
   (K (.slice none 0 0) w2)
   (K jv1.1 w2))
  (fun J1 =>
   upK Tryz.prog (sCall F_wire_Reader_number #[r0, (.int .u8 91), (.int .i64 0)]) w fun t8 w3 =>
   LOOP (X := Value × Value × Unit) (fun lv4 w4 next4 =>
    pureK Tryz.prog (sBin .gtr T_int (.tmp 9) (.const (.int .i64 0)) lv4.2.1 (.int .i64 0)) fun t10 =>
    ifB t10
    (pureK Tryz.prog (sNil r0) fun t13 =>
     pureK Tryz.prog (sFieldAddr T_wire_Reader t13 1) fun t14 =>
     readK Tryz.prog (sLoad T_bool t14) w4 fun t15 =>
     pureK Tryz.prog (sUn .not t15) fun t16 =>
     ifB t16
     (upK Tryz.prog (sCallV one1 #[]) w4 fun t22 w5 =>
      upK Tryz.prog (sBuildSlice T_s_int 1 #[(0, t22)]) w5 fun t23 w6 =>
      upK Tryz.prog (sBlt .append #[T_s_int, T_s_int] T_s_int #[false, false] #[lv4.1, t23]) w6 fun t24 w7 =>
      pureK Tryz.prog (sBin .sub T_int (.tmp 18) (.const (.int .i64 1)) lv4.2.1 (.int .i64 1)) fun t19 =>
      next4 (t24, t19, ()) w7)
     (J1 (lv4.1, ()) w4))
    (J1 (lv4.1, ()) w4))
   ((.slice none 0 0), t8, ()) w3)
theorem wire_items_int.pt_eq : wire_items_int.pt = fun r0 one1 w K => FN Tryz.prog Tryz.f129 (bodyOf Tryz.f129) [4] (.node none .leaf (.node none .leaf (.node (some [5]) .leaf .leaf))) [r0, one1] w K := by kernel_rfl
theorem wire_items_int.call {r0 one1 : Value} {w : World} {K : Value → World → Prop} (h : wire_items_int.pt r0 one1 w K) : Calls Tryz.prog F_wire_items_int #[r0, one1] w (retK K) :=
  calls_FN (args := [r0, one1]) Tryz.func129 (by kernel_rfl) (by rw [wire_items_int.pt_eq] at h; exact h)
theorem wire_items_int.up {r0 one1 : Value} {w : World} {K : Value → World → Prop} (h : Calls Tryz.prog F_wire_items_int #[r0, one1] w (retK K)) : upK Tryz.prog (sCall F_wire_items_int #[r0, one1]) w K :=
  up_call (fn := Tryz.f129) Tryz.func129 (by kernel_rfl) (by kernel_rfl) h

/-- errata/producer.fine -/
def producer_fine.pt (p0 : Value) (w : World) (K : Value → World → Prop) : Prop :=
  upK Tryz.prog (sBox T_api_Producer p0) w fun p1 w1 =>
  pureK Tryz.prog (sFieldAddr T_api_Producer p1 0) fun t5 =>
  readK Tryz.prog (sLoad T_int t5) w1 fun t6 =>
  upK Tryz.prog (sCall F_producer_in #[t6]) w1 fun t7 w2 =>
  pureK Tryz.prog (sUn .not t7) fun t8 =>
  ifB t8
  (K (.bool false) w2)
  (pureK Tryz.prog (sFieldAddr T_api_Producer p1 1) fun t10 =>
   readK Tryz.prog (sLoad T_int t10) w2 fun t11 =>
   upK Tryz.prog (sCall F_producer_in #[t11]) w2 fun t12 w3 =>
   pureK Tryz.prog (sUn .not t12) fun t13 =>
   ifB t13
   (K (.bool false) w3)
   (pureK Tryz.prog (sFieldAddr T_api_Producer p1 2) fun t16 =>
    readK Tryz.prog (sLoad T_int t16) w3 fun t17 =>
    upK Tryz.prog (sCall F_producer_in #[t17]) w3 fun t18 w4 =>
    pureK Tryz.prog (sUn .not t18) fun t19 =>
    ifB t19
    (K (.bool false) w4)
    (pureK Tryz.prog (sFieldAddr T_api_Producer p1 3) fun t22 =>
     readK Tryz.prog (sLoad T_s_int t22) w4 fun t23 =>
     readK Tryz.prog (sBlt .len #[T_s_int] T_int #[false] #[t23]) w4 fun t24 =>
     pureK Tryz.prog (sFieldAddr T_api_Producer p1 2) fun t25 =>
     readK Tryz.prog (sLoad T_int t25) w4 fun t26 =>
     pureK Tryz.prog (sBlt .min #[T_int, T_int] T_int #[false, true] #[t26, (.int .i64 20)]) fun t27 =>
     pureK Tryz.prog (sBin .neq T_int (.tmp 24) (.tmp 27) t24 t27) fun t28 =>
     ifB t28
     (K (.bool false) w4)
     (pureK Tryz.prog (sFieldAddr T_api_Producer p1 3) fun t30 =>
      readK Tryz.prog (sLoad T_s_int t30) w4 fun t31 =>
      readK Tryz.prog (sBlt .len #[T_s_int] T_int #[false] #[t31]) w4 fun t32 =>
      LOOP (X := Value × Unit) (fun lv5 w5 next5 =>
       pureK Tryz.prog (sBin .lss T_int (.tmp 33) (.tmp 32) lv5.1 t32) fun t34 =>
       ifB t34
       (LETJ (X := Unit) (fun jv1 w6 =>
         pureK Tryz.prog (sBin .add T_int (.tmp 33) (.const (.int .i64 1)) lv5.1 (.int .i64 1)) fun t55 =>
         next5 (t55, ()) w6)
        (fun J1 =>
         pureK Tryz.prog (sIdxAddr T_s_int t31 lv5.1) fun t36 =>
         readK Tryz.prog (sLoad T_int t36) w5 fun t37 =>
         upK Tryz.prog (sCall F_producer_in #[t37]) w5 fun t39 w7 =>
         pureK Tryz.prog (sUn .not t39) fun t40 =>
         ifB t40
         (K (.bool false) w7)
         (pureK Tryz.prog (sBin .gtr T_int (.tmp 42) (.const (.int .i64 0)) lv5.1 (.int .i64 0)) fun t43 =>
          ifB t43
          (pureK Tryz.prog (sFieldAddr T_api_Producer p1 3) fun t46 =>
           readK Tryz.prog (sLoad T_s_int t46) w7 fun t47 =>
           pureK Tryz.prog (sBin .sub T_int (.tmp 48) (.const (.int .i64 1)) lv5.1 (.int .i64 1)) fun t49 =>
           pureK Tryz.prog (sIdxAddr T_s_int t47 t49) fun t50 =>
           readK Tryz.prog (sLoad T_int t50) w7 fun t51 =>
           pureK Tryz.prog (sBin .leq T_int (.tmp 45) (.tmp 51) t37 t51) fun t52 =>
           ifB t52
           (K (.bool false) w7)
           (J1 (()) w7))
          (J1 (()) w7))))
       (K (.bool true) w5))
      ((.int .i64 0), ()) w4))))
theorem producer_fine.pt_eq : producer_fine.pt = fun p0 w K => FN Tryz.prog Tryz.f130 (bodyOf Tryz.f130) [2] (.node none .leaf (.node none .leaf (.node none (.node none .leaf (.node none (.node none (.node none .leaf (.node none .leaf (.node (some []) .leaf .leaf))) .leaf) .leaf)) .leaf))) [p0] w K := by kernel_rfl
theorem producer_fine.call {p0 : Value} {w : World} {K : Value → World → Prop} (h : producer_fine.pt p0 w K) : Calls Tryz.prog F_producer_fine #[p0] w (retK K) :=
  calls_FN (args := [p0]) Tryz.func130 (by kernel_rfl) (by rw [producer_fine.pt_eq] at h; exact h)
theorem producer_fine.up {p0 : Value} {w : World} {K : Value → World → Prop} (h : Calls Tryz.prog F_producer_fine #[p0] w (retK K)) : upK Tryz.prog (sCall F_producer_fine #[p0]) w K :=
  up_call (fn := Tryz.f130) Tryz.func130 (by kernel_rfl) (by kernel_rfl) h

/-- strings.CutPrefix -/
theorem strings_CutPrefix.up {p0 p1 : Value} {w : World} {K : Value → World → Prop} (h : Calls Tryz.prog F_strings_CutPrefix #[p0, p1] w (retK K)) : upK Tryz.prog (sCall F_strings_CutPrefix #[p0, p1]) w K :=
  up_call (fn := Tryz.f131) Tryz.func131 (by kernel_rfl) (by kernel_rfl) h

/-- errata/errataref01.Back -/
def errataref01_Back.pt (s0 : Value) (w : World) (K : Value → World → Prop) : Prop :=
  LETJ (X := Value × Unit) (fun jv1 w1 =>
   LOOP (X := Value × Value × Unit) (fun lv2 w2 next2 =>
    readK Tryz.prog (sBlt .len #[T_string] T_int #[false] #[s0]) w2 fun t18 =>
    pureK Tryz.prog (sBin .lss T_int (.tmp 16) (.tmp 18) lv2.2.1 t18) fun t19 =>
    ifB t19
    (pureK Tryz.prog (sIdx T_string s0 lv2.2.1) fun t24 =>
     pureK Tryz.prog (sBin .lss T_uint8 (.tmp 24) (.const (.int .u8 48)) t24 (.int .u8 48)) fun t25 =>
     ifB t25
     (K (.tuple #[(.int .i64 0), (.bool false)]) w2)
     (pureK Tryz.prog (sIdx T_string s0 lv2.2.1) fun t29 =>
      pureK Tryz.prog (sBin .gtr T_uint8 (.tmp 29) (.const (.int .u8 57)) t29 (.int .u8 57)) fun t30 =>
      ifB t30
      (K (.tuple #[(.int .i64 0), (.bool false)]) w2)
      (pureK Tryz.prog (sBin .gtr T_int (.tmp 33) (.const (.int .i64 20)) lv2.2.1 (.int .i64 20)) fun t34 =>
       ifB t34
       (K (.tuple #[(.int .i64 0), (.bool false)]) w2)
       (pureK Tryz.prog (sBin .mul T_int (.const (.int .i64 10)) (.tmp 36) (.int .i64 10) lv2.1) fun t37 =>
        pureK Tryz.prog (sIdx T_string s0 lv2.2.1) fun t40 =>
        pureK Tryz.prog (sBin .sub T_uint8 (.tmp 40) (.const (.int .u8 48)) t40 (.int .u8 48)) fun t41 =>
        upK Tryz.prog (sConv T_uint8 T_int t41) w2 fun t42 w3 =>
        pureK Tryz.prog (sBin .sub T_int (.tmp 37) (.tmp 42) t37 t42) fun t43 =>
        pureK Tryz.prog (sBin .add T_int (.tmp 20) (.const (.int .i64 1)) lv2.2.1 (.int .i64 1)) fun t21 =>
        next2 (t43, t21, ()) w3))))
    (LETJ (X := Value × Unit) (fun jv2 w4 =>
      upK Tryz.prog (sCall F_errataref01_Int #[jv2.1]) w4 fun t50 w5 =>
      pureK Tryz.prog (sBin .add T_string (.tmp 51) (.const (.string ⟨#[59]⟩)) s0 (.string ⟨#[59]⟩)) fun t52 =>
      pureK Tryz.prog (sBin .eql T_string (.tmp 50) (.tmp 52) t50 t52) fun t53 =>
      K (.tuple #[jv2.1, t53]) w5)
     (fun J2 =>
      pureK Tryz.prog (sBin .eql T_int (.tmp 44) (.const (.int .i64 0)) jv1.1 (.int .i64 0)) fun t45 =>
      ifB t45
      (pureK Tryz.prog (sUn .neg lv2.1) fun t47 =>
       J2 (t47, ()) w2)
      (J2 (lv2.1, ()) w2))))
   ((.int .i64 0), jv1.1, ()) w1)
  (fun J1 =>
   readK Tryz.prog (sBlt .len #[T_string] T_int #[false] #[s0]) w fun t8 =>
   pureK Tryz.prog (sBin .gtr T_int (.tmp 8) (.const (.int .i64 0)) t8 (.int .i64 0)) fun t9 =>
   ifB t9
   (pureK Tryz.prog (sIdx T_string s0 (.int .i64 0)) fun t12 =>
    pureK Tryz.prog (sBin .eql T_uint8 (.tmp 12) (.const (.int .u8 45)) t12 (.int .u8 45)) fun t13 =>
    ifB t13
    (J1 ((.int .i64 1), ()) w)
    (J1 ((.int .i64 0), ()) w))
   (J1 ((.int .i64 0), ()) w))
theorem errataref01_Back.pt_eq : errataref01_Back.pt = fun s0 w K => FN Tryz.prog Tryz.f132 (bodyOf Tryz.f132) [2, 3] (.node none .leaf (.node none .leaf (.node (some [4]) .leaf (.node none .leaf (.node none .leaf (.node (some [5]) .leaf .leaf)))))) [s0] w K := by kernel_rfl
theorem errataref01_Back.call {s0 : Value} {w : World} {K : Value → World → Prop} (h : errataref01_Back.pt s0 w K) : Calls Tryz.prog F_errataref01_Back #[s0] w (retK K) :=
  calls_FN (args := [s0]) Tryz.func132 (by kernel_rfl) (by rw [errataref01_Back.pt_eq] at h; exact h)
theorem errataref01_Back.up {s0 : Value} {w : World} {K : Value → World → Prop} (h : Calls Tryz.prog F_errataref01_Back #[s0] w (retK K)) : upK Tryz.prog (sCall F_errataref01_Back #[s0]) w K :=
  up_call (fn := Tryz.f132) Tryz.func132 (by kernel_rfl) (by kernel_rfl) h

/-- errata/value.all -/
def value_all.pt (r0 : Value) (w : World) (K : Value → World → Prop) : Prop :=
  upK Tryz.prog (sCall F_slices_ContainsFunc_s_api_Value_api_Value #[r0, (.func (.func 155) #[] #[])]) w fun t4 w1 =>
  pureK Tryz.prog (sUn .not t4) fun t5 =>
  K t5 w1
theorem value_all.pt_eq : value_all.pt = fun r0 w K => FN Tryz.prog Tryz.f134 (bodyOf Tryz.f134) [2] .leaf [r0] w K := by kernel_rfl
theorem value_all.call {r0 : Value} {w : World} {K : Value → World → Prop} (h : value_all.pt r0 w K) : Calls Tryz.prog F_value_all #[r0] w (retK K) :=
  calls_FN (args := [r0]) Tryz.func134 (by kernel_rfl) (by rw [value_all.pt_eq] at h; exact h)
theorem value_all.up {r0 : Value} {w : World} {K : Value → World → Prop} (h : Calls Tryz.prog F_value_all #[r0] w (retK K)) : upK Tryz.prog (sCall F_value_all #[r0]) w K :=
  up_call (fn := Tryz.f134) Tryz.func134 (by kernel_rfl) (by kernel_rfl) h

/-- slices.rotateRight[errata/api.Producer] -/
def slices_rotateRight_api_Producer.pt (s0 r1 : Value) (w : World) (K : Value → World → Prop) : Prop :=
  readK Tryz.prog (sBlt .len #[T_s_api_Producer] T_int #[false] #[s0]) w fun t6 =>
  pureK Tryz.prog (sBin .sub T_int (.tmp 6) (.tmp 7) t6 r1) fun t8 =>
  upK Tryz.prog (sCall F_slices_rotateLeft_api_Producer #[s0, t8]) w fun t9 w1 =>
  K (.tuple #[]) w1
theorem slices_rotateRight_api_Producer.pt_eq : slices_rotateRight_api_Producer.pt = fun s0 r1 w K => FN Tryz.prog Tryz.f136 (bodyOf Tryz.f136) [] .leaf [s0, r1] w K := by kernel_rfl
theorem slices_rotateRight_api_Producer.call {s0 r1 : Value} {w : World} {K : Value → World → Prop} (h : slices_rotateRight_api_Producer.pt s0 r1 w K) : Calls Tryz.prog F_slices_rotateRight_api_Producer #[s0, r1] w (retK K) :=
  calls_FN (args := [s0, r1]) Tryz.func136 (by kernel_rfl) (by rw [slices_rotateRight_api_Producer.pt_eq] at h; exact h)
theorem slices_rotateRight_api_Producer.up {s0 r1 : Value} {w : World} {K : Value → World → Prop} (h : Calls Tryz.prog F_slices_rotateRight_api_Producer #[s0, r1] w (retK K)) : upK Tryz.prog (sCall F_slices_rotateRight_api_Producer #[s0, r1]) w K :=
  up_call (fn := Tryz.f136) Tryz.func136 (by kernel_rfl) (by kernel_rfl) h

/-- errata/errataref03.All -/
def errataref03_All.pt (r0 : Value) (w : World) (K : Value → World → Prop) : Prop :=
  LOOP (X := Value × Unit) (fun lv1 w1 next1 =>
   readK Tryz.prog (sBlt .len #[T_s_api_Value] T_int #[false] #[r0]) w1 fun t6 =>
   pureK Tryz.prog (sBin .lss T_int (.tmp 4) (.tmp 6) lv1.1 t6) fun t7 =>
   ifB t7
   (pureK Tryz.prog (sIdxAddr T_s_api_Value r0 lv1.1) fun t12 =>
    readK Tryz.prog (sLoad T_api_Value t12) w1 fun t13 =>
    upK Tryz.prog (sCall F_errataref03_Right #[t13]) w1 fun t14 w2 =>
    pureK Tryz.prog (sUn .not t14) fun t15 =>
    ifB t15
    (K (.bool false) w2)
    (pureK Tryz.prog (sBin .add T_int (.tmp 8) (.const (.int .i64 1)) lv1.1 (.int .i64 1)) fun t9 =>
     next1 (t9, ()) w2))
   (K (.bool true) w1))
  ((.int .i64 0), ()) w
theorem errataref03_All.pt_eq : errataref03_All.pt = fun r0 w K => FN Tryz.prog Tryz.f137 (bodyOf Tryz.f137) [2] .leaf [r0] w K := by kernel_rfl
theorem errataref03_All.call {r0 : Value} {w : World} {K : Value → World → Prop} (h : errataref03_All.pt r0 w K) : Calls Tryz.prog F_errataref03_All #[r0] w (retK K) :=
  calls_FN (args := [r0]) Tryz.func137 (by kernel_rfl) (by rw [errataref03_All.pt_eq] at h; exact h)
theorem errataref03_All.up {r0 : Value} {w : World} {K : Value → World → Prop} (h : Calls Tryz.prog F_errataref03_All #[r0] w (retK K)) : upK Tryz.prog (sCall F_errataref03_All #[r0]) w K :=
  up_call (fn := Tryz.f137) Tryz.func137 (by kernel_rfl) (by kernel_rfl) h

/-- internal/strconv.FormatInt -/
theorem internal_strconv_FormatInt.up {p0 p1 : Value} {w : World} {K : Value → World → Prop} (h : Calls Tryz.prog F_internal_strconv_FormatInt #[p0, p1] w (retK K)) : upK Tryz.prog (sCall F_internal_strconv_FormatInt #[p0, p1]) w K :=
  up_call (fn := Tryz.f138) Tryz.func138 (by kernel_rfl) (by kernel_rfl) h

/-- slices.insertionSortOrdered[int] -/
def slices_insertionSortOrdered_int.pt (data0 a1 b2 : Value) (w : World) (K : Value → World → Prop) : Prop :=
  pureK Tryz.prog (sBin .add T_int (.tmp 8) (.const (.int .i64 1)) a1 (.int .i64 1)) fun t9 =>
  LOOP (X := Value × Unit) (fun lv1 w1 next1 =>
   pureK Tryz.prog (sBin .lss T_int (.tmp 10) (.tmp 11) lv1.1 b2) fun t12 =>
   ifB t12
   (LETJ (X := Unit) (fun jv1 w2 =>
     pureK Tryz.prog (sBin .add T_int (.tmp 13) (.const (.int .i64 1)) lv1.1 (.int .i64 1)) fun t14 =>
     next1 (t14, ()) w2)
    (fun J1 =>
     LOOP (X := Value × Unit) (fun lv3 w3 next3 =>
      pureK Tryz.prog (sBin .gtr T_int (.tmp 16) (.tmp 17) lv3.1 a1) fun t18 =>
      ifB t18
      (pureK Tryz.prog (sIdxAddr T_s_int data0 lv3.1) fun t22 =>
       readK Tryz.prog (sLoad T_int t22) (tick w3) fun t23 =>
       pureK Tryz.prog (sBin .sub T_int (.tmp 25) (.const (.int .i64 1)) lv3.1 (.int .i64 1)) fun t26 =>
       pureK Tryz.prog (sIdxAddr T_s_int data0 t26) fun t27 =>
       readK Tryz.prog (sLoad T_int t27) (tick w3) fun t28 =>
       upK Tryz.prog (sCall F_cmp_Less_int #[t23, t28]) (tick w3) fun t29 w4 =>
       ifB t29
       (pureK Tryz.prog (sBin .sub T_int (.tmp 36) (.const (.int .i64 1)) lv3.1 (.int .i64 1)) fun t37 =>
        pureK Tryz.prog (sBin .sub T_int (.tmp 39) (.const (.int .i64 1)) lv3.1 (.int .i64 1)) fun t40 =>
        pureK Tryz.prog (sIdxAddr T_s_int data0 t40) fun t41 =>
        readK Tryz.prog (sLoad T_int t41) (tick w4) fun t42 =>
        pureK Tryz.prog (sIdxAddr T_s_int data0 lv3.1) fun t45 =>
        readK Tryz.prog (sLoad T_int t45) (tick w4) fun t46 =>
        pureK Tryz.prog (sIdxAddr T_s_int data0 lv3.1) fun t47 =>
        upK Tryz.prog (sStore T_int t47 t42) (tick w4) fun tu w5 =>
        pureK Tryz.prog (sIdxAddr T_s_int data0 t37) fun t48 =>
        upK Tryz.prog (sStore T_int t48 t46) w5 fun tu_1 w6 =>
        pureK Tryz.prog (sBin .sub T_int (.tmp 31) (.const (.int .i64 1)) lv3.1 (.int .i64 1)) fun t32 =>
        next3 (t32, ()) w6)
       (J1 (()) w4))
      (J1 (()) (tick w3)))
     (lv1.1, ()) w1))
   (K (.tuple #[]) w1))
  (t9, ()) w
theorem slices_insertionSortOrdered_int.pt_eq : slices_insertionSortOrdered_int.pt = fun data0 a1 b2 w K => FN Tryz.prog Tryz.f139 (bodyOf Tryz.f139) [] (.node none .leaf (.node none (.node none (.node none .leaf (.node (some []) .leaf .leaf)) .leaf) .leaf)) [data0, a1, b2] w K := by kernel_rfl
theorem slices_insertionSortOrdered_int.call {data0 a1 b2 : Value} {w : World} {K : Value → World → Prop} (h : slices_insertionSortOrdered_int.pt data0 a1 b2 w K) : Calls Tryz.prog F_slices_insertionSortOrdered_int #[data0, a1, b2] w (retK K) :=
  calls_FN (args := [data0, a1, b2]) Tryz.func139 (by kernel_rfl) (by rw [slices_insertionSortOrdered_int.pt_eq] at h; exact h)
theorem slices_insertionSortOrdered_int.up {data0 a1 b2 : Value} {w : World} {K : Value → World → Prop} (h : Calls Tryz.prog F_slices_insertionSortOrdered_int #[data0, a1, b2] w (retK K)) : upK Tryz.prog (sCall F_slices_insertionSortOrdered_int #[data0, a1, b2]) w K :=
  up_call (fn := Tryz.f139) Tryz.func139 (by kernel_rfl) (by kernel_rfl) h

/-- slices.heapSortOrdered[int] -/
def slices_heapSortOrdered_int.pt (data0 a1 b2 : Value) (w : World) (K : Value → World → Prop) : Prop :=
  pureK Tryz.prog (sBin .sub T_int (.tmp 12) (.tmp 13) b2 a1) fun t14 =>
  pureK Tryz.prog (sBin .sub T_int (.tmp 15) (.const (.int .i64 1)) t14 (.int .i64 1)) fun t16 =>
  pureK Tryz.prog (sBin .quo T_int (.tmp 16) (.const (.int .i64 2)) t16 (.int .i64 2)) fun t17 =>
  LOOP (X := Value × Unit) (fun lv1 w1 next1 =>
   pureK Tryz.prog (sBin .geq T_int (.tmp 18) (.const (.int .i64 0)) lv1.1 (.int .i64 0)) fun t19 =>
   ifB t19
   (upK Tryz.prog (sCall F_slices_siftDownOrdered_int #[data0, lv1.1, t14, a1]) w1 fun t26 w2 =>
    pureK Tryz.prog (sBin .sub T_int (.tmp 20) (.const (.int .i64 1)) lv1.1 (.int .i64 1)) fun t21 =>
    next1 (t21, ()) w2)
   (pureK Tryz.prog (sBin .sub T_int (.tmp 27) (.const (.int .i64 1)) t14 (.int .i64 1)) fun t28 =>
    LOOP (X := Value × Unit) (fun lv3 w3 next3 =>
     pureK Tryz.prog (sBin .geq T_int (.tmp 29) (.const (.int .i64 0)) lv3.1 (.int .i64 0)) fun t30 =>
     ifB t30
     (pureK Tryz.prog (sBin .add T_int (.tmp 36) (.tmp 37) a1 lv3.1) fun t38 =>
      pureK Tryz.prog (sBin .add T_int (.tmp 40) (.tmp 41) a1 lv3.1) fun t42 =>
      pureK Tryz.prog (sIdxAddr T_s_int data0 t42) fun t43 =>
      readK Tryz.prog (sLoad T_int t43) (tick w3) fun t44 =>
      pureK Tryz.prog (sIdxAddr T_s_int data0 a1) fun t47 =>
      readK Tryz.prog (sLoad T_int t47) (tick w3) fun t48 =>
      pureK Tryz.prog (sIdxAddr T_s_int data0 a1) fun t49 =>
      upK Tryz.prog (sStore T_int t49 t44) (tick w3) fun tu w4 =>
      pureK Tryz.prog (sIdxAddr T_s_int data0 t38) fun t50 =>
      upK Tryz.prog (sStore T_int t50 t48) w4 fun tu_1 w5 =>
      upK Tryz.prog (sCall F_slices_siftDownOrdered_int #[data0, (.int .i64 0), lv3.1, a1]) w5 fun t55 w6 =>
      pureK Tryz.prog (sBin .sub T_int (.tmp 31) (.const (.int .i64 1)) lv3.1 (.int .i64 1)) fun t32 =>
      next3 (t32, ()) w6)
     (K (.tuple #[]) w3))
    (t28, ()) w1))
  (t17, ()) w
theorem slices_heapSortOrdered_int.pt_eq : slices_heapSortOrdered_int.pt = fun data0 a1 b2 w K => FN Tryz.prog Tryz.f140 (bodyOf Tryz.f140) [] .leaf [data0, a1, b2] w K := by kernel_rfl
theorem slices_heapSortOrdered_int.call {data0 a1 b2 : Value} {w : World} {K : Value → World → Prop} (h : slices_heapSortOrdered_int.pt data0 a1 b2 w K) : Calls Tryz.prog F_slices_heapSortOrdered_int #[data0, a1, b2] w (retK K) :=
  calls_FN (args := [data0, a1, b2]) Tryz.func140 (by kernel_rfl) (by rw [slices_heapSortOrdered_int.pt_eq] at h; exact h)
theorem slices_heapSortOrdered_int.up {data0 a1 b2 : Value} {w : World} {K : Value → World → Prop} (h : Calls Tryz.prog F_slices_heapSortOrdered_int #[data0, a1, b2] w (retK K)) : upK Tryz.prog (sCall F_slices_heapSortOrdered_int #[data0, a1, b2]) w K :=
  up_call (fn := Tryz.f140) Tryz.func140 (by kernel_rfl) (by kernel_rfl) h

/-- slices.breakPatternsOrdered[int] -/
def slices_breakPatternsOrdered_int.pt (data0 a1 b2 : Value) (w : World) (K : Value → World → Prop) : Prop :=
  pureK Tryz.prog (sBin .sub T_int (.tmp 11) (.tmp 12) b2 a1) fun t13 =>
  pureK Tryz.prog (sBin .geq T_int (.tmp 14) (.const (.int .i64 8)) t13 (.int .i64 8)) fun t15 =>
  ifB t15
  (upK Tryz.prog (sConv T_int T_slices_xorshift t13) w fun t17 w1 =>
   upK Tryz.prog (sAlloc T_slices_xorshift) w1 fun random7 w2 =>
   upK Tryz.prog (sStore T_slices_xorshift random7 t17) w2 fun tu w3 =>
   upK Tryz.prog (sCall F_slices_nextPowerOfTwo #[t13]) w3 fun t19 w4 =>
   pureK Tryz.prog (sBin .quo T_int (.tmp 21) (.const (.int .i64 4)) t13 (.int .i64 4)) fun t22 =>
   pureK Tryz.prog (sBin .mul T_int (.tmp 22) (.const (.int .i64 2)) t22 (.int .i64 2)) fun t23 =>
   pureK Tryz.prog (sBin .add T_int (.tmp 20) (.tmp 23) a1 t23) fun t24 =>
   pureK Tryz.prog (sBin .sub T_int (.tmp 24) (.const (.int .i64 1)) t24 (.int .i64 1)) fun t25 =>
   LOOP (X := Value × Unit) (fun lv5 w5 next5 =>
    pureK Tryz.prog (sBin .quo T_int (.tmp 28) (.const (.int .i64 4)) t13 (.int .i64 4)) fun t29 =>
    pureK Tryz.prog (sBin .mul T_int (.tmp 29) (.const (.int .i64 2)) t29 (.int .i64 2)) fun t30 =>
    pureK Tryz.prog (sBin .add T_int (.tmp 27) (.tmp 30) a1 t30) fun t31 =>
    pureK Tryz.prog (sBin .add T_int (.tmp 31) (.const (.int .i64 1)) t31 (.int .i64 1)) fun t32 =>
    pureK Tryz.prog (sBin .leq T_int (.tmp 26) (.tmp 32) lv5.1 t32) fun t33 =>
    ifB t33
    (upK Tryz.prog (sCall F_slices_xorshift_Next #[random7]) w5 fun t36 w6 =>
     pureK Tryz.prog (sBin .sub T_uint (.tmp 37) (.const (.int .u64 1)) t19 (.int .u64 1)) fun t38 =>
     pureK Tryz.prog (sBin .and T_uint (.tmp 36) (.tmp 38) t36 t38) fun t39 =>
     upK Tryz.prog (sConv T_uint T_int t39) w6 fun t40 w7 =>
     LETJ (X := Value × Unit) (fun jv1 w8 =>
      pureK Tryz.prog (sBin .add T_int (.tmp 50) (.tmp 51) a1 jv1.1) fun t52 =>
      pureK Tryz.prog (sBin .add T_int (.tmp 54) (.tmp 55) a1 jv1.1) fun t56 =>
      pureK Tryz.prog (sIdxAddr T_s_int data0 t56) fun t57 =>
      readK Tryz.prog (sLoad T_int t57) (tick w8) fun t58 =>
      pureK Tryz.prog (sIdxAddr T_s_int data0 lv5.1) fun t61 =>
      readK Tryz.prog (sLoad T_int t61) (tick w8) fun t62 =>
      pureK Tryz.prog (sIdxAddr T_s_int data0 lv5.1) fun t63 =>
      upK Tryz.prog (sStore T_int t63 t58) (tick w8) fun tu_1 w9 =>
      pureK Tryz.prog (sIdxAddr T_s_int data0 t52) fun t64 =>
      upK Tryz.prog (sStore T_int t64 t62) w9 fun tu_2 w10 =>
      pureK Tryz.prog (sBin .add T_int (.tmp 34) (.const (.int .i64 1)) lv5.1 (.int .i64 1)) fun t35 =>
      next5 (t35, ()) w10)
     (fun J1 =>
      pureK Tryz.prog (sBin .geq T_int (.tmp 41) (.tmp 42) t40 t13) fun t43 =>
      ifB t43
      (pureK Tryz.prog (sBin .sub T_int (.tmp 44) (.tmp 45) t40 t13) fun t46 =>
       J1 (t46, ()) w7)
      (J1 (t40, ()) w7)))
    (K (.tuple #[]) w5))
   (t25, ()) w4)
  (K (.tuple #[]) w)
theorem slices_breakPatternsOrdered_int.pt_eq : slices_breakPatternsOrdered_int.pt = fun data0 a1 b2 w K => FN Tryz.prog Tryz.f141 (bodyOf Tryz.f141) [] (.node none .leaf (.node none .leaf (.node none (.node none .leaf (.node none .leaf (.node none .leaf (.node none (.node none (.node none .leaf (.node none (.node none (.node none .leaf (.node (some [10]) .leaf .leaf)) .leaf) .leaf)) .leaf) .leaf)))) .leaf))) [data0, a1, b2] w K := by kernel_rfl
theorem slices_breakPatternsOrdered_int.call {data0 a1 b2 : Value} {w : World} {K : Value → World → Prop} (h : slices_breakPatternsOrdered_int.pt data0 a1 b2 w K) : Calls Tryz.prog F_slices_breakPatternsOrdered_int #[data0, a1, b2] w (retK K) :=
  calls_FN (args := [data0, a1, b2]) Tryz.func141 (by kernel_rfl) (by rw [slices_breakPatternsOrdered_int.pt_eq] at h; exact h)
theorem slices_breakPatternsOrdered_int.up {data0 a1 b2 : Value} {w : World} {K : Value → World → Prop} (h : Calls Tryz.prog F_slices_breakPatternsOrdered_int #[data0, a1, b2] w (retK K)) : upK Tryz.prog (sCall F_slices_breakPatternsOrdered_int #[data0, a1, b2]) w K :=
  up_call (fn := Tryz.f141) Tryz.func141 (by kernel_rfl) (by kernel_rfl) h

/-- slices.choosePivotOrdered[int] -/
def slices_choosePivotOrdered_int.pt (data0 a1 b2 : Value) (w : World) (K : Value → World → Prop) : Prop :=
  pureK Tryz.prog (sBin .sub T_int (.tmp 13) (.tmp 14) b2 a1) fun t15 =>
  upK Tryz.prog (sAlloc T_int) w fun swaps9 w1 =>
  pureK Tryz.prog (sBin .quo T_int (.tmp 17) (.const (.int .i64 4)) t15 (.int .i64 4)) fun t18 =>
  pureK Tryz.prog (sBin .mul T_int (.tmp 18) (.const (.int .i64 1)) t18 (.int .i64 1)) fun t19 =>
  pureK Tryz.prog (sBin .add T_int (.tmp 16) (.tmp 19) a1 t19) fun t20 =>
  pureK Tryz.prog (sBin .quo T_int (.tmp 22) (.const (.int .i64 4)) t15 (.int .i64 4)) fun t23 =>
  pureK Tryz.prog (sBin .mul T_int (.tmp 23) (.const (.int .i64 2)) t23 (.int .i64 2)) fun t24 =>
  pureK Tryz.prog (sBin .add T_int (.tmp 21) (.tmp 24) a1 t24) fun t25 =>
  pureK Tryz.prog (sBin .quo T_int (.tmp 27) (.const (.int .i64 4)) t15 (.int .i64 4)) fun t28 =>
  pureK Tryz.prog (sBin .mul T_int (.tmp 28) (.const (.int .i64 3)) t28 (.int .i64 3)) fun t29 =>
  pureK Tryz.prog (sBin .add T_int (.tmp 26) (.tmp 29) a1 t29) fun t30 =>
  LETJ (X := Value × Unit) (fun jv1 w2 =>
   readK Tryz.prog (sLoad T_int swaps9) w2 fun t49 =>
   pureK Tryz.prog (sBin .eql T_int (.tmp 49) (.const (.int .i64 0)) t49 (.int .i64 0)) fun t52 =>
   ifB t52
   (K (.tuple #[jv1.1, (.int .i64 1)]) w2)
   (pureK Tryz.prog (sBin .eql T_int (.tmp 49) (.const (.int .i64 12)) t49 (.int .i64 12)) fun t55 =>
    ifB t55
    (K (.tuple #[jv1.1, (.int .i64 2)]) w2)
    (K (.tuple #[jv1.1, (.int .i64 0)]) w2)))
  (fun J1 =>
   pureK Tryz.prog (sBin .geq T_int (.tmp 31) (.const (.int .i64 8)) t15 (.int .i64 8)) fun t32 =>
   ifB t32
   (LETJ (X := Value × Value × Value × Unit) (fun jv2 w3 =>
     upK Tryz.prog (sCall F_slices_medianOrdered_int #[data0, jv2.1, jv2.2.1, jv2.2.2.1, swaps9]) w3 fun t48 w4 =>
     J1 (t48, ()) w4)
    (fun J2 =>
     pureK Tryz.prog (sBin .geq T_int (.tmp 33) (.const (.int .i64 50)) t15 (.int .i64 50)) fun t34 =>
     ifB t34
     (upK Tryz.prog (sCall F_slices_medianAdjacentOrdered_int #[data0, t20, swaps9]) w1 fun t37 w5 =>
      upK Tryz.prog (sCall F_slices_medianAdjacentOrdered_int #[data0, t25, swaps9]) w5 fun t40 w6 =>
      upK Tryz.prog (sCall F_slices_medianAdjacentOrdered_int #[data0, t30, swaps9]) w6 fun t43 w7 =>
      J2 (t37, t40, t43, ()) w7)
     (J2 (t20, t25, t30, ()) w1)))
   (J1 (t25, ()) w1))
theorem slices_choosePivotOrdered_int.pt_eq : slices_choosePivotOrdered_int.pt = fun data0 a1 b2 w K => FN Tryz.prog Tryz.f142 (bodyOf Tryz.f142) [] (.node none .leaf (.node none .leaf (.node none .leaf (.node none .leaf (.node none .leaf (.node none .leaf (.node (some [11]) (.node none .leaf (.node none (.node (some [10, 11, 12]) .leaf .leaf) .leaf)) .leaf))))))) [data0, a1, b2] w K := by kernel_rfl
theorem slices_choosePivotOrdered_int.call {data0 a1 b2 : Value} {w : World} {K : Value → World → Prop} (h : slices_choosePivotOrdered_int.pt data0 a1 b2 w K) : Calls Tryz.prog F_slices_choosePivotOrdered_int #[data0, a1, b2] w (retK K) :=
  calls_FN (args := [data0, a1, b2]) Tryz.func142 (by kernel_rfl) (by rw [slices_choosePivotOrdered_int.pt_eq] at h; exact h)
theorem slices_choosePivotOrdered_int.up {data0 a1 b2 : Value} {w : World} {K : Value → World → Prop} (h : Calls Tryz.prog F_slices_choosePivotOrdered_int #[data0, a1, b2] w (retK K)) : upK Tryz.prog (sCall F_slices_choosePivotOrdered_int #[data0, a1, b2]) w K :=
  up_call (fn := Tryz.f142) Tryz.func142 (by kernel_rfl) (by kernel_rfl) h

/-- slices.reverseRangeOrdered[int] -/
def slices_reverseRangeOrdered_int.pt (data0 a1 b2 : Value) (w : World) (K : Value → World → Prop) : Prop :=
  pureK Tryz.prog (sBin .sub T_int (.tmp 9) (.const (.int .i64 1)) b2 (.int .i64 1)) fun t10 =>
  LOOP (X := Value × Value × Unit) (fun lv1 w1 next1 =>
   pureK Tryz.prog (sBin .lss T_int (.tmp 11) (.tmp 12) lv1.1 lv1.2.1) fun t13 =>
   ifB t13
   (pureK Tryz.prog (sIdxAddr T_s_int data0 lv1.2.1) fun t20 =>
    readK Tryz.prog (sLoad T_int t20) (tick w1) fun t21 =>
    pureK Tryz.prog (sIdxAddr T_s_int data0 lv1.1) fun t24 =>
    readK Tryz.prog (sLoad T_int t24) (tick w1) fun t25 =>
    pureK Tryz.prog (sIdxAddr T_s_int data0 lv1.1) fun t26 =>
    upK Tryz.prog (sStore T_int t26 t21) (tick w1) fun tu w2 =>
    pureK Tryz.prog (sIdxAddr T_s_int data0 lv1.2.1) fun t27 =>
    upK Tryz.prog (sStore T_int t27 t25) w2 fun tu_1 w3 =>
    pureK Tryz.prog (sBin .add T_int (.tmp 28) (.const (.int .i64 1)) lv1.1 (.int .i64 1)) fun t29 =>
    pureK Tryz.prog (sBin .sub T_int (.tmp 30) (.const (.int .i64 1)) lv1.2.1 (.int .i64 1)) fun t31 =>
    next1 (t29, t31, ()) w3)
   (K (.tuple #[]) w1))
  (a1, t10, ()) w
theorem slices_reverseRangeOrdered_int.pt_eq : slices_reverseRangeOrdered_int.pt = fun data0 a1 b2 w K => FN Tryz.prog Tryz.f143 (bodyOf Tryz.f143) [] .leaf [data0, a1, b2] w K := by kernel_rfl
theorem slices_reverseRangeOrdered_int.call {data0 a1 b2 : Value} {w : World} {K : Value → World → Prop} (h : slices_reverseRangeOrdered_int.pt data0 a1 b2 w K) : Calls Tryz.prog F_slices_reverseRangeOrdered_int #[data0, a1, b2] w (retK K) :=
  calls_FN (args := [data0, a1, b2]) Tryz.func143 (by kernel_rfl) (by rw [slices_reverseRangeOrdered_int.pt_eq] at h; exact h)
theorem slices_reverseRangeOrdered_int.up {data0 a1 b2 : Value} {w : World} {K : Value → World → Prop} (h : Calls Tryz.prog F_slices_reverseRangeOrdered_int #[data0, a1, b2] w (retK K)) : upK Tryz.prog (sCall F_slices_reverseRangeOrdered_int #[data0, a1, b2]) w K :=
  up_call (fn := Tryz.f143) Tryz.func143 (by kernel_rfl) (by kernel_rfl) h

/-- slices.partialInsertionSortOrdered[int] -/
def slices_partialInsertionSortOrdered_int.pt (data0 a1 b2 : Value) (w : World) (K : Value → World → Prop) : Prop :=
  pureK Tryz.prog (sBin .add T_int (.tmp 11) (.const (.int .i64 1)) a1 (.int .i64 1)) fun t12 =>
  LOOP (X := Value × Value × Unit) (fun lv1 w1 next1 =>
   pureK Tryz.prog (sBin .lss T_int (.tmp 13) (.const (.int .i64 5)) lv1.2.1 (.int .i64 5)) fun t14 =>
   ifB t14
   (LETJ (X := Value × Unit) (fun jv1 w2 =>
     pureK Tryz.prog (sBin .add T_int (.tmp 15) (.const (.int .i64 1)) lv1.2.1 (.int .i64 1)) fun t16 =>
     next1 (jv1.1, t16, ()) w2)
    (fun J1 =>
     LETJ (X := Value × Unit) (fun jv2 w3 =>
      pureK Tryz.prog (sBin .eql T_int (.tmp 35) (.tmp 36) jv2.1 b2) fun t37 =>
      ifB t37
      (K (.bool true) w3)
      (pureK Tryz.prog (sBin .sub T_int (.tmp 38) (.tmp 39) b2 a1) fun t40 =>
       pureK Tryz.prog (sBin .lss T_int (.tmp 40) (.const (.int .i64 50)) t40 (.int .i64 50)) fun t41 =>
       ifB t41
       (K (.bool false) w3)
       (pureK Tryz.prog (sBin .sub T_int (.tmp 45) (.const (.int .i64 1)) jv2.1 (.int .i64 1)) fun t46 =>
        pureK Tryz.prog (sBin .sub T_int (.tmp 48) (.const (.int .i64 1)) jv2.1 (.int .i64 1)) fun t49 =>
        pureK Tryz.prog (sIdxAddr T_s_int data0 t49) fun t50 =>
        readK Tryz.prog (sLoad T_int t50) (tick w3) fun t51 =>
        pureK Tryz.prog (sIdxAddr T_s_int data0 jv2.1) fun t54 =>
        readK Tryz.prog (sLoad T_int t54) (tick w3) fun t55 =>
        pureK Tryz.prog (sIdxAddr T_s_int data0 jv2.1) fun t56 =>
        upK Tryz.prog (sStore T_int t56 t51) (tick w3) fun tu w4 =>
        pureK Tryz.prog (sIdxAddr T_s_int data0 t46) fun t57 =>
        upK Tryz.prog (sStore T_int t57 t55) w4 fun tu_1 w5 =>
        LETJ (X := Unit) (fun jv3 w6 =>
         pureK Tryz.prog (sBin .sub T_int (.tmp 95) (.tmp 96) b2 jv2.1) fun t97 =>
         pureK Tryz.prog (sBin .geq T_int (.tmp 97) (.const (.int .i64 2)) t97 (.int .i64 2)) fun t98 =>
         ifB t98
         (pureK Tryz.prog (sBin .add T_int (.tmp 99) (.const (.int .i64 1)) jv2.1 (.int .i64 1)) fun t100 =>
          LOOP (X := Value × Unit) (fun lv7 w7 next7 =>
           pureK Tryz.prog (sBin .lss T_int (.tmp 101) (.tmp 102) lv7.1 b2) fun t103 =>
           ifB t103
           (pureK Tryz.prog (sIdxAddr T_s_int data0 lv7.1) fun t108 =>
            readK Tryz.prog (sLoad T_int t108) (tick w7) fun t109 =>
            pureK Tryz.prog (sBin .sub T_int (.tmp 111) (.const (.int .i64 1)) lv7.1 (.int .i64 1)) fun t112 =>
            pureK Tryz.prog (sIdxAddr T_s_int data0 t112) fun t113 =>
            readK Tryz.prog (sLoad T_int t113) (tick w7) fun t114 =>
            upK Tryz.prog (sCall F_cmp_Less_int #[t109, t114]) (tick w7) fun t115 w8 =>
            pureK Tryz.prog (sUn .not t115) fun t116 =>
            ifB t116
            (J1 (jv2.1, ()) w8)
            (pureK Tryz.prog (sBin .sub T_int (.tmp 120) (.const (.int .i64 1)) lv7.1 (.int .i64 1)) fun t121 =>
             pureK Tryz.prog (sBin .sub T_int (.tmp 123) (.const (.int .i64 1)) lv7.1 (.int .i64 1)) fun t124 =>
             pureK Tryz.prog (sIdxAddr T_s_int data0 t124) fun t125 =>
             readK Tryz.prog (sLoad T_int t125) (tick w8) fun t126 =>
             pureK Tryz.prog (sIdxAddr T_s_int data0 lv7.1) fun t129 =>
             readK Tryz.prog (sLoad T_int t129) (tick w8) fun t130 =>
             pureK Tryz.prog (sIdxAddr T_s_int data0 lv7.1) fun t131 =>
             upK Tryz.prog (sStore T_int t131 t126) (tick w8) fun tu_2 w9 =>
             pureK Tryz.prog (sIdxAddr T_s_int data0 t121) fun t132 =>
             upK Tryz.prog (sStore T_int t132 t130) w9 fun tu_3 w10 =>
             pureK Tryz.prog (sBin .add T_int (.tmp 104) (.const (.int .i64 1)) lv7.1 (.int .i64 1)) fun t105 =>
             next7 (t105, ()) w10))
           (J1 (jv2.1, ()) w7))
          (t100, ()) w6)
         (J1 (jv2.1, ()) w6))
        (fun J3 =>
         pureK Tryz.prog (sBin .sub T_int (.tmp 58) (.tmp 59) jv2.1 a1) fun t60 =>
         pureK Tryz.prog (sBin .geq T_int (.tmp 60) (.const (.int .i64 2)) t60 (.int .i64 2)) fun t61 =>
         ifB t61
         (pureK Tryz.prog (sBin .sub T_int (.tmp 62) (.const (.int .i64 1)) jv2.1 (.int .i64 1)) fun t63 =>
          LOOP (X := Value × Unit) (fun lv11 w11 next11 =>
           pureK Tryz.prog (sBin .geq T_int (.tmp 64) (.const (.int .i64 1)) lv11.1 (.int .i64 1)) fun t65 =>
           ifB t65
           (pureK Tryz.prog (sIdxAddr T_s_int data0 lv11.1) fun t70 =>
            readK Tryz.prog (sLoad T_int t70) (tick w11) fun t71 =>
            pureK Tryz.prog (sBin .sub T_int (.tmp 73) (.const (.int .i64 1)) lv11.1 (.int .i64 1)) fun t74 =>
            pureK Tryz.prog (sIdxAddr T_s_int data0 t74) fun t75 =>
            readK Tryz.prog (sLoad T_int t75) (tick w11) fun t76 =>
            upK Tryz.prog (sCall F_cmp_Less_int #[t71, t76]) (tick w11) fun t77 w12 =>
            pureK Tryz.prog (sUn .not t77) fun t78 =>
            ifB t78
            (J3 (()) w12)
            (pureK Tryz.prog (sBin .sub T_int (.tmp 82) (.const (.int .i64 1)) lv11.1 (.int .i64 1)) fun t83 =>
             pureK Tryz.prog (sBin .sub T_int (.tmp 85) (.const (.int .i64 1)) lv11.1 (.int .i64 1)) fun t86 =>
             pureK Tryz.prog (sIdxAddr T_s_int data0 t86) fun t87 =>
             readK Tryz.prog (sLoad T_int t87) (tick w12) fun t88 =>
             pureK Tryz.prog (sIdxAddr T_s_int data0 lv11.1) fun t91 =>
             readK Tryz.prog (sLoad T_int t91) (tick w12) fun t92 =>
             pureK Tryz.prog (sIdxAddr T_s_int data0 lv11.1) fun t93 =>
             upK Tryz.prog (sStore T_int t93 t88) (tick w12) fun tu_4 w13 =>
             pureK Tryz.prog (sIdxAddr T_s_int data0 t83) fun t94 =>
             upK Tryz.prog (sStore T_int t94 t92) w13 fun tu_5 w14 =>
             pureK Tryz.prog (sBin .sub T_int (.tmp 66) (.const (.int .i64 1)) lv11.1 (.int .i64 1)) fun t67 =>
             next11 (t67, ()) w14))
           (J3 (()) w11))
          (t63, ()) w5)
         (J3 (()) w5)))))
     (fun J2 =>
      LOOP (X := Value × Unit) (fun lv15 w15 next15 =>
       pureK Tryz.prog (sBin .lss T_int (.tmp 17) (.tmp 18) lv15.1 b2) fun t19 =>
       ifB t19
       (pureK Tryz.prog (sIdxAddr T_s_int data0 lv15.1) fun t23 =>
        readK Tryz.prog (sLoad T_int t23) (tick w15) fun t24 =>
        pureK Tryz.prog (sBin .sub T_int (.tmp 26) (.const (.int .i64 1)) lv15.1 (.int .i64 1)) fun t27 =>
        pureK Tryz.prog (sIdxAddr T_s_int data0 t27) fun t28 =>
        readK Tryz.prog (sLoad T_int t28) (tick w15) fun t29 =>
        upK Tryz.prog (sCall F_cmp_Less_int #[t24, t29]) (tick w15) fun t30 w16 =>
        pureK Tryz.prog (sUn .not t30) fun t31 =>
        ifB t31
        (pureK Tryz.prog (sBin .add T_int (.tmp 33) (.const (.int .i64 1)) lv15.1 (.int .i64 1)) fun t34 =>
         next15 (t34, ()) w16)
        (J2 (lv15.1, ()) w16))
       (J2 (lv15.1, ()) (tick w15)))
      (lv1.1, ()) w1)))
   (K (.bool false) w1))
  (t12, (.int .i64 0), ()) w
theorem slices_partialInsertionSortOrdered_int.pt_eq : slices_partialInsertionSortOrdered_int.pt = fun data0 a1 b2 w K => FN Tryz.prog Tryz.f144 (bodyOf Tryz.f144) [6] (.node none .leaf (.node none .leaf (.node none (.node none .leaf (.node none (.node none (.node none .leaf (.node (some [7]) (.node none (.node (some [7]) .leaf (.node none .leaf (.node none .leaf (.node none .leaf (.node (some []) .leaf .leaf))))) .leaf) .leaf)) .leaf) .leaf)) .leaf))) [data0, a1, b2] w K := by kernel_rfl
theorem slices_partialInsertionSortOrdered_int.call {data0 a1 b2 : Value} {w : World} {K : Value → World → Prop} (h : slices_partialInsertionSortOrdered_int.pt data0 a1 b2 w K) : Calls Tryz.prog F_slices_partialInsertionSortOrdered_int #[data0, a1, b2] w (retK K) :=
  calls_FN (args := [data0, a1, b2]) Tryz.func144 (by kernel_rfl) (by rw [slices_partialInsertionSortOrdered_int.pt_eq] at h; exact h)
theorem slices_partialInsertionSortOrdered_int.up {data0 a1 b2 : Value} {w : World} {K : Value → World → Prop} (h : Calls Tryz.prog F_slices_partialInsertionSortOrdered_int #[data0, a1, b2] w (retK K)) : upK Tryz.prog (sCall F_slices_partialInsertionSortOrdered_int #[data0, a1, b2]) w K :=
  up_call (fn := Tryz.f144) Tryz.func144 (by kernel_rfl) (by kernel_rfl) h

/-- cmp.Less[int] -/
def cmp_Less_int.pt (x0 vy1 : Value) (w : World) (K : Value → World → Prop) : Prop :=
  upK Tryz.prog (sCall F_cmp_isNaN_int #[x0]) w fun t6 w1 =>
  ifB t6
  (upK Tryz.prog (sCall F_cmp_isNaN_int #[vy1]) w1 fun t9 w2 =>
   pureK Tryz.prog (sUn .not t9) fun t10 =>
   ifB t10
   (K (.bool true) w2)
   (pureK Tryz.prog (sBin .lss T_int (.tmp 13) (.tmp 14) x0 vy1) fun t15 =>
    K t15 w2))
  (pureK Tryz.prog (sBin .lss T_int (.tmp 13) (.tmp 14) x0 vy1) fun t15_1 =>
   K t15_1 w1)
theorem cmp_Less_int.pt_eq : cmp_Less_int.pt = fun x0 vy1 w K => FN Tryz.prog Tryz.f145 (bodyOf Tryz.f145) [4] .leaf [x0, vy1] w K := by kernel_rfl
theorem cmp_Less_int.call {x0 vy1 : Value} {w : World} {K : Value → World → Prop} (h : cmp_Less_int.pt x0 vy1 w K) : Calls Tryz.prog F_cmp_Less_int #[x0, vy1] w (retK K) :=
  calls_FN (args := [x0, vy1]) Tryz.func145 (by kernel_rfl) (by rw [cmp_Less_int.pt_eq] at h; exact h)
theorem cmp_Less_int.up {x0 vy1 : Value} {w : World} {K : Value → World → Prop} (h : Calls Tryz.prog F_cmp_Less_int #[x0, vy1] w (retK K)) : upK Tryz.prog (sCall F_cmp_Less_int #[x0, vy1]) w K :=
  up_call (fn := Tryz.f145) Tryz.func145 (by kernel_rfl) (by kernel_rfl) h

/-- slices.partitionEqualOrdered[int] -/
def slices_partitionEqualOrdered_int.pt (data0 a1 b2 pivot3 : Value) (w : World) (K : Value → World → Prop) : Prop :=
  pureK Tryz.prog (sIdxAddr T_s_int data0 pivot3) fun t17 =>
  readK Tryz.prog (sLoad T_int t17) (tick w) fun t18 =>
  pureK Tryz.prog (sIdxAddr T_s_int data0 a1) fun t21 =>
  readK Tryz.prog (sLoad T_int t21) (tick w) fun t22 =>
  pureK Tryz.prog (sIdxAddr T_s_int data0 a1) fun t23 =>
  upK Tryz.prog (sStore T_int t23 t18) (tick w) fun tu w1 =>
  pureK Tryz.prog (sIdxAddr T_s_int data0 pivot3) fun t24 =>
  upK Tryz.prog (sStore T_int t24 t22) w1 fun tu_1 w2 =>
  pureK Tryz.prog (sBin .add T_int (.tmp 25) (.const (.int .i64 1)) a1 (.int .i64 1)) fun t26 =>
  pureK Tryz.prog (sBin .sub T_int (.tmp 27) (.const (.int .i64 1)) b2 (.int .i64 1)) fun t28 =>
  LETJ (X := Value × Unit) (fun jv1 w3 =>
   K jv1.1 w3)
  (fun J1 =>
   LOOP (X := Value × Value × Unit) (fun lv4 w4 next4 =>
    LETJ (X := Value × Unit) (fun jv2 w5 =>
     LETJ (X := Value × Unit) (fun jv3 w6 =>
      pureK Tryz.prog (sBin .gtr T_int (.tmp 62) (.tmp 63) jv2.1 jv3.1) fun t64 =>
      ifB t64
      (J1 (jv2.1, ()) w6)
      (pureK Tryz.prog (sIdxAddr T_s_int data0 jv3.1) fun t71 =>
       readK Tryz.prog (sLoad T_int t71) (tick w6) fun t72 =>
       pureK Tryz.prog (sIdxAddr T_s_int data0 jv2.1) fun t75 =>
       readK Tryz.prog (sLoad T_int t75) (tick w6) fun t76 =>
       pureK Tryz.prog (sIdxAddr T_s_int data0 jv2.1) fun t77 =>
       upK Tryz.prog (sStore T_int t77 t72) (tick w6) fun tu_2 w7 =>
       pureK Tryz.prog (sIdxAddr T_s_int data0 jv3.1) fun t78 =>
       upK Tryz.prog (sStore T_int t78 t76) w7 fun tu_3 w8 =>
       pureK Tryz.prog (sBin .add T_int (.tmp 79) (.const (.int .i64 1)) jv2.1 (.int .i64 1)) fun t80 =>
       pureK Tryz.prog (sBin .sub T_int (.tmp 81) (.const (.int .i64 1)) jv3.1 (.int .i64 1)) fun t82 =>
       next4 (t80, t82, ()) w8))
     (fun J3 =>
      LOOP (X := Value × Unit) (fun lv9 w9 next9 =>
       pureK Tryz.prog (sBin .leq T_int (.tmp 46) (.tmp 47) jv2.1 lv9.1) fun t48 =>
       ifB t48
       (pureK Tryz.prog (sIdxAddr T_s_int data0 a1) fun t52 =>
        readK Tryz.prog (sLoad T_int t52) (tick w9) fun t53 =>
        pureK Tryz.prog (sIdxAddr T_s_int data0 lv9.1) fun t56 =>
        readK Tryz.prog (sLoad T_int t56) (tick w9) fun t57 =>
        upK Tryz.prog (sCall F_cmp_Less_int #[t53, t57]) (tick w9) fun t58 w10 =>
        ifB t58
        (pureK Tryz.prog (sBin .sub T_int (.tmp 60) (.const (.int .i64 1)) lv9.1 (.int .i64 1)) fun t61 =>
         next9 (t61, ()) w10)
        (J3 (lv9.1, ()) w10))
       (J3 (lv9.1, ()) (tick w9)))
      (lv4.2.1, ()) w5))
    (fun J2 =>
     LOOP (X := Value × Unit) (fun lv11 w11 next11 =>
      pureK Tryz.prog (sBin .leq T_int (.tmp 29) (.tmp 30) lv11.1 lv4.2.1) fun t31 =>
      ifB t31
      (pureK Tryz.prog (sIdxAddr T_s_int data0 a1) fun t35 =>
       readK Tryz.prog (sLoad T_int t35) (tick w11) fun t36 =>
       pureK Tryz.prog (sIdxAddr T_s_int data0 lv11.1) fun t39 =>
       readK Tryz.prog (sLoad T_int t39) (tick w11) fun t40 =>
       upK Tryz.prog (sCall F_cmp_Less_int #[t36, t40]) (tick w11) fun t41 w12 =>
       pureK Tryz.prog (sUn .not t41) fun t42 =>
       ifB t42
       (pureK Tryz.prog (sBin .add T_int (.tmp 44) (.const (.int .i64 1)) lv11.1 (.int .i64 1)) fun t45 =>
        next11 (t45, ()) w12)
       (J2 (lv11.1, ()) w12))
      (J2 (lv11.1, ()) (tick w11)))
     (lv4.1, ()) w4))
   (t26, t28, ()) w2)
theorem slices_partitionEqualOrdered_int.pt_eq : slices_partitionEqualOrdered_int.pt = fun data0 a1 b2 pivot3 w K => FN Tryz.prog Tryz.f146 (bodyOf Tryz.f146) [] (.node none .leaf (.node none .leaf (.node none .leaf (.node (some [9]) (.node none (.node none (.node none (.node (some [9]) .leaf (.node (some [10]) .leaf .leaf)) .leaf) .leaf) .leaf) .leaf)))) [data0, a1, b2, pivot3] w K := by kernel_rfl
theorem slices_partitionEqualOrdered_int.call {data0 a1 b2 pivot3 : Value} {w : World} {K : Value → World → Prop} (h : slices_partitionEqualOrdered_int.pt data0 a1 b2 pivot3 w K) : Calls Tryz.prog F_slices_partitionEqualOrdered_int #[data0, a1, b2, pivot3] w (retK K) :=
  calls_FN (args := [data0, a1, b2, pivot3]) Tryz.func146 (by kernel_rfl) (by rw [slices_partitionEqualOrdered_int.pt_eq] at h; exact h)
theorem slices_partitionEqualOrdered_int.up {data0 a1 b2 pivot3 : Value} {w : World} {K : Value → World → Prop} (h : Calls Tryz.prog F_slices_partitionEqualOrdered_int #[data0, a1, b2, pivot3] w (retK K)) : upK Tryz.prog (sCall F_slices_partitionEqualOrdered_int #[data0, a1, b2, pivot3]) w K :=
  up_call (fn := Tryz.f146) Tryz.func146 (by kernel_rfl) (by kernel_rfl) h

end Go.Proofs.YtefinemhfgdpdaaGreatDoor
