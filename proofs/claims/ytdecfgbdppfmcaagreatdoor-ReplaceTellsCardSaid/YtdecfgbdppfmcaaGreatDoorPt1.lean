/-
  The reckoned conditions of the functions that this seat's statements reach, printed by program, each held against the translation by the kernel. No condition.
-/
import Derived.Test.YtdecfgbdppfmcaaGreatDoorNames
namespace Go.Proofs.YtdecfgbdppfmcaaGreatDoor
set_option linter.unusedVariables false
set_option maxRecDepth 100000

/-- errata/errataref47.Caught -/
def errataref47_Caught.pt (l0 no1 yes2 : Value) (w : World) (K : Value → World → Prop) : Prop :=
  ifB yes2
  (upK Tryz.prog (sCall F_errataref47_set #[l0, no1, (.int .i64 1)]) w fun t11 w1 =>
   pureK Tryz.prog (sExtract t11 0) fun t12 =>
   pureK Tryz.prog (sExtract t11 1) fun t13 =>
   K (.tuple #[t12, t13]) w1)
  (upK Tryz.prog (sCall F_errataref47_set #[l0, no1, (.int .i64 0)]) w fun t16 w2 =>
   pureK Tryz.prog (sExtract t16 0) fun t17 =>
   pureK Tryz.prog (sExtract t16 1) fun t18 =>
   K (.tuple #[t17, t18]) w2)
theorem errataref47_Caught.pt_eq : errataref47_Caught.pt = fun l0 no1 yes2 w K => FN Tryz.prog Tryz.f43 (bodyOf Tryz.f43) [6, 7] .leaf [l0, no1, yes2] w K := by kernel_rfl
theorem errataref47_Caught.call {l0 no1 yes2 : Value} {w : World} {K : Value → World → Prop} (h : errataref47_Caught.pt l0 no1 yes2 w K) : Calls Tryz.prog F_errataref47_Caught #[l0, no1, yes2] w (retK K) :=
  calls_FN (args := [l0, no1, yes2]) Tryz.func43 (by kernel_rfl) (by rw [errataref47_Caught.pt_eq] at h; exact h)
theorem errataref47_Caught.up {l0 no1 yes2 : Value} {w : World} {K : Value → World → Prop} (h : Calls Tryz.prog F_errataref47_Caught #[l0, no1, yes2] w (retK K)) : upK Tryz.prog (sCall F_errataref47_Caught #[l0, no1, yes2]) w K :=
  up_call (fn := Tryz.f43) Tryz.func43 (by kernel_rfl) (by kernel_rfl) h

/-- errata/errataref47.Cut -/
def errataref47_Cut.pt (l0 t1 no2 : Value) (w : World) (K : Value → World → Prop) : Prop :=
  pureK Tryz.prog (sBin .lss T_int (.tmp 13) (.const (.int .i64 1)) no2 (.int .i64 1)) fun t14 =>
  ifB t14
  (K (.tuple #[(.slice none 0 0), (.slice none 0 0), (.int .i64 4)]) w)
  (readK Tryz.prog (sBlt .len #[T_s_api_Replacement] T_int #[false] #[l0]) w fun t18 =>
   pureK Tryz.prog (sBin .gtr T_int (.tmp 16) (.tmp 18) no2 t18) fun t19 =>
   ifB t19
   (K (.tuple #[(.slice none 0 0), (.slice none 0 0), (.int .i64 4)]) w)
   (pureK Tryz.prog (sBin .sub T_int (.tmp 22) (.const (.int .i64 1)) no2 (.int .i64 1)) fun t23 =>
    pureK Tryz.prog (sIdxAddr T_s_api_Replacement l0 t23) fun t24 =>
    readK Tryz.prog (sLoad T_api_Replacement t24) w fun t25 =>
    upK Tryz.prog (sAlloc T_api_Replacement) w fun r9 w1 =>
    upK Tryz.prog (sStore T_api_Replacement r9 t25) w1 fun tu w2 =>
    LETJ (X := Unit) (fun jv1 w3 =>
     upK Tryz.prog (sCall F_errataref47_Open #[l0]) w3 fun t35 w4 =>
     readK Tryz.prog (sBlt .len #[T_s_api_Replacement] T_int #[false] #[t35]) w4 fun t37 =>
     pureK Tryz.prog (sBin .eql T_int (.tmp 37) (.const (.int .i64 0)) t37 (.int .i64 0)) fun t38 =>
     ifB t38
     (K (.tuple #[(.slice none 0 0), (.slice none 0 0), (.int .i64 25)]) w4)
     (pureK Tryz.prog (sIdxAddr T_s_api_Replacement t35 (.int .i64 0)) fun t40 =>
      pureK Tryz.prog (sFieldAddr T_api_Replacement t40 0) fun t41 =>
      readK Tryz.prog (sLoad T_int t41) w4 fun t42 =>
      pureK Tryz.prog (sBin .neq T_int (.tmp 42) (.tmp 43) t42 no2) fun t44 =>
      ifB t44
      (K (.tuple #[(.slice none 0 0), (.slice none 0 0), (.int .i64 25)]) w4)
      (upK Tryz.prog (sBuildSlice T_s_api_Replacement 0 #[]) w4 fun t45 w5 =>
       upK Tryz.prog (sBlt .append #[T_s_api_Replacement, T_s_api_Replacement] T_s_api_Replacement #[false, false] #[t45, l0]) w5 fun t47 w6 =>
       upK Tryz.prog (sBuildSlice T_s_api_Seg 0 #[]) w6 fun t48 w7 =>
       upK Tryz.prog (sBlt .append #[T_s_api_Seg, T_s_api_Seg] T_s_api_Seg #[false, false] #[t48, t1]) w7 fun t50 w8 =>
       pureK Tryz.prog (sFieldAddr T_api_Replacement r9 5) fun t51 =>
       readK Tryz.prog (sLoad T_int t51) w8 fun t52 =>
       pureK Tryz.prog (sBin .add T_int (.tmp 52) (.const (.int .i64 1)) t52 (.int .i64 1)) fun t53 =>
       pureK Tryz.prog (sFieldAddr T_api_Replacement r9 5) fun t54 =>
       upK Tryz.prog (sStore T_int t54 t53) w8 fun tu_1 w9 =>
       pureK Tryz.prog (sFieldAddr T_api_Replacement r9 4) fun t55 =>
       upK Tryz.prog (sStore T_int t55 (.int .i64 2)) w9 fun tu_2 w10 =>
       LETJ (X := Value × Unit) (fun jv2 w11 =>
        pureK Tryz.prog (sBin .sub T_int (.tmp 70) (.const (.int .i64 1)) no2 (.int .i64 1)) fun t71 =>
        readK Tryz.prog (sLoad T_api_Replacement r9) w11 fun t72 =>
        pureK Tryz.prog (sIdxAddr T_s_api_Replacement t47 t71) fun t73 =>
        upK Tryz.prog (sStore T_api_Replacement t73 t72) w11 fun tu_3 w12 =>
        K (.tuple #[t47, jv2.1, (.int .i64 0)]) w12)
       (fun J2 =>
        pureK Tryz.prog (sFieldAddr T_api_Replacement r9 5) fun t56 =>
        readK Tryz.prog (sLoad T_int t56) w10 fun t57 =>
        pureK Tryz.prog (sBin .eql T_int (.tmp 57) (.const (.int .i64 16)) t57 (.int .i64 16)) fun t58 =>
        ifB t58
        (pureK Tryz.prog (sFieldAddr T_api_Replacement r9 4) fun t59 =>
         upK Tryz.prog (sStore T_int t59 (.int .i64 3)) w10 fun tu_4 w13 =>
         pureK Tryz.prog (sFieldAddr T_api_Replacement r9 1) fun t62 =>
         readK Tryz.prog (sLoad T_int t62) w13 fun t63 =>
         pureK Tryz.prog (sFieldAddr T_api_Replacement r9 2) fun t64 =>
         readK Tryz.prog (sLoad T_int t64) w13 fun t65 =>
         upK Tryz.prog (sCall F_errataref45_Replace #[t1, t63, t65]) w13 fun t66 w14 =>
         pureK Tryz.prog (sExtract t66 0) fun t67 =>
         pureK Tryz.prog (sExtract t66 1) fun t68 =>
         J2 (t67, ()) w14)
        (J2 (t50, ()) w10)))))
    (fun J1 =>
     pureK Tryz.prog (sFieldAddr T_api_Replacement r9 4) fun t26 =>
     readK Tryz.prog (sLoad T_int t26) w2 fun t27 =>
     pureK Tryz.prog (sBin .neq T_int (.tmp 27) (.const (.int .i64 1)) t27 (.int .i64 1)) fun t28 =>
     ifB t28
     (pureK Tryz.prog (sFieldAddr T_api_Replacement r9 4) fun t30 =>
      readK Tryz.prog (sLoad T_int t30) w2 fun t31 =>
      pureK Tryz.prog (sBin .neq T_int (.tmp 31) (.const (.int .i64 2)) t31 (.int .i64 2)) fun t32 =>
      ifB t32
      (K (.tuple #[(.slice none 0 0), (.slice none 0 0), (.int .i64 7)]) w2)
      (J1 (()) w2))
     (J1 (()) w2))))
theorem errataref47_Cut.pt_eq : errataref47_Cut.pt = fun l0 t1 no2 w K => FN Tryz.prog Tryz.f44 (bodyOf Tryz.f44) [6, 7, 8] (.node none .leaf (.node none .leaf (.node none .leaf (.node (some []) .leaf (.node none .leaf (.node none .leaf (.node none .leaf (.node none .leaf (.node none .leaf (.node none .leaf (.node none .leaf (.node (some [12]) .leaf .leaf)))))))))))) [l0, t1, no2] w K := by kernel_rfl
theorem errataref47_Cut.call {l0 t1 no2 : Value} {w : World} {K : Value → World → Prop} (h : errataref47_Cut.pt l0 t1 no2 w K) : Calls Tryz.prog F_errataref47_Cut #[l0, t1, no2] w (retK K) :=
  calls_FN (args := [l0, t1, no2]) Tryz.func44 (by kernel_rfl) (by rw [errataref47_Cut.pt_eq] at h; exact h)
theorem errataref47_Cut.up {l0 t1 no2 : Value} {w : World} {K : Value → World → Prop} (h : Calls Tryz.prog F_errataref47_Cut #[l0, t1, no2] w (retK K)) : upK Tryz.prog (sCall F_errataref47_Cut #[l0, t1, no2]) w K :=
  up_call (fn := Tryz.f44) Tryz.func44 (by kernel_rfl) (by kernel_rfl) h

/-- slices.DeleteFunc[[]errata/api.Replacement,errata/api.Replacement] -/
def slices_DeleteFunc_s_api_Replacement_api_Replacement.pt (s0 del1 : Value) (w : World) (K : Value → World → Prop) : Prop :=
  upK Tryz.prog (sCall F_slices_IndexFunc_s_api_Replacement_api_Replacement #[s0, del1]) w fun t10 w1 =>
  pureK Tryz.prog (sBin .eql T_int (.tmp 11) (.const (.int .i64 (-1))) t10 (.int .i64 (-1))) fun t12 =>
  ifB t12
  (K s0 w1)
  (pureK Tryz.prog (sBin .add T_int (.tmp 14) (.const (.int .i64 1)) t10 (.int .i64 1)) fun t15 =>
   LOOP (X := Value × Value × Unit) (fun lv2 w2 next2 =>
    readK Tryz.prog (sBlt .len #[T_s_api_Replacement] T_int #[false] #[s0]) w2 fun t18 =>
    pureK Tryz.prog (sBin .lss T_int (.tmp 16) (.tmp 18) lv2.2.1 t18) fun t19 =>
    ifB t19
    (LETJ (X := Value × Unit) (fun jv1 w3 =>
      pureK Tryz.prog (sBin .add T_int (.tmp 20) (.const (.int .i64 1)) lv2.2.1 (.int .i64 1)) fun t21 =>
      next2 (jv1.1, t21, ()) w3)
     (fun J1 =>
      pureK Tryz.prog (sIdxAddr T_s_api_Replacement s0 lv2.2.1) fun t24 =>
      readK Tryz.prog (sLoad T_api_Replacement t24) w2 fun t25 =>
      upK Tryz.prog (sAlloc T_api_Replacement) w2 fun v7 w4 =>
      upK Tryz.prog (sStore T_api_Replacement v7 t25) w4 fun tu w5 =>
      readK Tryz.prog (sLoad T_api_Replacement v7) w5 fun t27 =>
      upK Tryz.prog (sCallV del1 #[t27]) w5 fun t28 w6 =>
      pureK Tryz.prog (sUn .not t28) fun t29 =>
      ifB t29
      (readK Tryz.prog (sLoad T_api_Replacement v7) w6 fun t32 =>
       pureK Tryz.prog (sIdxAddr T_s_api_Replacement s0 lv2.1) fun t33 =>
       upK Tryz.prog (sStore T_api_Replacement t33 t32) w6 fun tu_1 w7 =>
       pureK Tryz.prog (sBin .add T_int (.tmp 34) (.const (.int .i64 1)) lv2.1 (.int .i64 1)) fun t35 =>
       J1 (t35, ()) w7)
      (J1 (lv2.1, ()) w6)))
    (pureK Tryz.prog (sSlice T_s_api_Replacement s0 (some lv2.1) none none) fun t38 =>
     upK Tryz.prog (sBlt .clear #[T_s_api_Replacement] T_ #[false] #[t38]) w2 fun tu_2 w8 =>
     pureK Tryz.prog (sSlice T_s_api_Replacement s0 none (some lv2.1) none) fun t41 =>
     K t41 w8))
   (t10, t15, ()) w1)
theorem slices_DeleteFunc_s_api_Replacement_api_Replacement.pt_eq : slices_DeleteFunc_s_api_Replacement_api_Replacement.pt = fun s0 del1 w K => FN Tryz.prog Tryz.f45 (bodyOf Tryz.f45) [4] (.node none .leaf (.node none .leaf (.node none .leaf (.node none (.node none .leaf (.node none (.node none (.node none .leaf (.node (some [5]) .leaf .leaf)) .leaf) .leaf)) .leaf)))) [s0, del1] w K := by kernel_rfl
theorem slices_DeleteFunc_s_api_Replacement_api_Replacement.call {s0 del1 : Value} {w : World} {K : Value → World → Prop} (h : slices_DeleteFunc_s_api_Replacement_api_Replacement.pt s0 del1 w K) : Calls Tryz.prog F_slices_DeleteFunc_s_api_Replacement_api_Replacement #[s0, del1] w (retK K) :=
  calls_FN (args := [s0, del1]) Tryz.func45 (by kernel_rfl) (by rw [slices_DeleteFunc_s_api_Replacement_api_Replacement.pt_eq] at h; exact h)
theorem slices_DeleteFunc_s_api_Replacement_api_Replacement.up {s0 del1 : Value} {w : World} {K : Value → World → Prop} (h : Calls Tryz.prog F_slices_DeleteFunc_s_api_Replacement_api_Replacement #[s0, del1] w (retK K)) : upK Tryz.prog (sCall F_slices_DeleteFunc_s_api_Replacement_api_Replacement #[s0, del1]) w K :=
  up_call (fn := Tryz.f45) Tryz.func45 (by kernel_rfl) (by kernel_rfl) h

/-- slices.Clone[[]errata/api.Replacement,errata/api.Replacement] -/
def slices_Clone_s_api_Replacement_api_Replacement.pt (s0 : Value) (w : World) (K : Value → World → Prop) : Prop :=
  pureK Tryz.prog (sBin .eql T_s_api_Replacement (.tmp 3) (.const (.slice none 0 0)) s0 (.slice none 0 0)) fun t4 =>
  ifB t4
  (K (.slice none 0 0) w)
  (upK Tryz.prog (sBuildSlice T_s_api_Replacement 0 #[]) w fun t5 w1 =>
   upK Tryz.prog (sBlt .append #[T_s_api_Replacement, T_s_api_Replacement] T_s_api_Replacement #[false, false] #[t5, s0]) w1 fun t7 w2 =>
   K t7 w2)
theorem slices_Clone_s_api_Replacement_api_Replacement.pt_eq : slices_Clone_s_api_Replacement_api_Replacement.pt = fun s0 w K => FN Tryz.prog Tryz.f46 (bodyOf Tryz.f46) [2] .leaf [s0] w K := by kernel_rfl
theorem slices_Clone_s_api_Replacement_api_Replacement.call {s0 : Value} {w : World} {K : Value → World → Prop} (h : slices_Clone_s_api_Replacement_api_Replacement.pt s0 w K) : Calls Tryz.prog F_slices_Clone_s_api_Replacement_api_Replacement #[s0] w (retK K) :=
  calls_FN (args := [s0]) Tryz.func46 (by kernel_rfl) (by rw [slices_Clone_s_api_Replacement_api_Replacement.pt_eq] at h; exact h)
theorem slices_Clone_s_api_Replacement_api_Replacement.up {s0 : Value} {w : World} {K : Value → World → Prop} (h : Calls Tryz.prog F_slices_Clone_s_api_Replacement_api_Replacement #[s0] w (retK K)) : upK Tryz.prog (sCall F_slices_Clone_s_api_Replacement_api_Replacement #[s0]) w K :=
  up_call (fn := Tryz.f46) Tryz.func46 (by kernel_rfl) (by kernel_rfl) h

/-- errata/replace.Open$1 -/
def replace_Open_1.pt (r0 : Value) (w : World) (K : Value → World → Prop) : Prop :=
  upK Tryz.prog (sBox T_api_Replacement r0) w fun r1 w1 =>
  readK Tryz.prog (sLoad T_api_Replacement r1) w1 fun t3 =>
  upK Tryz.prog (sCall F_replace_open #[t3]) w1 fun t4 w2 =>
  pureK Tryz.prog (sUn .not t4) fun t5 =>
  K t5 w2
theorem replace_Open_1.pt_eq : replace_Open_1.pt = fun r0 w K => FN Tryz.prog Tryz.f47 (bodyOf Tryz.f47) [2] .leaf [r0] w K := by kernel_rfl
theorem replace_Open_1.call {r0 : Value} {w : World} {K : Value → World → Prop} (h : replace_Open_1.pt r0 w K) : Calls Tryz.prog F_replace_Open_1 #[r0] w (retK K) :=
  calls_FN (args := [r0]) Tryz.func47 (by kernel_rfl) (by rw [replace_Open_1.pt_eq] at h; exact h)
theorem replace_Open_1.up {r0 : Value} {w : World} {K : Value → World → Prop} (h : Calls Tryz.prog F_replace_Open_1 #[r0] w (retK K)) : upK Tryz.prog (sCall F_replace_Open_1 #[r0]) w K :=
  up_call (fn := Tryz.f47) Tryz.func47 (by kernel_rfl) (by kernel_rfl) h

/-- errata/replace.open -/
def replace_open.pt (r0 : Value) (w : World) (K : Value → World → Prop) : Prop :=
  upK Tryz.prog (sBox T_api_Replacement r0) w fun r1 w1 =>
  pureK Tryz.prog (sFieldAddr T_api_Replacement r1 4) fun t3 =>
  readK Tryz.prog (sLoad T_int t3) w1 fun t4 =>
  pureK Tryz.prog (sBin .eql T_int (.tmp 4) (.const (.int .i64 0)) t4 (.int .i64 0)) fun t5 =>
  ifB t5
  (K (.bool true) w1)
  (pureK Tryz.prog (sFieldAddr T_api_Replacement r1 4) fun t7 =>
   readK Tryz.prog (sLoad T_int t7) w1 fun t8 =>
   pureK Tryz.prog (sBin .eql T_int (.tmp 8) (.const (.int .i64 1)) t8 (.int .i64 1)) fun t9 =>
   ifB t9
   (K (.bool true) w1)
   (pureK Tryz.prog (sFieldAddr T_api_Replacement r1 4) fun t12 =>
    readK Tryz.prog (sLoad T_int t12) w1 fun t13 =>
    pureK Tryz.prog (sBin .eql T_int (.tmp 13) (.const (.int .i64 2)) t13 (.int .i64 2)) fun t14 =>
    K t14 w1))
theorem replace_open.pt_eq : replace_open.pt = fun r0 w K => FN Tryz.prog Tryz.f48 (bodyOf Tryz.f48) [2] .leaf [r0] w K := by kernel_rfl
theorem replace_open.call {r0 : Value} {w : World} {K : Value → World → Prop} (h : replace_open.pt r0 w K) : Calls Tryz.prog F_replace_open #[r0] w (retK K) :=
  calls_FN (args := [r0]) Tryz.func48 (by kernel_rfl) (by rw [replace_open.pt_eq] at h; exact h)
theorem replace_open.up {r0 : Value} {w : World} {K : Value → World → Prop} (h : Calls Tryz.prog F_replace_open #[r0] w (retK K)) : upK Tryz.prog (sCall F_replace_open #[r0]) w K :=
  up_call (fn := Tryz.f48) Tryz.func48 (by kernel_rfl) (by kernel_rfl) h

/-- errata/errataref47.open -/
def errataref47_open.pt (r0 : Value) (w : World) (K : Value → World → Prop) : Prop :=
  upK Tryz.prog (sBox T_api_Replacement r0) w fun r1 w1 =>
  pureK Tryz.prog (sFieldAddr T_api_Replacement r1 4) fun t3 =>
  readK Tryz.prog (sLoad T_int t3) w1 fun t4 =>
  pureK Tryz.prog (sBin .eql T_int (.tmp 4) (.const (.int .i64 0)) t4 (.int .i64 0)) fun t5 =>
  ifB t5
  (K (.bool true) w1)
  (pureK Tryz.prog (sFieldAddr T_api_Replacement r1 4) fun t7 =>
   readK Tryz.prog (sLoad T_int t7) w1 fun t8 =>
   pureK Tryz.prog (sBin .eql T_int (.tmp 8) (.const (.int .i64 1)) t8 (.int .i64 1)) fun t9 =>
   ifB t9
   (K (.bool true) w1)
   (pureK Tryz.prog (sFieldAddr T_api_Replacement r1 4) fun t12 =>
    readK Tryz.prog (sLoad T_int t12) w1 fun t13 =>
    pureK Tryz.prog (sBin .eql T_int (.tmp 13) (.const (.int .i64 2)) t13 (.int .i64 2)) fun t14 =>
    K t14 w1))
theorem errataref47_open.pt_eq : errataref47_open.pt = fun r0 w K => FN Tryz.prog Tryz.f49 (bodyOf Tryz.f49) [2] .leaf [r0] w K := by kernel_rfl
theorem errataref47_open.call {r0 : Value} {w : World} {K : Value → World → Prop} (h : errataref47_open.pt r0 w K) : Calls Tryz.prog F_errataref47_open #[r0] w (retK K) :=
  calls_FN (args := [r0]) Tryz.func49 (by kernel_rfl) (by rw [errataref47_open.pt_eq] at h; exact h)
theorem errataref47_open.up {r0 : Value} {w : World} {K : Value → World → Prop} (h : Calls Tryz.prog F_errataref47_open #[r0] w (retK K)) : upK Tryz.prog (sCall F_errataref47_open #[r0]) w K :=
  up_call (fn := Tryz.f49) Tryz.func49 (by kernel_rfl) (by kernel_rfl) h

/-- errata/replace.first -/
def replace_first.pt (l0 : Value) (w : World) (K : Value → World → Prop) : Prop :=
  upK Tryz.prog (sAlloc T_api_Replacement) w fun t2 w1 =>
  upK Tryz.prog (sCall F_slices_IndexFunc_s_api_Replacement_api_Replacement #[l0, (.func (.func 48) #[] #[])]) w1 fun t6 w2 =>
  pureK Tryz.prog (sBin .lss T_int (.tmp 7) (.const (.int .i64 0)) t6 (.int .i64 0)) fun t8 =>
  ifB t8
  (pureK Tryz.prog (sBuild T_api_Replacement #[]) fun t9 =>
   upK Tryz.prog (sStore T_api_Replacement t2 t9) w2 fun tu w3 =>
   readV Tryz.prog (do loadVar T_api_Replacement (← asAddr t2)) w3 fun t2_1 =>
   K (.tuple #[t2_1, (.bool false)]) w3)
  (pureK Tryz.prog (sIdxAddr T_s_api_Replacement l0 t6) fun t12 =>
   readK Tryz.prog (sLoad T_api_Replacement t12) w2 fun t13 =>
   upK Tryz.prog (sStore T_api_Replacement t2 t13) w2 fun tu_1 w4 =>
   readV Tryz.prog (do loadVar T_api_Replacement (← asAddr t2)) w4 fun t2_2 =>
   K (.tuple #[t2_2, (.bool true)]) w4)
theorem replace_first.pt_eq : replace_first.pt = fun l0 w K => FN Tryz.prog Tryz.f50 (bodyOf Tryz.f50) [3] .leaf [l0] w K := by kernel_rfl
theorem replace_first.call {l0 : Value} {w : World} {K : Value → World → Prop} (h : replace_first.pt l0 w K) : Calls Tryz.prog F_replace_first #[l0] w (retK K) :=
  calls_FN (args := [l0]) Tryz.func50 (by kernel_rfl) (by rw [replace_first.pt_eq] at h; exact h)
theorem replace_first.up {l0 : Value} {w : World} {K : Value → World → Prop} (h : Calls Tryz.prog F_replace_first #[l0] w (retK K)) : upK Tryz.prog (sCall F_replace_first #[l0]) w K :=
  up_call (fn := Tryz.f50) Tryz.func50 (by kernel_rfl) (by kernel_rfl) h

/-- errata/timeline.At -/
def timeline_At.pt (l0 time1 : Value) (w : World) (K : Value → World → Prop) : Prop :=
  upK Tryz.prog (sCall F_timeline_behind #[l0, time1]) w fun t8 w1 =>
  pureK Tryz.prog (sBlt .max #[T_int, T_int] T_int #[false, true] #[t8, (.int .i64 1)]) fun t9 =>
  pureK Tryz.prog (sBin .sub T_int (.tmp 9) (.const (.int .i64 1)) t9 (.int .i64 1)) fun t10 =>
  pureK Tryz.prog (sIdxAddr T_s_api_Seg l0 t10) fun t11 =>
  pureK Tryz.prog (sFieldAddr T_api_Seg t11 1) fun t12 =>
  readK Tryz.prog (sLoad T_int t12) w1 fun t13 =>
  K t13 w1
theorem timeline_At.pt_eq : timeline_At.pt = fun l0 time1 w K => FN Tryz.prog Tryz.f51 (bodyOf Tryz.f51) [4] .leaf [l0, time1] w K := by kernel_rfl
theorem timeline_At.call {l0 time1 : Value} {w : World} {K : Value → World → Prop} (h : timeline_At.pt l0 time1 w K) : Calls Tryz.prog F_timeline_At #[l0, time1] w (retK K) :=
  calls_FN (args := [l0, time1]) Tryz.func51 (by kernel_rfl) (by rw [timeline_At.pt_eq] at h; exact h)
theorem timeline_At.up {l0 time1 : Value} {w : World} {K : Value → World → Prop} (h : Calls Tryz.prog F_timeline_At #[l0, time1] w (retK K)) : upK Tryz.prog (sCall F_timeline_At #[l0, time1]) w K :=
  up_call (fn := Tryz.f51) Tryz.func51 (by kernel_rfl) (by kernel_rfl) h

/-- errata/errataref45.At -/
def errataref45_At.pt (l0 time1 : Value) (w : World) (K : Value → World → Prop) : Prop :=
  pureK Tryz.prog (sIdxAddr T_s_api_Seg l0 (.int .i64 0)) fun t8 =>
  pureK Tryz.prog (sFieldAddr T_api_Seg t8 1) fun t9 =>
  readK Tryz.prog (sLoad T_int t9) w fun t10 =>
  LOOP (X := Value × Value × Unit) (fun lv1 w1 next1 =>
   readK Tryz.prog (sBlt .len #[T_s_api_Seg] T_int #[false] #[l0]) w1 fun t13 =>
   pureK Tryz.prog (sBin .lss T_int (.tmp 11) (.tmp 13) lv1.2.1 t13) fun t14 =>
   ifB t14
   (LETJ (X := Value × Unit) (fun jv1 w2 =>
     pureK Tryz.prog (sBin .add T_int (.tmp 15) (.const (.int .i64 1)) lv1.2.1 (.int .i64 1)) fun t16 =>
     next1 (jv1.1, t16, ()) w2)
    (fun J1 =>
     pureK Tryz.prog (sIdxAddr T_s_api_Seg l0 lv1.2.1) fun t19 =>
     pureK Tryz.prog (sFieldAddr T_api_Seg t19 0) fun t20 =>
     readK Tryz.prog (sLoad T_int t20) w1 fun t21 =>
     pureK Tryz.prog (sBin .leq T_int (.tmp 21) (.tmp 22) t21 time1) fun t23 =>
     ifB t23
     (pureK Tryz.prog (sIdxAddr T_s_api_Seg l0 lv1.2.1) fun t26 =>
      pureK Tryz.prog (sFieldAddr T_api_Seg t26 1) fun t27 =>
      readK Tryz.prog (sLoad T_int t27) w1 fun t28 =>
      J1 (t28, ()) w1)
     (J1 (lv1.1, ()) w1)))
   (K lv1.1 w1))
  (t10, (.int .i64 0), ()) w
theorem errataref45_At.pt_eq : errataref45_At.pt = fun l0 time1 w K => FN Tryz.prog Tryz.f52 (bodyOf Tryz.f52) [4] (.node none .leaf (.node none .leaf (.node none (.node none .leaf (.node none (.node none (.node none .leaf (.node (some [5]) .leaf .leaf)) .leaf) .leaf)) .leaf))) [l0, time1] w K := by kernel_rfl
theorem errataref45_At.call {l0 time1 : Value} {w : World} {K : Value → World → Prop} (h : errataref45_At.pt l0 time1 w K) : Calls Tryz.prog F_errataref45_At #[l0, time1] w (retK K) :=
  calls_FN (args := [l0, time1]) Tryz.func52 (by kernel_rfl) (by rw [errataref45_At.pt_eq] at h; exact h)
theorem errataref45_At.up {l0 time1 : Value} {w : World} {K : Value → World → Prop} (h : Calls Tryz.prog F_errataref45_At #[l0, time1] w (retK K)) : upK Tryz.prog (sCall F_errataref45_At #[l0, time1]) w K :=
  up_call (fn := Tryz.f52) Tryz.func52 (by kernel_rfl) (by kernel_rfl) h

/-- errata/timeline.Open -/
def timeline_Open.pt (l0 closed1 : Value) (w : World) (K : Value → World → Prop) : Prop :=
  pureK Tryz.prog (sBlt .min #[T_int, T_int] T_int #[false, true] #[closed1, (.int .i64 1099511627776)]) fun t6 =>
  pureK Tryz.prog (sBin .add T_int (.tmp 9) (.const (.int .i64 1)) t6 (.int .i64 1)) fun t10 =>
  upK Tryz.prog (sCall F_timeline_behind #[l0, t10]) w fun t11 w1 =>
  pureK Tryz.prog (sBlt .max #[T_int, T_int] T_int #[false, true] #[t11, (.int .i64 1)]) fun t12 =>
  pureK Tryz.prog (sBin .sub T_int (.tmp 12) (.const (.int .i64 1)) t12 (.int .i64 1)) fun t13 =>
  pureK Tryz.prog (sSlice T_s_api_Seg l0 (some t13) none none) fun t14 =>
  upK Tryz.prog (sCall F_timeline_versions #[t14]) w1 fun t15 w2 =>
  K t15 w2
theorem timeline_Open.pt_eq : timeline_Open.pt = fun l0 closed1 w K => FN Tryz.prog Tryz.f53 (bodyOf Tryz.f53) [4] .leaf [l0, closed1] w K := by kernel_rfl
theorem timeline_Open.call {l0 closed1 : Value} {w : World} {K : Value → World → Prop} (h : timeline_Open.pt l0 closed1 w K) : Calls Tryz.prog F_timeline_Open #[l0, closed1] w (retK K) :=
  calls_FN (args := [l0, closed1]) Tryz.func53 (by kernel_rfl) (by rw [timeline_Open.pt_eq] at h; exact h)
theorem timeline_Open.up {l0 closed1 : Value} {w : World} {K : Value → World → Prop} (h : Calls Tryz.prog F_timeline_Open #[l0, closed1] w (retK K)) : upK Tryz.prog (sCall F_timeline_Open #[l0, closed1]) w K :=
  up_call (fn := Tryz.f53) Tryz.func53 (by kernel_rfl) (by kernel_rfl) h

/-- slices.Sort[[]int,int] -/
def slices_Sort_s_int_int.pt (x0 : Value) (w : World) (K : Value → World → Prop) : Prop :=
  readK Tryz.prog (sBlt .len #[T_s_int] T_int #[false] #[x0]) w fun t4 =>
  upK Tryz.prog (sConv T_int T_uint t4) w fun t8 w1 =>
  upK Tryz.prog (sCall F_math_bits_Len #[t8]) w1 fun t9 w2 =>
  upK Tryz.prog (sCall F_slices_pdqsortOrdered_int #[x0, (.int .i64 0), t4, t9]) w2 fun t10 w3 =>
  K (.tuple #[]) w3
theorem slices_Sort_s_int_int.pt_eq : slices_Sort_s_int_int.pt = fun x0 w K => FN Tryz.prog Tryz.f54 (bodyOf Tryz.f54) [] .leaf [x0] w K := by kernel_rfl
theorem slices_Sort_s_int_int.call {x0 : Value} {w : World} {K : Value → World → Prop} (h : slices_Sort_s_int_int.pt x0 w K) : Calls Tryz.prog F_slices_Sort_s_int_int #[x0] w (retK K) :=
  calls_FN (args := [x0]) Tryz.func54 (by kernel_rfl) (by rw [slices_Sort_s_int_int.pt_eq] at h; exact h)
theorem slices_Sort_s_int_int.up {x0 : Value} {w : World} {K : Value → World → Prop} (h : Calls Tryz.prog F_slices_Sort_s_int_int #[x0] w (retK K)) : upK Tryz.prog (sCall F_slices_Sort_s_int_int #[x0]) w K :=
  up_call (fn := Tryz.f54) Tryz.func54 (by kernel_rfl) (by kernel_rfl) h

/-- slices.Compact[[]int,int] -/
def slices_Compact_s_int_int.pt (s0 : Value) (w : World) (K : Value → World → Prop) : Prop :=
  readK Tryz.prog (sBlt .len #[T_s_int] T_int #[false] #[s0]) w fun t7 =>
  pureK Tryz.prog (sBin .lss T_int (.tmp 7) (.const (.int .i64 2)) t7 (.int .i64 2)) fun t8 =>
  ifB t8
  (K s0 w)
  (LOOP (X := Value × Unit) (fun lv1 w1 next1 =>
    readK Tryz.prog (sBlt .len #[T_s_int] T_int #[false] #[s0]) w1 fun t12 =>
    pureK Tryz.prog (sBin .lss T_int (.tmp 10) (.tmp 12) lv1.1 t12) fun t13 =>
    ifB t13
    (LETJ (X := Value × Unit) (fun jv1 w2 =>
      pureK Tryz.prog (sBin .add T_int (.tmp 14) (.const (.int .i64 1)) jv1.1 (.int .i64 1)) fun t15 =>
      next1 (t15, ()) w2)
     (fun J1 =>
      pureK Tryz.prog (sIdxAddr T_s_int s0 lv1.1) fun t18 =>
      readK Tryz.prog (sLoad T_int t18) (tick w1) fun t19 =>
      pureK Tryz.prog (sBin .sub T_int (.tmp 21) (.const (.int .i64 1)) lv1.1 (.int .i64 1)) fun t22 =>
      pureK Tryz.prog (sIdxAddr T_s_int s0 t22) fun t23 =>
      readK Tryz.prog (sLoad T_int t23) (tick w1) fun t24 =>
      pureK Tryz.prog (sBin .eql T_int (.tmp 19) (.tmp 24) t19 t24) fun t25 =>
      ifB t25
      (pureK Tryz.prog (sSlice T_s_int s0 (some lv1.1) none none) fun t28 =>
       LOOP (X := Value × Value × Unit) (fun lv3 w3 next3 =>
        readK Tryz.prog (sBlt .len #[T_s_int] T_int #[false] #[t28]) w3 fun t31 =>
        pureK Tryz.prog (sBin .lss T_int (.tmp 29) (.tmp 31) lv3.2.1 t31) fun t32 =>
        ifB t32
        (LETJ (X := Value × Unit) (fun jv2 w4 =>
          pureK Tryz.prog (sBin .add T_int (.tmp 33) (.const (.int .i64 1)) lv3.2.1 (.int .i64 1)) fun t34 =>
          next3 (jv2.1, t34, ()) w4)
         (fun J2 =>
          pureK Tryz.prog (sIdxAddr T_s_int t28 lv3.2.1) fun t37 =>
          readK Tryz.prog (sLoad T_int t37) (tick w3) fun t38 =>
          pureK Tryz.prog (sBin .sub T_int (.tmp 40) (.const (.int .i64 1)) lv3.2.1 (.int .i64 1)) fun t41 =>
          pureK Tryz.prog (sIdxAddr T_s_int t28 t41) fun t42 =>
          readK Tryz.prog (sLoad T_int t42) (tick w3) fun t43 =>
          pureK Tryz.prog (sBin .neq T_int (.tmp 38) (.tmp 43) t38 t43) fun t44 =>
          ifB t44
          (pureK Tryz.prog (sIdxAddr T_s_int t28 lv3.2.1) fun t49 =>
           readK Tryz.prog (sLoad T_int t49) (tick w3) fun t50 =>
           pureK Tryz.prog (sIdxAddr T_s_int s0 lv3.1) fun t51 =>
           upK Tryz.prog (sStore T_int t51 t50) (tick w3) fun tu w5 =>
           pureK Tryz.prog (sBin .add T_int (.tmp 52) (.const (.int .i64 1)) lv3.1 (.int .i64 1)) fun t53 =>
           J2 (t53, ()) w5)
          (J2 (lv3.1, ()) (tick w3))))
        (pureK Tryz.prog (sSlice T_s_int s0 (some lv3.1) none none) fun t56 =>
         upK Tryz.prog (sBlt .clear #[T_s_int] T_ #[false] #[t56]) w3 fun tu_1 w6 =>
         pureK Tryz.prog (sSlice T_s_int s0 none (some lv3.1) none) fun t59 =>
         K t59 w6))
       (lv1.1, (.int .i64 1), ()) (tick w1))
      (J1 (lv1.1, ()) (tick w1))))
    (K s0 w1))
   ((.int .i64 1), ()) w)
theorem slices_Compact_s_int_int.pt_eq : slices_Compact_s_int_int.pt = fun s0 w K => FN Tryz.prog Tryz.f55 (bodyOf Tryz.f55) [2] (.node none .leaf (.node none .leaf (.node none (.node none .leaf (.node none (.node none (.node none .leaf (.node (some [3]) (.node none (.node none .leaf (.node none (.node none .leaf (.node none (.node none .leaf (.node none (.node none (.node none .leaf (.node (some [3]) .leaf .leaf)) .leaf) .leaf)) .leaf)) .leaf)) .leaf) .leaf)) .leaf) .leaf)) .leaf))) [s0] w K := by kernel_rfl
theorem slices_Compact_s_int_int.call {s0 : Value} {w : World} {K : Value → World → Prop} (h : slices_Compact_s_int_int.pt s0 w K) : Calls Tryz.prog F_slices_Compact_s_int_int #[s0] w (retK K) :=
  calls_FN (args := [s0]) Tryz.func55 (by kernel_rfl) (by rw [slices_Compact_s_int_int.pt_eq] at h; exact h)
theorem slices_Compact_s_int_int.up {s0 : Value} {w : World} {K : Value → World → Prop} (h : Calls Tryz.prog F_slices_Compact_s_int_int #[s0] w (retK K)) : upK Tryz.prog (sCall F_slices_Compact_s_int_int #[s0]) w K :=
  up_call (fn := Tryz.f55) Tryz.func55 (by kernel_rfl) (by kernel_rfl) h

/-- errata/errataref45.Versions -/
def errataref45_Versions.pt (l0 closed1 : Value) (w : World) (K : Value → World → Prop) : Prop :=
  LOOP (X := Value × Value × Unit) (fun lv1 w1 next1 =>
   pureK Tryz.prog (sBin .leq T_int (.tmp 10) (.const (.int .i64 50)) lv1.2.1 (.int .i64 50)) fun t11 =>
   ifB t11
   (LETJ (X := Value × Unit) (fun jv1 w2 =>
     pureK Tryz.prog (sBin .add T_int (.tmp 12) (.const (.int .i64 1)) lv1.2.1 (.int .i64 1)) fun t13 =>
     next1 (jv1.1, t13, ()) w2)
    (fun J1 =>
     LOOP (X := Value × Value × Unit) (fun lv3 w3 next3 =>
      readK Tryz.prog (sBlt .len #[T_s_api_Seg] T_int #[false] #[l0]) w3 fun t16 =>
      pureK Tryz.prog (sBin .lss T_int (.tmp 14) (.tmp 16) lv3.2.1 t16) fun t17 =>
      ifB t17
      (LETJ (X := Value × Unit) (fun jv2 w4 =>
        pureK Tryz.prog (sBin .add T_int (.tmp 18) (.const (.int .i64 1)) lv3.2.1 (.int .i64 1)) fun t19 =>
        next3 (jv2.1, t19, ()) w4)
       (fun J2 =>
        readK Tryz.prog (sBlt .len #[T_s_api_Seg] T_int #[false] #[l0]) w3 fun t22 =>
        pureK Tryz.prog (sBin .sub T_int (.tmp 22) (.const (.int .i64 1)) t22 (.int .i64 1)) fun t23 =>
        pureK Tryz.prog (sBin .eql T_int (.tmp 20) (.tmp 23) lv3.2.1 t23) fun t24 =>
        ifB lv3.1
        (J2 ((.bool true), ()) w3)
        (pureK Tryz.prog (sIdxAddr T_s_api_Seg l0 lv3.2.1) fun t29 =>
         pureK Tryz.prog (sFieldAddr T_api_Seg t29 1) fun t30 =>
         readK Tryz.prog (sLoad T_int t30) w3 fun t31 =>
         pureK Tryz.prog (sBin .eql T_int (.tmp 31) (.tmp 32) t31 lv1.2.1) fun t33 =>
         ifB t33
         (ifB t24
          (J2 ((.bool true), ()) w3)
          (upK Tryz.prog (sCall F_errataref45_end #[l0, lv3.2.1]) w3 fun t39 w5 =>
           pureK Tryz.prog (sBin .sub T_int (.tmp 39) (.const (.int .i64 1)) t39 (.int .i64 1)) fun t40 =>
           pureK Tryz.prog (sBin .gtr T_int (.tmp 40) (.tmp 41) t40 closed1) fun t42 =>
           J2 (t42, ()) w5))
         (J2 ((.bool false), ()) w3))))
      (ifB lv3.1
       (upK Tryz.prog (sBuildSlice T_s_int 1 #[(0, lv1.2.1)]) w3 fun t49 w6 =>
        upK Tryz.prog (sBlt .append #[T_s_int, T_s_int] T_s_int #[false, false] #[lv1.1, t49]) w6 fun t50 w7 =>
        J1 (t50, ()) w7)
       (J1 (lv1.1, ()) w3)))
     ((.bool false), (.int .i64 0), ()) w1))
   (K lv1.1 w1))
  ((.slice none 0 0), (.int .i64 1), ()) w
theorem errataref45_Versions.pt_eq : errataref45_Versions.pt = fun l0 closed1 w K => FN Tryz.prog Tryz.f56 (bodyOf Tryz.f56) [4] (.node none .leaf (.node none .leaf (.node none (.node none .leaf (.node none (.node none (.node none .leaf (.node (some [5]) (.node none (.node none .leaf (.node none (.node none .leaf (.node none (.node none (.node none .leaf (.node (some [7]) .leaf .leaf)) .leaf) .leaf)) .leaf)) .leaf) .leaf)) .leaf) .leaf)) .leaf))) [l0, closed1] w K := by kernel_rfl
theorem errataref45_Versions.call {l0 closed1 : Value} {w : World} {K : Value → World → Prop} (h : errataref45_Versions.pt l0 closed1 w K) : Calls Tryz.prog F_errataref45_Versions #[l0, closed1] w (retK K) :=
  calls_FN (args := [l0, closed1]) Tryz.func56 (by kernel_rfl) (by rw [errataref45_Versions.pt_eq] at h; exact h)
theorem errataref45_Versions.up {l0 closed1 : Value} {w : World} {K : Value → World → Prop} (h : Calls Tryz.prog F_errataref45_Versions #[l0, closed1] w (retK K)) : upK Tryz.prog (sCall F_errataref45_Versions #[l0, closed1]) w K :=
  up_call (fn := Tryz.f56) Tryz.func56 (by kernel_rfl) (by kernel_rfl) h

/-- (*strings.Builder).WriteString -/
def strings_Builder_WriteString.pt (b0 s1 : Value) (w : World) (K : Value → World → Prop) : Prop :=
  upK Tryz.prog (sCall F_strings_Builder_copyCheck #[b0]) w fun t7 w1 =>
  pureK Tryz.prog (sNil b0) fun t10 =>
  pureK Tryz.prog (sFieldAddr T_strings_Builder t10 1) fun t11 =>
  readK Tryz.prog (sLoad T_s_uint8 t11) w1 fun t12 =>
  upK Tryz.prog (sBlt .append #[T_s_uint8, T_string] T_s_uint8 #[false, false] #[t12, s1]) w1 fun t14 w2 =>
  pureK Tryz.prog (sNil b0) fun t15 =>
  pureK Tryz.prog (sFieldAddr T_strings_Builder t15 1) fun t16 =>
  upK Tryz.prog (sStore T_s_uint8 t16 t14) w2 fun tu w3 =>
  readK Tryz.prog (sBlt .len #[T_string] T_int #[false] #[s1]) w3 fun t18 =>
  K (.tuple #[t18, .nilIface]) w3
theorem strings_Builder_WriteString.pt_eq : strings_Builder_WriteString.pt = fun b0 s1 w K => FN Tryz.prog Tryz.f57 (bodyOf Tryz.f57) [4, 5] .leaf [b0, s1] w K := by kernel_rfl
theorem strings_Builder_WriteString.call {b0 s1 : Value} {w : World} {K : Value → World → Prop} (h : strings_Builder_WriteString.pt b0 s1 w K) : Calls Tryz.prog F_strings_Builder_WriteString #[b0, s1] w (retK K) :=
  calls_FN (args := [b0, s1]) Tryz.func57 (by kernel_rfl) (by rw [strings_Builder_WriteString.pt_eq] at h; exact h)
theorem strings_Builder_WriteString.up {b0 s1 : Value} {w : World} {K : Value → World → Prop} (h : Calls Tryz.prog F_strings_Builder_WriteString #[b0, s1] w (retK K)) : upK Tryz.prog (sCall F_strings_Builder_WriteString #[b0, s1]) w K :=
  up_call (fn := Tryz.f57) Tryz.func57 (by kernel_rfl) (by kernel_rfl) h

/-- errata/wire.Num -/
def wire_Num.pt (n0 : Value) (w : World) (K : Value → World → Prop) : Prop :=
  pureK Tryz.prog (sBin .lss T_int (.tmp 3) (.const (.int .i64 0)) n0 (.int .i64 0)) fun t4 =>
  ifB t4
  (K (.string ⟨#[]⟩) w)
  (upK Tryz.prog (sCall F_wire_Int #[n0]) w fun t6 w1 =>
   K t6 w1)
theorem wire_Num.pt_eq : wire_Num.pt = fun n0 w K => FN Tryz.prog Tryz.f58 (bodyOf Tryz.f58) [2] .leaf [n0] w K := by kernel_rfl
theorem wire_Num.call {n0 : Value} {w : World} {K : Value → World → Prop} (h : wire_Num.pt n0 w K) : Calls Tryz.prog F_wire_Num #[n0] w (retK K) :=
  calls_FN (args := [n0]) Tryz.func58 (by kernel_rfl) (by rw [wire_Num.pt_eq] at h; exact h)
theorem wire_Num.up {n0 : Value} {w : World} {K : Value → World → Prop} (h : Calls Tryz.prog F_wire_Num #[n0] w (retK K)) : upK Tryz.prog (sCall F_wire_Num #[n0]) w K :=
  up_call (fn := Tryz.f58) Tryz.func58 (by kernel_rfl) (by kernel_rfl) h

/-- errata/wire.Int -/
def wire_Int.pt (n0 : Value) (w : World) (K : Value → World → Prop) : Prop :=
  upK Tryz.prog (sCall F_strconv_Itoa #[n0]) w fun t4 w1 =>
  pureK Tryz.prog (sBin .add T_string (.tmp 4) (.const (.string ⟨#[59]⟩)) t4 (.string ⟨#[59]⟩)) fun t5 =>
  K t5 w1
theorem wire_Int.pt_eq : wire_Int.pt = fun n0 w K => FN Tryz.prog Tryz.f59 (bodyOf Tryz.f59) [2] .leaf [n0] w K := by kernel_rfl
theorem wire_Int.call {n0 : Value} {w : World} {K : Value → World → Prop} (h : wire_Int.pt n0 w K) : Calls Tryz.prog F_wire_Int #[n0] w (retK K) :=
  calls_FN (args := [n0]) Tryz.func59 (by kernel_rfl) (by rw [wire_Int.pt_eq] at h; exact h)
theorem wire_Int.up {n0 : Value} {w : World} {K : Value → World → Prop} (h : Calls Tryz.prog F_wire_Int #[n0] w (retK K)) : upK Tryz.prog (sCall F_wire_Int #[n0]) w K :=
  up_call (fn := Tryz.f59) Tryz.func59 (by kernel_rfl) (by kernel_rfl) h

/-- (*strings.Builder).String -/
theorem strings_Builder_String.up {p0 : Value} {w : World} {K : Value → World → Prop} (h : Calls Tryz.prog F_strings_Builder_String #[p0] w (retK K)) : upK Tryz.prog (sCall F_strings_Builder_String #[p0]) w K :=
  up_call (fn := Tryz.f60) Tryz.func60 (by kernel_rfl) (by kernel_rfl) h

/-- errata/errataref01.Num -/
def errataref01_Num.pt (n0 : Value) (w : World) (K : Value → World → Prop) : Prop :=
  pureK Tryz.prog (sBin .lss T_int (.tmp 3) (.const (.int .i64 0)) n0 (.int .i64 0)) fun t4 =>
  ifB t4
  (K (.string ⟨#[]⟩) w)
  (upK Tryz.prog (sCall F_errataref01_Int #[n0]) w fun t6 w1 =>
   K t6 w1)
theorem errataref01_Num.pt_eq : errataref01_Num.pt = fun n0 w K => FN Tryz.prog Tryz.f61 (bodyOf Tryz.f61) [2] .leaf [n0] w K := by kernel_rfl
theorem errataref01_Num.call {n0 : Value} {w : World} {K : Value → World → Prop} (h : errataref01_Num.pt n0 w K) : Calls Tryz.prog F_errataref01_Num #[n0] w (retK K) :=
  calls_FN (args := [n0]) Tryz.func61 (by kernel_rfl) (by rw [errataref01_Num.pt_eq] at h; exact h)
theorem errataref01_Num.up {n0 : Value} {w : World} {K : Value → World → Prop} (h : Calls Tryz.prog F_errataref01_Num #[n0] w (retK K)) : upK Tryz.prog (sCall F_errataref01_Num #[n0]) w K :=
  up_call (fn := Tryz.f61) Tryz.func61 (by kernel_rfl) (by kernel_rfl) h

/-- errata/errataref01.Int -/
def errataref01_Int.pt (n0 : Value) (w : World) (K : Value → World → Prop) : Prop :=
  pureK Tryz.prog (sBin .lss T_int (.tmp 3) (.const (.int .i64 0)) n0 (.int .i64 0)) fun t4 =>
  ifB t4
  (upK Tryz.prog (sCall F_errataref01_digits #[n0]) w fun t6 w1 =>
   pureK Tryz.prog (sBin .add T_string (.const (.string ⟨#[45]⟩)) (.tmp 6) (.string ⟨#[45]⟩) t6) fun t7 =>
   pureK Tryz.prog (sBin .add T_string (.tmp 7) (.const (.string ⟨#[59]⟩)) t7 (.string ⟨#[59]⟩)) fun t8 =>
   K t8 w1)
  (pureK Tryz.prog (sUn .neg n0) fun t10 =>
   upK Tryz.prog (sCall F_errataref01_digits #[t10]) w fun t11 w2 =>
   pureK Tryz.prog (sBin .add T_string (.tmp 11) (.const (.string ⟨#[59]⟩)) t11 (.string ⟨#[59]⟩)) fun t12 =>
   K t12 w2)
theorem errataref01_Int.pt_eq : errataref01_Int.pt = fun n0 w K => FN Tryz.prog Tryz.f62 (bodyOf Tryz.f62) [2] .leaf [n0] w K := by kernel_rfl
theorem errataref01_Int.call {n0 : Value} {w : World} {K : Value → World → Prop} (h : errataref01_Int.pt n0 w K) : Calls Tryz.prog F_errataref01_Int #[n0] w (retK K) :=
  calls_FN (args := [n0]) Tryz.func62 (by kernel_rfl) (by rw [errataref01_Int.pt_eq] at h; exact h)
theorem errataref01_Int.up {n0 : Value} {w : World} {K : Value → World → Prop} (h : Calls Tryz.prog F_errataref01_Int #[n0] w (retK K)) : upK Tryz.prog (sCall F_errataref01_Int #[n0]) w K :=
  up_call (fn := Tryz.f62) Tryz.func62 (by kernel_rfl) (by kernel_rfl) h

/-- errata/replace.set -/
def replace_set.pt (l0 no1 state2 : Value) (w : World) (K : Value → World → Prop) : Prop :=
  readK Tryz.prog (sBlt .len #[T_s_api_Replacement] T_int #[false] #[l0]) w fun t12 =>
  upK Tryz.prog (sCall F_replace_within #[no1, (.int .i64 1), t12]) w fun t13 w1 =>
  pureK Tryz.prog (sUn .not t13) fun t14 =>
  ifB t14
  (K (.tuple #[(.slice none 0 0), (.int .i64 4)]) w1)
  (LETJ (X := Unit) (fun jv1 w2 =>
    upK Tryz.prog (sCall F_slices_Clone_s_api_Replacement_api_Replacement #[l0]) w2 fun t28 w3 =>
    pureK Tryz.prog (sBin .sub T_int (.tmp 30) (.const (.int .i64 1)) no1 (.int .i64 1)) fun t31 =>
    pureK Tryz.prog (sIdxAddr T_s_api_Replacement t28 t31) fun t33 =>
    pureK Tryz.prog (sFieldAddr T_api_Replacement t33 4) fun t34 =>
    upK Tryz.prog (sStore T_int t34 state2) w3 fun tu w4 =>
    K (.tuple #[t28, (.int .i64 0)]) w4)
   (fun J1 =>
    pureK Tryz.prog (sBin .sub T_int (.tmp 16) (.const (.int .i64 1)) no1 (.int .i64 1)) fun t17 =>
    pureK Tryz.prog (sIdxAddr T_s_api_Replacement l0 t17) fun t18 =>
    pureK Tryz.prog (sFieldAddr T_api_Replacement t18 4) fun t19 =>
    readK Tryz.prog (sLoad T_int t19) w1 fun t20 =>
    pureK Tryz.prog (sBin .neq T_int (.tmp 21) (.const (.int .i64 0)) t20 (.int .i64 0)) fun t22 =>
    ifB t22
    (pureK Tryz.prog (sBin .neq T_int (.tmp 24) (.const (.int .i64 1)) t20 (.int .i64 1)) fun t25 =>
     ifB t25
     (K (.tuple #[(.slice none 0 0), (.int .i64 7)]) w1)
     (J1 (()) w1))
    (J1 (()) w1)))
theorem replace_set.pt_eq : replace_set.pt = fun l0 no1 state2 w K => FN Tryz.prog Tryz.f63 (bodyOf Tryz.f63) [6, 7] (.node none .leaf (.node none .leaf (.node (some []) .leaf .leaf))) [l0, no1, state2] w K := by kernel_rfl
theorem replace_set.call {l0 no1 state2 : Value} {w : World} {K : Value → World → Prop} (h : replace_set.pt l0 no1 state2 w K) : Calls Tryz.prog F_replace_set #[l0, no1, state2] w (retK K) :=
  calls_FN (args := [l0, no1, state2]) Tryz.func63 (by kernel_rfl) (by rw [replace_set.pt_eq] at h; exact h)
theorem replace_set.up {l0 no1 state2 : Value} {w : World} {K : Value → World → Prop} (h : Calls Tryz.prog F_replace_set #[l0, no1, state2] w (retK K)) : upK Tryz.prog (sCall F_replace_set #[l0, no1, state2]) w K :=
  up_call (fn := Tryz.f63) Tryz.func63 (by kernel_rfl) (by kernel_rfl) h

/-- slices.Clone[[]errata/api.Seg,errata/api.Seg] -/
def slices_Clone_s_api_Seg_api_Seg.pt (s0 : Value) (w : World) (K : Value → World → Prop) : Prop :=
  pureK Tryz.prog (sBin .eql T_s_api_Seg (.tmp 3) (.const (.slice none 0 0)) s0 (.slice none 0 0)) fun t4 =>
  ifB t4
  (K (.slice none 0 0) w)
  (upK Tryz.prog (sBuildSlice T_s_api_Seg 0 #[]) w fun t5 w1 =>
   upK Tryz.prog (sBlt .append #[T_s_api_Seg, T_s_api_Seg] T_s_api_Seg #[false, false] #[t5, s0]) w1 fun t7 w2 =>
   K t7 w2)
theorem slices_Clone_s_api_Seg_api_Seg.pt_eq : slices_Clone_s_api_Seg_api_Seg.pt = fun s0 w K => FN Tryz.prog Tryz.f64 (bodyOf Tryz.f64) [2] .leaf [s0] w K := by kernel_rfl
theorem slices_Clone_s_api_Seg_api_Seg.call {s0 : Value} {w : World} {K : Value → World → Prop} (h : slices_Clone_s_api_Seg_api_Seg.pt s0 w K) : Calls Tryz.prog F_slices_Clone_s_api_Seg_api_Seg #[s0] w (retK K) :=
  calls_FN (args := [s0]) Tryz.func64 (by kernel_rfl) (by rw [slices_Clone_s_api_Seg_api_Seg.pt_eq] at h; exact h)
theorem slices_Clone_s_api_Seg_api_Seg.up {s0 : Value} {w : World} {K : Value → World → Prop} (h : Calls Tryz.prog F_slices_Clone_s_api_Seg_api_Seg #[s0] w (retK K)) : upK Tryz.prog (sCall F_slices_Clone_s_api_Seg_api_Seg #[s0]) w K :=
  up_call (fn := Tryz.f64) Tryz.func64 (by kernel_rfl) (by kernel_rfl) h

/-- errata/timeline.Replace -/
def timeline_Replace.pt (l0 from1 version2 : Value) (w : World) (K : Value → World → Prop) : Prop :=
  pureK Tryz.prog (sBin .lss T_int (.tmp 9) (.const (.int .i64 0)) from1 (.int .i64 0)) fun t10 =>
  ifB t10
  (K (.tuple #[(.slice none 0 0), (.int .i64 3)]) w)
  (pureK Tryz.prog (sBin .gtr T_int (.tmp 12) (.const (.int .i64 1099511627776)) from1 (.int .i64 1099511627776)) fun t13 =>
   ifB t13
   (K (.tuple #[(.slice none 0 0), (.int .i64 3)]) w)
   (pureK Tryz.prog (sBin .lss T_int (.tmp 16) (.const (.int .i64 1)) version2 (.int .i64 1)) fun t17 =>
    ifB t17
    (K (.tuple #[(.slice none 0 0), (.int .i64 3)]) w)
    (pureK Tryz.prog (sBin .gtr T_int (.tmp 20) (.const (.int .i64 50)) version2 (.int .i64 50)) fun t21 =>
     ifB t21
     (K (.tuple #[(.slice none 0 0), (.int .i64 3)]) w)
     (pureK Tryz.prog (sBin .sub T_int (.tmp 25) (.const (.int .i64 1)) from1 (.int .i64 1)) fun t26 =>
      upK Tryz.prog (sCall F_timeline_behind #[l0, t26]) w fun t27 w1 =>
      pureK Tryz.prog (sSlice T_s_api_Seg l0 none (some t27) none) fun t28 =>
      upK Tryz.prog (sCall F_slices_Clone_s_api_Seg_api_Seg #[t28]) w1 fun t29 w2 =>
      LETJ (X := Value × Unit) (fun jv1 w3 =>
       K (.tuple #[jv1.1, (.int .i64 0)]) w3)
      (fun J1 =>
       readK Tryz.prog (sBlt .len #[T_s_api_Seg] T_int #[false] #[t29]) w2 fun t31 =>
       pureK Tryz.prog (sBin .eql T_int (.tmp 31) (.const (.int .i64 0)) t31 (.int .i64 0)) fun t32 =>
       ifB t32
       (pureK Tryz.prog (sBuild T_api_Seg #[(0, from1), (1, version2)]) fun t47 =>
        upK Tryz.prog (sBuildSlice T_s_api_Seg 1 #[(0, t47)]) w2 fun t48 w4 =>
        upK Tryz.prog (sBlt .append #[T_s_api_Seg, T_s_api_Seg] T_s_api_Seg #[false, false] #[t29, t48]) w4 fun t49 w5 =>
        J1 (t49, ()) w5)
       (readK Tryz.prog (sBlt .len #[T_s_api_Seg] T_int #[false] #[t29]) w2 fun t36 =>
        pureK Tryz.prog (sBin .sub T_int (.tmp 36) (.const (.int .i64 1)) t36 (.int .i64 1)) fun t37 =>
        pureK Tryz.prog (sIdxAddr T_s_api_Seg t29 t37) fun t38 =>
        pureK Tryz.prog (sFieldAddr T_api_Seg t38 1) fun t39 =>
        readK Tryz.prog (sLoad T_int t39) w2 fun t40 =>
        pureK Tryz.prog (sBin .neq T_int (.tmp 40) (.tmp 41) t40 version2) fun t42 =>
        ifB t42
        (pureK Tryz.prog (sBuild T_api_Seg #[(0, from1), (1, version2)]) fun t47_1 =>
         upK Tryz.prog (sBuildSlice T_s_api_Seg 1 #[(0, t47_1)]) w2 fun t48_1 w6 =>
         upK Tryz.prog (sBlt .append #[T_s_api_Seg, T_s_api_Seg] T_s_api_Seg #[false, false] #[t29, t48_1]) w6 fun t49_1 w7 =>
         J1 (t49_1, ()) w7)
        (J1 (t29, ()) w2)))))))
theorem timeline_Replace.pt_eq : timeline_Replace.pt = fun l0 from1 version2 w K => FN Tryz.prog Tryz.f65 (bodyOf Tryz.f65) [6, 7] (.node none .leaf (.node none .leaf (.node none .leaf (.node (some [8]) .leaf .leaf)))) [l0, from1, version2] w K := by kernel_rfl
theorem timeline_Replace.call {l0 from1 version2 : Value} {w : World} {K : Value → World → Prop} (h : timeline_Replace.pt l0 from1 version2 w K) : Calls Tryz.prog F_timeline_Replace #[l0, from1, version2] w (retK K) :=
  calls_FN (args := [l0, from1, version2]) Tryz.func65 (by kernel_rfl) (by rw [timeline_Replace.pt_eq] at h; exact h)
theorem timeline_Replace.up {l0 from1 version2 : Value} {w : World} {K : Value → World → Prop} (h : Calls Tryz.prog F_timeline_Replace #[l0, from1, version2] w (retK K)) : upK Tryz.prog (sCall F_timeline_Replace #[l0, from1, version2]) w K :=
  up_call (fn := Tryz.f65) Tryz.func65 (by kernel_rfl) (by kernel_rfl) h

/-- (*errata/wire.Reader).number -/
def wire_Reader_number.pt (r0 end1 least2 : Value) (w : World) (K : Value → World → Prop) : Prop :=
  pureK Tryz.prog (sNil r0) fun t12 =>
  pureK Tryz.prog (sFieldAddr T_wire_Reader t12 0) fun t13 =>
  readK Tryz.prog (sLoad T_string t13) (tick w) fun t14 =>
  pureK Tryz.prog (sNil r0) fun t16 =>
  pureK Tryz.prog (sFieldAddr T_wire_Reader t16 0) fun t17 =>
  readK Tryz.prog (sLoad T_string t17) (tick w) fun t18 =>
  readK Tryz.prog (sBlt .len #[T_string] T_int #[false] #[t18]) (tick w) fun t19 =>
  pureK Tryz.prog (sBlt .min #[T_int, T_int] T_int #[false, true] #[t19, (.int .i64 21)]) fun t20 =>
  pureK Tryz.prog (sSlice T_string t14 none (some t20) none) fun t21 =>
  upK Tryz.prog (sCall F_strings_IndexByte #[t21, end1]) (tick w) fun t24 w1 =>
  pureK Tryz.prog (sBin .lss T_int (.tmp 25) (.const (.int .i64 0)) t24 (.int .i64 0)) fun t26 =>
  ifB t26
  (upK Tryz.prog (sCall F_wire_Reader_fail #[r0]) w1 fun t28 w2 =>
   K (.int .i64 0) w2)
  (pureK Tryz.prog (sSlice T_string t21 none (some t24) none) fun t32 =>
   upK Tryz.prog (sCall F_strconv_Atoi #[t32]) w1 fun t33 w3 =>
   pureK Tryz.prog (sExtract t33 0) fun t34 =>
   pureK Tryz.prog (sExtract t33 1) fun t35 =>
   pureK Tryz.prog (sBin .neq T_error (.tmp 36) (.const .nilIface) t35 .nilIface) fun t37 =>
   ifB t37
   (upK Tryz.prog (sCall F_wire_Reader_fail #[r0]) (tick w3) fun t52 w4 =>
    K (.int .i64 0) w4)
   (pureK Tryz.prog (sSlice T_string t21 none (some t24) none) fun t43 =>
    upK Tryz.prog (sCall F_strconv_Itoa #[t34]) (tick w3) fun t40 w5 =>
    pureK Tryz.prog (sBin .neq T_string (.tmp 40) (.tmp 43) t40 t43) fun t44 =>
    ifB t44
    (upK Tryz.prog (sCall F_wire_Reader_fail #[r0]) w5 fun t52_1 w6 =>
     K (.int .i64 0) w6)
    (pureK Tryz.prog (sBin .lss T_int (.tmp 47) (.tmp 48) t34 least2) fun t49 =>
     ifB t49
     (upK Tryz.prog (sCall F_wire_Reader_fail #[r0]) w5 fun t52_2 w7 =>
      K (.int .i64 0) w7)
     (pureK Tryz.prog (sNil r0) fun t55 =>
      pureK Tryz.prog (sFieldAddr T_wire_Reader t55 0) fun t56 =>
      readK Tryz.prog (sLoad T_string t56) w5 fun t57 =>
      pureK Tryz.prog (sBin .add T_int (.tmp 58) (.const (.int .i64 1)) t24 (.int .i64 1)) fun t59 =>
      pureK Tryz.prog (sSlice T_string t57 (some t59) none none) fun t60 =>
      pureK Tryz.prog (sNil r0) fun t61 =>
      pureK Tryz.prog (sFieldAddr T_wire_Reader t61 0) fun t62 =>
      upK Tryz.prog (sStore T_string t62 t60) w5 fun tu w8 =>
      K t34 w8))))
theorem wire_Reader_number.pt_eq : wire_Reader_number.pt = fun r0 end1 least2 w K => FN Tryz.prog Tryz.f66 (bodyOf Tryz.f66) [6] .leaf [r0, end1, least2] w K := by kernel_rfl
theorem wire_Reader_number.call {r0 end1 least2 : Value} {w : World} {K : Value → World → Prop} (h : wire_Reader_number.pt r0 end1 least2 w K) : Calls Tryz.prog F_wire_Reader_number #[r0, end1, least2] w (retK K) :=
  calls_FN (args := [r0, end1, least2]) Tryz.func66 (by kernel_rfl) (by rw [wire_Reader_number.pt_eq] at h; exact h)
theorem wire_Reader_number.up {r0 end1 least2 : Value} {w : World} {K : Value → World → Prop} (h : Calls Tryz.prog F_wire_Reader_number #[r0, end1, least2] w (retK K)) : upK Tryz.prog (sCall F_wire_Reader_number #[r0, end1, least2]) w K :=
  up_call (fn := Tryz.f66) Tryz.func66 (by kernel_rfl) (by kernel_rfl) h

/-- (*errata/errataref01.Reader).number -/
def errataref01_Reader_number.pt (r0 end1 : Value) (w : World) (K : Value → World → Prop) : Prop :=
  upK Tryz.prog (sCall F_errataref01_Reader_ahead #[r0, end1]) w fun t8 w1 =>
  pureK Tryz.prog (sBin .lss T_int (.tmp 9) (.const (.int .i64 0)) t8 (.int .i64 0)) fun t10 =>
  ifB t10
  (upK Tryz.prog (sCall F_errataref01_Reader_fail #[r0]) w1 fun t12 w2 =>
   K t12 w2)
  (K t8 w1)
theorem errataref01_Reader_number.pt_eq : errataref01_Reader_number.pt = fun r0 end1 w K => FN Tryz.prog Tryz.f67 (bodyOf Tryz.f67) [4] .leaf [r0, end1] w K := by kernel_rfl
theorem errataref01_Reader_number.call {r0 end1 : Value} {w : World} {K : Value → World → Prop} (h : errataref01_Reader_number.pt r0 end1 w K) : Calls Tryz.prog F_errataref01_Reader_number #[r0, end1] w (retK K) :=
  calls_FN (args := [r0, end1]) Tryz.func67 (by kernel_rfl) (by rw [errataref01_Reader_number.pt_eq] at h; exact h)
theorem errataref01_Reader_number.up {r0 end1 : Value} {w : World} {K : Value → World → Prop} (h : Calls Tryz.prog F_errataref01_Reader_number #[r0, end1] w (retK K)) : upK Tryz.prog (sCall F_errataref01_Reader_number #[r0, end1]) w K :=
  up_call (fn := Tryz.f67) Tryz.func67 (by kernel_rfl) (by kernel_rfl) h

/-- (*errata/errataref01.Reader).ahead -/
def errataref01_Reader_ahead.pt (r0 end1 : Value) (w : World) (K : Value → World → Prop) : Prop :=
  LETJ (X := Value × Unit) (fun jv1 w1 =>
   pureK Tryz.prog (sNil r0) fun t33 =>
   pureK Tryz.prog (sFieldAddr T_errataref01_Reader t33 0) fun t34 =>
   readK Tryz.prog (sLoad T_string t34) w1 fun t35 =>
   readK Tryz.prog (sBlt .len #[T_string] T_int #[false] #[t35]) w1 fun t36 =>
   pureK Tryz.prog (sBin .geq T_int (.tmp 31) (.tmp 36) jv1.1 t36) fun t37 =>
   ifB t37
   (upK Tryz.prog (sCall F_errataref01_Reader_fail #[r0]) w1 fun t39 w2 =>
    K t39 w2)
   (pureK Tryz.prog (sNil r0) fun t41 =>
    pureK Tryz.prog (sFieldAddr T_errataref01_Reader t41 0) fun t42 =>
    readK Tryz.prog (sLoad T_string t42) w1 fun t43 =>
    pureK Tryz.prog (sIdx T_string t43 jv1.1) fun t45 =>
    pureK Tryz.prog (sBin .neq T_uint8 (.tmp 45) (.tmp 46) t45 end1) fun t47 =>
    ifB t47
    (upK Tryz.prog (sCall F_errataref01_Reader_fail #[r0]) w1 fun t49 w3 =>
     K t49 w3)
    (pureK Tryz.prog (sNil r0) fun t52 =>
     pureK Tryz.prog (sFieldAddr T_errataref01_Reader t52 0) fun t53 =>
     readK Tryz.prog (sLoad T_string t53) w1 fun t54 =>
     pureK Tryz.prog (sSlice T_string t54 none (some jv1.1) none) fun t56 =>
     upK Tryz.prog (sCall F_errataref01_Back #[t56]) w1 fun t57 w4 =>
     pureK Tryz.prog (sExtract t57 0) fun t58 =>
     pureK Tryz.prog (sExtract t57 1) fun t59 =>
     pureK Tryz.prog (sUn .not t59) fun t61 =>
     ifB t61
     (upK Tryz.prog (sCall F_errataref01_Reader_fail #[r0]) w4 fun t63 w5 =>
      K t63 w5)
     (pureK Tryz.prog (sNil r0) fun t66 =>
      pureK Tryz.prog (sFieldAddr T_errataref01_Reader t66 0) fun t67 =>
      readK Tryz.prog (sLoad T_string t67) w4 fun t68 =>
      pureK Tryz.prog (sBin .add T_int (.tmp 69) (.const (.int .i64 1)) jv1.1 (.int .i64 1)) fun t70 =>
      pureK Tryz.prog (sSlice T_string t68 (some t70) none none) fun t71 =>
      pureK Tryz.prog (sNil r0) fun t72 =>
      pureK Tryz.prog (sFieldAddr T_errataref01_Reader t72 0) fun t73 =>
      upK Tryz.prog (sStore T_string t73 t71) w4 fun tu w6 =>
      K t58 w6))))
  (fun J1 =>
   LOOP (X := Value × Unit) (fun lv7 w7 next7 =>
    pureK Tryz.prog (sNil r0) fun t10 =>
    pureK Tryz.prog (sFieldAddr T_errataref01_Reader t10 0) fun t11 =>
    readK Tryz.prog (sLoad T_string t11) w7 fun t12 =>
    readK Tryz.prog (sBlt .len #[T_string] T_int #[false] #[t12]) w7 fun t13 =>
    pureK Tryz.prog (sBin .lss T_int (.tmp 8) (.tmp 13) lv7.1 t13) fun t14 =>
    ifB t14
    (pureK Tryz.prog (sBin .lss T_int (.tmp 16) (.const (.int .i64 21)) lv7.1 (.int .i64 21)) fun t17 =>
     ifB t17
     (pureK Tryz.prog (sNil r0) fun t21 =>
      pureK Tryz.prog (sFieldAddr T_errataref01_Reader t21 0) fun t22 =>
      readK Tryz.prog (sLoad T_string t22) w7 fun t23 =>
      pureK Tryz.prog (sIdx T_string t23 lv7.1) fun t25 =>
      pureK Tryz.prog (sBin .neq T_uint8 (.tmp 25) (.tmp 26) t25 end1) fun t27 =>
      ifB t27
      (pureK Tryz.prog (sBin .add T_int (.tmp 29) (.const (.int .i64 1)) lv7.1 (.int .i64 1)) fun t30 =>
       next7 (t30, ()) w7)
      (J1 (lv7.1, ()) w7))
     (J1 (lv7.1, ()) w7))
    (J1 (lv7.1, ()) w7))
   ((.int .i64 0), ()) w)
theorem errataref01_Reader_ahead.pt_eq : errataref01_Reader_ahead.pt = fun r0 end1 w K => FN Tryz.prog Tryz.f68 (bodyOf Tryz.f68) [4] (.node none .leaf (.node none .leaf (.node (some [5]) .leaf .leaf))) [r0, end1] w K := by kernel_rfl
theorem errataref01_Reader_ahead.call {r0 end1 : Value} {w : World} {K : Value → World → Prop} (h : errataref01_Reader_ahead.pt r0 end1 w K) : Calls Tryz.prog F_errataref01_Reader_ahead #[r0, end1] w (retK K) :=
  calls_FN (args := [r0, end1]) Tryz.func68 (by kernel_rfl) (by rw [errataref01_Reader_ahead.pt_eq] at h; exact h)
theorem errataref01_Reader_ahead.up {r0 end1 : Value} {w : World} {K : Value → World → Prop} (h : Calls Tryz.prog F_errataref01_Reader_ahead #[r0, end1] w (retK K)) : upK Tryz.prog (sCall F_errataref01_Reader_ahead #[r0, end1]) w K :=
  up_call (fn := Tryz.f68) Tryz.func68 (by kernel_rfl) (by kernel_rfl) h

/-- errata/errataref47.within -/
def errataref47_within.pt (n0 : Value) (w : World) (K : Value → World → Prop) : Prop :=
  pureK Tryz.prog (sBin .geq T_int (.tmp 3) (.const (.int .i64 0)) n0 (.int .i64 0)) fun t4 =>
  ifB t4
  (pureK Tryz.prog (sBin .leq T_int (.tmp 6) (.const (.int .i64 1099511627776)) n0 (.int .i64 1099511627776)) fun t7 =>
   K t7 w)
  (K (.bool false) w)
theorem errataref47_within.pt_eq : errataref47_within.pt = fun n0 w K => FN Tryz.prog Tryz.f69 (bodyOf Tryz.f69) [2] .leaf [n0] w K := by kernel_rfl
theorem errataref47_within.call {n0 : Value} {w : World} {K : Value → World → Prop} (h : errataref47_within.pt n0 w K) : Calls Tryz.prog F_errataref47_within #[n0] w (retK K) :=
  calls_FN (args := [n0]) Tryz.func69 (by kernel_rfl) (by rw [errataref47_within.pt_eq] at h; exact h)
theorem errataref47_within.up {n0 : Value} {w : World} {K : Value → World → Prop} (h : Calls Tryz.prog F_errataref47_within #[n0] w (retK K)) : upK Tryz.prog (sCall F_errataref47_within #[n0]) w K :=
  up_call (fn := Tryz.f69) Tryz.func69 (by kernel_rfl) (by kernel_rfl) h

/-- errata/errataref47.set -/
def errataref47_set.pt (l0 no1 state2 : Value) (w : World) (K : Value → World → Prop) : Prop :=
  pureK Tryz.prog (sBin .lss T_int (.tmp 10) (.const (.int .i64 1)) no1 (.int .i64 1)) fun t11 =>
  ifB t11
  (K (.tuple #[(.slice none 0 0), (.int .i64 4)]) w)
  (readK Tryz.prog (sBlt .len #[T_s_api_Replacement] T_int #[false] #[l0]) w fun t15 =>
   pureK Tryz.prog (sBin .gtr T_int (.tmp 13) (.tmp 15) no1 t15) fun t16 =>
   ifB t16
   (K (.tuple #[(.slice none 0 0), (.int .i64 4)]) w)
   (pureK Tryz.prog (sBin .sub T_int (.tmp 19) (.const (.int .i64 1)) no1 (.int .i64 1)) fun t20 =>
    pureK Tryz.prog (sIdxAddr T_s_api_Replacement l0 t20) fun t21 =>
    pureK Tryz.prog (sFieldAddr T_api_Replacement t21 4) fun t22 =>
    readK Tryz.prog (sLoad T_int t22) w fun t23 =>
    LETJ (X := Unit) (fun jv1 w1 =>
     upK Tryz.prog (sBuildSlice T_s_api_Replacement 0 #[]) w1 fun t30 w2 =>
     upK Tryz.prog (sBlt .append #[T_s_api_Replacement, T_s_api_Replacement] T_s_api_Replacement #[false, false] #[t30, l0]) w2 fun t32 w3 =>
     pureK Tryz.prog (sBin .sub T_int (.tmp 34) (.const (.int .i64 1)) no1 (.int .i64 1)) fun t35 =>
     pureK Tryz.prog (sIdxAddr T_s_api_Replacement t32 t35) fun t37 =>
     pureK Tryz.prog (sFieldAddr T_api_Replacement t37 4) fun t38 =>
     upK Tryz.prog (sStore T_int t38 state2) w3 fun tu w4 =>
     K (.tuple #[t32, (.int .i64 0)]) w4)
    (fun J1 =>
     pureK Tryz.prog (sBin .neq T_int (.tmp 24) (.const (.int .i64 0)) t23 (.int .i64 0)) fun t25 =>
     ifB t25
     (pureK Tryz.prog (sBin .neq T_int (.tmp 27) (.const (.int .i64 1)) t23 (.int .i64 1)) fun t28 =>
      ifB t28
      (K (.tuple #[(.slice none 0 0), (.int .i64 7)]) w)
      (J1 (()) w))
     (J1 (()) w))))
theorem errataref47_set.pt_eq : errataref47_set.pt = fun l0 no1 state2 w K => FN Tryz.prog Tryz.f70 (bodyOf Tryz.f70) [6, 7] (.node none .leaf (.node none .leaf (.node none .leaf (.node (some []) .leaf .leaf)))) [l0, no1, state2] w K := by kernel_rfl
theorem errataref47_set.call {l0 no1 state2 : Value} {w : World} {K : Value → World → Prop} (h : errataref47_set.pt l0 no1 state2 w K) : Calls Tryz.prog F_errataref47_set #[l0, no1, state2] w (retK K) :=
  calls_FN (args := [l0, no1, state2]) Tryz.func70 (by kernel_rfl) (by rw [errataref47_set.pt_eq] at h; exact h)
theorem errataref47_set.up {l0 no1 state2 : Value} {w : World} {K : Value → World → Prop} (h : Calls Tryz.prog F_errataref47_set #[l0, no1, state2] w (retK K)) : upK Tryz.prog (sCall F_errataref47_set #[l0, no1, state2]) w K :=
  up_call (fn := Tryz.f70) Tryz.func70 (by kernel_rfl) (by kernel_rfl) h

/-- errata/errataref45.Replace -/
def errataref45_Replace.pt (l0 from1 version2 : Value) (w : World) (K : Value → World → Prop) : Prop :=
  pureK Tryz.prog (sBin .lss T_int (.tmp 11) (.const (.int .i64 0)) from1 (.int .i64 0)) fun t12 =>
  ifB t12
  (K (.tuple #[(.slice none 0 0), (.int .i64 3)]) w)
  (pureK Tryz.prog (sBin .gtr T_int (.tmp 14) (.const (.int .i64 1099511627776)) from1 (.int .i64 1099511627776)) fun t15 =>
   ifB t15
   (K (.tuple #[(.slice none 0 0), (.int .i64 3)]) w)
   (pureK Tryz.prog (sBin .lss T_int (.tmp 18) (.const (.int .i64 1)) version2 (.int .i64 1)) fun t19 =>
    ifB t19
    (K (.tuple #[(.slice none 0 0), (.int .i64 3)]) w)
    (pureK Tryz.prog (sBin .gtr T_int (.tmp 22) (.const (.int .i64 50)) version2 (.int .i64 50)) fun t23 =>
     ifB t23
     (K (.tuple #[(.slice none 0 0), (.int .i64 3)]) w)
     (LOOP (X := Value × Value × Value × Unit) (fun lv1 w1 next1 =>
       readK Tryz.prog (sBlt .len #[T_s_api_Seg] T_int #[false] #[l0]) w1 fun t27 =>
       pureK Tryz.prog (sBin .lss T_int (.tmp 25) (.tmp 27) lv1.2.2.1 t27) fun t28 =>
       ifB t28
       (LETJ (X := Value × Value × Unit) (fun jv1 w2 =>
         pureK Tryz.prog (sBin .add T_int (.tmp 29) (.const (.int .i64 1)) lv1.2.2.1 (.int .i64 1)) fun t30 =>
         next1 (jv1.1, jv1.2.1, t30, ()) w2)
        (fun J1 =>
         pureK Tryz.prog (sIdxAddr T_s_api_Seg l0 lv1.2.2.1) fun t33 =>
         pureK Tryz.prog (sFieldAddr T_api_Seg t33 0) fun t34 =>
         readK Tryz.prog (sLoad T_int t34) w1 fun t35 =>
         pureK Tryz.prog (sBin .lss T_int (.tmp 35) (.tmp 36) t35 from1) fun t37 =>
         ifB t37
         (pureK Tryz.prog (sIdxAddr T_s_api_Seg l0 lv1.2.2.1) fun t41 =>
          readK Tryz.prog (sLoad T_api_Seg t41) w1 fun t42 =>
          upK Tryz.prog (sBuildSlice T_s_api_Seg 1 #[(0, t42)]) w1 fun t43 w3 =>
          upK Tryz.prog (sBlt .append #[T_s_api_Seg, T_s_api_Seg] T_s_api_Seg #[false, false] #[lv1.1, t43]) w3 fun t44 w4 =>
          pureK Tryz.prog (sIdxAddr T_s_api_Seg l0 lv1.2.2.1) fun t47 =>
          pureK Tryz.prog (sFieldAddr T_api_Seg t47 1) fun t48 =>
          readK Tryz.prog (sLoad T_int t48) w4 fun t49 =>
          J1 (t44, t49, ()) w4)
         (J1 (lv1.1, lv1.2.1, ()) w1)))
       (LETJ (X := Value × Unit) (fun jv2 w5 =>
         K (.tuple #[jv2.1, (.int .i64 0)]) w5)
        (fun J2 =>
         pureK Tryz.prog (sBin .neq T_int (.tmp 50) (.tmp 51) lv1.2.1 version2) fun t52 =>
         ifB t52
         (pureK Tryz.prog (sBuild T_api_Seg #[(0, from1), (1, version2)]) fun t56 =>
          upK Tryz.prog (sBuildSlice T_s_api_Seg 1 #[(0, t56)]) w1 fun t57 w6 =>
          upK Tryz.prog (sBlt .append #[T_s_api_Seg, T_s_api_Seg] T_s_api_Seg #[false, false] #[lv1.1, t57]) w6 fun t58 w7 =>
          J2 (t58, ()) w7)
         (J2 (lv1.1, ()) w1))))
      ((.slice none 0 0), (.int .i64 0), (.int .i64 0), ()) w))))
theorem errataref45_Replace.pt_eq : errataref45_Replace.pt = fun l0 from1 version2 w K => FN Tryz.prog Tryz.f71 (bodyOf Tryz.f71) [6, 7] (.node none .leaf (.node none .leaf (.node none .leaf (.node none .leaf (.node none (.node none .leaf (.node none (.node none (.node none .leaf (.node (some [8, 9]) .leaf .leaf)) .leaf) .leaf)) (.node (some [8]) .leaf .leaf)))))) [l0, from1, version2] w K := by kernel_rfl
theorem errataref45_Replace.call {l0 from1 version2 : Value} {w : World} {K : Value → World → Prop} (h : errataref45_Replace.pt l0 from1 version2 w K) : Calls Tryz.prog F_errataref45_Replace #[l0, from1, version2] w (retK K) :=
  calls_FN (args := [l0, from1, version2]) Tryz.func71 (by kernel_rfl) (by rw [errataref45_Replace.pt_eq] at h; exact h)
theorem errataref45_Replace.up {l0 from1 version2 : Value} {w : World} {K : Value → World → Prop} (h : Calls Tryz.prog F_errataref45_Replace #[l0, from1, version2] w (retK K)) : upK Tryz.prog (sCall F_errataref45_Replace #[l0, from1, version2]) w K :=
  up_call (fn := Tryz.f71) Tryz.func71 (by kernel_rfl) (by kernel_rfl) h

/-- slices.IndexFunc[[]errata/api.Replacement,errata/api.Replacement] -/
def slices_IndexFunc_s_api_Replacement_api_Replacement.pt (s0 f1 : Value) (w : World) (K : Value → World → Prop) : Prop :=
  readK Tryz.prog (sBlt .len #[T_s_api_Replacement] T_int #[false] #[s0]) w fun t7 =>
  LOOP (X := Value × Unit) (fun lv1 w1 next1 =>
   pureK Tryz.prog (sBin .lss T_int (.tmp 8) (.tmp 7) lv1.1 t7) fun t9 =>
   ifB t9
   (pureK Tryz.prog (sIdxAddr T_s_api_Replacement s0 lv1.1) fun t14 =>
    readK Tryz.prog (sLoad T_api_Replacement t14) w1 fun t15 =>
    upK Tryz.prog (sCallV f1 #[t15]) w1 fun t16 w2 =>
    ifB t16
    (K lv1.1 w2)
    (pureK Tryz.prog (sBin .add T_int (.tmp 8) (.const (.int .i64 1)) lv1.1 (.int .i64 1)) fun t18 =>
     next1 (t18, ()) w2))
   (K (.int .i64 (-1)) w1))
  ((.int .i64 0), ()) w
theorem slices_IndexFunc_s_api_Replacement_api_Replacement.pt_eq : slices_IndexFunc_s_api_Replacement_api_Replacement.pt = fun s0 f1 w K => FN Tryz.prog Tryz.f72 (bodyOf Tryz.f72) [4] .leaf [s0, f1] w K := by kernel_rfl
theorem slices_IndexFunc_s_api_Replacement_api_Replacement.call {s0 f1 : Value} {w : World} {K : Value → World → Prop} (h : slices_IndexFunc_s_api_Replacement_api_Replacement.pt s0 f1 w K) : Calls Tryz.prog F_slices_IndexFunc_s_api_Replacement_api_Replacement #[s0, f1] w (retK K) :=
  calls_FN (args := [s0, f1]) Tryz.func72 (by kernel_rfl) (by rw [slices_IndexFunc_s_api_Replacement_api_Replacement.pt_eq] at h; exact h)
theorem slices_IndexFunc_s_api_Replacement_api_Replacement.up {s0 f1 : Value} {w : World} {K : Value → World → Prop} (h : Calls Tryz.prog F_slices_IndexFunc_s_api_Replacement_api_Replacement #[s0, f1] w (retK K)) : upK Tryz.prog (sCall F_slices_IndexFunc_s_api_Replacement_api_Replacement #[s0, f1]) w K :=
  up_call (fn := Tryz.f72) Tryz.func72 (by kernel_rfl) (by kernel_rfl) h

/-- errata/timeline.behind -/
def timeline_behind.pt (l0 time1 : Value) (w : World) (K : Value → World → Prop) : Prop :=
  upK Tryz.prog (sBox T_s_api_Seg l0) w fun l2 w1 =>
  upK Tryz.prog (sBox T_int time1) w1 fun time3 w2 =>
  readK Tryz.prog (sLoad T_s_api_Seg l2) w2 fun t5 =>
  readK Tryz.prog (sBlt .len #[T_s_api_Seg] T_int #[false] #[t5]) w2 fun t6 =>
  pureK Tryz.prog (sMkFunc (.func F_timeline_behind_1) #[] #[l2, time3]) fun t7 =>
  upK Tryz.prog (sCall F_sort_Search #[t6, t7]) w2 fun t8 w3 =>
  K t8 w3
theorem timeline_behind.pt_eq : timeline_behind.pt = fun l0 time1 w K => FN Tryz.prog Tryz.f73 (bodyOf Tryz.f73) [4] .leaf [l0, time1] w K := by kernel_rfl
theorem timeline_behind.call {l0 time1 : Value} {w : World} {K : Value → World → Prop} (h : timeline_behind.pt l0 time1 w K) : Calls Tryz.prog F_timeline_behind #[l0, time1] w (retK K) :=
  calls_FN (args := [l0, time1]) Tryz.func73 (by kernel_rfl) (by rw [timeline_behind.pt_eq] at h; exact h)
theorem timeline_behind.up {l0 time1 : Value} {w : World} {K : Value → World → Prop} (h : Calls Tryz.prog F_timeline_behind #[l0, time1] w (retK K)) : upK Tryz.prog (sCall F_timeline_behind #[l0, time1]) w K :=
  up_call (fn := Tryz.f73) Tryz.func73 (by kernel_rfl) (by kernel_rfl) h

/-- errata/timeline.versions -/
def timeline_versions.pt (l0 : Value) (w : World) (K : Value → World → Prop) : Prop :=
  readK Tryz.prog (sBlt .len #[T_s_api_Seg] T_int #[false] #[l0]) w fun t7 =>
  LOOP (X := Value × Value × Unit) (fun lv1 w1 next1 =>
   pureK Tryz.prog (sBin .lss T_int (.tmp 8) (.tmp 7) lv1.2.1 t7) fun t9 =>
   ifB t9
   (pureK Tryz.prog (sIdxAddr T_s_api_Seg l0 lv1.2.1) fun t10 =>
    readK Tryz.prog (sLoad T_api_Seg t10) w1 fun t11 =>
    upK Tryz.prog (sAlloc T_api_Seg) w1 fun s5 w2 =>
    upK Tryz.prog (sStore T_api_Seg s5 t11) w2 fun tu w3 =>
    pureK Tryz.prog (sFieldAddr T_api_Seg s5 1) fun t13 =>
    readK Tryz.prog (sLoad T_int t13) w3 fun t14 =>
    upK Tryz.prog (sBuildSlice T_s_int 1 #[(0, t14)]) w3 fun t15 w4 =>
    upK Tryz.prog (sBlt .append #[T_s_int, T_s_int] T_s_int #[false, false] #[lv1.1, t15]) w4 fun t16 w5 =>
    pureK Tryz.prog (sBin .add T_int (.tmp 8) (.const (.int .i64 1)) lv1.2.1 (.int .i64 1)) fun t17 =>
    next1 (t16, t17, ()) w5)
   (upK Tryz.prog (sCall F_slices_Sort_s_int_int #[lv1.1]) w1 fun t19 w6 =>
    upK Tryz.prog (sCall F_slices_Compact_s_int_int #[lv1.1]) w6 fun t21 w7 =>
    K t21 w7))
  ((.slice none 0 0), (.int .i64 0), ()) w
theorem timeline_versions.pt_eq : timeline_versions.pt = fun l0 w K => FN Tryz.prog Tryz.f74 (bodyOf Tryz.f74) [2] .leaf [l0] w K := by kernel_rfl
theorem timeline_versions.call {l0 : Value} {w : World} {K : Value → World → Prop} (h : timeline_versions.pt l0 w K) : Calls Tryz.prog F_timeline_versions #[l0] w (retK K) :=
  calls_FN (args := [l0]) Tryz.func74 (by kernel_rfl) (by rw [timeline_versions.pt_eq] at h; exact h)
theorem timeline_versions.up {l0 : Value} {w : World} {K : Value → World → Prop} (h : Calls Tryz.prog F_timeline_versions #[l0] w (retK K)) : upK Tryz.prog (sCall F_timeline_versions #[l0]) w K :=
  up_call (fn := Tryz.f74) Tryz.func74 (by kernel_rfl) (by kernel_rfl) h

/-- slices.pdqsortOrdered[int] -/
def slices_pdqsortOrdered_int.pt (data0 a1 b2 limit3 : Value) (w : World) (K : Value → World → Prop) : Prop :=
  LOOP (X := Value × Value × Value × Value × Value × Unit) (fun lv1 w1 next1 =>
   pureK Tryz.prog (sBin .sub T_int (.tmp 19) (.tmp 20) lv1.2.2.2.2.1 lv1.2.1) fun t21 =>
   pureK Tryz.prog (sBin .leq T_int (.tmp 22) (.const (.int .i64 12)) t21 (.int .i64 12)) fun t23 =>
   ifB t23
   (upK Tryz.prog (sCall F_slices_insertionSortOrdered_int #[data0, lv1.2.1, lv1.2.2.2.2.1]) w1 fun t27 w2 =>
    K (.tuple #[]) w2)
   (pureK Tryz.prog (sBin .eql T_int (.tmp 28) (.const (.int .i64 0)) lv1.1 (.int .i64 0)) fun t29 =>
    ifB t29
    (upK Tryz.prog (sCall F_slices_heapSortOrdered_int #[data0, lv1.2.1, lv1.2.2.2.2.1]) w1 fun t33 w3 =>
     K (.tuple #[]) w3)
    (LETJ (X := Value × Unit) (fun jv1 w4 =>
      upK Tryz.prog (sCall F_slices_choosePivotOrdered_int #[data0, lv1.2.1, lv1.2.2.2.2.1]) w4 fun t46 w5 =>
      pureK Tryz.prog (sExtract t46 0) fun t47 =>
      pureK Tryz.prog (sExtract t46 1) fun t48 =>
      LETJ (X := Value × Value × Unit) (fun jv2 w6 =>
       LETJ (X := Unit) (fun jv3 w7 =>
        LETJ (X := Value × Unit) (fun jv4 w8 =>
         upK Tryz.prog (sCall F_slices_partitionOrdered_int #[data0, jv4.1, lv1.2.2.2.2.1, jv2.1]) w8 fun t99 w9 =>
         pureK Tryz.prog (sExtract t99 0) fun t100 =>
         pureK Tryz.prog (sExtract t99 1) fun t101 =>
         pureK Tryz.prog (sBin .sub T_int (.tmp 103) (.tmp 104) t100 jv4.1) fun t105 =>
         pureK Tryz.prog (sBin .sub T_int (.tmp 106) (.tmp 107) lv1.2.2.2.2.1 t100) fun t108 =>
         pureK Tryz.prog (sBin .quo T_int (.tmp 109) (.const (.int .i64 8)) t21 (.int .i64 8)) fun t110 =>
         pureK Tryz.prog (sBin .lss T_int (.tmp 111) (.tmp 112) t105 t108) fun t113 =>
         ifB t113
         (pureK Tryz.prog (sBin .geq T_int (.tmp 114) (.tmp 115) t105 t110) fun t116 =>
          upK Tryz.prog (sCall F_slices_pdqsortOrdered_int #[data0, jv4.1, t100, jv1.1]) w9 fun t121 w10 =>
          pureK Tryz.prog (sBin .add T_int (.tmp 122) (.const (.int .i64 1)) t100 (.int .i64 1)) fun t123 =>
          next1 (jv1.1, t123, t101, t116, lv1.2.2.2.2.1, ()) w10)
         (pureK Tryz.prog (sBin .geq T_int (.tmp 124) (.tmp 125) t108 t110) fun t126 =>
          pureK Tryz.prog (sBin .add T_int (.tmp 128) (.const (.int .i64 1)) t100 (.int .i64 1)) fun t129 =>
          upK Tryz.prog (sCall F_slices_pdqsortOrdered_int #[data0, t129, lv1.2.2.2.2.1, jv1.1]) w9 fun t132 w11 =>
          next1 (jv1.1, jv4.1, t101, t126, t100, ()) w11))
        (fun J4 =>
         pureK Tryz.prog (sBin .gtr T_int (.tmp 73) (.const (.int .i64 0)) lv1.2.1 (.int .i64 0)) fun t74 =>
         ifB t74
         (pureK Tryz.prog (sBin .sub T_int (.tmp 77) (.const (.int .i64 1)) lv1.2.1 (.int .i64 1)) fun t78 =>
          pureK Tryz.prog (sIdxAddr T_s_int data0 t78) fun t79 =>
          readK Tryz.prog (sLoad T_int t79) (tick w7) fun t80 =>
          pureK Tryz.prog (sIdxAddr T_s_int data0 jv2.1) fun t83 =>
          readK Tryz.prog (sLoad T_int t83) (tick w7) fun t84 =>
          upK Tryz.prog (sCall F_cmp_Less_int #[t80, t84]) (tick w7) fun t85 w12 =>
          pureK Tryz.prog (sUn .not t85) fun t86 =>
          ifB t86
          (upK Tryz.prog (sCall F_slices_partitionEqualOrdered_int #[data0, lv1.2.1, lv1.2.2.2.2.1, jv2.1]) w12 fun t92 w13 =>
           next1 (jv1.1, t92, lv1.2.2.1, lv1.2.2.2.1, lv1.2.2.2.2.1, ()) w13)
          (J4 (lv1.2.1, ()) w12))
         (J4 (lv1.2.1, ()) (tick w7))))
       (fun J3 =>
        ifB lv1.2.2.2.1
        (ifB lv1.2.2.1
         (pureK Tryz.prog (sBin .eql T_slices_sortedHint (.tmp 66) (.const (.int .i64 1)) jv2.2.1 (.int .i64 1)) fun t67 =>
          ifB t67
          (upK Tryz.prog (sCall F_slices_partialInsertionSortOrdered_int #[data0, lv1.2.1, lv1.2.2.2.2.1]) w6 fun t72 w14 =>
           ifB t72
           (K (.tuple #[]) w14)
           (J3 (()) w14))
          (J3 (()) w6))
         (J3 (()) w6))
        (J3 (()) w6)))
      (fun J2 =>
       pureK Tryz.prog (sBin .eql T_slices_sortedHint (.tmp 49) (.const (.int .i64 2)) t48 (.int .i64 2)) fun t50 =>
       ifB t50
       (upK Tryz.prog (sCall F_slices_reverseRangeOrdered_int #[data0, lv1.2.1, lv1.2.2.2.2.1]) w5 fun t54 w15 =>
        pureK Tryz.prog (sBin .sub T_int (.tmp 55) (.const (.int .i64 1)) lv1.2.2.2.2.1 (.int .i64 1)) fun t56 =>
        pureK Tryz.prog (sBin .sub T_int (.tmp 57) (.tmp 58) t47 lv1.2.1) fun t59 =>
        pureK Tryz.prog (sBin .sub T_int (.tmp 56) (.tmp 59) t56 t59) fun t60 =>
        J2 (t60, (.int .i64 1), ()) w15)
       (J2 (t47, t48, ()) w5)))
     (fun J1 =>
      pureK Tryz.prog (sUn .not lv1.2.2.2.1) fun t35 =>
      ifB t35
      (upK Tryz.prog (sCall F_slices_breakPatternsOrdered_int #[data0, lv1.2.1, lv1.2.2.2.2.1]) w1 fun t39 w16 =>
       pureK Tryz.prog (sBin .sub T_int (.tmp 40) (.const (.int .i64 1)) lv1.1 (.int .i64 1)) fun t41 =>
       J1 (t41, ()) w16)
      (J1 (lv1.1, ()) w1)))))
  (limit3, a1, (.bool true), (.bool true), b2, ()) w
theorem slices_pdqsortOrdered_int.pt_eq : slices_pdqsortOrdered_int.pt = fun data0 a1 b2 limit3 w K => FN Tryz.prog Tryz.f75 (bodyOf Tryz.f75) [] (.node none .leaf (.node none .leaf (.node none (.node none (.node none (.node none .leaf (.node none .leaf (.node none .leaf (.node (some [3]) .leaf (.node none .leaf (.node (some [11, 12]) .leaf (.node (some []) .leaf (.node (some [1]) .leaf .leaf)))))))) .leaf) .leaf) .leaf))) [data0, a1, b2, limit3] w K := by kernel_rfl
theorem slices_pdqsortOrdered_int.call {data0 a1 b2 limit3 : Value} {w : World} {K : Value → World → Prop} (h : slices_pdqsortOrdered_int.pt data0 a1 b2 limit3 w K) : Calls Tryz.prog F_slices_pdqsortOrdered_int #[data0, a1, b2, limit3] w (retK K) :=
  calls_FN (args := [data0, a1, b2, limit3]) Tryz.func75 (by kernel_rfl) (by rw [slices_pdqsortOrdered_int.pt_eq] at h; exact h)
theorem slices_pdqsortOrdered_int.up {data0 a1 b2 limit3 : Value} {w : World} {K : Value → World → Prop} (h : Calls Tryz.prog F_slices_pdqsortOrdered_int #[data0, a1, b2, limit3] w (retK K)) : upK Tryz.prog (sCall F_slices_pdqsortOrdered_int #[data0, a1, b2, limit3]) w K :=
  up_call (fn := Tryz.f75) Tryz.func75 (by kernel_rfl) (by kernel_rfl) h

/-- math/bits.Len -/
theorem math_bits_Len.up {p0 : Value} {w : World} {K : Value → World → Prop} (h : Calls Tryz.prog F_math_bits_Len #[p0] w (retK K)) : upK Tryz.prog (sCall F_math_bits_Len #[p0]) w K :=
  up_call (fn := Tryz.f76) Tryz.func76 (by kernel_rfl) (by kernel_rfl) h

/-- errata/errataref45.end -/
def errataref45_end.pt (l0 i1 : Value) (w : World) (K : Value → World → Prop) : Prop :=
  pureK Tryz.prog (sBin .add T_int (.tmp 5) (.const (.int .i64 1)) i1 (.int .i64 1)) fun t6 =>
  readK Tryz.prog (sBlt .len #[T_s_api_Seg] T_int #[false] #[l0]) w fun t8 =>
  pureK Tryz.prog (sBin .lss T_int (.tmp 6) (.tmp 8) t6 t8) fun t9 =>
  ifB t9
  (pureK Tryz.prog (sBin .add T_int (.tmp 11) (.const (.int .i64 1)) i1 (.int .i64 1)) fun t12 =>
   pureK Tryz.prog (sIdxAddr T_s_api_Seg l0 t12) fun t13 =>
   pureK Tryz.prog (sFieldAddr T_api_Seg t13 0) fun t14 =>
   readK Tryz.prog (sLoad T_int t14) w fun t15 =>
   K t15 w)
  (K (.int .i64 1099511627777) w)
theorem errataref45_end.pt_eq : errataref45_end.pt = fun l0 i1 w K => FN Tryz.prog Tryz.f77 (bodyOf Tryz.f77) [4] .leaf [l0, i1] w K := by kernel_rfl
theorem errataref45_end.call {l0 i1 : Value} {w : World} {K : Value → World → Prop} (h : errataref45_end.pt l0 i1 w K) : Calls Tryz.prog F_errataref45_end #[l0, i1] w (retK K) :=
  calls_FN (args := [l0, i1]) Tryz.func77 (by kernel_rfl) (by rw [errataref45_end.pt_eq] at h; exact h)
theorem errataref45_end.up {l0 i1 : Value} {w : World} {K : Value → World → Prop} (h : Calls Tryz.prog F_errataref45_end #[l0, i1] w (retK K)) : upK Tryz.prog (sCall F_errataref45_end #[l0, i1]) w K :=
  up_call (fn := Tryz.f77) Tryz.func77 (by kernel_rfl) (by kernel_rfl) h

/-- (*strings.Builder).copyCheck -/
def strings_Builder_copyCheck.pt (b0 : Value) (w : World) (K : Value → World → Prop) : Prop :=
  pureK Tryz.prog (sNil b0) fun t3 =>
  pureK Tryz.prog (sFieldAddr T_strings_Builder t3 0) fun t4 =>
  readK Tryz.prog (sLoad T_p_strings_Builder t4) w fun t5 =>
  pureK Tryz.prog (sBin .eql T_p_strings_Builder (.tmp 5) (.const (.pointer none)) t5 (.pointer none)) fun t6 =>
  ifB t6
  (upK Tryz.prog (sConv T_p_strings_Builder T_unsafe_Pointer b0) w fun t9 w1 =>
   upK Tryz.prog (sCall F_internal_abi_NoEscape #[t9]) w1 fun t10 w2 =>
   upK Tryz.prog (sConv T_unsafe_Pointer T_p_strings_Builder t10) w2 fun t11 w3 =>
   pureK Tryz.prog (sNil b0) fun t12 =>
   pureK Tryz.prog (sFieldAddr T_strings_Builder t12 0) fun t13 =>
   upK Tryz.prog (sStore T_p_strings_Builder t13 t11) w3 fun tu w4 =>
   K (.tuple #[]) w4)
  (pureK Tryz.prog (sNil b0) fun t15 =>
   pureK Tryz.prog (sFieldAddr T_strings_Builder t15 0) fun t16 =>
   readK Tryz.prog (sLoad T_p_strings_Builder t16) w fun t17 =>
   pureK Tryz.prog (sBin .neq T_p_strings_Builder (.tmp 17) (.tmp 18) t17 b0) fun t19 =>
   ifB t19
   (False)
   (K (.tuple #[]) w))
theorem strings_Builder_copyCheck.pt_eq : strings_Builder_copyCheck.pt = fun b0 w K => FN Tryz.prog Tryz.f78 (bodyOf Tryz.f78) [] .leaf [b0] w K := by kernel_rfl
theorem strings_Builder_copyCheck.call {b0 : Value} {w : World} {K : Value → World → Prop} (h : strings_Builder_copyCheck.pt b0 w K) : Calls Tryz.prog F_strings_Builder_copyCheck #[b0] w (retK K) :=
  calls_FN (args := [b0]) Tryz.func78 (by kernel_rfl) (by rw [strings_Builder_copyCheck.pt_eq] at h; exact h)
theorem strings_Builder_copyCheck.up {b0 : Value} {w : World} {K : Value → World → Prop} (h : Calls Tryz.prog F_strings_Builder_copyCheck #[b0] w (retK K)) : upK Tryz.prog (sCall F_strings_Builder_copyCheck #[b0]) w K :=
  up_call (fn := Tryz.f78) Tryz.func78 (by kernel_rfl) (by kernel_rfl) h

/-- strconv.Itoa -/
theorem strconv_Itoa.up {p0 : Value} {w : World} {K : Value → World → Prop} (h : Calls Tryz.prog F_strconv_Itoa #[p0] w (retK K)) : upK Tryz.prog (sCall F_strconv_Itoa #[p0]) w K :=
  up_call (fn := Tryz.f79) Tryz.func79 (by kernel_rfl) (by kernel_rfl) h

/-- errata/errataref01.digits -/
def errataref01_digits.pt (n0 : Value) (w : World) (K : Value → World → Prop) : Prop :=
  pureK Tryz.prog (sBin .rem T_int (.tmp 4) (.const (.int .i64 10)) n0 (.int .i64 10)) fun t5 =>
  pureK Tryz.prog (sBin .sub T_int (.const (.int .i64 48)) (.tmp 5) (.int .i64 48) t5) fun t6 =>
  upK Tryz.prog (sConv T_int T_uint8 t6) w fun t7 w1 =>
  upK Tryz.prog (sBuildSlice T_s_uint8 1 #[(0, t7)]) w1 fun t8 w2 =>
  upK Tryz.prog (sConv T_s_uint8 T_string t8) w2 fun t9 w3 =>
  pureK Tryz.prog (sBin .gtr T_int (.tmp 10) (.const (.int .i64 (-10))) n0 (.int .i64 (-10))) fun t11 =>
  ifB t11
  (K t9 w3)
  (pureK Tryz.prog (sBin .quo T_int (.tmp 13) (.const (.int .i64 10)) n0 (.int .i64 10)) fun t14 =>
   upK Tryz.prog (sCall F_errataref01_digits #[t14]) w3 fun t15 w4 =>
   pureK Tryz.prog (sBin .add T_string (.tmp 15) (.tmp 16) t15 t9) fun t17 =>
   K t17 w4)
theorem errataref01_digits.pt_eq : errataref01_digits.pt = fun n0 w K => FN Tryz.prog Tryz.f80 (bodyOf Tryz.f80) [2] .leaf [n0] w K := by kernel_rfl
theorem errataref01_digits.call {n0 : Value} {w : World} {K : Value → World → Prop} (h : errataref01_digits.pt n0 w K) : Calls Tryz.prog F_errataref01_digits #[n0] w (retK K) :=
  calls_FN (args := [n0]) Tryz.func80 (by kernel_rfl) (by rw [errataref01_digits.pt_eq] at h; exact h)
theorem errataref01_digits.up {n0 : Value} {w : World} {K : Value → World → Prop} (h : Calls Tryz.prog F_errataref01_digits #[n0] w (retK K)) : upK Tryz.prog (sCall F_errataref01_digits #[n0]) w K :=
  up_call (fn := Tryz.f80) Tryz.func80 (by kernel_rfl) (by kernel_rfl) h

/-- strings.IndexByte -/
theorem strings_IndexByte.up {p0 p1 : Value} {w : World} {K : Value → World → Prop} (h : Calls Tryz.prog F_strings_IndexByte #[p0, p1] w (retK K)) : upK Tryz.prog (sCall F_strings_IndexByte #[p0, p1]) w K :=
  up_call (fn := Tryz.f81) Tryz.func81 (by kernel_rfl) (by kernel_rfl) h

/-- (*errata/wire.Reader).fail -/
def wire_Reader_fail.pt (r0 : Value) (w : World) (K : Value → World → Prop) : Prop :=
  pureK Tryz.prog (sNil r0) fun t4 =>
  pureK Tryz.prog (sFieldAddr T_wire_Reader t4 0) fun t5 =>
  upK Tryz.prog (sStore T_string t5 (.string ⟨#[]⟩)) w fun tu w1 =>
  pureK Tryz.prog (sNil r0) fun t6 =>
  pureK Tryz.prog (sFieldAddr T_wire_Reader t6 1) fun t7 =>
  upK Tryz.prog (sStore T_bool t7 (.bool true)) w1 fun tu_1 w2 =>
  K (.tuple #[]) w2
theorem wire_Reader_fail.pt_eq : wire_Reader_fail.pt = fun r0 w K => FN Tryz.prog Tryz.f82 (bodyOf Tryz.f82) [] .leaf [r0] w K := by kernel_rfl
theorem wire_Reader_fail.call {r0 : Value} {w : World} {K : Value → World → Prop} (h : wire_Reader_fail.pt r0 w K) : Calls Tryz.prog F_wire_Reader_fail #[r0] w (retK K) :=
  calls_FN (args := [r0]) Tryz.func82 (by kernel_rfl) (by rw [wire_Reader_fail.pt_eq] at h; exact h)
theorem wire_Reader_fail.up {r0 : Value} {w : World} {K : Value → World → Prop} (h : Calls Tryz.prog F_wire_Reader_fail #[r0] w (retK K)) : upK Tryz.prog (sCall F_wire_Reader_fail #[r0]) w K :=
  up_call (fn := Tryz.f82) Tryz.func82 (by kernel_rfl) (by kernel_rfl) h

/-- strconv.Atoi -/
theorem strconv_Atoi.up {p0 : Value} {w : World} {K : Value → World → Prop} (h : Calls Tryz.prog F_strconv_Atoi #[p0] w (retK K)) : upK Tryz.prog (sCall F_strconv_Atoi #[p0]) w K :=
  up_call (fn := Tryz.f83) Tryz.func83 (by kernel_rfl) (by kernel_rfl) h

/-- (*errata/errataref01.Reader).fail -/
def errataref01_Reader_fail.pt (r0 : Value) (w : World) (K : Value → World → Prop) : Prop :=
  pureK Tryz.prog (sNil r0) fun t4 =>
  pureK Tryz.prog (sFieldAddr T_errataref01_Reader t4 0) fun t5 =>
  upK Tryz.prog (sStore T_string t5 (.string ⟨#[]⟩)) w fun tu w1 =>
  pureK Tryz.prog (sNil r0) fun t7 =>
  pureK Tryz.prog (sFieldAddr T_errataref01_Reader t7 1) fun t8 =>
  upK Tryz.prog (sStore T_bool t8 (.bool true)) w1 fun tu_1 w2 =>
  K (.int .i64 0) w2
theorem errataref01_Reader_fail.pt_eq : errataref01_Reader_fail.pt = fun r0 w K => FN Tryz.prog Tryz.f84 (bodyOf Tryz.f84) [2] .leaf [r0] w K := by kernel_rfl
theorem errataref01_Reader_fail.call {r0 : Value} {w : World} {K : Value → World → Prop} (h : errataref01_Reader_fail.pt r0 w K) : Calls Tryz.prog F_errataref01_Reader_fail #[r0] w (retK K) :=
  calls_FN (args := [r0]) Tryz.func84 (by kernel_rfl) (by rw [errataref01_Reader_fail.pt_eq] at h; exact h)
theorem errataref01_Reader_fail.up {r0 : Value} {w : World} {K : Value → World → Prop} (h : Calls Tryz.prog F_errataref01_Reader_fail #[r0] w (retK K)) : upK Tryz.prog (sCall F_errataref01_Reader_fail #[r0]) w K :=
  up_call (fn := Tryz.f84) Tryz.func84 (by kernel_rfl) (by kernel_rfl) h

/-- errata/errataref01.Back -/
def errataref01_Back.pt (s0 : Value) (w : World) (K : Value → World → Prop) : Prop :=
  LETJ (X := Value × Unit) (fun jv1 w1 =>
   LOOP (X := Value × Value × Unit) (fun lv2 w2 next2 =>
    readK Tryz.prog (sBlt .len #[T_string] T_int #[false] #[s0]) w2 fun t18 =>
    pureK Tryz.prog (sBin .lss T_int (.tmp 16) (.tmp 18) lv2.2.1 t18) fun t19 =>
    ifB t19
    (pureK Tryz.prog (sIdx T_string s0 lv2.2.1) fun t24 =>
     pureK Tryz.prog (sBin .lss T_uint8 (.tmp 24) (.const (.int .u8 48)) t24 (.int .u8 48)) fun t25 =>
     ifB t25
     (K (.tuple #[(.int .i64 0), (.bool false)]) w2)
     (pureK Tryz.prog (sIdx T_string s0 lv2.2.1) fun t29 =>
      pureK Tryz.prog (sBin .gtr T_uint8 (.tmp 29) (.const (.int .u8 57)) t29 (.int .u8 57)) fun t30 =>
      ifB t30
      (K (.tuple #[(.int .i64 0), (.bool false)]) w2)
      (pureK Tryz.prog (sBin .gtr T_int (.tmp 33) (.const (.int .i64 20)) lv2.2.1 (.int .i64 20)) fun t34 =>
       ifB t34
       (K (.tuple #[(.int .i64 0), (.bool false)]) w2)
       (pureK Tryz.prog (sBin .mul T_int (.const (.int .i64 10)) (.tmp 36) (.int .i64 10) lv2.1) fun t37 =>
        pureK Tryz.prog (sIdx T_string s0 lv2.2.1) fun t40 =>
        pureK Tryz.prog (sBin .sub T_uint8 (.tmp 40) (.const (.int .u8 48)) t40 (.int .u8 48)) fun t41 =>
        upK Tryz.prog (sConv T_uint8 T_int t41) w2 fun t42 w3 =>
        pureK Tryz.prog (sBin .sub T_int (.tmp 37) (.tmp 42) t37 t42) fun t43 =>
        pureK Tryz.prog (sBin .add T_int (.tmp 20) (.const (.int .i64 1)) lv2.2.1 (.int .i64 1)) fun t21 =>
        next2 (t43, t21, ()) w3))))
    (LETJ (X := Value × Unit) (fun jv2 w4 =>
      upK Tryz.prog (sCall F_errataref01_Int #[jv2.1]) w4 fun t50 w5 =>
      pureK Tryz.prog (sBin .add T_string (.tmp 51) (.const (.string ⟨#[59]⟩)) s0 (.string ⟨#[59]⟩)) fun t52 =>
      pureK Tryz.prog (sBin .eql T_string (.tmp 50) (.tmp 52) t50 t52) fun t53 =>
      K (.tuple #[jv2.1, t53]) w5)
     (fun J2 =>
      pureK Tryz.prog (sBin .eql T_int (.tmp 44) (.const (.int .i64 0)) jv1.1 (.int .i64 0)) fun t45 =>
      ifB t45
      (pureK Tryz.prog (sUn .neg lv2.1) fun t47 =>
       J2 (t47, ()) w2)
      (J2 (lv2.1, ()) w2))))
   ((.int .i64 0), jv1.1, ()) w1)
  (fun J1 =>
   readK Tryz.prog (sBlt .len #[T_string] T_int #[false] #[s0]) w fun t8 =>
   pureK Tryz.prog (sBin .gtr T_int (.tmp 8) (.const (.int .i64 0)) t8 (.int .i64 0)) fun t9 =>
   ifB t9
   (pureK Tryz.prog (sIdx T_string s0 (.int .i64 0)) fun t12 =>
    pureK Tryz.prog (sBin .eql T_uint8 (.tmp 12) (.const (.int .u8 45)) t12 (.int .u8 45)) fun t13 =>
    ifB t13
    (J1 ((.int .i64 1), ()) w)
    (J1 ((.int .i64 0), ()) w))
   (J1 ((.int .i64 0), ()) w))
theorem errataref01_Back.pt_eq : errataref01_Back.pt = fun s0 w K => FN Tryz.prog Tryz.f85 (bodyOf Tryz.f85) [2, 3] (.node none .leaf (.node none .leaf (.node (some [4]) .leaf (.node none .leaf (.node none .leaf (.node (some [5]) .leaf .leaf)))))) [s0] w K := by kernel_rfl
theorem errataref01_Back.call {s0 : Value} {w : World} {K : Value → World → Prop} (h : errataref01_Back.pt s0 w K) : Calls Tryz.prog F_errataref01_Back #[s0] w (retK K) :=
  calls_FN (args := [s0]) Tryz.func85 (by kernel_rfl) (by rw [errataref01_Back.pt_eq] at h; exact h)
theorem errataref01_Back.up {s0 : Value} {w : World} {K : Value → World → Prop} (h : Calls Tryz.prog F_errataref01_Back #[s0] w (retK K)) : upK Tryz.prog (sCall F_errataref01_Back #[s0]) w K :=
  up_call (fn := Tryz.f85) Tryz.func85 (by kernel_rfl) (by kernel_rfl) h

/-- sort.Search -/
def sort_Search.pt (n0 f1 : Value) (w : World) (K : Value → World → Prop) : Prop :=
  LETJ (X := Value × Unit) (fun jv1 w1 =>
   K jv1.1 w1)
  (fun J1 =>
   LOOP (X := Value × Value × Unit) (fun lv2 w2 next2 =>
    pureK Tryz.prog (sBin .lss T_int (.tmp 9) (.tmp 10) lv2.1 lv2.2.1) fun t11 =>
    ifB t11
    (pureK Tryz.prog (sBin .add T_int (.tmp 12) (.tmp 13) lv2.1 lv2.2.1) fun t14 =>
     upK Tryz.prog (sConv T_int T_uint t14) w2 fun t15 w3 =>
     pureK Tryz.prog (sBin .shr T_uint (.tmp 15) (.const (.int .u64 1)) t15 (.int .u64 1)) fun t16 =>
     upK Tryz.prog (sConv T_uint T_int t16) w3 fun t17 w4 =>
     upK Tryz.prog (sCallV f1 #[t17]) w4 fun t20 w5 =>
     pureK Tryz.prog (sUn .not t20) fun t21 =>
     ifB t21
     (pureK Tryz.prog (sBin .add T_int (.tmp 22) (.const (.int .i64 1)) t17 (.int .i64 1)) fun t23 =>
      next2 (t23, lv2.2.1, ()) w5)
     (next2 (lv2.1, t17, ()) w5))
    (J1 (lv2.1, ()) w2))
   ((.int .i64 0), n0, ()) w)
theorem sort_Search.pt_eq : sort_Search.pt = fun n0 f1 w K => FN Tryz.prog Tryz.f86 (bodyOf Tryz.f86) [4] (.node none .leaf (.node none .leaf (.node (some [5]) .leaf .leaf))) [n0, f1] w K := by kernel_rfl
theorem sort_Search.call {n0 f1 : Value} {w : World} {K : Value → World → Prop} (h : sort_Search.pt n0 f1 w K) : Calls Tryz.prog F_sort_Search #[n0, f1] w (retK K) :=
  calls_FN (args := [n0, f1]) Tryz.func86 (by kernel_rfl) (by rw [sort_Search.pt_eq] at h; exact h)
theorem sort_Search.up {n0 f1 : Value} {w : World} {K : Value → World → Prop} (h : Calls Tryz.prog F_sort_Search #[n0, f1] w (retK K)) : upK Tryz.prog (sCall F_sort_Search #[n0, f1]) w K :=
  up_call (fn := Tryz.f86) Tryz.func86 (by kernel_rfl) (by kernel_rfl) h

/-- errata/timeline.behind$1 -/
def timeline_behind_1.pt (i0 t1 t2 : Value) (w : World) (K : Value → World → Prop) : Prop :=
  readK Tryz.prog (sLoad T_s_api_Seg t1) (tick w) fun t5 =>
  pureK Tryz.prog (sIdxAddr T_s_api_Seg t5 i0) fun t7 =>
  pureK Tryz.prog (sFieldAddr T_api_Seg t7 0) fun t8 =>
  readK Tryz.prog (sLoad T_int t8) (tick w) fun t9 =>
  readK Tryz.prog (sLoad T_int t2) (tick w) fun t10 =>
  pureK Tryz.prog (sBin .gtr T_int (.tmp 9) (.tmp 10) t9 t10) fun t11 =>
  K t11 (tick w)
theorem timeline_behind_1.pt_eq : timeline_behind_1.pt = fun i0 t1 t2 w K => FN Tryz.prog Tryz.f87 (bodyOf Tryz.f87) [4] .leaf [i0, t1, t2] w K := by kernel_rfl
theorem timeline_behind_1.call {i0 t1 t2 : Value} {w : World} {K : Value → World → Prop} (h : timeline_behind_1.pt i0 t1 t2 w K) : Calls Tryz.prog F_timeline_behind_1 #[i0, t1, t2] w (retK K) :=
  calls_FN (args := [i0, t1, t2]) Tryz.func87 (by kernel_rfl) (by rw [timeline_behind_1.pt_eq] at h; exact h)
theorem timeline_behind_1.up {i0 t1 t2 : Value} {w : World} {K : Value → World → Prop} (h : Calls Tryz.prog F_timeline_behind_1 #[i0, t1, t2] w (retK K)) : upK Tryz.prog (sCall F_timeline_behind_1 #[i0, t1, t2]) w K :=
  up_call (fn := Tryz.f87) Tryz.func87 (by kernel_rfl) (by kernel_rfl) h

/-- slices.insertionSortOrdered[int] -/
def slices_insertionSortOrdered_int.pt (data0 a1 b2 : Value) (w : World) (K : Value → World → Prop) : Prop :=
  pureK Tryz.prog (sBin .add T_int (.tmp 8) (.const (.int .i64 1)) a1 (.int .i64 1)) fun t9 =>
  LOOP (X := Value × Unit) (fun lv1 w1 next1 =>
   pureK Tryz.prog (sBin .lss T_int (.tmp 10) (.tmp 11) lv1.1 b2) fun t12 =>
   ifB t12
   (LETJ (X := Unit) (fun jv1 w2 =>
     pureK Tryz.prog (sBin .add T_int (.tmp 13) (.const (.int .i64 1)) lv1.1 (.int .i64 1)) fun t14 =>
     next1 (t14, ()) w2)
    (fun J1 =>
     LOOP (X := Value × Unit) (fun lv3 w3 next3 =>
      pureK Tryz.prog (sBin .gtr T_int (.tmp 16) (.tmp 17) lv3.1 a1) fun t18 =>
      ifB t18
      (pureK Tryz.prog (sIdxAddr T_s_int data0 lv3.1) fun t22 =>
       readK Tryz.prog (sLoad T_int t22) (tick w3) fun t23 =>
       pureK Tryz.prog (sBin .sub T_int (.tmp 25) (.const (.int .i64 1)) lv3.1 (.int .i64 1)) fun t26 =>
       pureK Tryz.prog (sIdxAddr T_s_int data0 t26) fun t27 =>
       readK Tryz.prog (sLoad T_int t27) (tick w3) fun t28 =>
       upK Tryz.prog (sCall F_cmp_Less_int #[t23, t28]) (tick w3) fun t29 w4 =>
       ifB t29
       (pureK Tryz.prog (sBin .sub T_int (.tmp 36) (.const (.int .i64 1)) lv3.1 (.int .i64 1)) fun t37 =>
        pureK Tryz.prog (sBin .sub T_int (.tmp 39) (.const (.int .i64 1)) lv3.1 (.int .i64 1)) fun t40 =>
        pureK Tryz.prog (sIdxAddr T_s_int data0 t40) fun t41 =>
        readK Tryz.prog (sLoad T_int t41) (tick w4) fun t42 =>
        pureK Tryz.prog (sIdxAddr T_s_int data0 lv3.1) fun t45 =>
        readK Tryz.prog (sLoad T_int t45) (tick w4) fun t46 =>
        pureK Tryz.prog (sIdxAddr T_s_int data0 lv3.1) fun t47 =>
        upK Tryz.prog (sStore T_int t47 t42) (tick w4) fun tu w5 =>
        pureK Tryz.prog (sIdxAddr T_s_int data0 t37) fun t48 =>
        upK Tryz.prog (sStore T_int t48 t46) w5 fun tu_1 w6 =>
        pureK Tryz.prog (sBin .sub T_int (.tmp 31) (.const (.int .i64 1)) lv3.1 (.int .i64 1)) fun t32 =>
        next3 (t32, ()) w6)
       (J1 (()) w4))
      (J1 (()) (tick w3)))
     (lv1.1, ()) w1))
   (K (.tuple #[]) w1))
  (t9, ()) w
theorem slices_insertionSortOrdered_int.pt_eq : slices_insertionSortOrdered_int.pt = fun data0 a1 b2 w K => FN Tryz.prog Tryz.f88 (bodyOf Tryz.f88) [] (.node none .leaf (.node none (.node none (.node none .leaf (.node (some []) .leaf .leaf)) .leaf) .leaf)) [data0, a1, b2] w K := by kernel_rfl
theorem slices_insertionSortOrdered_int.call {data0 a1 b2 : Value} {w : World} {K : Value → World → Prop} (h : slices_insertionSortOrdered_int.pt data0 a1 b2 w K) : Calls Tryz.prog F_slices_insertionSortOrdered_int #[data0, a1, b2] w (retK K) :=
  calls_FN (args := [data0, a1, b2]) Tryz.func88 (by kernel_rfl) (by rw [slices_insertionSortOrdered_int.pt_eq] at h; exact h)
theorem slices_insertionSortOrdered_int.up {data0 a1 b2 : Value} {w : World} {K : Value → World → Prop} (h : Calls Tryz.prog F_slices_insertionSortOrdered_int #[data0, a1, b2] w (retK K)) : upK Tryz.prog (sCall F_slices_insertionSortOrdered_int #[data0, a1, b2]) w K :=
  up_call (fn := Tryz.f88) Tryz.func88 (by kernel_rfl) (by kernel_rfl) h

/-- slices.heapSortOrdered[int] -/
def slices_heapSortOrdered_int.pt (data0 a1 b2 : Value) (w : World) (K : Value → World → Prop) : Prop :=
  pureK Tryz.prog (sBin .sub T_int (.tmp 12) (.tmp 13) b2 a1) fun t14 =>
  pureK Tryz.prog (sBin .sub T_int (.tmp 15) (.const (.int .i64 1)) t14 (.int .i64 1)) fun t16 =>
  pureK Tryz.prog (sBin .quo T_int (.tmp 16) (.const (.int .i64 2)) t16 (.int .i64 2)) fun t17 =>
  LOOP (X := Value × Unit) (fun lv1 w1 next1 =>
   pureK Tryz.prog (sBin .geq T_int (.tmp 18) (.const (.int .i64 0)) lv1.1 (.int .i64 0)) fun t19 =>
   ifB t19
   (upK Tryz.prog (sCall F_slices_siftDownOrdered_int #[data0, lv1.1, t14, a1]) w1 fun t26 w2 =>
    pureK Tryz.prog (sBin .sub T_int (.tmp 20) (.const (.int .i64 1)) lv1.1 (.int .i64 1)) fun t21 =>
    next1 (t21, ()) w2)
   (pureK Tryz.prog (sBin .sub T_int (.tmp 27) (.const (.int .i64 1)) t14 (.int .i64 1)) fun t28 =>
    LOOP (X := Value × Unit) (fun lv3 w3 next3 =>
     pureK Tryz.prog (sBin .geq T_int (.tmp 29) (.const (.int .i64 0)) lv3.1 (.int .i64 0)) fun t30 =>
     ifB t30
     (pureK Tryz.prog (sBin .add T_int (.tmp 36) (.tmp 37) a1 lv3.1) fun t38 =>
      pureK Tryz.prog (sBin .add T_int (.tmp 40) (.tmp 41) a1 lv3.1) fun t42 =>
      pureK Tryz.prog (sIdxAddr T_s_int data0 t42) fun t43 =>
      readK Tryz.prog (sLoad T_int t43) (tick w3) fun t44 =>
      pureK Tryz.prog (sIdxAddr T_s_int data0 a1) fun t47 =>
      readK Tryz.prog (sLoad T_int t47) (tick w3) fun t48 =>
      pureK Tryz.prog (sIdxAddr T_s_int data0 a1) fun t49 =>
      upK Tryz.prog (sStore T_int t49 t44) (tick w3) fun tu w4 =>
      pureK Tryz.prog (sIdxAddr T_s_int data0 t38) fun t50 =>
      upK Tryz.prog (sStore T_int t50 t48) w4 fun tu_1 w5 =>
      upK Tryz.prog (sCall F_slices_siftDownOrdered_int #[data0, (.int .i64 0), lv3.1, a1]) w5 fun t55 w6 =>
      pureK Tryz.prog (sBin .sub T_int (.tmp 31) (.const (.int .i64 1)) lv3.1 (.int .i64 1)) fun t32 =>
      next3 (t32, ()) w6)
     (K (.tuple #[]) w3))
    (t28, ()) w1))
  (t17, ()) w
theorem slices_heapSortOrdered_int.pt_eq : slices_heapSortOrdered_int.pt = fun data0 a1 b2 w K => FN Tryz.prog Tryz.f89 (bodyOf Tryz.f89) [] .leaf [data0, a1, b2] w K := by kernel_rfl
theorem slices_heapSortOrdered_int.call {data0 a1 b2 : Value} {w : World} {K : Value → World → Prop} (h : slices_heapSortOrdered_int.pt data0 a1 b2 w K) : Calls Tryz.prog F_slices_heapSortOrdered_int #[data0, a1, b2] w (retK K) :=
  calls_FN (args := [data0, a1, b2]) Tryz.func89 (by kernel_rfl) (by rw [slices_heapSortOrdered_int.pt_eq] at h; exact h)
theorem slices_heapSortOrdered_int.up {data0 a1 b2 : Value} {w : World} {K : Value → World → Prop} (h : Calls Tryz.prog F_slices_heapSortOrdered_int #[data0, a1, b2] w (retK K)) : upK Tryz.prog (sCall F_slices_heapSortOrdered_int #[data0, a1, b2]) w K :=
  up_call (fn := Tryz.f89) Tryz.func89 (by kernel_rfl) (by kernel_rfl) h

/-- slices.breakPatternsOrdered[int] -/
def slices_breakPatternsOrdered_int.pt (data0 a1 b2 : Value) (w : World) (K : Value → World → Prop) : Prop :=
  pureK Tryz.prog (sBin .sub T_int (.tmp 11) (.tmp 12) b2 a1) fun t13 =>
  pureK Tryz.prog (sBin .geq T_int (.tmp 14) (.const (.int .i64 8)) t13 (.int .i64 8)) fun t15 =>
  ifB t15
  (upK Tryz.prog (sConv T_int T_slices_xorshift t13) w fun t17 w1 =>
   upK Tryz.prog (sAlloc T_slices_xorshift) w1 fun random7 w2 =>
   upK Tryz.prog (sStore T_slices_xorshift random7 t17) w2 fun tu w3 =>
   upK Tryz.prog (sCall F_slices_nextPowerOfTwo #[t13]) w3 fun t19 w4 =>
   pureK Tryz.prog (sBin .quo T_int (.tmp 21) (.const (.int .i64 4)) t13 (.int .i64 4)) fun t22 =>
   pureK Tryz.prog (sBin .mul T_int (.tmp 22) (.const (.int .i64 2)) t22 (.int .i64 2)) fun t23 =>
   pureK Tryz.prog (sBin .add T_int (.tmp 20) (.tmp 23) a1 t23) fun t24 =>
   pureK Tryz.prog (sBin .sub T_int (.tmp 24) (.const (.int .i64 1)) t24 (.int .i64 1)) fun t25 =>
   LOOP (X := Value × Unit) (fun lv5 w5 next5 =>
    pureK Tryz.prog (sBin .quo T_int (.tmp 28) (.const (.int .i64 4)) t13 (.int .i64 4)) fun t29 =>
    pureK Tryz.prog (sBin .mul T_int (.tmp 29) (.const (.int .i64 2)) t29 (.int .i64 2)) fun t30 =>
    pureK Tryz.prog (sBin .add T_int (.tmp 27) (.tmp 30) a1 t30) fun t31 =>
    pureK Tryz.prog (sBin .add T_int (.tmp 31) (.const (.int .i64 1)) t31 (.int .i64 1)) fun t32 =>
    pureK Tryz.prog (sBin .leq T_int (.tmp 26) (.tmp 32) lv5.1 t32) fun t33 =>
    ifB t33
    (upK Tryz.prog (sCall F_slices_xorshift_Next #[random7]) w5 fun t36 w6 =>
     pureK Tryz.prog (sBin .sub T_uint (.tmp 37) (.const (.int .u64 1)) t19 (.int .u64 1)) fun t38 =>
     pureK Tryz.prog (sBin .and T_uint (.tmp 36) (.tmp 38) t36 t38) fun t39 =>
     upK Tryz.prog (sConv T_uint T_int t39) w6 fun t40 w7 =>
     LETJ (X := Value × Unit) (fun jv1 w8 =>
      pureK Tryz.prog (sBin .add T_int (.tmp 50) (.tmp 51) a1 jv1.1) fun t52 =>
      pureK Tryz.prog (sBin .add T_int (.tmp 54) (.tmp 55) a1 jv1.1) fun t56 =>
      pureK Tryz.prog (sIdxAddr T_s_int data0 t56) fun t57 =>
      readK Tryz.prog (sLoad T_int t57) (tick w8) fun t58 =>
      pureK Tryz.prog (sIdxAddr T_s_int data0 lv5.1) fun t61 =>
      readK Tryz.prog (sLoad T_int t61) (tick w8) fun t62 =>
      pureK Tryz.prog (sIdxAddr T_s_int data0 lv5.1) fun t63 =>
      upK Tryz.prog (sStore T_int t63 t58) (tick w8) fun tu_1 w9 =>
      pureK Tryz.prog (sIdxAddr T_s_int data0 t52) fun t64 =>
      upK Tryz.prog (sStore T_int t64 t62) w9 fun tu_2 w10 =>
      pureK Tryz.prog (sBin .add T_int (.tmp 34) (.const (.int .i64 1)) lv5.1 (.int .i64 1)) fun t35 =>
      next5 (t35, ()) w10)
     (fun J1 =>
      pureK Tryz.prog (sBin .geq T_int (.tmp 41) (.tmp 42) t40 t13) fun t43 =>
      ifB t43
      (pureK Tryz.prog (sBin .sub T_int (.tmp 44) (.tmp 45) t40 t13) fun t46 =>
       J1 (t46, ()) w7)
      (J1 (t40, ()) w7)))
    (K (.tuple #[]) w5))
   (t25, ()) w4)
  (K (.tuple #[]) w)
theorem slices_breakPatternsOrdered_int.pt_eq : slices_breakPatternsOrdered_int.pt = fun data0 a1 b2 w K => FN Tryz.prog Tryz.f90 (bodyOf Tryz.f90) [] (.node none .leaf (.node none .leaf (.node none (.node none .leaf (.node none .leaf (.node none .leaf (.node none (.node none (.node none .leaf (.node none (.node none (.node none .leaf (.node (some [10]) .leaf .leaf)) .leaf) .leaf)) .leaf) .leaf)))) .leaf))) [data0, a1, b2] w K := by kernel_rfl
theorem slices_breakPatternsOrdered_int.call {data0 a1 b2 : Value} {w : World} {K : Value → World → Prop} (h : slices_breakPatternsOrdered_int.pt data0 a1 b2 w K) : Calls Tryz.prog F_slices_breakPatternsOrdered_int #[data0, a1, b2] w (retK K) :=
  calls_FN (args := [data0, a1, b2]) Tryz.func90 (by kernel_rfl) (by rw [slices_breakPatternsOrdered_int.pt_eq] at h; exact h)
theorem slices_breakPatternsOrdered_int.up {data0 a1 b2 : Value} {w : World} {K : Value → World → Prop} (h : Calls Tryz.prog F_slices_breakPatternsOrdered_int #[data0, a1, b2] w (retK K)) : upK Tryz.prog (sCall F_slices_breakPatternsOrdered_int #[data0, a1, b2]) w K :=
  up_call (fn := Tryz.f90) Tryz.func90 (by kernel_rfl) (by kernel_rfl) h

/-- slices.choosePivotOrdered[int] -/
def slices_choosePivotOrdered_int.pt (data0 a1 b2 : Value) (w : World) (K : Value → World → Prop) : Prop :=
  pureK Tryz.prog (sBin .sub T_int (.tmp 13) (.tmp 14) b2 a1) fun t15 =>
  upK Tryz.prog (sAlloc T_int) w fun swaps9 w1 =>
  pureK Tryz.prog (sBin .quo T_int (.tmp 17) (.const (.int .i64 4)) t15 (.int .i64 4)) fun t18 =>
  pureK Tryz.prog (sBin .mul T_int (.tmp 18) (.const (.int .i64 1)) t18 (.int .i64 1)) fun t19 =>
  pureK Tryz.prog (sBin .add T_int (.tmp 16) (.tmp 19) a1 t19) fun t20 =>
  pureK Tryz.prog (sBin .quo T_int (.tmp 22) (.const (.int .i64 4)) t15 (.int .i64 4)) fun t23 =>
  pureK Tryz.prog (sBin .mul T_int (.tmp 23) (.const (.int .i64 2)) t23 (.int .i64 2)) fun t24 =>
  pureK Tryz.prog (sBin .add T_int (.tmp 21) (.tmp 24) a1 t24) fun t25 =>
  pureK Tryz.prog (sBin .quo T_int (.tmp 27) (.const (.int .i64 4)) t15 (.int .i64 4)) fun t28 =>
  pureK Tryz.prog (sBin .mul T_int (.tmp 28) (.const (.int .i64 3)) t28 (.int .i64 3)) fun t29 =>
  pureK Tryz.prog (sBin .add T_int (.tmp 26) (.tmp 29) a1 t29) fun t30 =>
  LETJ (X := Value × Unit) (fun jv1 w2 =>
   readK Tryz.prog (sLoad T_int swaps9) w2 fun t49 =>
   pureK Tryz.prog (sBin .eql T_int (.tmp 49) (.const (.int .i64 0)) t49 (.int .i64 0)) fun t52 =>
   ifB t52
   (K (.tuple #[jv1.1, (.int .i64 1)]) w2)
   (pureK Tryz.prog (sBin .eql T_int (.tmp 49) (.const (.int .i64 12)) t49 (.int .i64 12)) fun t55 =>
    ifB t55
    (K (.tuple #[jv1.1, (.int .i64 2)]) w2)
    (K (.tuple #[jv1.1, (.int .i64 0)]) w2)))
  (fun J1 =>
   pureK Tryz.prog (sBin .geq T_int (.tmp 31) (.const (.int .i64 8)) t15 (.int .i64 8)) fun t32 =>
   ifB t32
   (LETJ (X := Value × Value × Value × Unit) (fun jv2 w3 =>
     upK Tryz.prog (sCall F_slices_medianOrdered_int #[data0, jv2.1, jv2.2.1, jv2.2.2.1, swaps9]) w3 fun t48 w4 =>
     J1 (t48, ()) w4)
    (fun J2 =>
     pureK Tryz.prog (sBin .geq T_int (.tmp 33) (.const (.int .i64 50)) t15 (.int .i64 50)) fun t34 =>
     ifB t34
     (upK Tryz.prog (sCall F_slices_medianAdjacentOrdered_int #[data0, t20, swaps9]) w1 fun t37 w5 =>
      upK Tryz.prog (sCall F_slices_medianAdjacentOrdered_int #[data0, t25, swaps9]) w5 fun t40 w6 =>
      upK Tryz.prog (sCall F_slices_medianAdjacentOrdered_int #[data0, t30, swaps9]) w6 fun t43 w7 =>
      J2 (t37, t40, t43, ()) w7)
     (J2 (t20, t25, t30, ()) w1)))
   (J1 (t25, ()) w1))
theorem slices_choosePivotOrdered_int.pt_eq : slices_choosePivotOrdered_int.pt = fun data0 a1 b2 w K => FN Tryz.prog Tryz.f91 (bodyOf Tryz.f91) [] (.node none .leaf (.node none .leaf (.node none .leaf (.node none .leaf (.node none .leaf (.node none .leaf (.node (some [11]) (.node none .leaf (.node none (.node (some [10, 11, 12]) .leaf .leaf) .leaf)) .leaf))))))) [data0, a1, b2] w K := by kernel_rfl
theorem slices_choosePivotOrdered_int.call {data0 a1 b2 : Value} {w : World} {K : Value → World → Prop} (h : slices_choosePivotOrdered_int.pt data0 a1 b2 w K) : Calls Tryz.prog F_slices_choosePivotOrdered_int #[data0, a1, b2] w (retK K) :=
  calls_FN (args := [data0, a1, b2]) Tryz.func91 (by kernel_rfl) (by rw [slices_choosePivotOrdered_int.pt_eq] at h; exact h)
theorem slices_choosePivotOrdered_int.up {data0 a1 b2 : Value} {w : World} {K : Value → World → Prop} (h : Calls Tryz.prog F_slices_choosePivotOrdered_int #[data0, a1, b2] w (retK K)) : upK Tryz.prog (sCall F_slices_choosePivotOrdered_int #[data0, a1, b2]) w K :=
  up_call (fn := Tryz.f91) Tryz.func91 (by kernel_rfl) (by kernel_rfl) h

/-- slices.reverseRangeOrdered[int] -/
def slices_reverseRangeOrdered_int.pt (data0 a1 b2 : Value) (w : World) (K : Value → World → Prop) : Prop :=
  pureK Tryz.prog (sBin .sub T_int (.tmp 9) (.const (.int .i64 1)) b2 (.int .i64 1)) fun t10 =>
  LOOP (X := Value × Value × Unit) (fun lv1 w1 next1 =>
   pureK Tryz.prog (sBin .lss T_int (.tmp 11) (.tmp 12) lv1.1 lv1.2.1) fun t13 =>
   ifB t13
   (pureK Tryz.prog (sIdxAddr T_s_int data0 lv1.2.1) fun t20 =>
    readK Tryz.prog (sLoad T_int t20) (tick w1) fun t21 =>
    pureK Tryz.prog (sIdxAddr T_s_int data0 lv1.1) fun t24 =>
    readK Tryz.prog (sLoad T_int t24) (tick w1) fun t25 =>
    pureK Tryz.prog (sIdxAddr T_s_int data0 lv1.1) fun t26 =>
    upK Tryz.prog (sStore T_int t26 t21) (tick w1) fun tu w2 =>
    pureK Tryz.prog (sIdxAddr T_s_int data0 lv1.2.1) fun t27 =>
    upK Tryz.prog (sStore T_int t27 t25) w2 fun tu_1 w3 =>
    pureK Tryz.prog (sBin .add T_int (.tmp 28) (.const (.int .i64 1)) lv1.1 (.int .i64 1)) fun t29 =>
    pureK Tryz.prog (sBin .sub T_int (.tmp 30) (.const (.int .i64 1)) lv1.2.1 (.int .i64 1)) fun t31 =>
    next1 (t29, t31, ()) w3)
   (K (.tuple #[]) w1))
  (a1, t10, ()) w
theorem slices_reverseRangeOrdered_int.pt_eq : slices_reverseRangeOrdered_int.pt = fun data0 a1 b2 w K => FN Tryz.prog Tryz.f92 (bodyOf Tryz.f92) [] .leaf [data0, a1, b2] w K := by kernel_rfl
theorem slices_reverseRangeOrdered_int.call {data0 a1 b2 : Value} {w : World} {K : Value → World → Prop} (h : slices_reverseRangeOrdered_int.pt data0 a1 b2 w K) : Calls Tryz.prog F_slices_reverseRangeOrdered_int #[data0, a1, b2] w (retK K) :=
  calls_FN (args := [data0, a1, b2]) Tryz.func92 (by kernel_rfl) (by rw [slices_reverseRangeOrdered_int.pt_eq] at h; exact h)
theorem slices_reverseRangeOrdered_int.up {data0 a1 b2 : Value} {w : World} {K : Value → World → Prop} (h : Calls Tryz.prog F_slices_reverseRangeOrdered_int #[data0, a1, b2] w (retK K)) : upK Tryz.prog (sCall F_slices_reverseRangeOrdered_int #[data0, a1, b2]) w K :=
  up_call (fn := Tryz.f92) Tryz.func92 (by kernel_rfl) (by kernel_rfl) h

/-- slices.partialInsertionSortOrdered[int] -/
def slices_partialInsertionSortOrdered_int.pt (data0 a1 b2 : Value) (w : World) (K : Value → World → Prop) : Prop :=
  pureK Tryz.prog (sBin .add T_int (.tmp 11) (.const (.int .i64 1)) a1 (.int .i64 1)) fun t12 =>
  LOOP (X := Value × Value × Unit) (fun lv1 w1 next1 =>
   pureK Tryz.prog (sBin .lss T_int (.tmp 13) (.const (.int .i64 5)) lv1.2.1 (.int .i64 5)) fun t14 =>
   ifB t14
   (LETJ (X := Value × Unit) (fun jv1 w2 =>
     pureK Tryz.prog (sBin .add T_int (.tmp 15) (.const (.int .i64 1)) lv1.2.1 (.int .i64 1)) fun t16 =>
     next1 (jv1.1, t16, ()) w2)
    (fun J1 =>
     LETJ (X := Value × Unit) (fun jv2 w3 =>
      pureK Tryz.prog (sBin .eql T_int (.tmp 35) (.tmp 36) jv2.1 b2) fun t37 =>
      ifB t37
      (K (.bool true) w3)
      (pureK Tryz.prog (sBin .sub T_int (.tmp 38) (.tmp 39) b2 a1) fun t40 =>
       pureK Tryz.prog (sBin .lss T_int (.tmp 40) (.const (.int .i64 50)) t40 (.int .i64 50)) fun t41 =>
       ifB t41
       (K (.bool false) w3)
       (pureK Tryz.prog (sBin .sub T_int (.tmp 45) (.const (.int .i64 1)) jv2.1 (.int .i64 1)) fun t46 =>
        pureK Tryz.prog (sBin .sub T_int (.tmp 48) (.const (.int .i64 1)) jv2.1 (.int .i64 1)) fun t49 =>
        pureK Tryz.prog (sIdxAddr T_s_int data0 t49) fun t50 =>
        readK Tryz.prog (sLoad T_int t50) (tick w3) fun t51 =>
        pureK Tryz.prog (sIdxAddr T_s_int data0 jv2.1) fun t54 =>
        readK Tryz.prog (sLoad T_int t54) (tick w3) fun t55 =>
        pureK Tryz.prog (sIdxAddr T_s_int data0 jv2.1) fun t56 =>
        upK Tryz.prog (sStore T_int t56 t51) (tick w3) fun tu w4 =>
        pureK Tryz.prog (sIdxAddr T_s_int data0 t46) fun t57 =>
        upK Tryz.prog (sStore T_int t57 t55) w4 fun tu_1 w5 =>
        LETJ (X := Unit) (fun jv3 w6 =>
         pureK Tryz.prog (sBin .sub T_int (.tmp 95) (.tmp 96) b2 jv2.1) fun t97 =>
         pureK Tryz.prog (sBin .geq T_int (.tmp 97) (.const (.int .i64 2)) t97 (.int .i64 2)) fun t98 =>
         ifB t98
         (pureK Tryz.prog (sBin .add T_int (.tmp 99) (.const (.int .i64 1)) jv2.1 (.int .i64 1)) fun t100 =>
          LOOP (X := Value × Unit) (fun lv7 w7 next7 =>
           pureK Tryz.prog (sBin .lss T_int (.tmp 101) (.tmp 102) lv7.1 b2) fun t103 =>
           ifB t103
           (pureK Tryz.prog (sIdxAddr T_s_int data0 lv7.1) fun t108 =>
            readK Tryz.prog (sLoad T_int t108) (tick w7) fun t109 =>
            pureK Tryz.prog (sBin .sub T_int (.tmp 111) (.const (.int .i64 1)) lv7.1 (.int .i64 1)) fun t112 =>
            pureK Tryz.prog (sIdxAddr T_s_int data0 t112) fun t113 =>
            readK Tryz.prog (sLoad T_int t113) (tick w7) fun t114 =>
            upK Tryz.prog (sCall F_cmp_Less_int #[t109, t114]) (tick w7) fun t115 w8 =>
            pureK Tryz.prog (sUn .not t115) fun t116 =>
            ifB t116
            (J1 (jv2.1, ()) w8)
            (pureK Tryz.prog (sBin .sub T_int (.tmp 120) (.const (.int .i64 1)) lv7.1 (.int .i64 1)) fun t121 =>
             pureK Tryz.prog (sBin .sub T_int (.tmp 123) (.const (.int .i64 1)) lv7.1 (.int .i64 1)) fun t124 =>
             pureK Tryz.prog (sIdxAddr T_s_int data0 t124) fun t125 =>
             readK Tryz.prog (sLoad T_int t125) (tick w8) fun t126 =>
             pureK Tryz.prog (sIdxAddr T_s_int data0 lv7.1) fun t129 =>
             readK Tryz.prog (sLoad T_int t129) (tick w8) fun t130 =>
             pureK Tryz.prog (sIdxAddr T_s_int data0 lv7.1) fun t131 =>
             upK Tryz.prog (sStore T_int t131 t126) (tick w8) fun tu_2 w9 =>
             pureK Tryz.prog (sIdxAddr T_s_int data0 t121) fun t132 =>
             upK Tryz.prog (sStore T_int t132 t130) w9 fun tu_3 w10 =>
             pureK Tryz.prog (sBin .add T_int (.tmp 104) (.const (.int .i64 1)) lv7.1 (.int .i64 1)) fun t105 =>
             next7 (t105, ()) w10))
           (J1 (jv2.1, ()) w7))
          (t100, ()) w6)
         (J1 (jv2.1, ()) w6))
        (fun J3 =>
         pureK Tryz.prog (sBin .sub T_int (.tmp 58) (.tmp 59) jv2.1 a1) fun t60 =>
         pureK Tryz.prog (sBin .geq T_int (.tmp 60) (.const (.int .i64 2)) t60 (.int .i64 2)) fun t61 =>
         ifB t61
         (pureK Tryz.prog (sBin .sub T_int (.tmp 62) (.const (.int .i64 1)) jv2.1 (.int .i64 1)) fun t63 =>
          LOOP (X := Value × Unit) (fun lv11 w11 next11 =>
           pureK Tryz.prog (sBin .geq T_int (.tmp 64) (.const (.int .i64 1)) lv11.1 (.int .i64 1)) fun t65 =>
           ifB t65
           (pureK Tryz.prog (sIdxAddr T_s_int data0 lv11.1) fun t70 =>
            readK Tryz.prog (sLoad T_int t70) (tick w11) fun t71 =>
            pureK Tryz.prog (sBin .sub T_int (.tmp 73) (.const (.int .i64 1)) lv11.1 (.int .i64 1)) fun t74 =>
            pureK Tryz.prog (sIdxAddr T_s_int data0 t74) fun t75 =>
            readK Tryz.prog (sLoad T_int t75) (tick w11) fun t76 =>
            upK Tryz.prog (sCall F_cmp_Less_int #[t71, t76]) (tick w11) fun t77 w12 =>
            pureK Tryz.prog (sUn .not t77) fun t78 =>
            ifB t78
            (J3 (()) w12)
            (pureK Tryz.prog (sBin .sub T_int (.tmp 82) (.const (.int .i64 1)) lv11.1 (.int .i64 1)) fun t83 =>
             pureK Tryz.prog (sBin .sub T_int (.tmp 85) (.const (.int .i64 1)) lv11.1 (.int .i64 1)) fun t86 =>
             pureK Tryz.prog (sIdxAddr T_s_int data0 t86) fun t87 =>
             readK Tryz.prog (sLoad T_int t87) (tick w12) fun t88 =>
             pureK Tryz.prog (sIdxAddr T_s_int data0 lv11.1) fun t91 =>
             readK Tryz.prog (sLoad T_int t91) (tick w12) fun t92 =>
             pureK Tryz.prog (sIdxAddr T_s_int data0 lv11.1) fun t93 =>
             upK Tryz.prog (sStore T_int t93 t88) (tick w12) fun tu_4 w13 =>
             pureK Tryz.prog (sIdxAddr T_s_int data0 t83) fun t94 =>
             upK Tryz.prog (sStore T_int t94 t92) w13 fun tu_5 w14 =>
             pureK Tryz.prog (sBin .sub T_int (.tmp 66) (.const (.int .i64 1)) lv11.1 (.int .i64 1)) fun t67 =>
             next11 (t67, ()) w14))
           (J3 (()) w11))
          (t63, ()) w5)
         (J3 (()) w5)))))
     (fun J2 =>
      LOOP (X := Value × Unit) (fun lv15 w15 next15 =>
       pureK Tryz.prog (sBin .lss T_int (.tmp 17) (.tmp 18) lv15.1 b2) fun t19 =>
       ifB t19
       (pureK Tryz.prog (sIdxAddr T_s_int data0 lv15.1) fun t23 =>
        readK Tryz.prog (sLoad T_int t23) (tick w15) fun t24 =>
        pureK Tryz.prog (sBin .sub T_int (.tmp 26) (.const (.int .i64 1)) lv15.1 (.int .i64 1)) fun t27 =>
        pureK Tryz.prog (sIdxAddr T_s_int data0 t27) fun t28 =>
        readK Tryz.prog (sLoad T_int t28) (tick w15) fun t29 =>
        upK Tryz.prog (sCall F_cmp_Less_int #[t24, t29]) (tick w15) fun t30 w16 =>
        pureK Tryz.prog (sUn .not t30) fun t31 =>
        ifB t31
        (pureK Tryz.prog (sBin .add T_int (.tmp 33) (.const (.int .i64 1)) lv15.1 (.int .i64 1)) fun t34 =>
         next15 (t34, ()) w16)
        (J2 (lv15.1, ()) w16))
       (J2 (lv15.1, ()) (tick w15)))
      (lv1.1, ()) w1)))
   (K (.bool false) w1))
  (t12, (.int .i64 0), ()) w
theorem slices_partialInsertionSortOrdered_int.pt_eq : slices_partialInsertionSortOrdered_int.pt = fun data0 a1 b2 w K => FN Tryz.prog Tryz.f93 (bodyOf Tryz.f93) [6] (.node none .leaf (.node none .leaf (.node none (.node none .leaf (.node none (.node none (.node none .leaf (.node (some [7]) (.node none (.node (some [7]) .leaf (.node none .leaf (.node none .leaf (.node none .leaf (.node (some []) .leaf .leaf))))) .leaf) .leaf)) .leaf) .leaf)) .leaf))) [data0, a1, b2] w K := by kernel_rfl
theorem slices_partialInsertionSortOrdered_int.call {data0 a1 b2 : Value} {w : World} {K : Value → World → Prop} (h : slices_partialInsertionSortOrdered_int.pt data0 a1 b2 w K) : Calls Tryz.prog F_slices_partialInsertionSortOrdered_int #[data0, a1, b2] w (retK K) :=
  calls_FN (args := [data0, a1, b2]) Tryz.func93 (by kernel_rfl) (by rw [slices_partialInsertionSortOrdered_int.pt_eq] at h; exact h)
theorem slices_partialInsertionSortOrdered_int.up {data0 a1 b2 : Value} {w : World} {K : Value → World → Prop} (h : Calls Tryz.prog F_slices_partialInsertionSortOrdered_int #[data0, a1, b2] w (retK K)) : upK Tryz.prog (sCall F_slices_partialInsertionSortOrdered_int #[data0, a1, b2]) w K :=
  up_call (fn := Tryz.f93) Tryz.func93 (by kernel_rfl) (by kernel_rfl) h

/-- cmp.Less[int] -/
def cmp_Less_int.pt (x0 vy1 : Value) (w : World) (K : Value → World → Prop) : Prop :=
  upK Tryz.prog (sCall F_cmp_isNaN_int #[x0]) w fun t6 w1 =>
  ifB t6
  (upK Tryz.prog (sCall F_cmp_isNaN_int #[vy1]) w1 fun t9 w2 =>
   pureK Tryz.prog (sUn .not t9) fun t10 =>
   ifB t10
   (K (.bool true) w2)
   (pureK Tryz.prog (sBin .lss T_int (.tmp 13) (.tmp 14) x0 vy1) fun t15 =>
    K t15 w2))
  (pureK Tryz.prog (sBin .lss T_int (.tmp 13) (.tmp 14) x0 vy1) fun t15_1 =>
   K t15_1 w1)
theorem cmp_Less_int.pt_eq : cmp_Less_int.pt = fun x0 vy1 w K => FN Tryz.prog Tryz.f94 (bodyOf Tryz.f94) [4] .leaf [x0, vy1] w K := by kernel_rfl
theorem cmp_Less_int.call {x0 vy1 : Value} {w : World} {K : Value → World → Prop} (h : cmp_Less_int.pt x0 vy1 w K) : Calls Tryz.prog F_cmp_Less_int #[x0, vy1] w (retK K) :=
  calls_FN (args := [x0, vy1]) Tryz.func94 (by kernel_rfl) (by rw [cmp_Less_int.pt_eq] at h; exact h)
theorem cmp_Less_int.up {x0 vy1 : Value} {w : World} {K : Value → World → Prop} (h : Calls Tryz.prog F_cmp_Less_int #[x0, vy1] w (retK K)) : upK Tryz.prog (sCall F_cmp_Less_int #[x0, vy1]) w K :=
  up_call (fn := Tryz.f94) Tryz.func94 (by kernel_rfl) (by kernel_rfl) h

/-- slices.partitionEqualOrdered[int] -/
def slices_partitionEqualOrdered_int.pt (data0 a1 b2 pivot3 : Value) (w : World) (K : Value → World → Prop) : Prop :=
  pureK Tryz.prog (sIdxAddr T_s_int data0 pivot3) fun t17 =>
  readK Tryz.prog (sLoad T_int t17) (tick w) fun t18 =>
  pureK Tryz.prog (sIdxAddr T_s_int data0 a1) fun t21 =>
  readK Tryz.prog (sLoad T_int t21) (tick w) fun t22 =>
  pureK Tryz.prog (sIdxAddr T_s_int data0 a1) fun t23 =>
  upK Tryz.prog (sStore T_int t23 t18) (tick w) fun tu w1 =>
  pureK Tryz.prog (sIdxAddr T_s_int data0 pivot3) fun t24 =>
  upK Tryz.prog (sStore T_int t24 t22) w1 fun tu_1 w2 =>
  pureK Tryz.prog (sBin .add T_int (.tmp 25) (.const (.int .i64 1)) a1 (.int .i64 1)) fun t26 =>
  pureK Tryz.prog (sBin .sub T_int (.tmp 27) (.const (.int .i64 1)) b2 (.int .i64 1)) fun t28 =>
  LETJ (X := Value × Unit) (fun jv1 w3 =>
   K jv1.1 w3)
  (fun J1 =>
   LOOP (X := Value × Value × Unit) (fun lv4 w4 next4 =>
    LETJ (X := Value × Unit) (fun jv2 w5 =>
     LETJ (X := Value × Unit) (fun jv3 w6 =>
      pureK Tryz.prog (sBin .gtr T_int (.tmp 62) (.tmp 63) jv2.1 jv3.1) fun t64 =>
      ifB t64
      (J1 (jv2.1, ()) w6)
      (pureK Tryz.prog (sIdxAddr T_s_int data0 jv3.1) fun t71 =>
       readK Tryz.prog (sLoad T_int t71) (tick w6) fun t72 =>
       pureK Tryz.prog (sIdxAddr T_s_int data0 jv2.1) fun t75 =>
       readK Tryz.prog (sLoad T_int t75) (tick w6) fun t76 =>
       pureK Tryz.prog (sIdxAddr T_s_int data0 jv2.1) fun t77 =>
       upK Tryz.prog (sStore T_int t77 t72) (tick w6) fun tu_2 w7 =>
       pureK Tryz.prog (sIdxAddr T_s_int data0 jv3.1) fun t78 =>
       upK Tryz.prog (sStore T_int t78 t76) w7 fun tu_3 w8 =>
       pureK Tryz.prog (sBin .add T_int (.tmp 79) (.const (.int .i64 1)) jv2.1 (.int .i64 1)) fun t80 =>
       pureK Tryz.prog (sBin .sub T_int (.tmp 81) (.const (.int .i64 1)) jv3.1 (.int .i64 1)) fun t82 =>
       next4 (t80, t82, ()) w8))
     (fun J3 =>
      LOOP (X := Value × Unit) (fun lv9 w9 next9 =>
       pureK Tryz.prog (sBin .leq T_int (.tmp 46) (.tmp 47) jv2.1 lv9.1) fun t48 =>
       ifB t48
       (pureK Tryz.prog (sIdxAddr T_s_int data0 a1) fun t52 =>
        readK Tryz.prog (sLoad T_int t52) (tick w9) fun t53 =>
        pureK Tryz.prog (sIdxAddr T_s_int data0 lv9.1) fun t56 =>
        readK Tryz.prog (sLoad T_int t56) (tick w9) fun t57 =>
        upK Tryz.prog (sCall F_cmp_Less_int #[t53, t57]) (tick w9) fun t58 w10 =>
        ifB t58
        (pureK Tryz.prog (sBin .sub T_int (.tmp 60) (.const (.int .i64 1)) lv9.1 (.int .i64 1)) fun t61 =>
         next9 (t61, ()) w10)
        (J3 (lv9.1, ()) w10))
       (J3 (lv9.1, ()) (tick w9)))
      (lv4.2.1, ()) w5))
    (fun J2 =>
     LOOP (X := Value × Unit) (fun lv11 w11 next11 =>
      pureK Tryz.prog (sBin .leq T_int (.tmp 29) (.tmp 30) lv11.1 lv4.2.1) fun t31 =>
      ifB t31
      (pureK Tryz.prog (sIdxAddr T_s_int data0 a1) fun t35 =>
       readK Tryz.prog (sLoad T_int t35) (tick w11) fun t36 =>
       pureK Tryz.prog (sIdxAddr T_s_int data0 lv11.1) fun t39 =>
       readK Tryz.prog (sLoad T_int t39) (tick w11) fun t40 =>
       upK Tryz.prog (sCall F_cmp_Less_int #[t36, t40]) (tick w11) fun t41 w12 =>
       pureK Tryz.prog (sUn .not t41) fun t42 =>
       ifB t42
       (pureK Tryz.prog (sBin .add T_int (.tmp 44) (.const (.int .i64 1)) lv11.1 (.int .i64 1)) fun t45 =>
        next11 (t45, ()) w12)
       (J2 (lv11.1, ()) w12))
      (J2 (lv11.1, ()) (tick w11)))
     (lv4.1, ()) w4))
   (t26, t28, ()) w2)
theorem slices_partitionEqualOrdered_int.pt_eq : slices_partitionEqualOrdered_int.pt = fun data0 a1 b2 pivot3 w K => FN Tryz.prog Tryz.f95 (bodyOf Tryz.f95) [] (.node none .leaf (.node none .leaf (.node none .leaf (.node (some [9]) (.node none (.node none (.node none (.node (some [9]) .leaf (.node (some [10]) .leaf .leaf)) .leaf) .leaf) .leaf) .leaf)))) [data0, a1, b2, pivot3] w K := by kernel_rfl
theorem slices_partitionEqualOrdered_int.call {data0 a1 b2 pivot3 : Value} {w : World} {K : Value → World → Prop} (h : slices_partitionEqualOrdered_int.pt data0 a1 b2 pivot3 w K) : Calls Tryz.prog F_slices_partitionEqualOrdered_int #[data0, a1, b2, pivot3] w (retK K) :=
  calls_FN (args := [data0, a1, b2, pivot3]) Tryz.func95 (by kernel_rfl) (by rw [slices_partitionEqualOrdered_int.pt_eq] at h; exact h)
theorem slices_partitionEqualOrdered_int.up {data0 a1 b2 pivot3 : Value} {w : World} {K : Value → World → Prop} (h : Calls Tryz.prog F_slices_partitionEqualOrdered_int #[data0, a1, b2, pivot3] w (retK K)) : upK Tryz.prog (sCall F_slices_partitionEqualOrdered_int #[data0, a1, b2, pivot3]) w K :=
  up_call (fn := Tryz.f95) Tryz.func95 (by kernel_rfl) (by kernel_rfl) h

end Go.Proofs.YtdecfgbdppfmcaaGreatDoor
