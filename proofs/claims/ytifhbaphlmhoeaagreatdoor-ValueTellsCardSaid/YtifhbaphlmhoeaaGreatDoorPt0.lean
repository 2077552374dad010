/-
  The reckoned conditions of the functions that this seat's statements reach, printed by program, each held against the translation by the kernel. No condition.
-/
import Derived.Test.YtifhbaphlmhoeaaGreatDoorNames
namespace Go.Proofs.YtifhbaphlmhoeaaGreatDoor
set_option linter.unusedVariables false
set_option maxRecDepth 100000

/-- errata/erratalaw03.ValueTells -/
def erratalaw03_ValueTells.pt (a0 b1 s2 : Value) (w : World) (K : Value → World → Prop) : Prop :=
  upK Tryz.prog (sCall F_erratalaw03_small #[]) w fun t25 w1 =>
  upK Tryz.prog (sCall F_errataref03_Short #[a0, (.int .i64 15)]) w1 fun t27 w2 =>
  pureK Tryz.prog (sUn .not t27) fun t28 =>
  ifB t28
  (K t25 w2)
  (upK Tryz.prog (sCall F_errataref03_Short #[b1, (.int .i64 15)]) w2 fun t31 w3 =>
   pureK Tryz.prog (sUn .not t31) fun t32 =>
   ifB t32
   (K t25 w3)
   (readK Tryz.prog (sBlt .len #[T_string] T_int #[false] #[s2]) w3 fun t36 =>
    pureK Tryz.prog (sBin .gtr T_int (.tmp 36) (.const (.int .i64 500)) t36 (.int .i64 500)) fun t37 =>
    ifB t37
    (K t25 w3)
    (upK Tryz.prog (sCall F_value_RightRow #[a0]) w3 fun t41 w4 =>
     upK Tryz.prog (sCall F_errataref03_RightRow #[a0]) w4 fun t43 w5 =>
     pureK Tryz.prog (sBin .neq T_bool (.tmp 41) (.tmp 43) t41 t43) fun t44 =>
     ifB t44
     (K (.bool false) w5)
     (upK Tryz.prog (sCall F_value_CompareRows #[a0, b1]) w5 fun t48 w6 =>
      upK Tryz.prog (sCall F_errataref03_CompareRows #[a0, b1]) w6 fun t51 w7 =>
      pureK Tryz.prog (sBin .neq T_int (.tmp 48) (.tmp 51) t48 t51) fun t52 =>
      ifB t52
      (K (.bool false) w7)
      (upK Tryz.prog (sCall F_value_SameRows #[a0, b1]) w7 fun t57 w8 =>
       upK Tryz.prog (sCall F_errataref03_Same #[a0, b1]) w8 fun t60 w9 =>
       pureK Tryz.prog (sBin .neq T_bool (.tmp 57) (.tmp 60) t57 t60) fun t61 =>
       ifB t61
       (K (.bool false) w9)
       (upK Tryz.prog (sCall F_value_RowBytes #[a0]) w9 fun t65 w10 =>
        upK Tryz.prog (sCall F_errataref03_RowBytes #[a0]) w10 fun t67 w11 =>
        pureK Tryz.prog (sBin .neq T_string (.tmp 65) (.tmp 67) t65 t67) fun t68 =>
        ifB t68
        (K (.bool false) w11)
        (upK Tryz.prog (sCall F_value_ShowRow #[a0]) w11 fun t72 w12 =>
         upK Tryz.prog (sCall F_errataref03_ShowRow #[a0]) w12 fun t74 w13 =>
         pureK Tryz.prog (sBin .neq T_string (.tmp 72) (.tmp 74) t72 t74) fun t75 =>
         ifB t75
         (K (.bool false) w13)
         (LOOP (X := Value × Unit) (fun lv14 w14 next14 =>
           readK Tryz.prog (sBlt .len #[T_s_api_Value] T_int #[false] #[a0]) w14 fun t79 =>
           pureK Tryz.prog (sBin .lss T_int (.tmp 77) (.tmp 79) lv14.1 t79) fun t80 =>
           ifB t80
           (LETJ (X := Unit) (fun jv1 w15 =>
             pureK Tryz.prog (sBin .add T_int (.tmp 81) (.const (.int .i64 1)) lv14.1 (.int .i64 1)) fun t82 =>
             next14 (t82, ()) w15)
            (fun J1 =>
             pureK Tryz.prog (sIdxAddr T_s_api_Value a0 lv14.1) fun t85 =>
             readK Tryz.prog (sLoad T_api_Value t85) (tick w14) fun t86 =>
             pureK Tryz.prog (sIdxAddr T_s_api_Value a0 lv14.1) fun t90 =>
             readK Tryz.prog (sLoad T_api_Value t90) (tick w14) fun t91 =>
             upK Tryz.prog (sCall F_value_Right #[t86]) (tick w14) fun t87 w16 =>
             Is Tryz.prog (sLoad T_api_Value t90) t91 w16 ∧ upK Tryz.prog (sCall F_errataref03_Right #[t91]) w16 fun t92 w17 =>
             pureK Tryz.prog (sBin .neq T_bool (.tmp 87) (.tmp 92) t87 t92) fun t93 =>
             ifB t93
             (K (.bool false) w17)
             (pureK Tryz.prog (sIdxAddr T_s_api_Value a0 lv14.1) fun t97 =>
              readK Tryz.prog (sLoad T_api_Value t97) w17 fun t98 =>
              pureK Tryz.prog (sIdxAddr T_s_api_Value a0 lv14.1) fun t102 =>
              readK Tryz.prog (sLoad T_api_Value t102) w17 fun t103 =>
              upK Tryz.prog (sCall F_value_Bytes #[t98]) w17 fun t99 w18 =>
              Is Tryz.prog (sLoad T_api_Value t102) t103 w18 ∧ upK Tryz.prog (sCall F_errataref03_Bytes #[t103]) w18 fun t104 w19 =>
              pureK Tryz.prog (sBin .neq T_string (.tmp 99) (.tmp 104) t99 t104) fun t105 =>
              ifB t105
              (K (.bool false) w19)
              (pureK Tryz.prog (sIdxAddr T_s_api_Value a0 lv14.1) fun t110 =>
               readK Tryz.prog (sLoad T_api_Value t110) w19 fun t111 =>
               pureK Tryz.prog (sIdxAddr T_s_api_Value a0 lv14.1) fun t115 =>
               readK Tryz.prog (sLoad T_api_Value t115) w19 fun t116 =>
               upK Tryz.prog (sCall F_value_Show #[t111]) w19 fun t112 w20 =>
               Is Tryz.prog (sLoad T_api_Value t115) t116 w20 ∧ upK Tryz.prog (sCall F_errataref03_Show #[t116]) w20 fun t117 w21 =>
               pureK Tryz.prog (sBin .neq T_string (.tmp 112) (.tmp 117) t112 t117) fun t118 =>
               ifB t118
               (K (.bool false) w21)
               (readK Tryz.prog (sBlt .len #[T_s_api_Value] T_int #[false] #[b1]) (tick w21) fun t122 =>
                pureK Tryz.prog (sBin .lss T_int (.tmp 120) (.tmp 122) lv14.1 t122) fun t123 =>
                ifB t123
                (pureK Tryz.prog (sIdxAddr T_s_api_Value a0 lv14.1) fun t127 =>
                 readK Tryz.prog (sLoad T_api_Value t127) (tick w21) fun t128 =>
                 pureK Tryz.prog (sIdxAddr T_s_api_Value b1 lv14.1) fun t131 =>
                 readK Tryz.prog (sLoad T_api_Value t131) (tick w21) fun t132 =>
                 pureK Tryz.prog (sIdxAddr T_s_api_Value a0 lv14.1) fun t136 =>
                 readK Tryz.prog (sLoad T_api_Value t136) (tick w21) fun t137 =>
                 pureK Tryz.prog (sIdxAddr T_s_api_Value b1 lv14.1) fun t140 =>
                 readK Tryz.prog (sLoad T_api_Value t140) (tick w21) fun t141 =>
                 upK Tryz.prog (sCall F_value_Compare #[t128, t132]) (tick w21) fun t133 w22 =>
                 Is Tryz.prog (sLoad T_api_Value t140) t141 w22 ∧ Is Tryz.prog (sLoad T_api_Value t136) t137 w22 ∧ upK Tryz.prog (sCall F_errataref03_Compare #[t137, t141]) w22 fun t142 w23 =>
                 pureK Tryz.prog (sBin .neq T_int (.tmp 133) (.tmp 142) t133 t142) fun t143 =>
                 ifB t143
                 (K (.bool false) w23)
                 (J1 (()) w23))
                (J1 (()) (tick w21)))))))
           (upK Tryz.prog (sCall F_value_Read #[s2]) w14 fun t147 w24 =>
            pureK Tryz.prog (sExtract t147 0) fun t148 =>
            pureK Tryz.prog (sExtract t147 1) fun t149 =>
            upK Tryz.prog (sAlloc T_api_Value) w24 fun v9 w25 =>
            upK Tryz.prog (sStore T_api_Value v9 t148) w25 fun tu w26 =>
            upK Tryz.prog (sCall F_errataref03_Read #[s2]) w26 fun t152 w27 =>
            pureK Tryz.prog (sExtract t152 0) fun t153 =>
            pureK Tryz.prog (sExtract t152 1) fun t154 =>
            upK Tryz.prog (sAlloc T_api_Value) w27 fun vw11 w28 =>
            upK Tryz.prog (sStore T_api_Value vw11 t153) w28 fun tu_1 w29 =>
            upK Tryz.prog (sCall F_value_Parse #[s2]) w29 fun t157 w30 =>
            pureK Tryz.prog (sExtract t157 0) fun t158 =>
            pureK Tryz.prog (sExtract t157 1) fun t159 =>
            upK Tryz.prog (sAlloc T_api_Value) w30 fun x13 w31 =>
            upK Tryz.prog (sStore T_api_Value x13 t158) w31 fun tu_2 w32 =>
            upK Tryz.prog (sCall F_errataref03_Parse #[s2]) w32 fun t162 w33 =>
            pureK Tryz.prog (sExtract t162 0) fun t163 =>
            pureK Tryz.prog (sExtract t162 1) fun t164 =>
            upK Tryz.prog (sAlloc T_api_Value) w33 fun vy15 w34 =>
            upK Tryz.prog (sStore T_api_Value vy15 t163) w34 fun tu_3 w35 =>
            upK Tryz.prog (sCall F_value_ReadRow #[s2]) w35 fun t167 w36 =>
            pureK Tryz.prog (sExtract t167 0) fun t168 =>
            pureK Tryz.prog (sExtract t167 1) fun t169 =>
            upK Tryz.prog (sCall F_errataref03_ReadRow #[s2]) w36 fun t172 w37 =>
            pureK Tryz.prog (sExtract t172 0) fun t173 =>
            pureK Tryz.prog (sExtract t172 1) fun t174 =>
            upK Tryz.prog (sCall F_value_ParseRow #[s2]) w37 fun t177 w38 =>
            pureK Tryz.prog (sExtract t177 0) fun t178 =>
            pureK Tryz.prog (sExtract t177 1) fun t179 =>
            upK Tryz.prog (sCall F_errataref03_ParseRow #[s2]) w38 fun t182 w39 =>
            pureK Tryz.prog (sExtract t182 0) fun t183 =>
            pureK Tryz.prog (sExtract t182 1) fun t184 =>
            readK Tryz.prog (sLoad T_api_Value v9) w39 fun t185 =>
            readK Tryz.prog (sLoad T_api_Value vw11) w39 fun t186 =>
            pureK Tryz.prog (sBin .neq T_api_Value (.tmp 185) (.tmp 186) t185 t186) fun t187 =>
            ifB t187
            (K (.bool false) w39)
            (pureK Tryz.prog (sBin .neq T_bool (.tmp 189) (.tmp 190) t149 t154) fun t191 =>
             ifB t191
             (K (.bool false) w39)
             (readK Tryz.prog (sLoad T_api_Value x13) w39 fun t194 =>
              readK Tryz.prog (sLoad T_api_Value vy15) w39 fun t195 =>
              pureK Tryz.prog (sBin .neq T_api_Value (.tmp 194) (.tmp 195) t194 t195) fun t196 =>
              ifB t196
              (K (.bool false) w39)
              (pureK Tryz.prog (sBin .neq T_bool (.tmp 199) (.tmp 200) t159 t164) fun t201 =>
               ifB t201
               (K (.bool false) w39)
               (pureK Tryz.prog (sBin .neq T_bool (.tmp 204) (.tmp 205) t169 t174) fun t206 =>
                ifB t206
                (K (.bool false) w39)
                (pureK Tryz.prog (sBin .neq T_bool (.tmp 209) (.tmp 210) t179 t184) fun t211 =>
                 ifB t211
                 (K (.bool false) w39)
                 (ifB t25
                  (upK Tryz.prog (sCall F_errataref03_Same #[t168, t173]) w39 fun t217 w40 =>
                   ifB t217
                   (upK Tryz.prog (sCall F_errataref03_Same #[t178, t183]) w40 fun t222 w41 =>
                    K t222 w41)
                   (K (.bool false) w40))
                  (K (.bool false) w39)))))))))
          ((.int .i64 0), ()) w13))))))))
theorem erratalaw03_ValueTells.pt_eq : erratalaw03_ValueTells.pt = fun a0 b1 s2 w K => FN Tryz.prog Tryz.f3 (bodyOf Tryz.f3) [6] (.node none .leaf (.node none .leaf (.node none .leaf (.node none .leaf (.node none (.node none .leaf (.node none (.node none (.node none .leaf (.node (some []) .leaf .leaf)) .leaf) .leaf)) .leaf))))) [a0, b1, s2] w K := by kernel_rfl
theorem erratalaw03_ValueTells.call {a0 b1 s2 : Value} {w : World} {K : Value → World → Prop} (h : erratalaw03_ValueTells.pt a0 b1 s2 w K) : Calls Tryz.prog F_erratalaw03_ValueTells #[a0, b1, s2] w (retK K) :=
  calls_FN (args := [a0, b1, s2]) Tryz.func3 (by kernel_rfl) (by rw [erratalaw03_ValueTells.pt_eq] at h; exact h)
theorem erratalaw03_ValueTells.up {a0 b1 s2 : Value} {w : World} {K : Value → World → Prop} (h : Calls Tryz.prog F_erratalaw03_ValueTells #[a0, b1, s2] w (retK K)) : upK Tryz.prog (sCall F_erratalaw03_ValueTells #[a0, b1, s2]) w K :=
  up_call (fn := Tryz.f3) Tryz.func3 (by kernel_rfl) (by kernel_rfl) h

/-- errata/erratalaw03.small -/
def erratalaw03_small.pt (w : World) (K : Value → World → Prop) : Prop :=
  upK Tryz.prog (sCall F_value_Int #[(.int .i64 (-3))]) w fun t8 w1 =>
  upK Tryz.prog (sCall F_value_Text #[(.string ⟨#[97, 34, 98]⟩)]) w1 fun t9 w2 =>
  upK Tryz.prog (sCall F_value_Bool #[(.bool true)]) w2 fun t10 w3 =>
  upK Tryz.prog (sBuildSlice T_s_api_Value 3 #[(0, t8), (1, t9), (2, t10)]) w3 fun t11 w4 =>
  upK Tryz.prog (sCall F_value_ShowRow #[t11]) w4 fun t13 w5 =>
  upK Tryz.prog (sCall F_value_ParseRow #[t13]) w5 fun t16 w6 =>
  pureK Tryz.prog (sExtract t16 0) fun t17 =>
  pureK Tryz.prog (sExtract t16 1) fun t18 =>
  upK Tryz.prog (sCall F_value_ParseRow #[(.string ⟨#[40, 41]⟩)]) w6 fun t20 w7 =>
  pureK Tryz.prog (sExtract t20 0) fun t21 =>
  pureK Tryz.prog (sExtract t20 1) fun t22 =>
  pureK Tryz.prog (sBin .eql T_string (.tmp 23) (.const (.string ⟨#[40, 45, 51, 44, 32, 34, 97, 92, 34, 98, 34, 44, 32, 116, 114, 117, 101, 41]⟩)) t13 (.string ⟨#[40, 45, 51, 44, 32, 34, 97, 92, 34, 98, 34, 44, 32, 116, 114, 117, 101, 41]⟩)) fun t24 =>
  ifB t24
  (ifB t18
   (upK Tryz.prog (sCall F_value_SameRows #[t17, t11]) w7 fun t31 w8 =>
    ifB t31
    (ifB t22
     (upK Tryz.prog (sCall F_value_ShowRow #[(.slice none 0 0)]) w8 fun t37 w9 =>
      pureK Tryz.prog (sBin .eql T_string (.tmp 37) (.const (.string ⟨#[40, 41]⟩)) t37 (.string ⟨#[40, 41]⟩)) fun t38 =>
      ifB t38
      (upK Tryz.prog (sCall F_value_Int #[(.int .i64 5)]) w9 fun t42 w10 =>
       upK Tryz.prog (sCall F_value_Text #[(.string ⟨#[97]⟩)]) w10 fun t43 w11 =>
       upK Tryz.prog (sCall F_value_Compare #[t42, t43]) w11 fun t44 w12 =>
       pureK Tryz.prog (sBin .eql T_int (.tmp 44) (.const (.int .i64 (-1))) t44 (.int .i64 (-1))) fun t45 =>
       ifB t45
       (pureK Tryz.prog (sSlice T_s_api_Value t11 none (some (.int .i64 1)) none) fun t49 =>
        upK Tryz.prog (sCall F_value_CompareRows #[t49, t11]) w12 fun t51 w13 =>
        pureK Tryz.prog (sBin .eql T_int (.tmp 51) (.const (.int .i64 (-1))) t51 (.int .i64 (-1))) fun t52 =>
        ifB t52
        (upK Tryz.prog (sCall F_value_RightRow #[t11]) w13 fun t56 w14 =>
         K t56 w14)
        (K (.bool false) w13))
       (K (.bool false) w12))
      (K (.bool false) w9))
     (K (.bool false) w8))
    (K (.bool false) w8))
   (K (.bool false) w7))
  (K (.bool false) w7)
theorem erratalaw03_small.pt_eq : erratalaw03_small.pt = fun  w K => FN Tryz.prog Tryz.f4 (bodyOf Tryz.f4) [0] .leaf [] w K := by kernel_rfl
theorem erratalaw03_small.call {w : World} {K : Value → World → Prop} (h : erratalaw03_small.pt  w K) : Calls Tryz.prog F_erratalaw03_small #[] w (retK K) :=
  calls_FN (args := []) Tryz.func4 (by kernel_rfl) (by rw [erratalaw03_small.pt_eq] at h; exact h)
theorem erratalaw03_small.up {w : World} {K : Value → World → Prop} (h : Calls Tryz.prog F_erratalaw03_small #[] w (retK K)) : upK Tryz.prog (sCall F_erratalaw03_small #[]) w K :=
  up_call (fn := Tryz.f4) Tryz.func4 (by kernel_rfl) (by kernel_rfl) h

/-- errata/errataref03.Short -/
def errataref03_Short.pt (r0 n1 : Value) (w : World) (K : Value → World → Prop) : Prop :=
  LOOP (X := Value × Unit) (fun lv1 w1 next1 =>
   readK Tryz.prog (sBlt .len #[T_s_api_Value] T_int #[false] #[r0]) w1 fun t8 =>
   pureK Tryz.prog (sBin .lss T_int (.tmp 6) (.tmp 8) lv1.1 t8) fun t9 =>
   ifB t9
   (pureK Tryz.prog (sIdxAddr T_s_api_Value r0 lv1.1) fun t14 =>
    pureK Tryz.prog (sFieldAddr T_api_Value t14 2) fun t15 =>
    readK Tryz.prog (sLoad T_string t15) w1 fun t16 =>
    readK Tryz.prog (sBlt .len #[T_string] T_int #[false] #[t16]) w1 fun t17 =>
    pureK Tryz.prog (sBin .gtr T_int (.tmp 17) (.const (.int .i64 300)) t17 (.int .i64 300)) fun t18 =>
    ifB t18
    (K (.bool false) w1)
    (pureK Tryz.prog (sBin .add T_int (.tmp 10) (.const (.int .i64 1)) lv1.1 (.int .i64 1)) fun t11 =>
     next1 (t11, ()) w1))
   (readK Tryz.prog (sBlt .len #[T_s_api_Value] T_int #[false] #[r0]) w1 fun t20 =>
    pureK Tryz.prog (sBin .leq T_int (.tmp 20) (.tmp 21) t20 n1) fun t22 =>
    K t22 w1))
  ((.int .i64 0), ()) w
theorem errataref03_Short.pt_eq : errataref03_Short.pt = fun r0 n1 w K => FN Tryz.prog Tryz.f5 (bodyOf Tryz.f5) [4] .leaf [r0, n1] w K := by kernel_rfl
theorem errataref03_Short.call {r0 n1 : Value} {w : World} {K : Value → World → Prop} (h : errataref03_Short.pt r0 n1 w K) : Calls Tryz.prog F_errataref03_Short #[r0, n1] w (retK K) :=
  calls_FN (args := [r0, n1]) Tryz.func5 (by kernel_rfl) (by rw [errataref03_Short.pt_eq] at h; exact h)
theorem errataref03_Short.up {r0 n1 : Value} {w : World} {K : Value → World → Prop} (h : Calls Tryz.prog F_errataref03_Short #[r0, n1] w (retK K)) : upK Tryz.prog (sCall F_errataref03_Short #[r0, n1]) w K :=
  up_call (fn := Tryz.f5) Tryz.func5 (by kernel_rfl) (by kernel_rfl) h

/-- errata/value.RightRow -/
def value_RightRow.pt (r0 : Value) (w : World) (K : Value → World → Prop) : Prop :=
  readK Tryz.prog (sBlt .len #[T_s_api_Value] T_int #[false] #[r0]) w fun t4 =>
  pureK Tryz.prog (sBin .leq T_int (.tmp 4) (.const (.int .i64 12)) t4 (.int .i64 12)) fun t5 =>
  ifB t5
  (upK Tryz.prog (sCall F_value_all #[r0]) w fun t8 w1 =>
   K t8 w1)
  (K (.bool false) w)
theorem value_RightRow.pt_eq : value_RightRow.pt = fun r0 w K => FN Tryz.prog Tryz.f6 (bodyOf Tryz.f6) [2] .leaf [r0] w K := by kernel_rfl
theorem value_RightRow.call {r0 : Value} {w : World} {K : Value → World → Prop} (h : value_RightRow.pt r0 w K) : Calls Tryz.prog F_value_RightRow #[r0] w (retK K) :=
  calls_FN (args := [r0]) Tryz.func6 (by kernel_rfl) (by rw [value_RightRow.pt_eq] at h; exact h)
theorem value_RightRow.up {r0 : Value} {w : World} {K : Value → World → Prop} (h : Calls Tryz.prog F_value_RightRow #[r0] w (retK K)) : upK Tryz.prog (sCall F_value_RightRow #[r0]) w K :=
  up_call (fn := Tryz.f6) Tryz.func6 (by kernel_rfl) (by kernel_rfl) h

/-- errata/errataref03.RightRow -/
def errataref03_RightRow.pt (r0 : Value) (w : World) (K : Value → World → Prop) : Prop :=
  readK Tryz.prog (sBlt .len #[T_s_api_Value] T_int #[false] #[r0]) w fun t4 =>
  pureK Tryz.prog (sBin .leq T_int (.tmp 4) (.const (.int .i64 12)) t4 (.int .i64 12)) fun t5 =>
  ifB t5
  (upK Tryz.prog (sCall F_errataref03_All #[r0]) w fun t8 w1 =>
   K t8 w1)
  (K (.bool false) w)
theorem errataref03_RightRow.pt_eq : errataref03_RightRow.pt = fun r0 w K => FN Tryz.prog Tryz.f7 (bodyOf Tryz.f7) [2] .leaf [r0] w K := by kernel_rfl
theorem errataref03_RightRow.call {r0 : Value} {w : World} {K : Value → World → Prop} (h : errataref03_RightRow.pt r0 w K) : Calls Tryz.prog F_errataref03_RightRow #[r0] w (retK K) :=
  calls_FN (args := [r0]) Tryz.func7 (by kernel_rfl) (by rw [errataref03_RightRow.pt_eq] at h; exact h)
theorem errataref03_RightRow.up {r0 : Value} {w : World} {K : Value → World → Prop} (h : Calls Tryz.prog F_errataref03_RightRow #[r0] w (retK K)) : upK Tryz.prog (sCall F_errataref03_RightRow #[r0]) w K :=
  up_call (fn := Tryz.f7) Tryz.func7 (by kernel_rfl) (by kernel_rfl) h

/-- errata/value.CompareRows -/
def value_CompareRows.pt (a0 b1 : Value) (w : World) (K : Value → World → Prop) : Prop :=
  upK Tryz.prog (sCall F_slices_CompareFunc_s_api_Value_s_api_Value_api_Value_api_Value #[a0, b1, (.func (.func 22) #[] #[])]) w fun t7 w1 =>
  K t7 w1
theorem value_CompareRows.pt_eq : value_CompareRows.pt = fun a0 b1 w K => FN Tryz.prog Tryz.f8 (bodyOf Tryz.f8) [4] .leaf [a0, b1] w K := by kernel_rfl
theorem value_CompareRows.call {a0 b1 : Value} {w : World} {K : Value → World → Prop} (h : value_CompareRows.pt a0 b1 w K) : Calls Tryz.prog F_value_CompareRows #[a0, b1] w (retK K) :=
  calls_FN (args := [a0, b1]) Tryz.func8 (by kernel_rfl) (by rw [value_CompareRows.pt_eq] at h; exact h)
theorem value_CompareRows.up {a0 b1 : Value} {w : World} {K : Value → World → Prop} (h : Calls Tryz.prog F_value_CompareRows #[a0, b1] w (retK K)) : upK Tryz.prog (sCall F_value_CompareRows #[a0, b1]) w K :=
  up_call (fn := Tryz.f8) Tryz.func8 (by kernel_rfl) (by kernel_rfl) h

/-- errata/errataref03.CompareRows -/
def errataref03_CompareRows.pt (a0 b1 : Value) (w : World) (K : Value → World → Prop) : Prop :=
  LETJ (X := Unit) (fun jv1 w1 =>
   readK Tryz.prog (sBlt .len #[T_s_api_Value] T_int #[false] #[a0]) w1 fun t32 =>
   readK Tryz.prog (sBlt .len #[T_s_api_Value] T_int #[false] #[b1]) w1 fun t34 =>
   pureK Tryz.prog (sBin .lss T_int (.tmp 32) (.tmp 34) t32 t34) fun t35 =>
   ifB t35
   (K (.int .i64 (-1)) w1)
   (readK Tryz.prog (sBlt .len #[T_s_api_Value] T_int #[false] #[a0]) w1 fun t37 =>
    readK Tryz.prog (sBlt .len #[T_s_api_Value] T_int #[false] #[b1]) w1 fun t39 =>
    pureK Tryz.prog (sBin .gtr T_int (.tmp 37) (.tmp 39) t37 t39) fun t40 =>
    ifB t40
    (K (.int .i64 1) w1)
    (K (.int .i64 0) w1)))
  (fun J1 =>
   LOOP (X := Value × Unit) (fun lv2 w2 next2 =>
    readK Tryz.prog (sBlt .len #[T_s_api_Value] T_int #[false] #[a0]) w2 fun t9 =>
    pureK Tryz.prog (sBin .lss T_int (.tmp 7) (.tmp 9) lv2.1 t9) fun t10 =>
    ifB t10
    (readK Tryz.prog (sBlt .len #[T_s_api_Value] T_int #[false] #[b1]) w2 fun t14 =>
     pureK Tryz.prog (sBin .lss T_int (.tmp 12) (.tmp 14) lv2.1 t14) fun t15 =>
     ifB t15
     (pureK Tryz.prog (sIdxAddr T_s_api_Value a0 lv2.1) fun t21 =>
      readK Tryz.prog (sLoad T_api_Value t21) (tick w2) fun t22 =>
      pureK Tryz.prog (sIdxAddr T_s_api_Value b1 lv2.1) fun t25 =>
      readK Tryz.prog (sLoad T_api_Value t25) (tick w2) fun t26 =>
      upK Tryz.prog (sCall F_errataref03_Compare #[t22, t26]) (tick w2) fun t27 w3 =>
      pureK Tryz.prog (sBin .neq T_int (.tmp 28) (.const (.int .i64 0)) t27 (.int .i64 0)) fun t29 =>
      ifB t29
      (K t27 w3)
      (pureK Tryz.prog (sBin .add T_int (.tmp 17) (.const (.int .i64 1)) lv2.1 (.int .i64 1)) fun t18 =>
       next2 (t18, ()) w3))
     (J1 (()) w2))
    (J1 (()) w2))
   ((.int .i64 0), ()) w)
theorem errataref03_CompareRows.pt_eq : errataref03_CompareRows.pt = fun a0 b1 w K => FN Tryz.prog Tryz.f9 (bodyOf Tryz.f9) [4] (.node none .leaf (.node (some []) .leaf .leaf)) [a0, b1] w K := by kernel_rfl
theorem errataref03_CompareRows.call {a0 b1 : Value} {w : World} {K : Value → World → Prop} (h : errataref03_CompareRows.pt a0 b1 w K) : Calls Tryz.prog F_errataref03_CompareRows #[a0, b1] w (retK K) :=
  calls_FN (args := [a0, b1]) Tryz.func9 (by kernel_rfl) (by rw [errataref03_CompareRows.pt_eq] at h; exact h)
theorem errataref03_CompareRows.up {a0 b1 : Value} {w : World} {K : Value → World → Prop} (h : Calls Tryz.prog F_errataref03_CompareRows #[a0, b1] w (retK K)) : upK Tryz.prog (sCall F_errataref03_CompareRows #[a0, b1]) w K :=
  up_call (fn := Tryz.f9) Tryz.func9 (by kernel_rfl) (by kernel_rfl) h

/-- errata/value.SameRows -/
def value_SameRows.pt (a0 b1 : Value) (w : World) (K : Value → World → Prop) : Prop :=
  upK Tryz.prog (sCall F_slices_Equal_s_api_Value_api_Value #[a0, b1]) w fun t7 w1 =>
  K t7 w1
theorem value_SameRows.pt_eq : value_SameRows.pt = fun a0 b1 w K => FN Tryz.prog Tryz.f10 (bodyOf Tryz.f10) [4] .leaf [a0, b1] w K := by kernel_rfl
theorem value_SameRows.call {a0 b1 : Value} {w : World} {K : Value → World → Prop} (h : value_SameRows.pt a0 b1 w K) : Calls Tryz.prog F_value_SameRows #[a0, b1] w (retK K) :=
  calls_FN (args := [a0, b1]) Tryz.func10 (by kernel_rfl) (by rw [value_SameRows.pt_eq] at h; exact h)
theorem value_SameRows.up {a0 b1 : Value} {w : World} {K : Value → World → Prop} (h : Calls Tryz.prog F_value_SameRows #[a0, b1] w (retK K)) : upK Tryz.prog (sCall F_value_SameRows #[a0, b1]) w K :=
  up_call (fn := Tryz.f10) Tryz.func10 (by kernel_rfl) (by kernel_rfl) h

/-- errata/errataref03.Same -/
def errataref03_Same.pt (a0 b1 : Value) (w : World) (K : Value → World → Prop) : Prop :=
  upK Tryz.prog (sCall F_errataref03_CompareRows #[a0, b1]) w fun t7 w1 =>
  pureK Tryz.prog (sBin .eql T_int (.tmp 7) (.const (.int .i64 0)) t7 (.int .i64 0)) fun t8 =>
  K t8 w1
theorem errataref03_Same.pt_eq : errataref03_Same.pt = fun a0 b1 w K => FN Tryz.prog Tryz.f11 (bodyOf Tryz.f11) [4] .leaf [a0, b1] w K := by kernel_rfl
theorem errataref03_Same.call {a0 b1 : Value} {w : World} {K : Value → World → Prop} (h : errataref03_Same.pt a0 b1 w K) : Calls Tryz.prog F_errataref03_Same #[a0, b1] w (retK K) :=
  calls_FN (args := [a0, b1]) Tryz.func11 (by kernel_rfl) (by rw [errataref03_Same.pt_eq] at h; exact h)
theorem errataref03_Same.up {a0 b1 : Value} {w : World} {K : Value → World → Prop} (h : Calls Tryz.prog F_errataref03_Same #[a0, b1] w (retK K)) : upK Tryz.prog (sCall F_errataref03_Same #[a0, b1]) w K :=
  up_call (fn := Tryz.f11) Tryz.func11 (by kernel_rfl) (by kernel_rfl) h

/-- errata/value.RowBytes -/
def value_RowBytes.pt (r0 : Value) (w : World) (K : Value → World → Prop) : Prop :=
  upK Tryz.prog (sAlloc T_strings_Builder) w fun b3 w1 =>
  readK Tryz.prog (sBlt .len #[T_s_api_Value] T_int #[false] #[r0]) w1 fun t7 =>
  upK Tryz.prog (sCall F_wire_Num #[t7]) w1 fun t8 w2 =>
  upK Tryz.prog (sCall F_strings_Builder_WriteString #[b3, t8]) w2 fun t9 w3 =>
  readK Tryz.prog (sBlt .len #[T_s_api_Value] T_int #[false] #[r0]) w3 fun t11 =>
  LOOP (X := Value × Unit) (fun lv4 w4 next4 =>
   pureK Tryz.prog (sBin .lss T_int (.tmp 12) (.tmp 11) lv4.1 t11) fun t13 =>
   ifB t13
   (pureK Tryz.prog (sIdxAddr T_s_api_Value r0 lv4.1) fun t14 =>
    readK Tryz.prog (sLoad T_api_Value t14) w4 fun t15 =>
    upK Tryz.prog (sAlloc T_api_Value) w4 fun v5 w5 =>
    upK Tryz.prog (sStore T_api_Value v5 t15) w5 fun tu w6 =>
    readK Tryz.prog (sLoad T_api_Value v5) w6 fun t16 =>
    upK Tryz.prog (sCall F_value_Bytes #[t16]) w6 fun t17 w7 =>
    upK Tryz.prog (sCall F_strings_Builder_WriteString #[b3, t17]) w7 fun t18 w8 =>
    pureK Tryz.prog (sBin .add T_int (.tmp 12) (.const (.int .i64 1)) lv4.1 (.int .i64 1)) fun t19 =>
    next4 (t19, ()) w8)
   (upK Tryz.prog (sCall F_strings_Builder_String #[b3]) w4 fun t20 w9 =>
    K t20 w9))
  ((.int .i64 0), ()) w3
theorem value_RowBytes.pt_eq : value_RowBytes.pt = fun r0 w K => FN Tryz.prog Tryz.f12 (bodyOf Tryz.f12) [2] .leaf [r0] w K := by kernel_rfl
theorem value_RowBytes.call {r0 : Value} {w : World} {K : Value → World → Prop} (h : value_RowBytes.pt r0 w K) : Calls Tryz.prog F_value_RowBytes #[r0] w (retK K) :=
  calls_FN (args := [r0]) Tryz.func12 (by kernel_rfl) (by rw [value_RowBytes.pt_eq] at h; exact h)
theorem value_RowBytes.up {r0 : Value} {w : World} {K : Value → World → Prop} (h : Calls Tryz.prog F_value_RowBytes #[r0] w (retK K)) : upK Tryz.prog (sCall F_value_RowBytes #[r0]) w K :=
  up_call (fn := Tryz.f12) Tryz.func12 (by kernel_rfl) (by kernel_rfl) h

/-- errata/errataref03.RowBytes -/
def errataref03_RowBytes.pt (r0 : Value) (w : World) (K : Value → World → Prop) : Prop :=
  readK Tryz.prog (sBlt .len #[T_s_api_Value] T_int #[false] #[r0]) w fun t6 =>
  upK Tryz.prog (sCall F_errataref01_Num #[t6]) w fun t7 w1 =>
  LOOP (X := Value × Value × Unit) (fun lv2 w2 next2 =>
   readK Tryz.prog (sBlt .len #[T_s_api_Value] T_int #[false] #[r0]) w2 fun t10 =>
   pureK Tryz.prog (sBin .lss T_int (.tmp 8) (.tmp 10) lv2.2.1 t10) fun t11 =>
   ifB t11
   (pureK Tryz.prog (sIdxAddr T_s_api_Value r0 lv2.2.1) fun t17 =>
    readK Tryz.prog (sLoad T_api_Value t17) w2 fun t18 =>
    upK Tryz.prog (sCall F_errataref03_Bytes #[t18]) w2 fun t19 w3 =>
    pureK Tryz.prog (sBin .add T_string (.tmp 14) (.tmp 19) lv2.1 t19) fun t20 =>
    pureK Tryz.prog (sBin .add T_int (.tmp 12) (.const (.int .i64 1)) lv2.2.1 (.int .i64 1)) fun t13 =>
    next2 (t20, t13, ()) w3)
   (K lv2.1 w2))
  (t7, (.int .i64 0), ()) w1
theorem errataref03_RowBytes.pt_eq : errataref03_RowBytes.pt = fun r0 w K => FN Tryz.prog Tryz.f13 (bodyOf Tryz.f13) [2] .leaf [r0] w K := by kernel_rfl
theorem errataref03_RowBytes.call {r0 : Value} {w : World} {K : Value → World → Prop} (h : errataref03_RowBytes.pt r0 w K) : Calls Tryz.prog F_errataref03_RowBytes #[r0] w (retK K) :=
  calls_FN (args := [r0]) Tryz.func13 (by kernel_rfl) (by rw [errataref03_RowBytes.pt_eq] at h; exact h)
theorem errataref03_RowBytes.up {r0 : Value} {w : World} {K : Value → World → Prop} (h : Calls Tryz.prog F_errataref03_RowBytes #[r0] w (retK K)) : upK Tryz.prog (sCall F_errataref03_RowBytes #[r0]) w K :=
  up_call (fn := Tryz.f13) Tryz.func13 (by kernel_rfl) (by kernel_rfl) h

/-- errata/value.ShowRow -/
def value_ShowRow.pt (r0 : Value) (w : World) (K : Value → World → Prop) : Prop :=
  upK Tryz.prog (sCall F_value_all #[r0]) w fun t7 w1 =>
  pureK Tryz.prog (sUn .not t7) fun t8 =>
  ifB t8
  (K (.string ⟨#[]⟩) w1)
  (readK Tryz.prog (sBlt .len #[T_s_api_Value] T_int #[false] #[r0]) w1 fun t10 =>
   upK Tryz.prog (sMkSlice T_s_string t10 t10) w1 fun t11 w2 =>
   readK Tryz.prog (sBlt .len #[T_s_api_Value] T_int #[false] #[r0]) w2 fun t13 =>
   LOOP (X := Value × Unit) (fun lv3 w3 next3 =>
    pureK Tryz.prog (sBin .lss T_int (.tmp 14) (.tmp 13) lv3.1 t13) fun t15 =>
    ifB t15
    (pureK Tryz.prog (sIdxAddr T_s_api_Value r0 lv3.1) fun t17 =>
     readK Tryz.prog (sLoad T_api_Value t17) w3 fun t18 =>
     upK Tryz.prog (sAlloc T_api_Value) w3 fun v5 w4 =>
     upK Tryz.prog (sStore T_api_Value v5 t18) w4 fun tu w5 =>
     readK Tryz.prog (sLoad T_api_Value v5) w5 fun t21 =>
     upK Tryz.prog (sCall F_value_Show #[t21]) w5 fun t22 w6 =>
     pureK Tryz.prog (sIdxAddr T_s_string t11 lv3.1) fun t23 =>
     upK Tryz.prog (sStore T_string t23 t22) w6 fun tu_1 w7 =>
     pureK Tryz.prog (sBin .add T_int (.tmp 14) (.const (.int .i64 1)) lv3.1 (.int .i64 1)) fun t24 =>
     next3 (t24, ()) w7)
    (upK Tryz.prog (sCall F_strings_Join #[t11, (.string ⟨#[44, 32]⟩)]) w3 fun t26 w8 =>
     pureK Tryz.prog (sBin .add T_string (.const (.string ⟨#[40]⟩)) (.tmp 26) (.string ⟨#[40]⟩) t26) fun t27 =>
     pureK Tryz.prog (sBin .add T_string (.tmp 27) (.const (.string ⟨#[41]⟩)) t27 (.string ⟨#[41]⟩)) fun t28 =>
     K t28 w8))
   ((.int .i64 0), ()) w2)
theorem value_ShowRow.pt_eq : value_ShowRow.pt = fun r0 w K => FN Tryz.prog Tryz.f14 (bodyOf Tryz.f14) [2] .leaf [r0] w K := by kernel_rfl
theorem value_ShowRow.call {r0 : Value} {w : World} {K : Value → World → Prop} (h : value_ShowRow.pt r0 w K) : Calls Tryz.prog F_value_ShowRow #[r0] w (retK K) :=
  calls_FN (args := [r0]) Tryz.func14 (by kernel_rfl) (by rw [value_ShowRow.pt_eq] at h; exact h)
theorem value_ShowRow.up {r0 : Value} {w : World} {K : Value → World → Prop} (h : Calls Tryz.prog F_value_ShowRow #[r0] w (retK K)) : upK Tryz.prog (sCall F_value_ShowRow #[r0]) w K :=
  up_call (fn := Tryz.f14) Tryz.func14 (by kernel_rfl) (by kernel_rfl) h

/-- errata/errataref03.ShowRow -/
def errataref03_ShowRow.pt (r0 : Value) (w : World) (K : Value → World → Prop) : Prop :=
  upK Tryz.prog (sCall F_errataref03_All #[r0]) w fun t6 w1 =>
  pureK Tryz.prog (sUn .not t6) fun t7 =>
  ifB t7
  (K (.string ⟨#[]⟩) w1)
  (LOOP (X := Value × Value × Unit) (fun lv2 w2 next2 =>
    readK Tryz.prog (sBlt .len #[T_s_api_Value] T_int #[false] #[r0]) w2 fun t10 =>
    pureK Tryz.prog (sBin .lss T_int (.tmp 8) (.tmp 10) lv2.2.1 t10) fun t11 =>
    ifB t11
    (LETJ (X := Value × Unit) (fun jv1 w3 =>
      pureK Tryz.prog (sIdxAddr T_s_api_Value r0 lv2.2.1) fun t21 =>
      readK Tryz.prog (sLoad T_api_Value t21) w3 fun t22 =>
      upK Tryz.prog (sCall F_errataref03_Show #[t22]) w3 fun t23 w4 =>
      pureK Tryz.prog (sBin .add T_string (.tmp 18) (.tmp 23) jv1.1 t23) fun t24 =>
      pureK Tryz.prog (sBin .add T_int (.tmp 12) (.const (.int .i64 1)) lv2.2.1 (.int .i64 1)) fun t13 =>
      next2 (t24, t13, ()) w4)
     (fun J1 =>
      pureK Tryz.prog (sBin .gtr T_int (.tmp 14) (.const (.int .i64 0)) lv2.2.1 (.int .i64 0)) fun t15 =>
      ifB t15
      (pureK Tryz.prog (sBin .add T_string (.tmp 16) (.const (.string ⟨#[44, 32]⟩)) lv2.1 (.string ⟨#[44, 32]⟩)) fun t17 =>
       J1 (t17, ()) w2)
      (J1 (lv2.1, ()) w2)))
    (pureK Tryz.prog (sBin .add T_string (.tmp 25) (.const (.string ⟨#[41]⟩)) lv2.1 (.string ⟨#[41]⟩)) fun t26 =>
     K t26 w2))
   ((.string ⟨#[40]⟩), (.int .i64 0), ()) w1)
theorem errataref03_ShowRow.pt_eq : errataref03_ShowRow.pt = fun r0 w K => FN Tryz.prog Tryz.f15 (bodyOf Tryz.f15) [2] (.node none .leaf (.node none .leaf (.node none .leaf (.node none (.node none .leaf (.node none (.node none (.node none .leaf (.node none (.node none (.node (some [3]) .leaf .leaf) .leaf) .leaf)) .leaf) .leaf)) .leaf)))) [r0] w K := by kernel_rfl
theorem errataref03_ShowRow.call {r0 : Value} {w : World} {K : Value → World → Prop} (h : errataref03_ShowRow.pt r0 w K) : Calls Tryz.prog F_errataref03_ShowRow #[r0] w (retK K) :=
  calls_FN (args := [r0]) Tryz.func15 (by kernel_rfl) (by rw [errataref03_ShowRow.pt_eq] at h; exact h)
theorem errataref03_ShowRow.up {r0 : Value} {w : World} {K : Value → World → Prop} (h : Calls Tryz.prog F_errataref03_ShowRow #[r0] w (retK K)) : upK Tryz.prog (sCall F_errataref03_ShowRow #[r0]) w K :=
  up_call (fn := Tryz.f15) Tryz.func15 (by kernel_rfl) (by kernel_rfl) h

/-- errata/value.Right -/
def value_Right.pt (v0 : Value) (w : World) (K : Value → World → Prop) : Prop :=
  upK Tryz.prog (sBox T_api_Value v0) w fun v1 w1 =>
  pureK Tryz.prog (sFieldAddr T_api_Value v1 0) fun t3 =>
  readK Tryz.prog (sLoad T_int t3) w1 fun t4 =>
  pureK Tryz.prog (sBin .eql T_int (.tmp 4) (.const (.int .i64 0)) t4 (.int .i64 0)) fun t6 =>
  ifB t6
  (readK Tryz.prog (sLoad T_api_Value v1) (tick w1) fun t7 =>
   pureK Tryz.prog (sFieldAddr T_api_Value v1 1) fun t8 =>
   readK Tryz.prog (sLoad T_int t8) (tick w1) fun t9 =>
   upK Tryz.prog (sCall F_value_Int #[t9]) (tick w1) fun t10 w2 =>
   Is Tryz.prog (sLoad T_api_Value v1) t7 w2 ∧ pureK Tryz.prog (sBin .eql T_api_Value (.tmp 7) (.tmp 10) t7 t10) fun t11 =>
   K t11 w2)
  (pureK Tryz.prog (sBin .eql T_int (.tmp 4) (.const (.int .i64 1)) t4 (.int .i64 1)) fun t13 =>
   ifB t13
   (readK Tryz.prog (sLoad T_api_Value v1) (tick w1) fun t14 =>
    pureK Tryz.prog (sFieldAddr T_api_Value v1 2) fun t15 =>
    readK Tryz.prog (sLoad T_string t15) (tick w1) fun t16 =>
    upK Tryz.prog (sCall F_value_Text #[t16]) (tick w1) fun t17 w3 =>
    Is Tryz.prog (sLoad T_api_Value v1) t14 w3 ∧ pureK Tryz.prog (sBin .eql T_api_Value (.tmp 14) (.tmp 17) t14 t17) fun t18 =>
    ifB t18
    (pureK Tryz.prog (sFieldAddr T_api_Value v1 2) fun t20 =>
     readK Tryz.prog (sLoad T_string t20) w3 fun t21 =>
     readK Tryz.prog (sBlt .len #[T_string] T_int #[false] #[t21]) w3 fun t22 =>
     pureK Tryz.prog (sBin .leq T_int (.tmp 22) (.const (.int .i64 200)) t22 (.int .i64 200)) fun t23 =>
     K t23 w3)
    (K (.bool false) w3))
   (readK Tryz.prog (sLoad T_api_Value v1) (tick w1) fun t25 =>
    upK Tryz.prog (sCall F_value_Bool #[(.bool false)]) (tick w1) fun t26 w4 =>
    Is Tryz.prog (sLoad T_api_Value v1) t25 w4 ∧ pureK Tryz.prog (sBin .eql T_api_Value (.tmp 25) (.tmp 26) t25 t26) fun t27 =>
    ifB t27
    (K (.bool true) w4)
    (readK Tryz.prog (sLoad T_api_Value v1) w4 fun t29 =>
     upK Tryz.prog (sCall F_value_Bool #[(.bool true)]) w4 fun t30 w5 =>
     Is Tryz.prog (sLoad T_api_Value v1) t29 w5 ∧ pureK Tryz.prog (sBin .eql T_api_Value (.tmp 29) (.tmp 30) t29 t30) fun t31 =>
     K t31 w5)))
theorem value_Right.pt_eq : value_Right.pt = fun v0 w K => FN Tryz.prog Tryz.f16 (bodyOf Tryz.f16) [2] .leaf [v0] w K := by kernel_rfl
theorem value_Right.call {v0 : Value} {w : World} {K : Value → World → Prop} (h : value_Right.pt v0 w K) : Calls Tryz.prog F_value_Right #[v0] w (retK K) :=
  calls_FN (args := [v0]) Tryz.func16 (by kernel_rfl) (by rw [value_Right.pt_eq] at h; exact h)
theorem value_Right.up {v0 : Value} {w : World} {K : Value → World → Prop} (h : Calls Tryz.prog F_value_Right #[v0] w (retK K)) : upK Tryz.prog (sCall F_value_Right #[v0]) w K :=
  up_call (fn := Tryz.f16) Tryz.func16 (by kernel_rfl) (by kernel_rfl) h

/-- errata/errataref03.Right -/
def errataref03_Right.pt (v0 : Value) (w : World) (K : Value → World → Prop) : Prop :=
  upK Tryz.prog (sBox T_api_Value v0) w fun v1 w1 =>
  pureK Tryz.prog (sFieldAddr T_api_Value v1 0) fun t3 =>
  readK Tryz.prog (sLoad T_int t3) w1 fun t4 =>
  pureK Tryz.prog (sBin .eql T_int (.tmp 4) (.const (.int .i64 0)) t4 (.int .i64 0)) fun t5 =>
  ifB t5
  (pureK Tryz.prog (sFieldAddr T_api_Value v1 2) fun t6 =>
   readK Tryz.prog (sLoad T_string t6) w1 fun t7 =>
   pureK Tryz.prog (sBin .eql T_string (.tmp 7) (.const (.string ⟨#[]⟩)) t7 (.string ⟨#[]⟩)) fun t8 =>
   K t8 w1)
  (pureK Tryz.prog (sFieldAddr T_api_Value v1 0) fun t9 =>
   readK Tryz.prog (sLoad T_int t9) w1 fun t10 =>
   pureK Tryz.prog (sBin .eql T_int (.tmp 10) (.const (.int .i64 1)) t10 (.int .i64 1)) fun t11 =>
   ifB t11
   (pureK Tryz.prog (sFieldAddr T_api_Value v1 1) fun t12 =>
    readK Tryz.prog (sLoad T_int t12) w1 fun t13 =>
    pureK Tryz.prog (sBin .eql T_int (.tmp 13) (.const (.int .i64 0)) t13 (.int .i64 0)) fun t14 =>
    ifB t14
    (pureK Tryz.prog (sFieldAddr T_api_Value v1 2) fun t16 =>
     readK Tryz.prog (sLoad T_string t16) w1 fun t17 =>
     readK Tryz.prog (sBlt .len #[T_string] T_int #[false] #[t17]) w1 fun t18 =>
     pureK Tryz.prog (sBin .leq T_int (.tmp 18) (.const (.int .i64 200)) t18 (.int .i64 200)) fun t19 =>
     K t19 w1)
    (K (.bool false) w1))
   (pureK Tryz.prog (sFieldAddr T_api_Value v1 0) fun t21 =>
    readK Tryz.prog (sLoad T_int t21) w1 fun t22 =>
    pureK Tryz.prog (sBin .eql T_int (.tmp 22) (.const (.int .i64 2)) t22 (.int .i64 2)) fun t23 =>
    ifB t23
    (pureK Tryz.prog (sFieldAddr T_api_Value v1 1) fun t25 =>
     readK Tryz.prog (sLoad T_int t25) w1 fun t26 =>
     pureK Tryz.prog (sBin .eql T_int (.tmp 26) (.const (.int .i64 0)) t26 (.int .i64 0)) fun t27 =>
     ifB t27
     (pureK Tryz.prog (sFieldAddr T_api_Value v1 2) fun t35 =>
      readK Tryz.prog (sLoad T_string t35) w1 fun t36 =>
      pureK Tryz.prog (sBin .eql T_string (.tmp 36) (.const (.string ⟨#[]⟩)) t36 (.string ⟨#[]⟩)) fun t37 =>
      K t37 w1)
     (pureK Tryz.prog (sFieldAddr T_api_Value v1 1) fun t29 =>
      readK Tryz.prog (sLoad T_int t29) w1 fun t30 =>
      pureK Tryz.prog (sBin .eql T_int (.tmp 30) (.const (.int .i64 1)) t30 (.int .i64 1)) fun t31 =>
      ifB t31
      (pureK Tryz.prog (sFieldAddr T_api_Value v1 2) fun t35_1 =>
       readK Tryz.prog (sLoad T_string t35_1) w1 fun t36_1 =>
       pureK Tryz.prog (sBin .eql T_string (.tmp 36) (.const (.string ⟨#[]⟩)) t36_1 (.string ⟨#[]⟩)) fun t37_1 =>
       K t37_1 w1)
      (K (.bool false) w1)))
    (K (.bool false) w1)))
theorem errataref03_Right.pt_eq : errataref03_Right.pt = fun v0 w K => FN Tryz.prog Tryz.f17 (bodyOf Tryz.f17) [2] .leaf [v0] w K := by kernel_rfl
theorem errataref03_Right.call {v0 : Value} {w : World} {K : Value → World → Prop} (h : errataref03_Right.pt v0 w K) : Calls Tryz.prog F_errataref03_Right #[v0] w (retK K) :=
  calls_FN (args := [v0]) Tryz.func17 (by kernel_rfl) (by rw [errataref03_Right.pt_eq] at h; exact h)
theorem errataref03_Right.up {v0 : Value} {w : World} {K : Value → World → Prop} (h : Calls Tryz.prog F_errataref03_Right #[v0] w (retK K)) : upK Tryz.prog (sCall F_errataref03_Right #[v0]) w K :=
  up_call (fn := Tryz.f17) Tryz.func17 (by kernel_rfl) (by kernel_rfl) h

/-- errata/value.Bytes -/
def value_Bytes.pt (v0 : Value) (w : World) (K : Value → World → Prop) : Prop :=
  upK Tryz.prog (sBox T_api_Value v0) w fun v1 w1 =>
  pureK Tryz.prog (sFieldAddr T_api_Value v1 0) fun t3 =>
  readK Tryz.prog (sLoad T_int t3) (tick w1) fun t4 =>
  pureK Tryz.prog (sFieldAddr T_api_Value v1 1) fun t6 =>
  readK Tryz.prog (sLoad T_int t6) (tick w1) fun t7 =>
  pureK Tryz.prog (sFieldAddr T_api_Value v1 2) fun t10 =>
  readK Tryz.prog (sLoad T_string t10) (tick w1) fun t11 =>
  upK Tryz.prog (sCall F_wire_Int #[t4]) (tick w1) fun t5 w2 =>
  Is Tryz.prog (sLoad T_string t10) t11 w2 ∧ Is Tryz.prog (sLoad T_int t6) t7 w2 ∧ upK Tryz.prog (sCall F_wire_Int #[t7]) w2 fun t8 w3 =>
  Is Tryz.prog (sLoad T_string t10) t11 w3 ∧ pureK Tryz.prog (sBin .add T_string (.tmp 5) (.tmp 8) t5 t8) fun t9 =>
  upK Tryz.prog (sCall F_wire_Text #[t11]) w3 fun t12 w4 =>
  pureK Tryz.prog (sBin .add T_string (.tmp 9) (.tmp 12) t9 t12) fun t13 =>
  K t13 w4
theorem value_Bytes.pt_eq : value_Bytes.pt = fun v0 w K => FN Tryz.prog Tryz.f18 (bodyOf Tryz.f18) [2] .leaf [v0] w K := by kernel_rfl
theorem value_Bytes.call {v0 : Value} {w : World} {K : Value → World → Prop} (h : value_Bytes.pt v0 w K) : Calls Tryz.prog F_value_Bytes #[v0] w (retK K) :=
  calls_FN (args := [v0]) Tryz.func18 (by kernel_rfl) (by rw [value_Bytes.pt_eq] at h; exact h)
theorem value_Bytes.up {v0 : Value} {w : World} {K : Value → World → Prop} (h : Calls Tryz.prog F_value_Bytes #[v0] w (retK K)) : upK Tryz.prog (sCall F_value_Bytes #[v0]) w K :=
  up_call (fn := Tryz.f18) Tryz.func18 (by kernel_rfl) (by kernel_rfl) h

/-- errata/errataref03.Bytes -/
def errataref03_Bytes.pt (v0 : Value) (w : World) (K : Value → World → Prop) : Prop :=
  upK Tryz.prog (sBox T_api_Value v0) w fun v1 w1 =>
  pureK Tryz.prog (sFieldAddr T_api_Value v1 0) fun t3 =>
  readK Tryz.prog (sLoad T_int t3) (tick w1) fun t4 =>
  pureK Tryz.prog (sFieldAddr T_api_Value v1 1) fun t6 =>
  readK Tryz.prog (sLoad T_int t6) (tick w1) fun t7 =>
  pureK Tryz.prog (sFieldAddr T_api_Value v1 2) fun t10 =>
  readK Tryz.prog (sLoad T_string t10) (tick w1) fun t11 =>
  upK Tryz.prog (sCall F_errataref01_Int #[t4]) (tick w1) fun t5 w2 =>
  Is Tryz.prog (sLoad T_string t10) t11 w2 ∧ Is Tryz.prog (sLoad T_int t6) t7 w2 ∧ upK Tryz.prog (sCall F_errataref01_Int #[t7]) w2 fun t8 w3 =>
  Is Tryz.prog (sLoad T_string t10) t11 w3 ∧ pureK Tryz.prog (sBin .add T_string (.tmp 5) (.tmp 8) t5 t8) fun t9 =>
  upK Tryz.prog (sCall F_errataref01_Text #[t11]) w3 fun t12 w4 =>
  pureK Tryz.prog (sBin .add T_string (.tmp 9) (.tmp 12) t9 t12) fun t13 =>
  K t13 w4
theorem errataref03_Bytes.pt_eq : errataref03_Bytes.pt = fun v0 w K => FN Tryz.prog Tryz.f19 (bodyOf Tryz.f19) [2] .leaf [v0] w K := by kernel_rfl
theorem errataref03_Bytes.call {v0 : Value} {w : World} {K : Value → World → Prop} (h : errataref03_Bytes.pt v0 w K) : Calls Tryz.prog F_errataref03_Bytes #[v0] w (retK K) :=
  calls_FN (args := [v0]) Tryz.func19 (by kernel_rfl) (by rw [errataref03_Bytes.pt_eq] at h; exact h)
theorem errataref03_Bytes.up {v0 : Value} {w : World} {K : Value → World → Prop} (h : Calls Tryz.prog F_errataref03_Bytes #[v0] w (retK K)) : upK Tryz.prog (sCall F_errataref03_Bytes #[v0]) w K :=
  up_call (fn := Tryz.f19) Tryz.func19 (by kernel_rfl) (by kernel_rfl) h

/-- errata/value.Show -/
def value_Show.pt (v0 : Value) (w : World) (K : Value → World → Prop) : Prop :=
  upK Tryz.prog (sBox T_api_Value v0) w fun v1 w1 =>
  readK Tryz.prog (sLoad T_api_Value v1) w1 fun t4 =>
  upK Tryz.prog (sCall F_value_Right #[t4]) w1 fun t5 w2 =>
  pureK Tryz.prog (sUn .not t5) fun t6 =>
  ifB t6
  (K (.string ⟨#[]⟩) w2)
  (pureK Tryz.prog (sFieldAddr T_api_Value v1 0) fun t8 =>
   readK Tryz.prog (sLoad T_int t8) w2 fun t9 =>
   pureK Tryz.prog (sBin .eql T_int (.tmp 9) (.const (.int .i64 0)) t9 (.int .i64 0)) fun t10 =>
   ifB t10
   (pureK Tryz.prog (sFieldAddr T_api_Value v1 1) fun t11 =>
    readK Tryz.prog (sLoad T_int t11) w2 fun t12 =>
    upK Tryz.prog (sCall F_text_Decimal #[t12]) w2 fun t13 w3 =>
    K t13 w3)
   (pureK Tryz.prog (sFieldAddr T_api_Value v1 0) fun t15 =>
    readK Tryz.prog (sLoad T_int t15) w2 fun t16 =>
    pureK Tryz.prog (sBin .eql T_int (.tmp 16) (.const (.int .i64 1)) t16 (.int .i64 1)) fun t17 =>
    ifB t17
    (pureK Tryz.prog (sFieldAddr T_api_Value v1 2) fun t18 =>
     readK Tryz.prog (sLoad T_string t18) w2 fun t19 =>
     upK Tryz.prog (sCall F_text_Quote #[t19]) w2 fun t20 w4 =>
     K t20 w4)
    (pureK Tryz.prog (sFieldAddr T_api_Value v1 1) fun t22 =>
     readK Tryz.prog (sLoad T_int t22) w2 fun t23 =>
     pureK Tryz.prog (sBin .eql T_int (.tmp 23) (.const (.int .i64 1)) t23 (.int .i64 1)) fun t24 =>
     ifB t24
     (K (.string ⟨#[116, 114, 117, 101]⟩) w2)
     (K (.string ⟨#[102, 97, 108, 115, 101]⟩) w2))))
theorem value_Show.pt_eq : value_Show.pt = fun v0 w K => FN Tryz.prog Tryz.f20 (bodyOf Tryz.f20) [2] .leaf [v0] w K := by kernel_rfl
theorem value_Show.call {v0 : Value} {w : World} {K : Value → World → Prop} (h : value_Show.pt v0 w K) : Calls Tryz.prog F_value_Show #[v0] w (retK K) :=
  calls_FN (args := [v0]) Tryz.func20 (by kernel_rfl) (by rw [value_Show.pt_eq] at h; exact h)
theorem value_Show.up {v0 : Value} {w : World} {K : Value → World → Prop} (h : Calls Tryz.prog F_value_Show #[v0] w (retK K)) : upK Tryz.prog (sCall F_value_Show #[v0]) w K :=
  up_call (fn := Tryz.f20) Tryz.func20 (by kernel_rfl) (by kernel_rfl) h

/-- errata/errataref03.Show -/
def errataref03_Show.pt (v0 : Value) (w : World) (K : Value → World → Prop) : Prop :=
  upK Tryz.prog (sBox T_api_Value v0) w fun v1 w1 =>
  readK Tryz.prog (sLoad T_api_Value v1) w1 fun t3 =>
  upK Tryz.prog (sCall F_errataref03_Right #[t3]) w1 fun t4 w2 =>
  pureK Tryz.prog (sUn .not t4) fun t5 =>
  ifB t5
  (K (.string ⟨#[]⟩) w2)
  (pureK Tryz.prog (sFieldAddr T_api_Value v1 0) fun t6 =>
   readK Tryz.prog (sLoad T_int t6) w2 fun t7 =>
   pureK Tryz.prog (sBin .eql T_int (.tmp 7) (.const (.int .i64 0)) t7 (.int .i64 0)) fun t8 =>
   ifB t8
   (pureK Tryz.prog (sFieldAddr T_api_Value v1 1) fun t9 =>
    readK Tryz.prog (sLoad T_int t9) w2 fun t10 =>
    upK Tryz.prog (sCall F_errataref02_Decimal #[t10]) w2 fun t11 w3 =>
    K t11 w3)
   (pureK Tryz.prog (sFieldAddr T_api_Value v1 0) fun t12 =>
    readK Tryz.prog (sLoad T_int t12) w2 fun t13 =>
    pureK Tryz.prog (sBin .eql T_int (.tmp 13) (.const (.int .i64 1)) t13 (.int .i64 1)) fun t14 =>
    ifB t14
    (pureK Tryz.prog (sFieldAddr T_api_Value v1 2) fun t15 =>
     readK Tryz.prog (sLoad T_string t15) w2 fun t16 =>
     upK Tryz.prog (sCall F_errataref02_Quote #[t16]) w2 fun t17 w4 =>
     K t17 w4)
    (pureK Tryz.prog (sFieldAddr T_api_Value v1 1) fun t18 =>
     readK Tryz.prog (sLoad T_int t18) w2 fun t19 =>
     pureK Tryz.prog (sBin .eql T_int (.tmp 19) (.const (.int .i64 1)) t19 (.int .i64 1)) fun t20 =>
     ifB t20
     (K (.string ⟨#[116, 114, 117, 101]⟩) w2)
     (K (.string ⟨#[102, 97, 108, 115, 101]⟩) w2))))
theorem errataref03_Show.pt_eq : errataref03_Show.pt = fun v0 w K => FN Tryz.prog Tryz.f21 (bodyOf Tryz.f21) [2] .leaf [v0] w K := by kernel_rfl
theorem errataref03_Show.call {v0 : Value} {w : World} {K : Value → World → Prop} (h : errataref03_Show.pt v0 w K) : Calls Tryz.prog F_errataref03_Show #[v0] w (retK K) :=
  calls_FN (args := [v0]) Tryz.func21 (by kernel_rfl) (by rw [errataref03_Show.pt_eq] at h; exact h)
theorem errataref03_Show.up {v0 : Value} {w : World} {K : Value → World → Prop} (h : Calls Tryz.prog F_errataref03_Show #[v0] w (retK K)) : upK Tryz.prog (sCall F_errataref03_Show #[v0]) w K :=
  up_call (fn := Tryz.f21) Tryz.func21 (by kernel_rfl) (by kernel_rfl) h

/-- errata/value.Compare -/
def value_Compare.pt (a0 b1 : Value) (w : World) (K : Value → World → Prop) : Prop :=
  upK Tryz.prog (sBox T_api_Value a0) w fun a2 w1 =>
  upK Tryz.prog (sBox T_api_Value b1) w1 fun b3 w2 =>
  pureK Tryz.prog (sFieldAddr T_api_Value a2 0) fun t5 =>
  readK Tryz.prog (sLoad T_int t5) (tick w2) fun t6 =>
  pureK Tryz.prog (sFieldAddr T_api_Value b3 0) fun t7 =>
  readK Tryz.prog (sLoad T_int t7) (tick w2) fun t8 =>
  pureK Tryz.prog (sFieldAddr T_api_Value a2 1) fun t10 =>
  readK Tryz.prog (sLoad T_int t10) (tick w2) fun t11 =>
  pureK Tryz.prog (sFieldAddr T_api_Value b3 1) fun t12 =>
  readK Tryz.prog (sLoad T_int t12) (tick w2) fun t13 =>
  pureK Tryz.prog (sFieldAddr T_api_Value a2 2) fun t15 =>
  readK Tryz.prog (sLoad T_string t15) (tick w2) fun t16 =>
  pureK Tryz.prog (sFieldAddr T_api_Value b3 2) fun t17 =>
  readK Tryz.prog (sLoad T_string t17) (tick w2) fun t18 =>
  upK Tryz.prog (sCall F_cmp_Compare_int #[t6, t8]) (tick w2) fun t9 w3 =>
  Is Tryz.prog (sLoad T_string t17) t18 w3 ∧ Is Tryz.prog (sLoad T_string t15) t16 w3 ∧ Is Tryz.prog (sLoad T_int t12) t13 w3 ∧ Is Tryz.prog (sLoad T_int t10) t11 w3 ∧ upK Tryz.prog (sCall F_cmp_Compare_int #[t11, t13]) w3 fun t14 w4 =>
  Is Tryz.prog (sLoad T_string t17) t18 w4 ∧ Is Tryz.prog (sLoad T_string t15) t16 w4 ∧ upK Tryz.prog (sCall F_strings_Compare #[t16, t18]) w4 fun t19 w5 =>
  upK Tryz.prog (sBuildSlice T_s_int 3 #[(0, t9), (1, t14), (2, t19)]) w5 fun t20 w6 =>
  upK Tryz.prog (sCall F_cmp_Or_int #[t20]) w6 fun t21 w7 =>
  K t21 w7
theorem value_Compare.pt_eq : value_Compare.pt = fun a0 b1 w K => FN Tryz.prog Tryz.f22 (bodyOf Tryz.f22) [4] .leaf [a0, b1] w K := by kernel_rfl
theorem value_Compare.call {a0 b1 : Value} {w : World} {K : Value → World → Prop} (h : value_Compare.pt a0 b1 w K) : Calls Tryz.prog F_value_Compare #[a0, b1] w (retK K) :=
  calls_FN (args := [a0, b1]) Tryz.func22 (by kernel_rfl) (by rw [value_Compare.pt_eq] at h; exact h)
theorem value_Compare.up {a0 b1 : Value} {w : World} {K : Value → World → Prop} (h : Calls Tryz.prog F_value_Compare #[a0, b1] w (retK K)) : upK Tryz.prog (sCall F_value_Compare #[a0, b1]) w K :=
  up_call (fn := Tryz.f22) Tryz.func22 (by kernel_rfl) (by kernel_rfl) h

/-- errata/errataref03.Compare -/
def errataref03_Compare.pt (a0 b1 : Value) (w : World) (K : Value → World → Prop) : Prop :=
  upK Tryz.prog (sBox T_api_Value a0) w fun a2 w1 =>
  upK Tryz.prog (sBox T_api_Value b1) w1 fun b3 w2 =>
  pureK Tryz.prog (sFieldAddr T_api_Value a2 0) fun t5 =>
  readK Tryz.prog (sLoad T_int t5) w2 fun t6 =>
  pureK Tryz.prog (sFieldAddr T_api_Value b3 0) fun t7 =>
  readK Tryz.prog (sLoad T_int t7) w2 fun t8 =>
  pureK Tryz.prog (sBin .lss T_int (.tmp 6) (.tmp 8) t6 t8) fun t9 =>
  ifB t9
  (K (.int .i64 (-1)) w2)
  (pureK Tryz.prog (sFieldAddr T_api_Value a2 0) fun t10 =>
   readK Tryz.prog (sLoad T_int t10) w2 fun t11 =>
   pureK Tryz.prog (sFieldAddr T_api_Value b3 0) fun t12 =>
   readK Tryz.prog (sLoad T_int t12) w2 fun t13 =>
   pureK Tryz.prog (sBin .gtr T_int (.tmp 11) (.tmp 13) t11 t13) fun t14 =>
   ifB t14
   (K (.int .i64 1) w2)
   (pureK Tryz.prog (sFieldAddr T_api_Value a2 1) fun t15 =>
    readK Tryz.prog (sLoad T_int t15) w2 fun t16 =>
    pureK Tryz.prog (sFieldAddr T_api_Value b3 1) fun t17 =>
    readK Tryz.prog (sLoad T_int t17) w2 fun t18 =>
    pureK Tryz.prog (sBin .lss T_int (.tmp 16) (.tmp 18) t16 t18) fun t19 =>
    ifB t19
    (K (.int .i64 (-1)) w2)
    (pureK Tryz.prog (sFieldAddr T_api_Value a2 1) fun t20 =>
     readK Tryz.prog (sLoad T_int t20) w2 fun t21 =>
     pureK Tryz.prog (sFieldAddr T_api_Value b3 1) fun t22 =>
     readK Tryz.prog (sLoad T_int t22) w2 fun t23 =>
     pureK Tryz.prog (sBin .gtr T_int (.tmp 21) (.tmp 23) t21 t23) fun t24 =>
     ifB t24
     (K (.int .i64 1) w2)
     (pureK Tryz.prog (sFieldAddr T_api_Value a2 2) fun t25 =>
      readK Tryz.prog (sLoad T_string t25) w2 fun t26 =>
      pureK Tryz.prog (sFieldAddr T_api_Value b3 2) fun t27 =>
      readK Tryz.prog (sLoad T_string t27) w2 fun t28 =>
      pureK Tryz.prog (sBin .lss T_string (.tmp 26) (.tmp 28) t26 t28) fun t29 =>
      ifB t29
      (K (.int .i64 (-1)) w2)
      (pureK Tryz.prog (sFieldAddr T_api_Value a2 2) fun t30 =>
       readK Tryz.prog (sLoad T_string t30) w2 fun t31 =>
       pureK Tryz.prog (sFieldAddr T_api_Value b3 2) fun t32 =>
       readK Tryz.prog (sLoad T_string t32) w2 fun t33 =>
       pureK Tryz.prog (sBin .gtr T_string (.tmp 31) (.tmp 33) t31 t33) fun t34 =>
       ifB t34
       (K (.int .i64 1) w2)
       (K (.int .i64 0) w2))))))
theorem errataref03_Compare.pt_eq : errataref03_Compare.pt = fun a0 b1 w K => FN Tryz.prog Tryz.f23 (bodyOf Tryz.f23) [4] .leaf [a0, b1] w K := by kernel_rfl
theorem errataref03_Compare.call {a0 b1 : Value} {w : World} {K : Value → World → Prop} (h : errataref03_Compare.pt a0 b1 w K) : Calls Tryz.prog F_errataref03_Compare #[a0, b1] w (retK K) :=
  calls_FN (args := [a0, b1]) Tryz.func23 (by kernel_rfl) (by rw [errataref03_Compare.pt_eq] at h; exact h)
theorem errataref03_Compare.up {a0 b1 : Value} {w : World} {K : Value → World → Prop} (h : Calls Tryz.prog F_errataref03_Compare #[a0, b1] w (retK K)) : upK Tryz.prog (sCall F_errataref03_Compare #[a0, b1]) w K :=
  up_call (fn := Tryz.f23) Tryz.func23 (by kernel_rfl) (by kernel_rfl) h

/-- errata/value.Read -/
def value_Read.pt (s0 : Value) (w : World) (K : Value → World → Prop) : Prop :=
  upK Tryz.prog (sAlloc T_api_Value) w fun t2 w1 =>
  upK Tryz.prog (sCall F_wire_Open #[s0]) w1 fun t7 w2 =>
  upK Tryz.prog (sCall F_value_take #[t7]) w2 fun t9 w3 =>
  upK Tryz.prog (sAlloc T_api_Value) w3 fun v5 w4 =>
  upK Tryz.prog (sStore T_api_Value v5 t9) w4 fun tu w5 =>
  upK Tryz.prog (sCall F_wire_Reader_Done #[t7]) w5 fun t11 w6 =>
  pureK Tryz.prog (sUn .not t11) fun t12 =>
  ifB t12
  (pureK Tryz.prog (sBuild T_api_Value #[]) fun t13 =>
   upK Tryz.prog (sStore T_api_Value t2 t13) w6 fun tu_1 w7 =>
   readV Tryz.prog (do loadVar T_api_Value (← asAddr t2)) w7 fun t2_1 =>
   K (.tuple #[t2_1, (.bool false)]) w7)
  (readK Tryz.prog (sLoad T_api_Value v5) w6 fun t14 =>
   upK Tryz.prog (sStore T_api_Value t2 t14) w6 fun tu_2 w8 =>
   readV Tryz.prog (do loadVar T_api_Value (← asAddr t2)) w8 fun t2_2 =>
   K (.tuple #[t2_2, (.bool true)]) w8)
theorem value_Read.pt_eq : value_Read.pt = fun s0 w K => FN Tryz.prog Tryz.f24 (bodyOf Tryz.f24) [3] .leaf [s0] w K := by kernel_rfl
theorem value_Read.call {s0 : Value} {w : World} {K : Value → World → Prop} (h : value_Read.pt s0 w K) : Calls Tryz.prog F_value_Read #[s0] w (retK K) :=
  calls_FN (args := [s0]) Tryz.func24 (by kernel_rfl) (by rw [value_Read.pt_eq] at h; exact h)
theorem value_Read.up {s0 : Value} {w : World} {K : Value → World → Prop} (h : Calls Tryz.prog F_value_Read #[s0] w (retK K)) : upK Tryz.prog (sCall F_value_Read #[s0]) w K :=
  up_call (fn := Tryz.f24) Tryz.func24 (by kernel_rfl) (by kernel_rfl) h

/-- errata/errataref03.Read -/
def errataref03_Read.pt (s0 : Value) (w : World) (K : Value → World → Prop) : Prop :=
  upK Tryz.prog (sAlloc T_api_Value) w fun t2 w1 =>
  upK Tryz.prog (sCall F_errataref01_Open #[s0]) w1 fun t7 w2 =>
  pureK Tryz.prog (sBuild T_api_Value #[]) fun t8 =>
  upK Tryz.prog (sAlloc T_api_Value) w2 fun v5 w3 =>
  upK Tryz.prog (sStore T_api_Value v5 t8) w3 fun tu w4 =>
  upK Tryz.prog (sCall F_errataref01_Reader_Int #[t7]) w4 fun t10 w5 =>
  pureK Tryz.prog (sFieldAddr T_api_Value v5 0) fun t11 =>
  upK Tryz.prog (sStore T_int t11 t10) w5 fun tu_1 w6 =>
  upK Tryz.prog (sCall F_errataref01_Reader_Int #[t7]) w6 fun t13 w7 =>
  pureK Tryz.prog (sFieldAddr T_api_Value v5 1) fun t14 =>
  upK Tryz.prog (sStore T_int t14 t13) w7 fun tu_2 w8 =>
  upK Tryz.prog (sCall F_errataref01_Reader_Text #[t7]) w8 fun t16 w9 =>
  pureK Tryz.prog (sFieldAddr T_api_Value v5 2) fun t17 =>
  upK Tryz.prog (sStore T_string t17 t16) w9 fun tu_3 w10 =>
  upK Tryz.prog (sCall F_errataref01_Reader_Done #[t7]) w10 fun t19 w11 =>
  pureK Tryz.prog (sUn .not t19) fun t20 =>
  ifB t20
  (pureK Tryz.prog (sBuild T_api_Value #[]) fun t21 =>
   upK Tryz.prog (sStore T_api_Value t2 t21) w11 fun tu_4 w12 =>
   readV Tryz.prog (do loadVar T_api_Value (← asAddr t2)) w12 fun t2_1 =>
   K (.tuple #[t2_1, (.bool false)]) w12)
  (readK Tryz.prog (sLoad T_api_Value v5) w11 fun t22 =>
   upK Tryz.prog (sStore T_api_Value t2 t22) w11 fun tu_5 w13 =>
   readV Tryz.prog (do loadVar T_api_Value (← asAddr t2)) w13 fun t2_2 =>
   K (.tuple #[t2_2, (.bool true)]) w13)
theorem errataref03_Read.pt_eq : errataref03_Read.pt = fun s0 w K => FN Tryz.prog Tryz.f25 (bodyOf Tryz.f25) [3] .leaf [s0] w K := by kernel_rfl
theorem errataref03_Read.call {s0 : Value} {w : World} {K : Value → World → Prop} (h : errataref03_Read.pt s0 w K) : Calls Tryz.prog F_errataref03_Read #[s0] w (retK K) :=
  calls_FN (args := [s0]) Tryz.func25 (by kernel_rfl) (by rw [errataref03_Read.pt_eq] at h; exact h)
theorem errataref03_Read.up {s0 : Value} {w : World} {K : Value → World → Prop} (h : Calls Tryz.prog F_errataref03_Read #[s0] w (retK K)) : upK Tryz.prog (sCall F_errataref03_Read #[s0]) w K :=
  up_call (fn := Tryz.f25) Tryz.func25 (by kernel_rfl) (by kernel_rfl) h

/-- errata/value.Parse -/
def value_Parse.pt (s0 : Value) (w : World) (K : Value → World → Prop) : Prop :=
  upK Tryz.prog (sAlloc T_api_Value) w fun t2 w1 =>
  pureK Tryz.prog (sBin .eql T_string (.tmp 8) (.const (.string ⟨#[116, 114, 117, 101]⟩)) s0 (.string ⟨#[116, 114, 117, 101]⟩)) fun t9 =>
  ifB t9
  (pureK Tryz.prog (sBin .eql T_string (.tmp 14) (.const (.string ⟨#[116, 114, 117, 101]⟩)) s0 (.string ⟨#[116, 114, 117, 101]⟩)) fun t15 =>
   upK Tryz.prog (sCall F_value_Bool #[t15]) w1 fun t16 w2 =>
   upK Tryz.prog (sStore T_api_Value t2 t16) w2 fun tu w3 =>
   readV Tryz.prog (do loadVar T_api_Value (← asAddr t2)) w3 fun t2_1 =>
   K (.tuple #[t2_1, (.bool true)]) w3)
  (pureK Tryz.prog (sBin .eql T_string (.tmp 11) (.const (.string ⟨#[102, 97, 108, 115, 101]⟩)) s0 (.string ⟨#[102, 97, 108, 115, 101]⟩)) fun t12 =>
   ifB t12
   (pureK Tryz.prog (sBin .eql T_string (.tmp 14) (.const (.string ⟨#[116, 114, 117, 101]⟩)) s0 (.string ⟨#[116, 114, 117, 101]⟩)) fun t15_1 =>
    upK Tryz.prog (sCall F_value_Bool #[t15_1]) w1 fun t16_1 w4 =>
    upK Tryz.prog (sStore T_api_Value t2 t16_1) w4 fun tu_1 w5 =>
    readV Tryz.prog (do loadVar T_api_Value (← asAddr t2)) w5 fun t2_2 =>
    K (.tuple #[t2_2, (.bool true)]) w5)
   (upK Tryz.prog (sCall F_text_Int #[s0]) w1 fun t19 w6 =>
    pureK Tryz.prog (sExtract t19 0) fun t20 =>
    pureK Tryz.prog (sExtract t19 1) fun t21 =>
    ifB t21
    (upK Tryz.prog (sCall F_value_Int #[t20]) w6 fun t24 w7 =>
     upK Tryz.prog (sStore T_api_Value t2 t24) w7 fun tu_2 w8 =>
     readV Tryz.prog (do loadVar T_api_Value (← asAddr t2)) w8 fun t2_3 =>
     K (.tuple #[t2_3, (.bool true)]) w8)
    (LETJ (X := Unit) (fun jv1 w9 =>
      pureK Tryz.prog (sBuild T_api_Value #[]) fun t38 =>
      upK Tryz.prog (sStore T_api_Value t2 t38) w9 fun tu_3 w10 =>
      readV Tryz.prog (do loadVar T_api_Value (← asAddr t2)) w10 fun t2_4 =>
      K (.tuple #[t2_4, (.bool false)]) w10)
     (fun J1 =>
      upK Tryz.prog (sCall F_text_Unquote #[s0]) w6 fun t27 w11 =>
      pureK Tryz.prog (sExtract t27 0) fun t28 =>
      pureK Tryz.prog (sExtract t27 1) fun t29 =>
      ifB t29
      (readK Tryz.prog (sBlt .len #[T_string] T_int #[false] #[t28]) w11 fun t33 =>
       pureK Tryz.prog (sBin .leq T_int (.tmp 33) (.const (.int .i64 200)) t33 (.int .i64 200)) fun t34 =>
       ifB t34
       (upK Tryz.prog (sCall F_value_Text #[t28]) w11 fun t37 w12 =>
        upK Tryz.prog (sStore T_api_Value t2 t37) w12 fun tu_4 w13 =>
        readV Tryz.prog (do loadVar T_api_Value (← asAddr t2)) w13 fun t2_5 =>
        K (.tuple #[t2_5, (.bool true)]) w13)
       (J1 (()) w11))
      (J1 (()) w11)))))
theorem value_Parse.pt_eq : value_Parse.pt = fun s0 w K => FN Tryz.prog Tryz.f26 (bodyOf Tryz.f26) [3] (.node none .leaf (.node none .leaf (.node none .leaf (.node (some []) .leaf .leaf)))) [s0] w K := by kernel_rfl
theorem value_Parse.call {s0 : Value} {w : World} {K : Value → World → Prop} (h : value_Parse.pt s0 w K) : Calls Tryz.prog F_value_Parse #[s0] w (retK K) :=
  calls_FN (args := [s0]) Tryz.func26 (by kernel_rfl) (by rw [value_Parse.pt_eq] at h; exact h)
theorem value_Parse.up {s0 : Value} {w : World} {K : Value → World → Prop} (h : Calls Tryz.prog F_value_Parse #[s0] w (retK K)) : upK Tryz.prog (sCall F_value_Parse #[s0]) w K :=
  up_call (fn := Tryz.f26) Tryz.func26 (by kernel_rfl) (by kernel_rfl) h

/-- errata/errataref03.Parse -/
def errataref03_Parse.pt (s0 : Value) (w : World) (K : Value → World → Prop) : Prop :=
  upK Tryz.prog (sAlloc T_api_Value) w fun t2 w1 =>
  pureK Tryz.prog (sBin .eql T_string (.tmp 8) (.const (.string ⟨#[116, 114, 117, 101]⟩)) s0 (.string ⟨#[116, 114, 117, 101]⟩)) fun t9 =>
  ifB t9
  (pureK Tryz.prog (sBuild T_api_Value #[(0, (.int .i64 2)), (1, (.int .i64 1))]) fun t10 =>
   upK Tryz.prog (sStore T_api_Value t2 t10) w1 fun tu w2 =>
   readV Tryz.prog (do loadVar T_api_Value (← asAddr t2)) w2 fun t2_1 =>
   K (.tuple #[t2_1, (.bool true)]) w2)
  (pureK Tryz.prog (sBin .eql T_string (.tmp 11) (.const (.string ⟨#[102, 97, 108, 115, 101]⟩)) s0 (.string ⟨#[102, 97, 108, 115, 101]⟩)) fun t12 =>
   ifB t12
   (pureK Tryz.prog (sBuild T_api_Value #[(0, (.int .i64 2))]) fun t13 =>
    upK Tryz.prog (sStore T_api_Value t2 t13) w1 fun tu_1 w3 =>
    readV Tryz.prog (do loadVar T_api_Value (← asAddr t2)) w3 fun t2_2 =>
    K (.tuple #[t2_2, (.bool true)]) w3)
   (upK Tryz.prog (sCall F_errataref02_Int #[s0]) w1 fun t16 w4 =>
    pureK Tryz.prog (sExtract t16 0) fun t17 =>
    pureK Tryz.prog (sExtract t16 1) fun t18 =>
    ifB t18
    (pureK Tryz.prog (sBuild T_api_Value #[(0, (.int .i64 0)), (1, t17)]) fun t21 =>
     upK Tryz.prog (sStore T_api_Value t2 t21) w4 fun tu_2 w5 =>
     readV Tryz.prog (do loadVar T_api_Value (← asAddr t2)) w5 fun t2_3 =>
     K (.tuple #[t2_3, (.bool true)]) w5)
    (upK Tryz.prog (sCall F_errataref02_Unquote #[s0]) w4 fun t24 w6 =>
     pureK Tryz.prog (sExtract t24 0) fun t25 =>
     pureK Tryz.prog (sExtract t24 1) fun t26 =>
     LETJ (X := Unit) (fun jv1 w7 =>
      pureK Tryz.prog (sBuild T_api_Value #[]) fun t35 =>
      upK Tryz.prog (sStore T_api_Value t2 t35) w7 fun tu_3 w8 =>
      readV Tryz.prog (do loadVar T_api_Value (← asAddr t2)) w8 fun t2_4 =>
      K (.tuple #[t2_4, (.bool false)]) w8)
     (fun J1 =>
      ifB t26
      (readK Tryz.prog (sBlt .len #[T_string] T_int #[false] #[t25]) w6 fun t30 =>
       pureK Tryz.prog (sBin .leq T_int (.tmp 30) (.const (.int .i64 200)) t30 (.int .i64 200)) fun t31 =>
       ifB t31
       (pureK Tryz.prog (sBuild T_api_Value #[(0, (.int .i64 1)), (2, t25)]) fun t34 =>
        upK Tryz.prog (sStore T_api_Value t2 t34) w6 fun tu_4 w9 =>
        readV Tryz.prog (do loadVar T_api_Value (← asAddr t2)) w9 fun t2_5 =>
        K (.tuple #[t2_5, (.bool true)]) w9)
       (J1 (()) w6))
      (J1 (()) w6)))))
theorem errataref03_Parse.pt_eq : errataref03_Parse.pt = fun s0 w K => FN Tryz.prog Tryz.f27 (bodyOf Tryz.f27) [3] (.node none .leaf (.node none .leaf (.node none .leaf (.node none .leaf (.node none .leaf (.node none .leaf (.node (some []) .leaf .leaf))))))) [s0] w K := by kernel_rfl
theorem errataref03_Parse.call {s0 : Value} {w : World} {K : Value → World → Prop} (h : errataref03_Parse.pt s0 w K) : Calls Tryz.prog F_errataref03_Parse #[s0] w (retK K) :=
  calls_FN (args := [s0]) Tryz.func27 (by kernel_rfl) (by rw [errataref03_Parse.pt_eq] at h; exact h)
theorem errataref03_Parse.up {s0 : Value} {w : World} {K : Value → World → Prop} (h : Calls Tryz.prog F_errataref03_Parse #[s0] w (retK K)) : upK Tryz.prog (sCall F_errataref03_Parse #[s0]) w K :=
  up_call (fn := Tryz.f27) Tryz.func27 (by kernel_rfl) (by kernel_rfl) h

/-- errata/value.ReadRow -/
def value_ReadRow.pt (s0 : Value) (w : World) (K : Value → World → Prop) : Prop :=
  upK Tryz.prog (sCall F_wire_Open #[s0]) w fun t8 w1 =>
  upK Tryz.prog (sCall F_wire_Reader_Num #[t8]) w1 fun t10 w2 =>
  LOOP (X := Value × Value × Unit) (fun lv3 w3 next3 =>
   pureK Tryz.prog (sBin .gtr T_int (.tmp 11) (.const (.int .i64 0)) lv3.2.1 (.int .i64 0)) fun t12 =>
   ifB t12
   (upK Tryz.prog (sCall F_wire_Reader_Left #[t8]) w3 fun t16 w4 =>
    pureK Tryz.prog (sBin .eql T_int (.tmp 16) (.const (.int .i64 0)) t16 (.int .i64 0)) fun t17 =>
    ifB t17
    (K (.tuple #[(.slice none 0 0), (.bool false)]) w4)
    (upK Tryz.prog (sCall F_value_take #[t8]) w4 fun t20 w5 =>
     upK Tryz.prog (sBuildSlice T_s_api_Value 1 #[(0, t20)]) w5 fun t21 w6 =>
     upK Tryz.prog (sBlt .append #[T_s_api_Value, T_s_api_Value] T_s_api_Value #[false, false] #[lv3.1, t21]) w6 fun t22 w7 =>
     pureK Tryz.prog (sBin .sub T_int (.tmp 13) (.const (.int .i64 1)) lv3.2.1 (.int .i64 1)) fun t14 =>
     next3 (t22, t14, ()) w7))
   (upK Tryz.prog (sCall F_wire_Reader_Done #[t8]) w3 fun t24 w8 =>
    pureK Tryz.prog (sUn .not t24) fun t25 =>
    ifB t25
    (K (.tuple #[(.slice none 0 0), (.bool false)]) w8)
    (K (.tuple #[lv3.1, (.bool true)]) w8)))
  ((.slice none 0 0), t10, ()) w2
theorem value_ReadRow.pt_eq : value_ReadRow.pt = fun s0 w K => FN Tryz.prog Tryz.f28 (bodyOf Tryz.f28) [2, 3] .leaf [s0] w K := by kernel_rfl
theorem value_ReadRow.call {s0 : Value} {w : World} {K : Value → World → Prop} (h : value_ReadRow.pt s0 w K) : Calls Tryz.prog F_value_ReadRow #[s0] w (retK K) :=
  calls_FN (args := [s0]) Tryz.func28 (by kernel_rfl) (by rw [value_ReadRow.pt_eq] at h; exact h)
theorem value_ReadRow.up {s0 : Value} {w : World} {K : Value → World → Prop} (h : Calls Tryz.prog F_value_ReadRow #[s0] w (retK K)) : upK Tryz.prog (sCall F_value_ReadRow #[s0]) w K :=
  up_call (fn := Tryz.f28) Tryz.func28 (by kernel_rfl) (by kernel_rfl) h

/-- errata/errataref03.ReadRow -/
def errataref03_ReadRow.pt (s0 : Value) (w : World) (K : Value → World → Prop) : Prop :=
  upK Tryz.prog (sCall F_errataref01_Open #[s0]) w fun t10 w1 =>
  upK Tryz.prog (sCall F_errataref01_Reader_Num #[t10]) w1 fun t12 w2 =>
  LETJ (X := Value × Unit) (fun jv1 w3 =>
   upK Tryz.prog (sCall F_errataref01_Reader_Done #[t10]) w3 fun t39 w4 =>
   pureK Tryz.prog (sUn .not t39) fun t40 =>
   ifB t40
   (K (.tuple #[(.slice none 0 0), (.bool false)]) w4)
   (readK Tryz.prog (sBlt .len #[T_s_api_Value] T_int #[false] #[jv1.1]) w4 fun t43 =>
    pureK Tryz.prog (sBin .neq T_int (.tmp 43) (.tmp 44) t43 t12) fun t45 =>
    ifB t45
    (K (.tuple #[(.slice none 0 0), (.bool false)]) w4)
    (K (.tuple #[jv1.1, (.bool true)]) w4)))
  (fun J1 =>
   LOOP (X := Value × Value × Unit) (fun lv5 w5 next5 =>
    pureK Tryz.prog (sBin .lss T_int (.tmp 13) (.tmp 14) lv5.2.1 t12) fun t15 =>
    ifB t15
    (readK Tryz.prog (sBlt .len #[T_string] T_int #[false] #[s0]) w5 fun t19 =>
     pureK Tryz.prog (sBin .lss T_int (.tmp 17) (.tmp 19) lv5.2.1 t19) fun t20 =>
     ifB t20
     (pureK Tryz.prog (sBuild T_api_Value #[]) fun t24 =>
      upK Tryz.prog (sAlloc T_api_Value) w5 fun v8 w6 =>
      upK Tryz.prog (sStore T_api_Value v8 t24) w6 fun tu w7 =>
      upK Tryz.prog (sCall F_errataref01_Reader_Int #[t10]) w7 fun t26 w8 =>
      pureK Tryz.prog (sFieldAddr T_api_Value v8 0) fun t27 =>
      upK Tryz.prog (sStore T_int t27 t26) w8 fun tu_1 w9 =>
      upK Tryz.prog (sCall F_errataref01_Reader_Int #[t10]) w9 fun t29 w10 =>
      pureK Tryz.prog (sFieldAddr T_api_Value v8 1) fun t30 =>
      upK Tryz.prog (sStore T_int t30 t29) w10 fun tu_2 w11 =>
      upK Tryz.prog (sCall F_errataref01_Reader_Text #[t10]) w11 fun t32 w12 =>
      pureK Tryz.prog (sFieldAddr T_api_Value v8 2) fun t33 =>
      upK Tryz.prog (sStore T_string t33 t32) w12 fun tu_3 w13 =>
      readK Tryz.prog (sLoad T_api_Value v8) w13 fun t35 =>
      upK Tryz.prog (sBuildSlice T_s_api_Value 1 #[(0, t35)]) w13 fun t36 w14 =>
      upK Tryz.prog (sBlt .append #[T_s_api_Value, T_s_api_Value] T_s_api_Value #[false, false] #[lv5.1, t36]) w14 fun t37 w15 =>
      pureK Tryz.prog (sBin .add T_int (.tmp 22) (.const (.int .i64 1)) lv5.2.1 (.int .i64 1)) fun t23 =>
      next5 (t37, t23, ()) w15)
     (J1 (lv5.1, ()) w5))
    (J1 (lv5.1, ()) w5))
   ((.slice none 0 0), (.int .i64 0), ()) w2)
theorem errataref03_ReadRow.pt_eq : errataref03_ReadRow.pt = fun s0 w K => FN Tryz.prog Tryz.f29 (bodyOf Tryz.f29) [2, 3] (.node none .leaf (.node none .leaf (.node none .leaf (.node none .leaf (.node (some [6]) .leaf .leaf))))) [s0] w K := by kernel_rfl
theorem errataref03_ReadRow.call {s0 : Value} {w : World} {K : Value → World → Prop} (h : errataref03_ReadRow.pt s0 w K) : Calls Tryz.prog F_errataref03_ReadRow #[s0] w (retK K) :=
  calls_FN (args := [s0]) Tryz.func29 (by kernel_rfl) (by rw [errataref03_ReadRow.pt_eq] at h; exact h)
theorem errataref03_ReadRow.up {s0 : Value} {w : World} {K : Value → World → Prop} (h : Calls Tryz.prog F_errataref03_ReadRow #[s0] w (retK K)) : upK Tryz.prog (sCall F_errataref03_ReadRow #[s0]) w K :=
  up_call (fn := Tryz.f29) Tryz.func29 (by kernel_rfl) (by kernel_rfl) h

/-- errata/value.ParseRow -/
def value_ParseRow.pt (s0 : Value) (w : World) (K : Value → World → Prop) : Prop :=
  upK Tryz.prog (sBox T_string s0) w fun s1 w1 =>
  readK Tryz.prog (sLoad T_string s1) w1 fun t6 =>
  readK Tryz.prog (sBlt .len #[T_string] T_int #[false] #[t6]) w1 fun t7 =>
  pureK Tryz.prog (sBin .lss T_int (.tmp 7) (.const (.int .i64 2)) t7 (.int .i64 2)) fun t8 =>
  ifB t8
  (K (.tuple #[(.slice none 0 0), (.bool false)]) w1)
  (readK Tryz.prog (sLoad T_string s1) w1 fun t10 =>
   pureK Tryz.prog (sIdx T_string t10 (.int .i64 0)) fun t11 =>
   pureK Tryz.prog (sBin .neq T_uint8 (.tmp 11) (.const (.int .u8 40)) t11 (.int .u8 40)) fun t12 =>
   ifB t12
   (K (.tuple #[(.slice none 0 0), (.bool false)]) w1)
   (readK Tryz.prog (sLoad T_string s1) w1 fun t15 =>
    readK Tryz.prog (sLoad T_string s1) w1 fun t16 =>
    readK Tryz.prog (sBlt .len #[T_string] T_int #[false] #[t16]) w1 fun t17 =>
    pureK Tryz.prog (sBin .sub T_int (.tmp 17) (.const (.int .i64 1)) t17 (.int .i64 1)) fun t18 =>
    pureK Tryz.prog (sIdx T_string t15 t18) fun t19 =>
    pureK Tryz.prog (sBin .neq T_uint8 (.tmp 19) (.const (.int .u8 41)) t19 (.int .u8 41)) fun t20 =>
    ifB t20
    (K (.tuple #[(.slice none 0 0), (.bool false)]) w1)
    (readK Tryz.prog (sLoad T_string s1) w1 fun t22 =>
     readK Tryz.prog (sLoad T_string s1) w1 fun t23 =>
     readK Tryz.prog (sBlt .len #[T_string] T_int #[false] #[t23]) w1 fun t24 =>
     pureK Tryz.prog (sBin .sub T_int (.tmp 24) (.const (.int .i64 1)) t24 (.int .i64 1)) fun t25 =>
     pureK Tryz.prog (sSlice T_string t22 (some (.int .i64 1)) (some t25) none) fun t26 =>
     upK Tryz.prog (sStore T_string s1 t26) w1 fun tu w2 =>
     upK Tryz.prog (sAlloc T_s_api_Value) w2 fun out4 w3 =>
     pureK Tryz.prog (sMkFunc (.func F_value_ParseRow_1) #[] #[s1, out4]) fun t27 =>
     readK Tryz.prog (sLoad T_string s1) w3 fun t28 =>
     pureK Tryz.prog (sBin .eql T_string (.tmp 28) (.const (.string ⟨#[]⟩)) t28 (.string ⟨#[]⟩)) fun t29 =>
     ifB t29
     (K (.tuple #[(.slice none 0 0), (.bool true)]) w3)
     (LETJ (X := Unit) (fun jv1 w4 =>
       K (.tuple #[(.slice none 0 0), (.bool false)]) w4)
      (fun J1 =>
       LOOP (X := Unit) (fun lv5 w5 next5 =>
        upK Tryz.prog (sCallV t27 #[]) w5 fun t31 w6 =>
        ifB t31
        (readK Tryz.prog (sLoad T_string s1) w6 fun t32 =>
         pureK Tryz.prog (sBin .eql T_string (.tmp 32) (.const (.string ⟨#[]⟩)) t32 (.string ⟨#[]⟩)) fun t33 =>
         ifB t33
         (readK Tryz.prog (sLoad T_s_api_Value out4) w6 fun t34 =>
          K (.tuple #[t34, (.bool true)]) w6)
         (readK Tryz.prog (sLoad T_string s1) w6 fun t35 =>
          upK Tryz.prog (sCall F_strings_HasPrefix #[t35, (.string ⟨#[44, 32]⟩)]) w6 fun t36 w7 =>
          pureK Tryz.prog (sUn .not t36) fun t37 =>
          ifB t37
          (K (.tuple #[(.slice none 0 0), (.bool false)]) w7)
          (readK Tryz.prog (sLoad T_string s1) w7 fun t38 =>
           pureK Tryz.prog (sSlice T_string t38 (some (.int .i64 2)) none none) fun t39 =>
           upK Tryz.prog (sStore T_string s1 t39) w7 fun tu_1 w8 =>
           next5 (()) w8)))
        (J1 (()) w6))
       (()) w3)))))
theorem value_ParseRow.pt_eq : value_ParseRow.pt = fun s0 w K => FN Tryz.prog Tryz.f30 (bodyOf Tryz.f30) [2, 3] (.node none .leaf (.node none .leaf (.node none .leaf (.node none .leaf (.node none .leaf (.node none .leaf (.node (some []) .leaf .leaf))))))) [s0] w K := by kernel_rfl
theorem value_ParseRow.call {s0 : Value} {w : World} {K : Value → World → Prop} (h : value_ParseRow.pt s0 w K) : Calls Tryz.prog F_value_ParseRow #[s0] w (retK K) :=
  calls_FN (args := [s0]) Tryz.func30 (by kernel_rfl) (by rw [value_ParseRow.pt_eq] at h; exact h)
theorem value_ParseRow.up {s0 : Value} {w : World} {K : Value → World → Prop} (h : Calls Tryz.prog F_value_ParseRow #[s0] w (retK K)) : upK Tryz.prog (sCall F_value_ParseRow #[s0]) w K :=
  up_call (fn := Tryz.f30) Tryz.func30 (by kernel_rfl) (by kernel_rfl) h

/-- errata/errataref03.ParseRow -/
def errataref03_ParseRow.pt (s0 : Value) (w : World) (K : Value → World → Prop) : Prop :=
  pureK Tryz.prog (sBin .eql T_string (.tmp 11) (.const (.string ⟨#[40, 41]⟩)) s0 (.string ⟨#[40, 41]⟩)) fun t12 =>
  ifB t12
  (K (.tuple #[(.slice none 0 0), (.bool true)]) w)
  (LETJ (X := Value × Unit) (fun jv1 w1 =>
    ifB jv1.1
    (K (.tuple #[(.slice none 0 0), (.bool false)]) w1)
    (LOOP (X := Value × Value × Value × Unit) (fun lv2 w2 next2 =>
      readK Tryz.prog (sBlt .len #[T_string] T_int #[false] #[s0]) w2 fun t22 =>
      pureK Tryz.prog (sBin .lss T_int (.tmp 20) (.tmp 22) lv2.2.2.1 t22) fun t23 =>
      ifB t23
      (LETJ (X := Value × Value × Unit) (fun jv2 w3 =>
        pureK Tryz.prog (sBin .add T_int (.tmp 24) (.const (.int .i64 1)) lv2.2.2.1 (.int .i64 1)) fun t25 =>
        next2 (jv2.1, jv2.2.1, t25, ()) w3)
       (fun J2 =>
        LETJ (X := Value × Unit) (fun jv3 w4 =>
         LETJ (X := Value × Unit) (fun jv4 w5 =>
          LETJ (X := Value × Unit) (fun jv5 w6 =>
           ifB jv5.1
           (J2 (lv2.1, lv2.2.1, ()) w6)
           (pureK Tryz.prog (sSlice T_string s0 (some lv2.2.1) (some lv2.2.2.1) none) fun t74 =>
            upK Tryz.prog (sCall F_errataref03_Parse #[t74]) w6 fun t75 w7 =>
            pureK Tryz.prog (sExtract t75 0) fun t76 =>
            pureK Tryz.prog (sExtract t75 1) fun t77 =>
            upK Tryz.prog (sAlloc T_api_Value) w7 fun v9 w8 =>
            upK Tryz.prog (sStore T_api_Value v9 t76) w8 fun tu w9 =>
            pureK Tryz.prog (sUn .not t77) fun t79 =>
            ifB t79
            (J2 (lv2.1, lv2.2.1, ()) w9)
            (readK Tryz.prog (sLoad T_api_Value v9) w9 fun t81 =>
             upK Tryz.prog (sBuildSlice T_s_api_Value 1 #[(0, t81)]) w9 fun t82 w10 =>
             upK Tryz.prog (sBlt .append #[T_s_api_Value, T_s_api_Value] T_s_api_Value #[false, false] #[lv2.1, t82]) w10 fun t83 w11 =>
             ifB jv3.1
             (K (.tuple #[t83, (.bool true)]) w11)
             (pureK Tryz.prog (sBin .add T_int (.tmp 86) (.const (.int .i64 2)) lv2.2.2.1 (.int .i64 2)) fun t87 =>
              J2 (t83, t87, ()) w11))))
          (fun J5 =>
           pureK Tryz.prog (sUn .not jv3.1) fun t60 =>
           ifB t60
           (pureK Tryz.prog (sUn .not jv4.1) fun t63 =>
            ifB t63
            (J5 ((.bool true), ()) w5)
            (pureK Tryz.prog (sBin .lss T_int (.tmp 66) (.tmp 67) lv2.2.2.1 lv2.2.1) fun t68 =>
             J5 (t68, ()) w5))
           (pureK Tryz.prog (sBin .lss T_int (.tmp 66) (.tmp 67) lv2.2.2.1 lv2.2.1) fun t68_1 =>
            J5 (t68_1, ()) w5)))
         (fun J4 =>
          pureK Tryz.prog (sIdx T_string s0 lv2.2.2.1) fun t39 =>
          pureK Tryz.prog (sBin .eql T_uint8 (.tmp 39) (.const (.int .u8 44)) t39 (.int .u8 44)) fun t40 =>
          ifB t40
          (pureK Tryz.prog (sBin .add T_int (.tmp 42) (.const (.int .i64 1)) lv2.2.2.1 (.int .i64 1)) fun t43 =>
           readK Tryz.prog (sBlt .len #[T_string] T_int #[false] #[s0]) w4 fun t45 =>
           pureK Tryz.prog (sBin .lss T_int (.tmp 43) (.tmp 45) t43 t45) fun t46 =>
           ifB t46
           (pureK Tryz.prog (sBin .add T_int (.tmp 50) (.const (.int .i64 1)) lv2.2.2.1 (.int .i64 1)) fun t51 =>
            readK Tryz.prog (sBlt .len #[T_string] T_int #[false] #[s0]) w4 fun t53 =>
            pureK Tryz.prog (sBin .sub T_int (.tmp 53) (.const (.int .i64 1)) t53 (.int .i64 1)) fun t54 =>
            pureK Tryz.prog (sBlt .min #[T_int, T_int] T_int #[false, false] #[t51, t54]) fun t55 =>
            pureK Tryz.prog (sIdx T_string s0 t55) fun t56 =>
            pureK Tryz.prog (sBin .eql T_uint8 (.tmp 56) (.const (.int .u8 32)) t56 (.int .u8 32)) fun t57 =>
            J4 (t57, ()) w4)
           (J4 ((.bool false), ()) w4))
          (J4 ((.bool false), ()) w4)))
        (fun J3 =>
         readK Tryz.prog (sBlt .len #[T_string] T_int #[false] #[s0]) w2 fun t28 =>
         pureK Tryz.prog (sBin .sub T_int (.tmp 28) (.const (.int .i64 1)) t28 (.int .i64 1)) fun t29 =>
         pureK Tryz.prog (sBin .eql T_int (.tmp 26) (.tmp 29) lv2.2.2.1 t29) fun t30 =>
         ifB t30
         (pureK Tryz.prog (sIdx T_string s0 lv2.2.2.1) fun t34 =>
          pureK Tryz.prog (sBin .eql T_uint8 (.tmp 34) (.const (.int .u8 41)) t34 (.int .u8 41)) fun t35 =>
          J3 (t35, ()) w2)
         (J3 ((.bool false), ()) w2))))
      (K (.tuple #[(.slice none 0 0), (.bool false)]) w2))
     ((.slice none 0 0), (.int .i64 1), (.int .i64 1), ()) w1))
   (fun J1 =>
    pureK Tryz.prog (sBin .eql T_string (.tmp 13) (.const (.string ⟨#[]⟩)) s0 (.string ⟨#[]⟩)) fun t14 =>
    ifB t14
    (J1 ((.bool true), ()) w)
    (pureK Tryz.prog (sIdx T_string s0 (.int .i64 0)) fun t17 =>
     pureK Tryz.prog (sBin .neq T_uint8 (.tmp 17) (.const (.int .u8 40)) t17 (.int .u8 40)) fun t18 =>
     J1 (t18, ()) w)))
theorem errataref03_ParseRow.pt_eq : errataref03_ParseRow.pt = fun s0 w K => FN Tryz.prog Tryz.f31 (bodyOf Tryz.f31) [2, 3] (.node none .leaf (.node none .leaf (.node none (.node (some [19]) .leaf .leaf) (.node none .leaf (.node none .leaf (.node none (.node none .leaf (.node none (.node none (.node none .leaf (.node (some [4, 5]) (.node none (.node (some [7]) .leaf (.node (some [8]) .leaf (.node none (.node (some [69]) .leaf .leaf) .leaf))) .leaf) .leaf)) .leaf) .leaf)) .leaf)))))) [s0] w K := by kernel_rfl
theorem errataref03_ParseRow.call {s0 : Value} {w : World} {K : Value → World → Prop} (h : errataref03_ParseRow.pt s0 w K) : Calls Tryz.prog F_errataref03_ParseRow #[s0] w (retK K) :=
  calls_FN (args := [s0]) Tryz.func31 (by kernel_rfl) (by rw [errataref03_ParseRow.pt_eq] at h; exact h)
theorem errataref03_ParseRow.up {s0 : Value} {w : World} {K : Value → World → Prop} (h : Calls Tryz.prog F_errataref03_ParseRow #[s0] w (retK K)) : upK Tryz.prog (sCall F_errataref03_ParseRow #[s0]) w K :=
  up_call (fn := Tryz.f31) Tryz.func31 (by kernel_rfl) (by kernel_rfl) h

/-- errata/value.Int -/
def value_Int.pt (n0 : Value) (w : World) (K : Value → World → Prop) : Prop :=
  upK Tryz.prog (sAlloc T_api_Value) w fun t2 w1 =>
  pureK Tryz.prog (sBuild T_api_Value #[(0, (.int .i64 0)), (1, n0)]) fun t4 =>
  upK Tryz.prog (sStore T_api_Value t2 t4) w1 fun tu w2 =>
  readV Tryz.prog (do loadVar T_api_Value (← asAddr t2)) w2 fun t2_1 =>
  K t2_1 w2
theorem value_Int.pt_eq : value_Int.pt = fun n0 w K => FN Tryz.prog Tryz.f32 (bodyOf Tryz.f32) [] .leaf [n0] w K := by kernel_rfl
theorem value_Int.call {n0 : Value} {w : World} {K : Value → World → Prop} (h : value_Int.pt n0 w K) : Calls Tryz.prog F_value_Int #[n0] w (retK K) :=
  calls_FN (args := [n0]) Tryz.func32 (by kernel_rfl) (by rw [value_Int.pt_eq] at h; exact h)
theorem value_Int.up {n0 : Value} {w : World} {K : Value → World → Prop} (h : Calls Tryz.prog F_value_Int #[n0] w (retK K)) : upK Tryz.prog (sCall F_value_Int #[n0]) w K :=
  up_call (fn := Tryz.f32) Tryz.func32 (by kernel_rfl) (by kernel_rfl) h

/-- errata/value.Text -/
def value_Text.pt (s0 : Value) (w : World) (K : Value → World → Prop) : Prop :=
  upK Tryz.prog (sAlloc T_api_Value) w fun t2 w1 =>
  pureK Tryz.prog (sBuild T_api_Value #[(0, (.int .i64 1)), (2, s0)]) fun t4 =>
  upK Tryz.prog (sStore T_api_Value t2 t4) w1 fun tu w2 =>
  readV Tryz.prog (do loadVar T_api_Value (← asAddr t2)) w2 fun t2_1 =>
  K t2_1 w2
theorem value_Text.pt_eq : value_Text.pt = fun s0 w K => FN Tryz.prog Tryz.f33 (bodyOf Tryz.f33) [] .leaf [s0] w K := by kernel_rfl
theorem value_Text.call {s0 : Value} {w : World} {K : Value → World → Prop} (h : value_Text.pt s0 w K) : Calls Tryz.prog F_value_Text #[s0] w (retK K) :=
  calls_FN (args := [s0]) Tryz.func33 (by kernel_rfl) (by rw [value_Text.pt_eq] at h; exact h)
theorem value_Text.up {s0 : Value} {w : World} {K : Value → World → Prop} (h : Calls Tryz.prog F_value_Text #[s0] w (retK K)) : upK Tryz.prog (sCall F_value_Text #[s0]) w K :=
  up_call (fn := Tryz.f33) Tryz.func33 (by kernel_rfl) (by kernel_rfl) h

/-- errata/value.Bool -/
def value_Bool.pt (b0 : Value) (w : World) (K : Value → World → Prop) : Prop :=
  upK Tryz.prog (sAlloc T_api_Value) w fun t2 w1 =>
  ifB b0
  (pureK Tryz.prog (sBuild T_api_Value #[(0, (.int .i64 2)), (1, (.int .i64 1))]) fun t4 =>
   upK Tryz.prog (sStore T_api_Value t2 t4) w1 fun tu w2 =>
   readV Tryz.prog (do loadVar T_api_Value (← asAddr t2)) w2 fun t2_1 =>
   K t2_1 w2)
  (pureK Tryz.prog (sBuild T_api_Value #[(0, (.int .i64 2))]) fun t5 =>
   upK Tryz.prog (sStore T_api_Value t2 t5) w1 fun tu_1 w3 =>
   readV Tryz.prog (do loadVar T_api_Value (← asAddr t2)) w3 fun t2_2 =>
   K t2_2 w3)
theorem value_Bool.pt_eq : value_Bool.pt = fun b0 w K => FN Tryz.prog Tryz.f34 (bodyOf Tryz.f34) [] .leaf [b0] w K := by kernel_rfl
theorem value_Bool.call {b0 : Value} {w : World} {K : Value → World → Prop} (h : value_Bool.pt b0 w K) : Calls Tryz.prog F_value_Bool #[b0] w (retK K) :=
  calls_FN (args := [b0]) Tryz.func34 (by kernel_rfl) (by rw [value_Bool.pt_eq] at h; exact h)
theorem value_Bool.up {b0 : Value} {w : World} {K : Value → World → Prop} (h : Calls Tryz.prog F_value_Bool #[b0] w (retK K)) : upK Tryz.prog (sCall F_value_Bool #[b0]) w K :=
  up_call (fn := Tryz.f34) Tryz.func34 (by kernel_rfl) (by kernel_rfl) h

/-- errata/value.all -/
def value_all.pt (r0 : Value) (w : World) (K : Value → World → Prop) : Prop :=
  upK Tryz.prog (sCall F_slices_ContainsFunc_s_api_Value_api_Value #[r0, (.func (.func 73) #[] #[])]) w fun t4 w1 =>
  pureK Tryz.prog (sUn .not t4) fun t5 =>
  K t5 w1
theorem value_all.pt_eq : value_all.pt = fun r0 w K => FN Tryz.prog Tryz.f35 (bodyOf Tryz.f35) [2] .leaf [r0] w K := by kernel_rfl
theorem value_all.call {r0 : Value} {w : World} {K : Value → World → Prop} (h : value_all.pt r0 w K) : Calls Tryz.prog F_value_all #[r0] w (retK K) :=
  calls_FN (args := [r0]) Tryz.func35 (by kernel_rfl) (by rw [value_all.pt_eq] at h; exact h)
theorem value_all.up {r0 : Value} {w : World} {K : Value → World → Prop} (h : Calls Tryz.prog F_value_all #[r0] w (retK K)) : upK Tryz.prog (sCall F_value_all #[r0]) w K :=
  up_call (fn := Tryz.f35) Tryz.func35 (by kernel_rfl) (by kernel_rfl) h

/-- errata/errataref03.All -/
def errataref03_All.pt (r0 : Value) (w : World) (K : Value → World → Prop) : Prop :=
  LOOP (X := Value × Unit) (fun lv1 w1 next1 =>
   readK Tryz.prog (sBlt .len #[T_s_api_Value] T_int #[false] #[r0]) w1 fun t6 =>
   pureK Tryz.prog (sBin .lss T_int (.tmp 4) (.tmp 6) lv1.1 t6) fun t7 =>
   ifB t7
   (pureK Tryz.prog (sIdxAddr T_s_api_Value r0 lv1.1) fun t12 =>
    readK Tryz.prog (sLoad T_api_Value t12) w1 fun t13 =>
    upK Tryz.prog (sCall F_errataref03_Right #[t13]) w1 fun t14 w2 =>
    pureK Tryz.prog (sUn .not t14) fun t15 =>
    ifB t15
    (K (.bool false) w2)
    (pureK Tryz.prog (sBin .add T_int (.tmp 8) (.const (.int .i64 1)) lv1.1 (.int .i64 1)) fun t9 =>
     next1 (t9, ()) w2))
   (K (.bool true) w1))
  ((.int .i64 0), ()) w
theorem errataref03_All.pt_eq : errataref03_All.pt = fun r0 w K => FN Tryz.prog Tryz.f36 (bodyOf Tryz.f36) [2] .leaf [r0] w K := by kernel_rfl
theorem errataref03_All.call {r0 : Value} {w : World} {K : Value → World → Prop} (h : errataref03_All.pt r0 w K) : Calls Tryz.prog F_errataref03_All #[r0] w (retK K) :=
  calls_FN (args := [r0]) Tryz.func36 (by kernel_rfl) (by rw [errataref03_All.pt_eq] at h; exact h)
theorem errataref03_All.up {r0 : Value} {w : World} {K : Value → World → Prop} (h : Calls Tryz.prog F_errataref03_All #[r0] w (retK K)) : upK Tryz.prog (sCall F_errataref03_All #[r0]) w K :=
  up_call (fn := Tryz.f36) Tryz.func36 (by kernel_rfl) (by kernel_rfl) h

/-- slices.CompareFunc[[]errata/api.Value,[]errata/api.Value,errata/api.Value,errata/api.Value] -/
def slices_CompareFunc_s_api_Value_s_api_Value_api_Value_api_Value.pt (s10 s21 cmp2 : Value) (w : World) (K : Value → World → Prop) : Prop :=
  readK Tryz.prog (sBlt .len #[T_s_api_Value] T_int #[false] #[s10]) w fun t12 =>
  LOOP (X := Value × Unit) (fun lv1 w1 next1 =>
   pureK Tryz.prog (sBin .lss T_int (.tmp 13) (.tmp 12) lv1.1 t12) fun t14 =>
   ifB t14
   (pureK Tryz.prog (sIdxAddr T_s_api_Value s10 lv1.1) fun t16 =>
    readK Tryz.prog (sLoad T_api_Value t16) w1 fun t17 =>
    upK Tryz.prog (sAlloc T_api_Value) w1 fun v18 w2 =>
    upK Tryz.prog (sStore T_api_Value v18 t17) w2 fun tu w3 =>
    readK Tryz.prog (sBlt .len #[T_s_api_Value] T_int #[false] #[s21]) w3 fun t20 =>
    pureK Tryz.prog (sBin .geq T_int (.tmp 18) (.tmp 20) lv1.1 t20) fun t21 =>
    ifB t21
    (K (.int .i64 1) w3)
    (pureK Tryz.prog (sIdxAddr T_s_api_Value s21 lv1.1) fun t24 =>
     readK Tryz.prog (sLoad T_api_Value t24) w3 fun t25 =>
     upK Tryz.prog (sAlloc T_api_Value) w3 fun v29 w4 =>
     upK Tryz.prog (sStore T_api_Value v29 t25) w4 fun tu_1 w5 =>
     readK Tryz.prog (sLoad T_api_Value v18) w5 fun t27 =>
     readK Tryz.prog (sLoad T_api_Value v29) w5 fun t28 =>
     upK Tryz.prog (sCallV cmp2 #[t27, t28]) w5 fun t29 w6 =>
     pureK Tryz.prog (sBin .neq T_int (.tmp 30) (.const (.int .i64 0)) t29 (.int .i64 0)) fun t31 =>
     ifB t31
     (K t29 w6)
     (pureK Tryz.prog (sBin .add T_int (.tmp 13) (.const (.int .i64 1)) lv1.1 (.int .i64 1)) fun t33 =>
      next1 (t33, ()) w6)))
   (readK Tryz.prog (sBlt .len #[T_s_api_Value] T_int #[false] #[s10]) w1 fun t35 =>
    readK Tryz.prog (sBlt .len #[T_s_api_Value] T_int #[false] #[s21]) w1 fun t37 =>
    pureK Tryz.prog (sBin .lss T_int (.tmp 35) (.tmp 37) t35 t37) fun t38 =>
    ifB t38
    (K (.int .i64 (-1)) w1)
    (K (.int .i64 0) w1)))
  ((.int .i64 0), ()) w
theorem slices_CompareFunc_s_api_Value_s_api_Value_api_Value_api_Value.pt_eq : slices_CompareFunc_s_api_Value_s_api_Value_api_Value_api_Value.pt = fun s10 s21 cmp2 w K => FN Tryz.prog Tryz.f37 (bodyOf Tryz.f37) [6] .leaf [s10, s21, cmp2] w K := by kernel_rfl
theorem slices_CompareFunc_s_api_Value_s_api_Value_api_Value_api_Value.call {s10 s21 cmp2 : Value} {w : World} {K : Value → World → Prop} (h : slices_CompareFunc_s_api_Value_s_api_Value_api_Value_api_Value.pt s10 s21 cmp2 w K) : Calls Tryz.prog F_slices_CompareFunc_s_api_Value_s_api_Value_api_Value_api_Value #[s10, s21, cmp2] w (retK K) :=
  calls_FN (args := [s10, s21, cmp2]) Tryz.func37 (by kernel_rfl) (by rw [slices_CompareFunc_s_api_Value_s_api_Value_api_Value_api_Value.pt_eq] at h; exact h)
theorem slices_CompareFunc_s_api_Value_s_api_Value_api_Value_api_Value.up {s10 s21 cmp2 : Value} {w : World} {K : Value → World → Prop} (h : Calls Tryz.prog F_slices_CompareFunc_s_api_Value_s_api_Value_api_Value_api_Value #[s10, s21, cmp2] w (retK K)) : upK Tryz.prog (sCall F_slices_CompareFunc_s_api_Value_s_api_Value_api_Value_api_Value #[s10, s21, cmp2]) w K :=
  up_call (fn := Tryz.f37) Tryz.func37 (by kernel_rfl) (by kernel_rfl) h

/-- slices.Equal[[]errata/api.Value,errata/api.Value] -/
def slices_Equal_s_api_Value_api_Value.pt (s10 s21 : Value) (w : World) (K : Value → World → Prop) : Prop :=
  readK Tryz.prog (sBlt .len #[T_s_api_Value] T_int #[false] #[s10]) w fun t7 =>
  readK Tryz.prog (sBlt .len #[T_s_api_Value] T_int #[false] #[s21]) w fun t9 =>
  pureK Tryz.prog (sBin .neq T_int (.tmp 7) (.tmp 9) t7 t9) fun t10 =>
  ifB t10
  (K (.bool false) w)
  (readK Tryz.prog (sBlt .len #[T_s_api_Value] T_int #[false] #[s10]) w fun t12 =>
   LOOP (X := Value × Unit) (fun lv1 w1 next1 =>
    pureK Tryz.prog (sBin .lss T_int (.tmp 13) (.tmp 12) lv1.1 t12) fun t14 =>
    ifB t14
    (pureK Tryz.prog (sIdxAddr T_s_api_Value s10 lv1.1) fun t18 =>
     readK Tryz.prog (sLoad T_api_Value t18) (tick w1) fun t19 =>
     pureK Tryz.prog (sIdxAddr T_s_api_Value s21 lv1.1) fun t22 =>
     readK Tryz.prog (sLoad T_api_Value t22) (tick w1) fun t23 =>
     pureK Tryz.prog (sBin .neq T_api_Value (.tmp 19) (.tmp 23) t19 t23) fun t24 =>
     ifB t24
     (K (.bool false) (tick w1))
     (pureK Tryz.prog (sBin .add T_int (.tmp 13) (.const (.int .i64 1)) lv1.1 (.int .i64 1)) fun t25 =>
      next1 (t25, ()) (tick w1)))
    (K (.bool true) w1))
   ((.int .i64 0), ()) w)
theorem slices_Equal_s_api_Value_api_Value.pt_eq : slices_Equal_s_api_Value_api_Value.pt = fun s10 s21 w K => FN Tryz.prog Tryz.f38 (bodyOf Tryz.f38) [4] .leaf [s10, s21] w K := by kernel_rfl
theorem slices_Equal_s_api_Value_api_Value.call {s10 s21 : Value} {w : World} {K : Value → World → Prop} (h : slices_Equal_s_api_Value_api_Value.pt s10 s21 w K) : Calls Tryz.prog F_slices_Equal_s_api_Value_api_Value #[s10, s21] w (retK K) :=
  calls_FN (args := [s10, s21]) Tryz.func38 (by kernel_rfl) (by rw [slices_Equal_s_api_Value_api_Value.pt_eq] at h; exact h)
theorem slices_Equal_s_api_Value_api_Value.up {s10 s21 : Value} {w : World} {K : Value → World → Prop} (h : Calls Tryz.prog F_slices_Equal_s_api_Value_api_Value #[s10, s21] w (retK K)) : upK Tryz.prog (sCall F_slices_Equal_s_api_Value_api_Value #[s10, s21]) w K :=
  up_call (fn := Tryz.f38) Tryz.func38 (by kernel_rfl) (by kernel_rfl) h

/-- (*strings.Builder).WriteString -/
def strings_Builder_WriteString.pt (b0 s1 : Value) (w : World) (K : Value → World → Prop) : Prop :=
  upK Tryz.prog (sCall F_strings_Builder_copyCheck #[b0]) w fun t7 w1 =>
  pureK Tryz.prog (sNil b0) fun t10 =>
  pureK Tryz.prog (sFieldAddr T_strings_Builder t10 1) fun t11 =>
  readK Tryz.prog (sLoad T_s_uint8 t11) w1 fun t12 =>
  upK Tryz.prog (sBlt .append #[T_s_uint8, T_string] T_s_uint8 #[false, false] #[t12, s1]) w1 fun t14 w2 =>
  pureK Tryz.prog (sNil b0) fun t15 =>
  pureK Tryz.prog (sFieldAddr T_strings_Builder t15 1) fun t16 =>
  upK Tryz.prog (sStore T_s_uint8 t16 t14) w2 fun tu w3 =>
  readK Tryz.prog (sBlt .len #[T_string] T_int #[false] #[s1]) w3 fun t18 =>
  K (.tuple #[t18, .nilIface]) w3
theorem strings_Builder_WriteString.pt_eq : strings_Builder_WriteString.pt = fun b0 s1 w K => FN Tryz.prog Tryz.f39 (bodyOf Tryz.f39) [4, 5] .leaf [b0, s1] w K := by kernel_rfl
theorem strings_Builder_WriteString.call {b0 s1 : Value} {w : World} {K : Value → World → Prop} (h : strings_Builder_WriteString.pt b0 s1 w K) : Calls Tryz.prog F_strings_Builder_WriteString #[b0, s1] w (retK K) :=
  calls_FN (args := [b0, s1]) Tryz.func39 (by kernel_rfl) (by rw [strings_Builder_WriteString.pt_eq] at h; exact h)
theorem strings_Builder_WriteString.up {b0 s1 : Value} {w : World} {K : Value → World → Prop} (h : Calls Tryz.prog F_strings_Builder_WriteString #[b0, s1] w (retK K)) : upK Tryz.prog (sCall F_strings_Builder_WriteString #[b0, s1]) w K :=
  up_call (fn := Tryz.f39) Tryz.func39 (by kernel_rfl) (by kernel_rfl) h

/-- errata/wire.Num -/
def wire_Num.pt (n0 : Value) (w : World) (K : Value → World → Prop) : Prop :=
  pureK Tryz.prog (sBin .lss T_int (.tmp 3) (.const (.int .i64 0)) n0 (.int .i64 0)) fun t4 =>
  ifB t4
  (K (.string ⟨#[]⟩) w)
  (upK Tryz.prog (sCall F_wire_Int #[n0]) w fun t6 w1 =>
   K t6 w1)
theorem wire_Num.pt_eq : wire_Num.pt = fun n0 w K => FN Tryz.prog Tryz.f40 (bodyOf Tryz.f40) [2] .leaf [n0] w K := by kernel_rfl
theorem wire_Num.call {n0 : Value} {w : World} {K : Value → World → Prop} (h : wire_Num.pt n0 w K) : Calls Tryz.prog F_wire_Num #[n0] w (retK K) :=
  calls_FN (args := [n0]) Tryz.func40 (by kernel_rfl) (by rw [wire_Num.pt_eq] at h; exact h)
theorem wire_Num.up {n0 : Value} {w : World} {K : Value → World → Prop} (h : Calls Tryz.prog F_wire_Num #[n0] w (retK K)) : upK Tryz.prog (sCall F_wire_Num #[n0]) w K :=
  up_call (fn := Tryz.f40) Tryz.func40 (by kernel_rfl) (by kernel_rfl) h

/-- (*strings.Builder).String -/
theorem strings_Builder_String.up {p0 : Value} {w : World} {K : Value → World → Prop} (h : Calls Tryz.prog F_strings_Builder_String #[p0] w (retK K)) : upK Tryz.prog (sCall F_strings_Builder_String #[p0]) w K :=
  up_call (fn := Tryz.f41) Tryz.func41 (by kernel_rfl) (by kernel_rfl) h

/-- errata/errataref01.Num -/
def errataref01_Num.pt (n0 : Value) (w : World) (K : Value → World → Prop) : Prop :=
  pureK Tryz.prog (sBin .lss T_int (.tmp 3) (.const (.int .i64 0)) n0 (.int .i64 0)) fun t4 =>
  ifB t4
  (K (.string ⟨#[]⟩) w)
  (upK Tryz.prog (sCall F_errataref01_Int #[n0]) w fun t6 w1 =>
   K t6 w1)
theorem errataref01_Num.pt_eq : errataref01_Num.pt = fun n0 w K => FN Tryz.prog Tryz.f42 (bodyOf Tryz.f42) [2] .leaf [n0] w K := by kernel_rfl
theorem errataref01_Num.call {n0 : Value} {w : World} {K : Value → World → Prop} (h : errataref01_Num.pt n0 w K) : Calls Tryz.prog F_errataref01_Num #[n0] w (retK K) :=
  calls_FN (args := [n0]) Tryz.func42 (by kernel_rfl) (by rw [errataref01_Num.pt_eq] at h; exact h)
theorem errataref01_Num.up {n0 : Value} {w : World} {K : Value → World → Prop} (h : Calls Tryz.prog F_errataref01_Num #[n0] w (retK K)) : upK Tryz.prog (sCall F_errataref01_Num #[n0]) w K :=
  up_call (fn := Tryz.f42) Tryz.func42 (by kernel_rfl) (by kernel_rfl) h

/-- strings.Join -/
theorem strings_Join.up {p0 p1 : Value} {w : World} {K : Value → World → Prop} (h : Calls Tryz.prog F_strings_Join #[p0, p1] w (retK K)) : upK Tryz.prog (sCall F_strings_Join #[p0, p1]) w K :=
  up_call (fn := Tryz.f43) Tryz.func43 (by kernel_rfl) (by kernel_rfl) h

/-- errata/wire.Int -/
def wire_Int.pt (n0 : Value) (w : World) (K : Value → World → Prop) : Prop :=
  upK Tryz.prog (sCall F_strconv_Itoa #[n0]) w fun t4 w1 =>
  pureK Tryz.prog (sBin .add T_string (.tmp 4) (.const (.string ⟨#[59]⟩)) t4 (.string ⟨#[59]⟩)) fun t5 =>
  K t5 w1
theorem wire_Int.pt_eq : wire_Int.pt = fun n0 w K => FN Tryz.prog Tryz.f44 (bodyOf Tryz.f44) [2] .leaf [n0] w K := by kernel_rfl
theorem wire_Int.call {n0 : Value} {w : World} {K : Value → World → Prop} (h : wire_Int.pt n0 w K) : Calls Tryz.prog F_wire_Int #[n0] w (retK K) :=
  calls_FN (args := [n0]) Tryz.func44 (by kernel_rfl) (by rw [wire_Int.pt_eq] at h; exact h)
theorem wire_Int.up {n0 : Value} {w : World} {K : Value → World → Prop} (h : Calls Tryz.prog F_wire_Int #[n0] w (retK K)) : upK Tryz.prog (sCall F_wire_Int #[n0]) w K :=
  up_call (fn := Tryz.f44) Tryz.func44 (by kernel_rfl) (by kernel_rfl) h

/-- errata/wire.Text -/
def wire_Text.pt (s0 : Value) (w : World) (K : Value → World → Prop) : Prop :=
  readK Tryz.prog (sBlt .len #[T_string] T_int #[false] #[s0]) w fun t4 =>
  upK Tryz.prog (sCall F_strconv_Itoa #[t4]) w fun t5 w1 =>
  pureK Tryz.prog (sBin .add T_string (.tmp 5) (.const (.string ⟨#[58]⟩)) t5 (.string ⟨#[58]⟩)) fun t6 =>
  pureK Tryz.prog (sBin .add T_string (.tmp 6) (.tmp 7) t6 s0) fun t8 =>
  pureK Tryz.prog (sBin .add T_string (.tmp 8) (.const (.string ⟨#[44]⟩)) t8 (.string ⟨#[44]⟩)) fun t9 =>
  K t9 w1
theorem wire_Text.pt_eq : wire_Text.pt = fun s0 w K => FN Tryz.prog Tryz.f45 (bodyOf Tryz.f45) [2] .leaf [s0] w K := by kernel_rfl
theorem wire_Text.call {s0 : Value} {w : World} {K : Value → World → Prop} (h : wire_Text.pt s0 w K) : Calls Tryz.prog F_wire_Text #[s0] w (retK K) :=
  calls_FN (args := [s0]) Tryz.func45 (by kernel_rfl) (by rw [wire_Text.pt_eq] at h; exact h)
theorem wire_Text.up {s0 : Value} {w : World} {K : Value → World → Prop} (h : Calls Tryz.prog F_wire_Text #[s0] w (retK K)) : upK Tryz.prog (sCall F_wire_Text #[s0]) w K :=
  up_call (fn := Tryz.f45) Tryz.func45 (by kernel_rfl) (by kernel_rfl) h

/-- errata/errataref01.Int -/
def errataref01_Int.pt (n0 : Value) (w : World) (K : Value → World → Prop) : Prop :=
  pureK Tryz.prog (sBin .lss T_int (.tmp 3) (.const (.int .i64 0)) n0 (.int .i64 0)) fun t4 =>
  ifB t4
  (upK Tryz.prog (sCall F_errataref01_digits #[n0]) w fun t6 w1 =>
   pureK Tryz.prog (sBin .add T_string (.const (.string ⟨#[45]⟩)) (.tmp 6) (.string ⟨#[45]⟩) t6) fun t7 =>
   pureK Tryz.prog (sBin .add T_string (.tmp 7) (.const (.string ⟨#[59]⟩)) t7 (.string ⟨#[59]⟩)) fun t8 =>
   K t8 w1)
  (pureK Tryz.prog (sUn .neg n0) fun t10 =>
   upK Tryz.prog (sCall F_errataref01_digits #[t10]) w fun t11 w2 =>
   pureK Tryz.prog (sBin .add T_string (.tmp 11) (.const (.string ⟨#[59]⟩)) t11 (.string ⟨#[59]⟩)) fun t12 =>
   K t12 w2)
theorem errataref01_Int.pt_eq : errataref01_Int.pt = fun n0 w K => FN Tryz.prog Tryz.f46 (bodyOf Tryz.f46) [2] .leaf [n0] w K := by kernel_rfl
theorem errataref01_Int.call {n0 : Value} {w : World} {K : Value → World → Prop} (h : errataref01_Int.pt n0 w K) : Calls Tryz.prog F_errataref01_Int #[n0] w (retK K) :=
  calls_FN (args := [n0]) Tryz.func46 (by kernel_rfl) (by rw [errataref01_Int.pt_eq] at h; exact h)
theorem errataref01_Int.up {n0 : Value} {w : World} {K : Value → World → Prop} (h : Calls Tryz.prog F_errataref01_Int #[n0] w (retK K)) : upK Tryz.prog (sCall F_errataref01_Int #[n0]) w K :=
  up_call (fn := Tryz.f46) Tryz.func46 (by kernel_rfl) (by kernel_rfl) h

/-- errata/errataref01.Text -/
def errataref01_Text.pt (s0 : Value) (w : World) (K : Value → World → Prop) : Prop :=
  readK Tryz.prog (sBlt .len #[T_string] T_int #[false] #[s0]) w fun t4 =>
  pureK Tryz.prog (sUn .neg t4) fun t5 =>
  upK Tryz.prog (sCall F_errataref01_digits #[t5]) w fun t6 w1 =>
  pureK Tryz.prog (sBin .add T_string (.tmp 6) (.const (.string ⟨#[58]⟩)) t6 (.string ⟨#[58]⟩)) fun t7 =>
  pureK Tryz.prog (sBin .add T_string (.tmp 7) (.tmp 8) t7 s0) fun t9 =>
  pureK Tryz.prog (sBin .add T_string (.tmp 9) (.const (.string ⟨#[44]⟩)) t9 (.string ⟨#[44]⟩)) fun t10 =>
  K t10 w1
theorem errataref01_Text.pt_eq : errataref01_Text.pt = fun s0 w K => FN Tryz.prog Tryz.f47 (bodyOf Tryz.f47) [2] .leaf [s0] w K := by kernel_rfl
theorem errataref01_Text.call {s0 : Value} {w : World} {K : Value → World → Prop} (h : errataref01_Text.pt s0 w K) : Calls Tryz.prog F_errataref01_Text #[s0] w (retK K) :=
  calls_FN (args := [s0]) Tryz.func47 (by kernel_rfl) (by rw [errataref01_Text.pt_eq] at h; exact h)
theorem errataref01_Text.up {s0 : Value} {w : World} {K : Value → World → Prop} (h : Calls Tryz.prog F_errataref01_Text #[s0] w (retK K)) : upK Tryz.prog (sCall F_errataref01_Text #[s0]) w K :=
  up_call (fn := Tryz.f47) Tryz.func47 (by kernel_rfl) (by kernel_rfl) h

/-- errata/text.Decimal -/
def text_Decimal.pt (n0 : Value) (w : World) (K : Value → World → Prop) : Prop :=
  upK Tryz.prog (sCall F_strconv_Itoa #[n0]) w fun t4 w1 =>
  K t4 w1
theorem text_Decimal.pt_eq : text_Decimal.pt = fun n0 w K => FN Tryz.prog Tryz.f48 (bodyOf Tryz.f48) [2] .leaf [n0] w K := by kernel_rfl
theorem text_Decimal.call {n0 : Value} {w : World} {K : Value → World → Prop} (h : text_Decimal.pt n0 w K) : Calls Tryz.prog F_text_Decimal #[n0] w (retK K) :=
  calls_FN (args := [n0]) Tryz.func48 (by kernel_rfl) (by rw [text_Decimal.pt_eq] at h; exact h)
theorem text_Decimal.up {n0 : Value} {w : World} {K : Value → World → Prop} (h : Calls Tryz.prog F_text_Decimal #[n0] w (retK K)) : upK Tryz.prog (sCall F_text_Decimal #[n0]) w K :=
  up_call (fn := Tryz.f48) Tryz.func48 (by kernel_rfl) (by kernel_rfl) h

/-- errata/text.Quote -/
def text_Quote.pt (s0 : Value) (w : World) (K : Value → World → Prop) : Prop :=
  upK Tryz.prog (sAlloc T_strings_Builder) w fun b3 w1 =>
  upK Tryz.prog (sCall F_strings_Builder_WriteByte #[b3, (.int .u8 34)]) w1 fun t6 w2 =>
  readK Tryz.prog (sBlt .len #[T_string] T_int #[false] #[s0]) w2 fun t8 =>
  LOOP (X := Value × Unit) (fun lv3 w3 next3 =>
   pureK Tryz.prog (sBin .lss T_int (.tmp 9) (.tmp 8) lv3.1 t8) fun t10 =>
   ifB t10
   (LETJ (X := Unit) (fun jv1 w4 =>
     pureK Tryz.prog (sBin .add T_int (.tmp 9) (.const (.int .i64 1)) lv3.1 (.int .i64 1)) fun t47 =>
     next3 (t47, ()) w4)
    (fun J1 =>
     pureK Tryz.prog (sIdx T_string s0 lv3.1) fun t14 =>
     pureK Tryz.prog (sBin .eql T_uint8 (.tmp 25) (.const (.int .u8 34)) t14 (.int .u8 34)) fun t26 =>
     ifB t26
     (upK Tryz.prog (sCall F_strings_Builder_WriteByte #[b3, (.int .u8 92)]) w3 fun t31 w5 =>
      upK Tryz.prog (sCall F_strings_Builder_WriteByte #[b3, t14]) w5 fun t33 w6 =>
      J1 (()) w6)
     (pureK Tryz.prog (sBin .eql T_uint8 (.tmp 28) (.const (.int .u8 92)) t14 (.int .u8 92)) fun t29 =>
      ifB t29
      (upK Tryz.prog (sCall F_strings_Builder_WriteByte #[b3, (.int .u8 92)]) w3 fun t31_1 w7 =>
       upK Tryz.prog (sCall F_strings_Builder_WriteByte #[b3, t14]) w7 fun t33_1 w8 =>
       J1 (()) w8)
      (pureK Tryz.prog (sBin .eql T_uint8 (.tmp 35) (.const (.int .u8 10)) t14 (.int .u8 10)) fun t36 =>
       ifB t36
       (upK Tryz.prog (sCall F_strings_Builder_WriteString #[b3, (.string ⟨#[92, 110]⟩)]) w3 fun t37 w9 =>
        J1 (()) w9)
       (pureK Tryz.prog (sBin .geq T_uint8 (.tmp 39) (.const (.int .u8 32)) t14 (.int .u8 32)) fun t40 =>
        ifB t40
        (pureK Tryz.prog (sBin .leq T_uint8 (.tmp 42) (.const (.int .u8 126)) t14 (.int .u8 126)) fun t43 =>
         ifB t43
         (upK Tryz.prog (sCall F_strings_Builder_WriteByte #[b3, t14]) w3 fun t46 w10 =>
          J1 (()) w10)
         (upK Tryz.prog (sCall F_strings_Builder_WriteString #[b3, (.string ⟨#[92, 120]⟩)]) w3 fun t15 w11 =>
          pureK Tryz.prog (sBin .quo T_uint8 (.tmp 16) (.const (.int .u8 16)) t14 (.int .u8 16)) fun t17 =>
          pureK Tryz.prog (sIdx T_string (.string ⟨#[48, 49, 50, 51, 52, 53, 54, 55, 56, 57, 97, 98, 99, 100, 101, 102]⟩) t17) fun t18 =>
          upK Tryz.prog (sCall F_strings_Builder_WriteByte #[b3, t18]) w11 fun t19 w12 =>
          pureK Tryz.prog (sBin .rem T_uint8 (.tmp 20) (.const (.int .u8 16)) t14 (.int .u8 16)) fun t21 =>
          pureK Tryz.prog (sIdx T_string (.string ⟨#[48, 49, 50, 51, 52, 53, 54, 55, 56, 57, 97, 98, 99, 100, 101, 102]⟩) t21) fun t22 =>
          upK Tryz.prog (sCall F_strings_Builder_WriteByte #[b3, t22]) w12 fun t23 w13 =>
          J1 (()) w13))
        (upK Tryz.prog (sCall F_strings_Builder_WriteString #[b3, (.string ⟨#[92, 120]⟩)]) w3 fun t15_1 w14 =>
         pureK Tryz.prog (sBin .quo T_uint8 (.tmp 16) (.const (.int .u8 16)) t14 (.int .u8 16)) fun t17_1 =>
         pureK Tryz.prog (sIdx T_string (.string ⟨#[48, 49, 50, 51, 52, 53, 54, 55, 56, 57, 97, 98, 99, 100, 101, 102]⟩) t17_1) fun t18_1 =>
         upK Tryz.prog (sCall F_strings_Builder_WriteByte #[b3, t18_1]) w14 fun t19_1 w15 =>
         pureK Tryz.prog (sBin .rem T_uint8 (.tmp 20) (.const (.int .u8 16)) t14 (.int .u8 16)) fun t21_1 =>
         pureK Tryz.prog (sIdx T_string (.string ⟨#[48, 49, 50, 51, 52, 53, 54, 55, 56, 57, 97, 98, 99, 100, 101, 102]⟩) t21_1) fun t22_1 =>
         upK Tryz.prog (sCall F_strings_Builder_WriteByte #[b3, t22_1]) w15 fun t23_1 w16 =>
         J1 (()) w16))))))
   (upK Tryz.prog (sCall F_strings_Builder_WriteByte #[b3, (.int .u8 34)]) w3 fun t48 w17 =>
    upK Tryz.prog (sCall F_strings_Builder_String #[b3]) w17 fun t49 w18 =>
    K t49 w18))
  ((.int .i64 0), ()) w2
theorem text_Quote.pt_eq : text_Quote.pt = fun s0 w K => FN Tryz.prog Tryz.f49 (bodyOf Tryz.f49) [2] (.node none .leaf (.node none .leaf (.node none .leaf (.node none (.node none .leaf (.node none (.node none (.node none .leaf (.node none .leaf (.node (some []) .leaf .leaf))) .leaf) .leaf)) .leaf)))) [s0] w K := by kernel_rfl
theorem text_Quote.call {s0 : Value} {w : World} {K : Value → World → Prop} (h : text_Quote.pt s0 w K) : Calls Tryz.prog F_text_Quote #[s0] w (retK K) :=
  calls_FN (args := [s0]) Tryz.func49 (by kernel_rfl) (by rw [text_Quote.pt_eq] at h; exact h)
theorem text_Quote.up {s0 : Value} {w : World} {K : Value → World → Prop} (h : Calls Tryz.prog F_text_Quote #[s0] w (retK K)) : upK Tryz.prog (sCall F_text_Quote #[s0]) w K :=
  up_call (fn := Tryz.f49) Tryz.func49 (by kernel_rfl) (by kernel_rfl) h

/-- errata/errataref02.Decimal -/
def errataref02_Decimal.pt (n0 : Value) (w : World) (K : Value → World → Prop) : Prop :=
  LETJ (X := Unit) (fun jv1 w1 =>
   pureK Tryz.prog (sBin .gtr T_int (.tmp 14) (.const (.int .i64 0)) n0 (.int .i64 0)) fun t15 =>
   ifB t15
   (pureK Tryz.prog (sBin .quo T_int (.tmp 16) (.const (.int .i64 10)) n0 (.int .i64 10)) fun t17 =>
    upK Tryz.prog (sCall F_errataref02_Decimal #[t17]) w1 fun t18 w2 =>
    pureK Tryz.prog (sBin .rem T_int (.tmp 19) (.const (.int .i64 10)) n0 (.int .i64 10)) fun t20 =>
    upK Tryz.prog (sCall F_errataref02_Decimal #[t20]) w2 fun t21 w3 =>
    pureK Tryz.prog (sBin .add T_string (.tmp 18) (.tmp 21) t18 t21) fun t22 =>
    K t22 w3)
   (pureK Tryz.prog (sBin .gtr T_int (.tmp 23) (.const (.int .i64 (-10))) n0 (.int .i64 (-10))) fun t24 =>
    ifB t24
    (pureK Tryz.prog (sUn .neg n0) fun t26 =>
     upK Tryz.prog (sCall F_errataref02_Decimal #[t26]) w1 fun t27 w4 =>
     pureK Tryz.prog (sBin .add T_string (.const (.string ⟨#[45]⟩)) (.tmp 27) (.string ⟨#[45]⟩) t27) fun t28 =>
     K t28 w4)
    (pureK Tryz.prog (sBin .quo T_int (.tmp 29) (.const (.int .i64 10)) n0 (.int .i64 10)) fun t30 =>
     upK Tryz.prog (sCall F_errataref02_Decimal #[t30]) w1 fun t31 w5 =>
     pureK Tryz.prog (sBin .rem T_int (.tmp 32) (.const (.int .i64 10)) n0 (.int .i64 10)) fun t33 =>
     pureK Tryz.prog (sUn .neg t33) fun t34 =>
     upK Tryz.prog (sCall F_errataref02_Decimal #[t34]) w5 fun t35 w6 =>
     pureK Tryz.prog (sBin .add T_string (.tmp 31) (.tmp 35) t31 t35) fun t36 =>
     K t36 w6)))
  (fun J1 =>
   pureK Tryz.prog (sBin .geq T_int (.tmp 3) (.const (.int .i64 0)) n0 (.int .i64 0)) fun t4 =>
   ifB t4
   (pureK Tryz.prog (sBin .lss T_int (.tmp 6) (.const (.int .i64 10)) n0 (.int .i64 10)) fun t7 =>
    ifB t7
    (pureK Tryz.prog (sBin .add T_int (.const (.int .i64 48)) (.tmp 9) (.int .i64 48) n0) fun t10 =>
     upK Tryz.prog (sConv T_int T_uint8 t10) w fun t11 w7 =>
     upK Tryz.prog (sBuildSlice T_s_uint8 1 #[(0, t11)]) w7 fun t12 w8 =>
     upK Tryz.prog (sConv T_s_uint8 T_string t12) w8 fun t13 w9 =>
     K t13 w9)
    (J1 (()) w))
   (J1 (()) w))
theorem errataref02_Decimal.pt_eq : errataref02_Decimal.pt = fun n0 w K => FN Tryz.prog Tryz.f50 (bodyOf Tryz.f50) [2] (.node none .leaf (.node (some []) .leaf .leaf)) [n0] w K := by kernel_rfl
theorem errataref02_Decimal.call {n0 : Value} {w : World} {K : Value → World → Prop} (h : errataref02_Decimal.pt n0 w K) : Calls Tryz.prog F_errataref02_Decimal #[n0] w (retK K) :=
  calls_FN (args := [n0]) Tryz.func50 (by kernel_rfl) (by rw [errataref02_Decimal.pt_eq] at h; exact h)
theorem errataref02_Decimal.up {n0 : Value} {w : World} {K : Value → World → Prop} (h : Calls Tryz.prog F_errataref02_Decimal #[n0] w (retK K)) : upK Tryz.prog (sCall F_errataref02_Decimal #[n0]) w K :=
  up_call (fn := Tryz.f50) Tryz.func50 (by kernel_rfl) (by kernel_rfl) h

/-- errata/errataref02.Quote -/
def errataref02_Quote.pt (s0 : Value) (w : World) (K : Value → World → Prop) : Prop :=
  upK Tryz.prog (sBuildSlice T_s_uint8 1 #[(0, (.int .u8 34))]) w fun t6 w1 =>
  LOOP (X := Value × Value × Unit) (fun lv2 w2 next2 =>
   readK Tryz.prog (sBlt .len #[T_string] T_int #[false] #[s0]) w2 fun t9 =>
   pureK Tryz.prog (sBin .lss T_int (.tmp 7) (.tmp 9) lv2.2.1 t9) fun t10 =>
   ifB t10
   (LETJ (X := Value × Unit) (fun jv1 w3 =>
     pureK Tryz.prog (sBin .add T_int (.tmp 11) (.const (.int .i64 1)) lv2.2.1 (.int .i64 1)) fun t12 =>
     next2 (jv1.1, t12, ()) w3)
    (fun J1 =>
     pureK Tryz.prog (sIdx T_string s0 lv2.2.1) fun t15 =>
     pureK Tryz.prog (sBin .eql T_uint8 (.tmp 16) (.const (.int .u8 34)) t15 (.int .u8 34)) fun t17 =>
     ifB t17
     (upK Tryz.prog (sBuildSlice T_s_uint8 2 #[(0, (.int .u8 92)), (1, t15)]) w2 fun t24 w4 =>
      upK Tryz.prog (sBlt .append #[T_s_uint8, T_s_uint8] T_s_uint8 #[false, false] #[lv2.1, t24]) w4 fun t25 w5 =>
      J1 (t25, ()) w5)
     (pureK Tryz.prog (sBin .eql T_uint8 (.tmp 19) (.const (.int .u8 92)) t15 (.int .u8 92)) fun t20 =>
      ifB t20
      (upK Tryz.prog (sBuildSlice T_s_uint8 2 #[(0, (.int .u8 92)), (1, t15)]) w2 fun t24_1 w6 =>
       upK Tryz.prog (sBlt .append #[T_s_uint8, T_s_uint8] T_s_uint8 #[false, false] #[lv2.1, t24_1]) w6 fun t25_1 w7 =>
       J1 (t25_1, ()) w7)
      (pureK Tryz.prog (sBin .eql T_uint8 (.tmp 26) (.const (.int .u8 10)) t15 (.int .u8 10)) fun t27 =>
       ifB t27
       (upK Tryz.prog (sBuildSlice T_s_uint8 2 #[(0, (.int .u8 92)), (1, (.int .u8 110))]) w2 fun t29 w8 =>
        upK Tryz.prog (sBlt .append #[T_s_uint8, T_s_uint8] T_s_uint8 #[false, false] #[lv2.1, t29]) w8 fun t30 w9 =>
        J1 (t30, ()) w9)
       (pureK Tryz.prog (sBin .lss T_uint8 (.tmp 31) (.const (.int .u8 32)) t15 (.int .u8 32)) fun t32 =>
        ifB t32
        (pureK Tryz.prog (sBin .quo T_uint8 (.tmp 38) (.const (.int .u8 16)) t15 (.int .u8 16)) fun t39 =>
         pureK Tryz.prog (sIdx T_string (.string ⟨#[48, 49, 50, 51, 52, 53, 54, 55, 56, 57, 97, 98, 99, 100, 101, 102]⟩) t39) fun t40 =>
         pureK Tryz.prog (sBin .rem T_uint8 (.tmp 41) (.const (.int .u8 16)) t15 (.int .u8 16)) fun t42 =>
         pureK Tryz.prog (sIdx T_string (.string ⟨#[48, 49, 50, 51, 52, 53, 54, 55, 56, 57, 97, 98, 99, 100, 101, 102]⟩) t42) fun t43 =>
         upK Tryz.prog (sBuildSlice T_s_uint8 4 #[(0, (.int .u8 92)), (1, (.int .u8 120)), (2, t40), (3, t43)]) (tick w2) fun t44 w10 =>
         upK Tryz.prog (sBlt .append #[T_s_uint8, T_s_uint8] T_s_uint8 #[false, false] #[lv2.1, t44]) w10 fun t45 w11 =>
         J1 (t45, ()) w11)
        (pureK Tryz.prog (sBin .gtr T_uint8 (.tmp 34) (.const (.int .u8 126)) t15 (.int .u8 126)) fun t35 =>
         ifB t35
         (pureK Tryz.prog (sBin .quo T_uint8 (.tmp 38) (.const (.int .u8 16)) t15 (.int .u8 16)) fun t39_1 =>
          pureK Tryz.prog (sIdx T_string (.string ⟨#[48, 49, 50, 51, 52, 53, 54, 55, 56, 57, 97, 98, 99, 100, 101, 102]⟩) t39_1) fun t40_1 =>
          pureK Tryz.prog (sBin .rem T_uint8 (.tmp 41) (.const (.int .u8 16)) t15 (.int .u8 16)) fun t42_1 =>
          pureK Tryz.prog (sIdx T_string (.string ⟨#[48, 49, 50, 51, 52, 53, 54, 55, 56, 57, 97, 98, 99, 100, 101, 102]⟩) t42_1) fun t43_1 =>
          upK Tryz.prog (sBuildSlice T_s_uint8 4 #[(0, (.int .u8 92)), (1, (.int .u8 120)), (2, t40_1), (3, t43_1)]) (tick w2) fun t44_1 w12 =>
          upK Tryz.prog (sBlt .append #[T_s_uint8, T_s_uint8] T_s_uint8 #[false, false] #[lv2.1, t44_1]) w12 fun t45_1 w13 =>
          J1 (t45_1, ()) w13)
         (upK Tryz.prog (sBuildSlice T_s_uint8 1 #[(0, t15)]) w2 fun t48 w14 =>
          upK Tryz.prog (sBlt .append #[T_s_uint8, T_s_uint8] T_s_uint8 #[false, false] #[lv2.1, t48]) w14 fun t49 w15 =>
          J1 (t49, ()) w15)))))))
   (upK Tryz.prog (sBuildSlice T_s_uint8 1 #[(0, (.int .u8 34))]) w2 fun t51 w16 =>
    upK Tryz.prog (sBlt .append #[T_s_uint8, T_s_uint8] T_s_uint8 #[false, false] #[lv2.1, t51]) w16 fun t52 w17 =>
    upK Tryz.prog (sConv T_s_uint8 T_string t52) w17 fun t53 w18 =>
    K t53 w18))
  (t6, (.int .i64 0), ()) w1
theorem errataref02_Quote.pt_eq : errataref02_Quote.pt = fun s0 w K => FN Tryz.prog Tryz.f51 (bodyOf Tryz.f51) [2] (.node none .leaf (.node none .leaf (.node none (.node none .leaf (.node none (.node none (.node none .leaf (.node (some [3]) .leaf .leaf)) .leaf) .leaf)) .leaf))) [s0] w K := by kernel_rfl
theorem errataref02_Quote.call {s0 : Value} {w : World} {K : Value → World → Prop} (h : errataref02_Quote.pt s0 w K) : Calls Tryz.prog F_errataref02_Quote #[s0] w (retK K) :=
  calls_FN (args := [s0]) Tryz.func51 (by kernel_rfl) (by rw [errataref02_Quote.pt_eq] at h; exact h)
theorem errataref02_Quote.up {s0 : Value} {w : World} {K : Value → World → Prop} (h : Calls Tryz.prog F_errataref02_Quote #[s0] w (retK K)) : upK Tryz.prog (sCall F_errataref02_Quote #[s0]) w K :=
  up_call (fn := Tryz.f51) Tryz.func51 (by kernel_rfl) (by kernel_rfl) h

/-- cmp.Or[int] -/
def cmp_Or_int.pt (vals0 : Value) (w : World) (K : Value → World → Prop) : Prop :=
  readK Tryz.prog (sBlt .len #[T_s_int] T_int #[false] #[vals0]) w fun t7 =>
  LOOP (X := Value × Unit) (fun lv1 w1 next1 =>
   pureK Tryz.prog (sBin .lss T_int (.tmp 8) (.tmp 7) lv1.1 t7) fun t9 =>
   ifB t9
   (pureK Tryz.prog (sIdxAddr T_s_int vals0 lv1.1) fun t10 =>
    readK Tryz.prog (sLoad T_int t10) w1 fun t11 =>
    pureK Tryz.prog (sBin .neq T_int (.tmp 12) (.tmp 13) t11 (.int .i64 0)) fun t14 =>
    ifB t14
    (K t11 w1)
    (pureK Tryz.prog (sBin .add T_int (.tmp 8) (.const (.int .i64 1)) lv1.1 (.int .i64 1)) fun t16 =>
     next1 (t16, ()) w1))
   (K (.int .i64 0) w1))
  ((.int .i64 0), ()) w
theorem cmp_Or_int.pt_eq : cmp_Or_int.pt = fun vals0 w K => FN Tryz.prog Tryz.f52 (bodyOf Tryz.f52) [2] .leaf [vals0] w K := by kernel_rfl
theorem cmp_Or_int.call {vals0 : Value} {w : World} {K : Value → World → Prop} (h : cmp_Or_int.pt vals0 w K) : Calls Tryz.prog F_cmp_Or_int #[vals0] w (retK K) :=
  calls_FN (args := [vals0]) Tryz.func52 (by kernel_rfl) (by rw [cmp_Or_int.pt_eq] at h; exact h)
theorem cmp_Or_int.up {vals0 : Value} {w : World} {K : Value → World → Prop} (h : Calls Tryz.prog F_cmp_Or_int #[vals0] w (retK K)) : upK Tryz.prog (sCall F_cmp_Or_int #[vals0]) w K :=
  up_call (fn := Tryz.f52) Tryz.func52 (by kernel_rfl) (by kernel_rfl) h

/-- cmp.Compare[int] -/
def cmp_Compare_int.pt (x0 vy1 : Value) (w : World) (K : Value → World → Prop) : Prop :=
  upK Tryz.prog (sCall F_cmp_isNaN_int #[x0]) w fun t8 w1 =>
  upK Tryz.prog (sCall F_cmp_isNaN_int #[vy1]) w1 fun t10 w2 =>
  ifB t8
  (ifB t10
   (K (.int .i64 0) w2)
   (K (.int .i64 (-1)) w2))
  (ifB t10
   (K (.int .i64 1) w2)
   (pureK Tryz.prog (sBin .lss T_int (.tmp 14) (.tmp 15) x0 vy1) fun t16 =>
    ifB t16
    (K (.int .i64 (-1)) w2)
    (pureK Tryz.prog (sBin .gtr T_int (.tmp 17) (.tmp 18) x0 vy1) fun t19 =>
     ifB t19
     (K (.int .i64 1) w2)
     (K (.int .i64 0) w2))))
theorem cmp_Compare_int.pt_eq : cmp_Compare_int.pt = fun x0 vy1 w K => FN Tryz.prog Tryz.f53 (bodyOf Tryz.f53) [4] .leaf [x0, vy1] w K := by kernel_rfl
theorem cmp_Compare_int.call {x0 vy1 : Value} {w : World} {K : Value → World → Prop} (h : cmp_Compare_int.pt x0 vy1 w K) : Calls Tryz.prog F_cmp_Compare_int #[x0, vy1] w (retK K) :=
  calls_FN (args := [x0, vy1]) Tryz.func53 (by kernel_rfl) (by rw [cmp_Compare_int.pt_eq] at h; exact h)
theorem cmp_Compare_int.up {x0 vy1 : Value} {w : World} {K : Value → World → Prop} (h : Calls Tryz.prog F_cmp_Compare_int #[x0, vy1] w (retK K)) : upK Tryz.prog (sCall F_cmp_Compare_int #[x0, vy1]) w K :=
  up_call (fn := Tryz.f53) Tryz.func53 (by kernel_rfl) (by kernel_rfl) h

/-- strings.Compare -/
theorem strings_Compare.up {p0 p1 : Value} {w : World} {K : Value → World → Prop} (h : Calls Tryz.prog F_strings_Compare #[p0, p1] w (retK K)) : upK Tryz.prog (sCall F_strings_Compare #[p0, p1]) w K :=
  up_call (fn := Tryz.f54) Tryz.func54 (by kernel_rfl) (by kernel_rfl) h

/-- errata/wire.Open -/
def wire_Open.pt (s0 : Value) (w : World) (K : Value → World → Prop) : Prop :=
  pureK Tryz.prog (sBuild T_wire_Reader #[(0, s0)]) fun t4 =>
  upK Tryz.prog (sBox T_wire_Reader t4) w fun t5 w1 =>
  K t5 w1
theorem wire_Open.pt_eq : wire_Open.pt = fun s0 w K => FN Tryz.prog Tryz.f55 (bodyOf Tryz.f55) [2] .leaf [s0] w K := by kernel_rfl
theorem wire_Open.call {s0 : Value} {w : World} {K : Value → World → Prop} (h : wire_Open.pt s0 w K) : Calls Tryz.prog F_wire_Open #[s0] w (retK K) :=
  calls_FN (args := [s0]) Tryz.func55 (by kernel_rfl) (by rw [wire_Open.pt_eq] at h; exact h)
theorem wire_Open.up {s0 : Value} {w : World} {K : Value → World → Prop} (h : Calls Tryz.prog F_wire_Open #[s0] w (retK K)) : upK Tryz.prog (sCall F_wire_Open #[s0]) w K :=
  up_call (fn := Tryz.f55) Tryz.func55 (by kernel_rfl) (by kernel_rfl) h

/-- errata/value.take -/
def value_take.pt (r0 : Value) (w : World) (K : Value → World → Prop) : Prop :=
  upK Tryz.prog (sAlloc T_api_Value) w fun t2 w1 =>
  upK Tryz.prog (sCall F_wire_Reader_Int #[r0]) w1 fun t5 w2 =>
  upK Tryz.prog (sCall F_wire_Reader_Int #[r0]) w2 fun t7 w3 =>
  pureK Tryz.prog (sBuild T_api_Value #[(0, t5), (1, t7)]) fun t8 =>
  upK Tryz.prog (sAlloc T_api_Value) w3 fun v3 w4 =>
  upK Tryz.prog (sStore T_api_Value v3 t8) w4 fun tu w5 =>
  upK Tryz.prog (sCall F_wire_Reader_Text #[r0]) w5 fun t10 w6 =>
  pureK Tryz.prog (sFieldAddr T_api_Value v3 2) fun t11 =>
  upK Tryz.prog (sStore T_string t11 t10) w6 fun tu_1 w7 =>
  readK Tryz.prog (sLoad T_api_Value v3) w7 fun t12 =>
  upK Tryz.prog (sStore T_api_Value t2 t12) w7 fun tu_2 w8 =>
  readV Tryz.prog (do loadVar T_api_Value (← asAddr t2)) w8 fun t2_1 =>
  K t2_1 w8
theorem value_take.pt_eq : value_take.pt = fun r0 w K => FN Tryz.prog Tryz.f56 (bodyOf Tryz.f56) [] .leaf [r0] w K := by kernel_rfl
theorem value_take.call {r0 : Value} {w : World} {K : Value → World → Prop} (h : value_take.pt r0 w K) : Calls Tryz.prog F_value_take #[r0] w (retK K) :=
  calls_FN (args := [r0]) Tryz.func56 (by kernel_rfl) (by rw [value_take.pt_eq] at h; exact h)
theorem value_take.up {r0 : Value} {w : World} {K : Value → World → Prop} (h : Calls Tryz.prog F_value_take #[r0] w (retK K)) : upK Tryz.prog (sCall F_value_take #[r0]) w K :=
  up_call (fn := Tryz.f56) Tryz.func56 (by kernel_rfl) (by kernel_rfl) h

/-- (*errata/wire.Reader).Done -/
def wire_Reader_Done.pt (r0 : Value) (w : World) (K : Value → World → Prop) : Prop :=
  pureK Tryz.prog (sNil r0) fun t4 =>
  pureK Tryz.prog (sFieldAddr T_wire_Reader t4 1) fun t5 =>
  readK Tryz.prog (sLoad T_bool t5) w fun t6 =>
  pureK Tryz.prog (sUn .not t6) fun t7 =>
  ifB t7
  (pureK Tryz.prog (sNil r0) fun t10 =>
   pureK Tryz.prog (sFieldAddr T_wire_Reader t10 0) fun t11 =>
   readK Tryz.prog (sLoad T_string t11) w fun t12 =>
   pureK Tryz.prog (sBin .eql T_string (.tmp 12) (.const (.string ⟨#[]⟩)) t12 (.string ⟨#[]⟩)) fun t13 =>
   K t13 w)
  (K (.bool false) w)
theorem wire_Reader_Done.pt_eq : wire_Reader_Done.pt = fun r0 w K => FN Tryz.prog Tryz.f57 (bodyOf Tryz.f57) [2] .leaf [r0] w K := by kernel_rfl
theorem wire_Reader_Done.call {r0 : Value} {w : World} {K : Value → World → Prop} (h : wire_Reader_Done.pt r0 w K) : Calls Tryz.prog F_wire_Reader_Done #[r0] w (retK K) :=
  calls_FN (args := [r0]) Tryz.func57 (by kernel_rfl) (by rw [wire_Reader_Done.pt_eq] at h; exact h)
theorem wire_Reader_Done.up {r0 : Value} {w : World} {K : Value → World → Prop} (h : Calls Tryz.prog F_wire_Reader_Done #[r0] w (retK K)) : upK Tryz.prog (sCall F_wire_Reader_Done #[r0]) w K :=
  up_call (fn := Tryz.f57) Tryz.func57 (by kernel_rfl) (by kernel_rfl) h

/-- errata/errataref01.Open -/
def errataref01_Open.pt (s0 : Value) (w : World) (K : Value → World → Prop) : Prop :=
  pureK Tryz.prog (sBuild T_errataref01_Reader #[(0, s0)]) fun t4 =>
  upK Tryz.prog (sBox T_errataref01_Reader t4) w fun t5 w1 =>
  K t5 w1
theorem errataref01_Open.pt_eq : errataref01_Open.pt = fun s0 w K => FN Tryz.prog Tryz.f58 (bodyOf Tryz.f58) [2] .leaf [s0] w K := by kernel_rfl
theorem errataref01_Open.call {s0 : Value} {w : World} {K : Value → World → Prop} (h : errataref01_Open.pt s0 w K) : Calls Tryz.prog F_errataref01_Open #[s0] w (retK K) :=
  calls_FN (args := [s0]) Tryz.func58 (by kernel_rfl) (by rw [errataref01_Open.pt_eq] at h; exact h)
theorem errataref01_Open.up {s0 : Value} {w : World} {K : Value → World → Prop} (h : Calls Tryz.prog F_errataref01_Open #[s0] w (retK K)) : upK Tryz.prog (sCall F_errataref01_Open #[s0]) w K :=
  up_call (fn := Tryz.f58) Tryz.func58 (by kernel_rfl) (by kernel_rfl) h

/-- (*errata/errataref01.Reader).Int -/
def errataref01_Reader_Int.pt (r0 : Value) (w : World) (K : Value → World → Prop) : Prop :=
  upK Tryz.prog (sCall F_errataref01_Reader_ahead #[r0, (.int .u8 59)]) w fun t4 w1 =>
  K t4 w1
theorem errataref01_Reader_Int.pt_eq : errataref01_Reader_Int.pt = fun r0 w K => FN Tryz.prog Tryz.f59 (bodyOf Tryz.f59) [2] .leaf [r0] w K := by kernel_rfl
theorem errataref01_Reader_Int.call {r0 : Value} {w : World} {K : Value → World → Prop} (h : errataref01_Reader_Int.pt r0 w K) : Calls Tryz.prog F_errataref01_Reader_Int #[r0] w (retK K) :=
  calls_FN (args := [r0]) Tryz.func59 (by kernel_rfl) (by rw [errataref01_Reader_Int.pt_eq] at h; exact h)
theorem errataref01_Reader_Int.up {r0 : Value} {w : World} {K : Value → World → Prop} (h : Calls Tryz.prog F_errataref01_Reader_Int #[r0] w (retK K)) : upK Tryz.prog (sCall F_errataref01_Reader_Int #[r0]) w K :=
  up_call (fn := Tryz.f59) Tryz.func59 (by kernel_rfl) (by kernel_rfl) h

end Go.Proofs.YtifhbaphlmhoeaaGreatDoor
