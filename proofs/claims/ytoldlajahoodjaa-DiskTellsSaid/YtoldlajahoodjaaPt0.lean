/-
  The reckoned conditions of the functions that this seat's statements reach, printed by program, each held against the translation by the kernel. No condition.
-/
import Derived.Test.YtoldlajahoodjaaNames
namespace Go.Proofs.Ytoldlajahoodjaa
set_option linter.unusedVariables false

/-- errata/erratalaw04.DiskTells -/
def erratalaw04_DiskTells.pt (l0 f1 at2 size3 : Value) (w : World) (K : Value → World → Prop) : Prop :=
  upK Try.prog (sCall F_erratalaw04_small #[]) w fun t18 w1 =>
  upK Try.prog (sCall F_erratalaw04_few #[l0]) w1 fun t20 w2 =>
  pureK Try.prog (sUn .not t20) fun t21 =>
  ifB t21
  (K t18 w2)
  (upK Try.prog (sCall F_disk_New #[]) w2 fun t23 w3 =>
   upK Try.prog (sCall F_errataref04_New #[]) w3 fun t24 w4 =>
   pureK Try.prog (sBin .eql T_p_disk_Disk (.tmp 25) (.const (.pointer none)) t23 (.pointer none)) fun t26 =>
   ifB t26
   (K (.bool false) w4)
   (LOOP (X := Value × Value × Unit) (fun x5 w5 next5 =>
     readK Try.prog (sBlt .len #[T_s_erratalaw04_Act] T_int #[false] #[l0]) w5 fun t29 =>
     pureK Try.prog (sBin .lss T_int (.tmp 27) (.tmp 29) x5.2.1 t29) fun t30 =>
     ifB t30
     (LETJ (X := Value × Unit) (fun y1 w6 =>
       pureK Try.prog (sBin .add T_int (.tmp 31) (.const (.int .i64 1)) x5.2.1 (.int .i64 1)) fun t32 =>
       next5 (y1.1, t32, ()) w6)
      (fun J1 =>
       pureK Try.prog (sIdxAddr T_s_erratalaw04_Act l0 x5.2.1) fun t36 =>
       readK Try.prog (sLoad T_erratalaw04_Act t36) (tick w5) fun t37 =>
       pureK Try.prog (sIdxAddr T_s_erratalaw04_Act l0 x5.2.1) fun t42 =>
       readK Try.prog (sLoad T_erratalaw04_Act t42) (tick w5) fun t43 =>
       upK Try.prog (sCall F_erratalaw04_do #[x5.1, t37]) (tick w5) fun t38 w7 =>
       Is Try.prog (sLoad T_erratalaw04_Act t42) t43 w7 ∧ upK Try.prog (sCall F_erratalaw04_tell #[t24, t43]) w7 fun t44 w8 =>
       pureK Try.prog (sBin .neq T_api_Errno (.tmp 38) (.tmp 44) t38 t44) fun t45 =>
       ifB t45
       (K (.bool false) w8)
       (upK Try.prog (sCall F_disk_Disk_Down #[x5.1]) w8 fun t48 w9 =>
        upK Try.prog (sCall F_errataref04_Disk_Down #[t24]) w9 fun t50 w10 =>
        pureK Try.prog (sBin .neq T_bool (.tmp 48) (.tmp 50) t48 t50) fun t51 =>
        ifB t51
        (K (.bool false) w10)
        (upK Try.prog (sCall F_disk_Disk_Size #[x5.1, f1]) w10 fun t56 w11 =>
         upK Try.prog (sCall F_errataref04_Disk_Size #[t24, f1]) w11 fun t59 w12 =>
         pureK Try.prog (sBin .neq T_int (.tmp 56) (.tmp 59) t56 t59) fun t60 =>
         ifB t60
         (K (.bool false) w12)
         (readK Try.prog (sBlt .len #[T_s_erratalaw04_Act] T_int #[false] #[l0]) w12 fun t64 =>
          pureK Try.prog (sBin .quo T_int (.tmp 64) (.const (.int .i64 2)) t64 (.int .i64 2)) fun t65 =>
          pureK Try.prog (sBin .eql T_int (.tmp 62) (.tmp 65) x5.2.1 t65) fun t66 =>
          ifB t66
          (upK Try.prog (sCall F_disk_Disk_Copy #[x5.1]) w12 fun t68 w13 =>
           pureK Try.prog (sBin .eql T_p_disk_Disk (.tmp 69) (.const (.pointer none)) t68 (.pointer none)) fun t70 =>
           ifB t70
           (K (.bool false) w13)
           (pureK Try.prog (sIdxAddr T_s_erratalaw04_Act l0 (.int .i64 0)) fun t73 =>
            readK Try.prog (sLoad T_erratalaw04_Act t73) w13 fun t74 =>
            upK Try.prog (sCall F_erratalaw04_do #[x5.1, t74]) w13 fun t75 w14 =>
            upK Try.prog (sCall F_disk_Disk_Sync #[x5.1, f1]) w14 fun t78 w15 =>
            J1 (t68, ()) w15))
          (J1 (x5.1, ()) w12))))))
     (upK Try.prog (sCall F_disk_Disk_Read #[x5.1, f1, at2, size3]) w5 fun t85 w16 =>
      pureK Try.prog (sExtract t85 0) fun t86 =>
      pureK Try.prog (sExtract t85 1) fun t87 =>
      upK Try.prog (sCall F_errataref04_Disk_Read #[t24, f1, at2, size3]) w16 fun t93 w17 =>
      pureK Try.prog (sExtract t93 0) fun t94 =>
      pureK Try.prog (sExtract t93 1) fun t95 =>
      ifB t18
      (pureK Try.prog (sBin .eql T_string (.tmp 98) (.tmp 99) t86 t94) fun t100 =>
       ifB t100
       (pureK Try.prog (sBin .eql T_api_Errno (.tmp 103) (.tmp 104) t87 t95) fun t105 =>
        K t105 w17)
       (K (.bool false) w17))
      (K (.bool false) w17)))
    (t23, (.int .i64 0), ()) w4))
theorem erratalaw04_DiskTells.pt_eq : erratalaw04_DiskTells.pt = fun l0 f1 at2 size3 w K => FN Try.prog Try.f3 (bodyOf Try.f3) [8] (.node none .leaf (.node none .leaf (.node none .leaf (.node none .leaf (.node none .leaf (.node none .leaf (.node none (.node none .leaf (.node none (.node none (.node none .leaf (.node (some [10]) .leaf .leaf)) .leaf) .leaf)) .leaf))))))) [l0, f1, at2, size3] w K := by kernel_rfl
theorem erratalaw04_DiskTells.call {l0 f1 at2 size3 : Value} {w : World} {K : Value → World → Prop} (h : erratalaw04_DiskTells.pt l0 f1 at2 size3 w K) : Calls Try.prog F_erratalaw04_DiskTells #[l0, f1, at2, size3] w (retK K) :=
  calls_FN (args := [l0, f1, at2, size3]) Try.func3 (by kernel_rfl) (by rw [erratalaw04_DiskTells.pt_eq] at h; exact h)
theorem erratalaw04_DiskTells.up {l0 f1 at2 size3 : Value} {w : World} {K : Value → World → Prop} (h : Calls Try.prog F_erratalaw04_DiskTells #[l0, f1, at2, size3] w (retK K)) : upK Try.prog (sCall F_erratalaw04_DiskTells #[l0, f1, at2, size3]) w K :=
  up_call (fn := Try.f3) Try.func3 (by kernel_rfl) (by kernel_rfl) h

/-- errata/erratalaw04.DiskSurvives -/
def erratalaw04_DiskSurvives.pt (l0 f1 keep2 : Value) (w : World) (K : Value → World → Prop) : Prop :=
  upK Try.prog (sCall F_erratalaw04_small #[]) w fun t21 w1 =>
  upK Try.prog (sCall F_erratalaw04_few #[l0]) w1 fun t23 w2 =>
  pureK Try.prog (sUn .not t23) fun t24 =>
  ifB t24
  (K t21 w2)
  (readK Try.prog (sBlt .len #[T_s_int] T_int #[false] #[keep2]) w2 fun t27 =>
   pureK Try.prog (sBin .gtr T_int (.tmp 27) (.const (.int .i64 60)) t27 (.int .i64 60)) fun t28 =>
   ifB t28
   (K t21 w2)
   (upK Try.prog (sCall F_erratalaw04_played #[l0]) w2 fun t32 w3 =>
    pureK Try.prog (sBin .eql T_p_disk_Disk (.tmp 33) (.const (.pointer none)) t32 (.pointer none)) fun t34 =>
    ifB t34
    (K (.bool false) w3)
    (upK Try.prog (sCall F_disk_Disk_Down #[t32]) w3 fun t36 w4 =>
     ifB t36
     (K t21 w4)
     (pureK Try.prog (sBin .lss T_int (.tmp 38) (.const (.int .i64 0)) f1 (.int .i64 0)) fun t39 =>
      ifB t39
      (K t21 w4)
      (pureK Try.prog (sBin .gtr T_int (.tmp 42) (.const (.int .i64 15)) f1 (.int .i64 15)) fun t43 =>
       ifB t43
       (K t21 w4)
       (upK Try.prog (sCall F_disk_Disk_Size #[t32, f1]) w4 fun t48 w5 =>
        pureK Try.prog (sBin .gtr T_int (.tmp 48) (.const (.int .i64 100000)) t48 (.int .i64 100000)) fun t49 =>
        ifB t49
        (K t21 w5)
        (upK Try.prog (sCall F_disk_Disk_Read #[t32, f1, (.int .i64 0), (.int .i64 16777216)]) w5 fun t55 w6 =>
         pureK Try.prog (sExtract t55 0) fun t56 =>
         pureK Try.prog (sExtract t55 1) fun t57 =>
         upK Try.prog (sCall F_erratalaw04_after #[t32, f1, (.slice none 0 0)]) w6 fun t61 w7 =>
         pureK Try.prog (sExtract t61 0) fun t62 =>
         pureK Try.prog (sExtract t61 1) fun t63 =>
         upK Try.prog (sBuildSlice T_s_int 1 #[(0, (.int .i64 1))]) w7 fun t67 w8 =>
         upK Try.prog (sCall F_erratalaw04_after #[t32, f1, t67]) w8 fun t68 w9 =>
         pureK Try.prog (sExtract t68 0) fun t69 =>
         pureK Try.prog (sExtract t68 1) fun t70 =>
         upK Try.prog (sCall F_erratalaw04_after #[t32, f1, keep2]) w9 fun t75 w10 =>
         pureK Try.prog (sExtract t75 0) fun t76 =>
         pureK Try.prog (sExtract t75 1) fun t77 =>
         pureK Try.prog (sBin .neq T_api_Errno (.tmp 78) (.const (.int .i64 0)) t57 (.int .i64 0)) fun t79 =>
         ifB t79
         (K (.bool false) w10)
         (pureK Try.prog (sUn .not t63) fun t82 =>
          ifB t82
          (K (.bool false) w10)
          (pureK Try.prog (sUn .not t70) fun t86 =>
           ifB t86
           (K (.bool false) w10)
           (pureK Try.prog (sUn .not t77) fun t90 =>
            ifB t90
            (K (.bool false) w10)
            (pureK Try.prog (sBin .neq T_string (.tmp 93) (.tmp 94) t69 t56) fun t95 =>
             ifB t95
             (K (.bool false) w10)
             (readK Try.prog (sBlt .len #[T_string] T_int #[false] #[t76]) w10 fun t99 =>
              readK Try.prog (sBlt .len #[T_string] T_int #[false] #[t62]) w10 fun t101 =>
              pureK Try.prog (sBin .lss T_int (.tmp 99) (.tmp 101) t99 t101) fun t102 =>
              ifB t102
              (K (.bool false) w10)
              (readK Try.prog (sBlt .len #[T_string] T_int #[false] #[t76]) w10 fun t106 =>
               readK Try.prog (sBlt .len #[T_string] T_int #[false] #[t56]) w10 fun t108 =>
               pureK Try.prog (sBin .gtr T_int (.tmp 106) (.tmp 108) t106 t108) fun t109 =>
               ifB t109
               (K (.bool false) w10)
               (LOOP (X := Value × Unit) (fun x11 w11 next11 =>
                 pureK Try.prog (sBin .mul T_int (.const (.int .i64 64)) (.tmp 111) (.int .i64 64) x11.1) fun t112 =>
                 readK Try.prog (sBlt .len #[T_string] T_int #[false] #[t76]) w11 fun t114 =>
                 pureK Try.prog (sBin .lss T_int (.tmp 112) (.tmp 114) t112 t114) fun t115 =>
                 ifB t115
                 (LETJ (X := Unit) (fun y1 w12 =>
                   pureK Try.prog (sBin .add T_int (.tmp 116) (.const (.int .i64 1)) x11.1 (.int .i64 1)) fun t117 =>
                   next11 (t117, ()) w12)
                  (fun J1 =>
                   LETJ (X := Value × Value × Unit) (fun y2 w13 =>
                    pureK Try.prog (sUn .not y2.1) fun t154 =>
                    ifB t154
                    (pureK Try.prog (sUn .not y2.2.1) fun t157 =>
                     ifB t157
                     (K (.bool false) w13)
                     (J1 (()) w13))
                    (J1 (()) w13))
                   (fun J2 =>
                    pureK Try.prog (sBin .mul T_int (.const (.int .i64 64)) (.tmp 118) (.int .i64 64) x11.1) fun t119 =>
                    LOOP (X := Value × Value × Value × Unit) (fun x14 w14 next14 =>
                     pureK Try.prog (sBin .mul T_int (.const (.int .i64 64)) (.tmp 121) (.int .i64 64) x11.1) fun t122 =>
                     pureK Try.prog (sBin .add T_int (.tmp 122) (.const (.int .i64 64)) t122 (.int .i64 64)) fun t123 =>
                     pureK Try.prog (sBin .lss T_int (.tmp 120) (.tmp 123) x14.2.2.1 t123) fun t124 =>
                     ifB t124
                     (readK Try.prog (sBlt .len #[T_string] T_int #[false] #[t76]) w14 fun t128 =>
                      pureK Try.prog (sBin .lss T_int (.tmp 126) (.tmp 128) x14.2.2.1 t128) fun t129 =>
                      ifB t129
                      (LETJ (X := Value × Value × Unit) (fun y3 w15 =>
                        pureK Try.prog (sBin .add T_int (.tmp 131) (.const (.int .i64 1)) x14.2.2.1 (.int .i64 1)) fun t132 =>
                        next14 (y3.1, y3.2.1, t132, ()) w15)
                       (fun J3 =>
                        ifB x14.1
                        (pureK Try.prog (sIdx T_string t76 x14.2.2.1) fun t137 =>
                         pureK Try.prog (sIdx T_string t56 x14.2.2.1) fun t140 =>
                         pureK Try.prog (sBin .eql T_uint8 (.tmp 137) (.tmp 140) t137 t140) fun t141 =>
                         ifB x14.2.1
                         (pureK Try.prog (sIdx T_string t76 x14.2.2.1) fun t147 =>
                          upK Try.prog (sCall F_erratalaw04_byteAt #[t62, x14.2.2.1]) (tick (tick w14)) fun t150 w16 =>
                          pureK Try.prog (sBin .eql T_uint8 (.tmp 147) (.tmp 150) t147 t150) fun t151 =>
                          J3 (t141, t151, ()) w16)
                         (J3 (t141, (.bool false), ()) (tick (tick w14))))
                        (ifB x14.2.1
                         (pureK Try.prog (sIdx T_string t76 x14.2.2.1) fun t147_1 =>
                          upK Try.prog (sCall F_erratalaw04_byteAt #[t62, x14.2.2.1]) (tick (tick w14)) fun t150_1 w17 =>
                          pureK Try.prog (sBin .eql T_uint8 (.tmp 147) (.tmp 150) t147_1 t150_1) fun t151_1 =>
                          J3 ((.bool false), t151_1, ()) w17)
                         (J3 ((.bool false), (.bool false), ()) (tick (tick w14))))))
                      (J2 (x14.1, x14.2.1, ()) w14))
                     (J2 (x14.1, x14.2.1, ()) w14))
                    ((.bool true), (.bool true), t119, ()) w11)))
                 (K t21 w11))
                ((.int .i64 0), ()) w10))))))))))))))
theorem erratalaw04_DiskSurvives.pt_eq : erratalaw04_DiskSurvives.pt = fun l0 f1 keep2 w K => FN Try.prog Try.f4 (bodyOf Try.f4) [6] (.node none .leaf (.node none .leaf (.node none .leaf (.node none .leaf (.node none .leaf (.node none .leaf (.node none .leaf (.node none .leaf (.node none .leaf (.node none .leaf (.node none .leaf (.node none (.node none .leaf (.node none (.node none (.node none .leaf (.node (some []) (.node none (.node none .leaf (.node none .leaf (.node (some [18, 19]) (.node none .leaf (.node none (.node none (.node none .leaf (.node (some [18, 19]) .leaf .leaf)) .leaf) .leaf)) .leaf))) .leaf) .leaf)) .leaf) .leaf)) .leaf)))))))))))) [l0, f1, keep2] w K := by kernel_rfl
theorem erratalaw04_DiskSurvives.call {l0 f1 keep2 : Value} {w : World} {K : Value → World → Prop} (h : erratalaw04_DiskSurvives.pt l0 f1 keep2 w K) : Calls Try.prog F_erratalaw04_DiskSurvives #[l0, f1, keep2] w (retK K) :=
  calls_FN (args := [l0, f1, keep2]) Try.func4 (by kernel_rfl) (by rw [erratalaw04_DiskSurvives.pt_eq] at h; exact h)
theorem erratalaw04_DiskSurvives.up {l0 f1 keep2 : Value} {w : World} {K : Value → World → Prop} (h : Calls Try.prog F_erratalaw04_DiskSurvives #[l0, f1, keep2] w (retK K)) : upK Try.prog (sCall F_erratalaw04_DiskSurvives #[l0, f1, keep2]) w K :=
  up_call (fn := Try.f4) Try.func4 (by kernel_rfl) (by kernel_rfl) h

/-- errata/erratalaw04.DiskSynced -/
def erratalaw04_DiskSynced.pt (l0 f1 more2 keep3 : Value) (w : World) (K : Value → World → Prop) : Prop :=
  upK Try.prog (sCall F_erratalaw04_small #[]) w fun t19 w1 =>
  upK Try.prog (sCall F_erratalaw04_few #[l0]) w1 fun t21 w2 =>
  pureK Try.prog (sUn .not t21) fun t22 =>
  ifB t22
  (K t19 w2)
  (upK Try.prog (sCall F_erratalaw04_few #[more2]) w2 fun t25 w3 =>
   pureK Try.prog (sUn .not t25) fun t26 =>
   ifB t26
   (K t19 w3)
   (readK Try.prog (sBlt .len #[T_s_int] T_int #[false] #[keep3]) w3 fun t30 =>
    pureK Try.prog (sBin .gtr T_int (.tmp 30) (.const (.int .i64 60)) t30 (.int .i64 60)) fun t31 =>
    ifB t31
    (K t19 w3)
    (upK Try.prog (sCall F_erratalaw04_played #[l0]) w3 fun t35 w4 =>
     pureK Try.prog (sBin .eql T_p_disk_Disk (.tmp 36) (.const (.pointer none)) t35 (.pointer none)) fun t37 =>
     ifB t37
     (K (.bool false) w4)
     (upK Try.prog (sCall F_disk_Disk_Read #[t35, f1, (.int .i64 0), (.int .i64 16777216)]) w4 fun t41 w5 =>
      pureK Try.prog (sExtract t41 0) fun t42 =>
      pureK Try.prog (sExtract t41 1) fun t43 =>
      upK Try.prog (sCall F_disk_Disk_Sync #[t35, f1]) w5 fun t46 w6 =>
      pureK Try.prog (sBin .neq T_api_Errno (.tmp 46) (.const (.int .i64 0)) t46 (.int .i64 0)) fun t47 =>
      ifB t47
      (K t19 w6)
      (upK Try.prog (sCall F_disk_Disk_Read #[t35, f1, (.int .i64 0), (.int .i64 16777216)]) w6 fun t52 w7 =>
       pureK Try.prog (sExtract t52 0) fun t53 =>
       pureK Try.prog (sExtract t52 1) fun t54 =>
       LOOP (X := Value × Unit) (fun x8 w8 next8 =>
        readK Try.prog (sBlt .len #[T_s_erratalaw04_Act] T_int #[false] #[more2]) w8 fun t57 =>
        pureK Try.prog (sBin .lss T_int (.tmp 55) (.tmp 57) x8.1 t57) fun t58 =>
        ifB t58
        (LETJ (X := Unit) (fun y1 w9 =>
          pureK Try.prog (sBin .add T_int (.tmp 59) (.const (.int .i64 1)) x8.1 (.int .i64 1)) fun t60 =>
          next8 (t60, ()) w9)
         (fun J1 =>
          pureK Try.prog (sIdxAddr T_s_erratalaw04_Act more2 x8.1) fun t63 =>
          pureK Try.prog (sFieldAddr T_erratalaw04_Act t63 0) fun t64 =>
          readK Try.prog (sLoad T_int t64) w8 fun t65 =>
          pureK Try.prog (sBin .and T_int (.tmp 65) (.const (.int .i64 7)) t65 (.int .i64 7)) fun t66 =>
          pureK Try.prog (sBin .lss T_int (.tmp 67) (.const (.int .i64 4)) t66 (.int .i64 4)) fun t68 =>
          ifB t68
          (pureK Try.prog (sIdxAddr T_s_erratalaw04_Act more2 x8.1) fun t72 =>
           pureK Try.prog (sFieldAddr T_erratalaw04_Act t72 1) fun t73 =>
           readK Try.prog (sLoad T_int t73) w8 fun t74 =>
           pureK Try.prog (sBin .neq T_int (.tmp 74) (.tmp 75) t74 f1) fun t76 =>
           ifB t76
           (pureK Try.prog (sIdxAddr T_s_erratalaw04_Act more2 x8.1) fun t85 =>
            readK Try.prog (sLoad T_erratalaw04_Act t85) w8 fun t86 =>
            upK Try.prog (sCall F_erratalaw04_do #[t35, t86]) w8 fun t87 w10 =>
            J1 (()) w10)
           (pureK Try.prog (sBin .eql T_int (.tmp 79) (.const (.int .i64 4)) t66 (.int .i64 4)) fun t80 =>
            ifB t80
            (pureK Try.prog (sIdxAddr T_s_erratalaw04_Act more2 x8.1) fun t85_1 =>
             readK Try.prog (sLoad T_erratalaw04_Act t85_1) w8 fun t86_1 =>
             upK Try.prog (sCall F_erratalaw04_do #[t35, t86_1]) w8 fun t87_1 w11 =>
             J1 (()) w11)
            (J1 (()) w8)))
          (pureK Try.prog (sBin .eql T_int (.tmp 79) (.const (.int .i64 4)) t66 (.int .i64 4)) fun t80_1 =>
           ifB t80_1
           (pureK Try.prog (sIdxAddr T_s_erratalaw04_Act more2 x8.1) fun t85_2 =>
            readK Try.prog (sLoad T_erratalaw04_Act t85_2) w8 fun t86_2 =>
            upK Try.prog (sCall F_erratalaw04_do #[t35, t86_2]) w8 fun t87_2 w12 =>
            J1 (()) w12)
           (J1 (()) w8))))
        (upK Try.prog (sCall F_disk_Disk_Crash #[t35, keep3]) w8 fun t90 w13 =>
         upK Try.prog (sCall F_disk_Disk_Start #[t35]) w13 fun t92 w14 =>
         upK Try.prog (sCall F_disk_Disk_Read #[t35, f1, (.int .i64 0), (.int .i64 16777216)]) w14 fun t96 w15 =>
         pureK Try.prog (sExtract t96 0) fun t97 =>
         pureK Try.prog (sExtract t96 1) fun t98 =>
         ifB t19
         (pureK Try.prog (sBin .eql T_api_Errno (.tmp 101) (.const (.int .i64 0)) t54 (.int .i64 0)) fun t102 =>
          ifB t102
          (pureK Try.prog (sBin .eql T_api_Errno (.tmp 105) (.const (.int .i64 0)) t98 (.int .i64 0)) fun t106 =>
           ifB t106
           (pureK Try.prog (sBin .eql T_string (.tmp 109) (.tmp 110) t42 t53) fun t111 =>
            ifB t111
            (pureK Try.prog (sBin .eql T_string (.tmp 114) (.tmp 115) t97 t53) fun t116 =>
             K t116 w15)
            (K (.bool false) w15))
           (K (.bool false) w15))
          (K (.bool false) w15))
         (K (.bool false) w15)))
       ((.int .i64 0), ()) w7)))))
theorem erratalaw04_DiskSynced.pt_eq : erratalaw04_DiskSynced.pt = fun l0 f1 more2 keep3 w K => FN Try.prog Try.f5 (bodyOf Try.f5) [8] (.node none .leaf (.node none .leaf (.node none .leaf (.node none .leaf (.node none .leaf (.node none .leaf (.node none .leaf (.node none .leaf (.node none (.node none .leaf (.node none (.node none (.node none .leaf (.node (some []) .leaf .leaf)) .leaf) .leaf)) .leaf))))))))) [l0, f1, more2, keep3] w K := by kernel_rfl
theorem erratalaw04_DiskSynced.call {l0 f1 more2 keep3 : Value} {w : World} {K : Value → World → Prop} (h : erratalaw04_DiskSynced.pt l0 f1 more2 keep3 w K) : Calls Try.prog F_erratalaw04_DiskSynced #[l0, f1, more2, keep3] w (retK K) :=
  calls_FN (args := [l0, f1, more2, keep3]) Try.func5 (by kernel_rfl) (by rw [erratalaw04_DiskSynced.pt_eq] at h; exact h)
theorem erratalaw04_DiskSynced.up {l0 f1 more2 keep3 : Value} {w : World} {K : Value → World → Prop} (h : Calls Try.prog F_erratalaw04_DiskSynced #[l0, f1, more2, keep3] w (retK K)) : upK Try.prog (sCall F_erratalaw04_DiskSynced #[l0, f1, more2, keep3]) w K :=
  up_call (fn := Try.f5) Try.func5 (by kernel_rfl) (by kernel_rfl) h

/-- errata/erratalaw04.DiskArms -/
def erratalaw04_DiskArms.pt (l0 n1 keep2 : Value) (w : World) (K : Value → World → Prop) : Prop :=
  upK Try.prog (sCall F_erratalaw04_small #[]) w fun t15 w1 =>
  upK Try.prog (sCall F_erratalaw04_few #[l0]) w1 fun t17 w2 =>
  pureK Try.prog (sUn .not t17) fun t18 =>
  ifB t18
  (K t15 w2)
  (readK Try.prog (sBlt .len #[T_s_int] T_int #[false] #[keep2]) w2 fun t21 =>
   pureK Try.prog (sBin .gtr T_int (.tmp 21) (.const (.int .i64 60)) t21 (.int .i64 60)) fun t22 =>
   ifB t22
   (K t15 w2)
   (pureK Try.prog (sBin .lss T_int (.tmp 25) (.const (.int .i64 1)) n1 (.int .i64 1)) fun t26 =>
    ifB t26
    (K t15 w2)
    (pureK Try.prog (sBin .gtr T_int (.tmp 29) (.const (.int .i64 60)) n1 (.int .i64 60)) fun t30 =>
     ifB t30
     (K t15 w2)
     (upK Try.prog (sCall F_disk_New #[]) w2 fun t33 w3 =>
      upK Try.prog (sCall F_disk_New #[]) w3 fun t34 w4 =>
      pureK Try.prog (sBin .eql T_p_disk_Disk (.tmp 35) (.const (.pointer none)) t33 (.pointer none)) fun t36 =>
      ifB t36
      (K (.bool false) w4)
      (pureK Try.prog (sBin .eql T_p_disk_Disk (.tmp 38) (.const (.pointer none)) t34 (.pointer none)) fun t39 =>
       ifB t39
       (K (.bool false) w4)
       (upK Try.prog (sCall F_disk_Disk_Arm #[t33, n1, keep2]) w4 fun t44 w5 =>
        LOOP (X := Value × Value × Unit) (fun x6 w6 next6 =>
         readK Try.prog (sBlt .len #[T_s_erratalaw04_Act] T_int #[false] #[l0]) w6 fun t47 =>
         pureK Try.prog (sBin .lss T_int (.tmp 45) (.tmp 47) x6.2.1 t47) fun t48 =>
         ifB t48
         (LETJ (X := Value × Unit) (fun y1 w7 =>
           pureK Try.prog (sBin .add T_int (.tmp 49) (.const (.int .i64 1)) x6.2.1 (.int .i64 1)) fun t50 =>
           next6 (y1.1, t50, ()) w7)
          (fun J1 =>
           pureK Try.prog (sIdxAddr T_s_erratalaw04_Act l0 x6.2.1) fun t53 =>
           pureK Try.prog (sFieldAddr T_erratalaw04_Act t53 0) fun t54 =>
           readK Try.prog (sLoad T_int t54) w6 fun t55 =>
           pureK Try.prog (sBin .and T_int (.tmp 55) (.const (.int .i64 7)) t55 (.int .i64 7)) fun t56 =>
           pureK Try.prog (sBin .gtr T_int (.tmp 57) (.const (.int .i64 4)) t56 (.int .i64 4)) fun t58 =>
           ifB t58
           (K t15 w6)
           (LETJ (X := Value × Unit) (fun y2 w8 =>
             pureK Try.prog (sIdxAddr T_s_erratalaw04_Act l0 x6.2.1) fun t67 =>
             readK Try.prog (sLoad T_erratalaw04_Act t67) w8 fun t68 =>
             upK Try.prog (sCall F_erratalaw04_do #[t33, t68]) w8 fun t69 w9 =>
             LETJ (X := Unit) (fun y3 w10 =>
              LETJ (X := Unit) (fun y4 w11 =>
               LETJ (X := Unit) (fun y5 w12 =>
                pureK Try.prog (sBin .lss T_int (.tmp 118) (.const (.int .i64 4)) t56 (.int .i64 4)) fun t119 =>
                ifB t119
                (pureK Try.prog (sBin .neq T_api_Errno (.tmp 121) (.const (.int .i64 9)) t69 (.int .i64 9)) fun t122 =>
                 ifB t122
                 (K (.bool false) w12)
                 (upK Try.prog (sCall F_disk_Disk_Down #[t33]) w12 fun t126 w13 =>
                  pureK Try.prog (sUn .not t126) fun t127 =>
                  ifB t127
                  (K (.bool false) w13)
                  (J1 (y2.1, ()) w13)))
                (upK Try.prog (sCall F_disk_Disk_Down #[t33]) w12 fun t126_1 w14 =>
                 pureK Try.prog (sUn .not t126_1) fun t127_1 =>
                 ifB t127_1
                 (K (.bool false) w14)
                 (J1 (y2.1, ()) w14)))
               (fun J5 =>
                pureK Try.prog (sBin .eql T_int (.tmp 108) (.tmp 109) y2.1 n1) fun t110 =>
                ifB t110
                (pureK Try.prog (sBin .lss T_int (.tmp 112) (.const (.int .i64 4)) t56 (.int .i64 4)) fun t113 =>
                 ifB t113
                 (upK Try.prog (sCall F_disk_Disk_Crash #[t34, keep2]) w11 fun t117 w15 =>
                  J5 (()) w15)
                 (J5 (()) w11))
                (J5 (()) w11)))
              (fun J4 =>
               pureK Try.prog (sBin .eql T_int (.tmp 95) (.tmp 96) y2.1 n1) fun t97 =>
               ifB t97
               (pureK Try.prog (sBin .lss T_int (.tmp 99) (.const (.int .i64 2)) t56 (.int .i64 2)) fun t100 =>
                ifB t100
                (pureK Try.prog (sIdxAddr T_s_erratalaw04_Act l0 x6.2.1) fun t105 =>
                 readK Try.prog (sLoad T_erratalaw04_Act t105) w10 fun t106 =>
                 upK Try.prog (sCall F_erratalaw04_do #[t34, t106]) w10 fun t107 w16 =>
                 J4 (()) w16)
                (J4 (()) w10))
               (J4 (()) w10)))
             (fun J3 =>
              pureK Try.prog (sBin .lss T_int (.tmp 70) (.tmp 71) y2.1 n1) fun t72 =>
              ifB t72
              (pureK Try.prog (sIdxAddr T_s_erratalaw04_Act l0 x6.2.1) fun t91 =>
               readK Try.prog (sLoad T_erratalaw04_Act t91) w9 fun t92 =>
               upK Try.prog (sCall F_erratalaw04_do #[t34, t92]) w9 fun t93 w17 =>
               pureK Try.prog (sBin .neq T_api_Errno (.tmp 87) (.tmp 93) t69 t93) fun t94 =>
               ifB t94
               (K (.bool false) w17)
               (J1 (y2.1, ()) w17))
              (pureK Try.prog (sBin .eql T_int (.tmp 74) (.tmp 75) y2.1 n1) fun t76 =>
               ifB t76
               (pureK Try.prog (sBin .eql T_int (.tmp 78) (.const (.int .i64 4)) t56 (.int .i64 4)) fun t79 =>
                ifB t79
                (upK Try.prog (sCall F_disk_Disk_Down #[t33]) w9 fun t83 w18 =>
                 pureK Try.prog (sUn .not t83) fun t84 =>
                 ifB t84
                 (pureK Try.prog (sIdxAddr T_s_erratalaw04_Act l0 x6.2.1) fun t91_1 =>
                  readK Try.prog (sLoad T_erratalaw04_Act t91_1) w18 fun t92_1 =>
                  upK Try.prog (sCall F_erratalaw04_do #[t34, t92_1]) w18 fun t93_1 w19 =>
                  pureK Try.prog (sBin .neq T_api_Errno (.tmp 87) (.tmp 93) t69 t93_1) fun t94_1 =>
                  ifB t94_1
                  (K (.bool false) w19)
                  (J1 (y2.1, ()) w19))
                 (J3 (()) w18))
                (J3 (()) w9))
               (J3 (()) w9))))
            (fun J2 =>
             pureK Try.prog (sBin .lss T_int (.tmp 60) (.const (.int .i64 4)) t56 (.int .i64 4)) fun t61 =>
             ifB t61
             (pureK Try.prog (sBin .add T_int (.tmp 62) (.const (.int .i64 1)) x6.1 (.int .i64 1)) fun t63 =>
              J2 (t63, ()) w6)
             (J2 (x6.1, ()) w6)))))
         (upK Try.prog (sCall F_erratalaw04_same #[t33, t34, l0]) w6 fun t132 w20 =>
          upK Try.prog (sCall F_disk_Disk_Start #[t33]) w20 fun t134 w21 =>
          upK Try.prog (sCall F_disk_Disk_Start #[t34]) w21 fun t136 w22 =>
          ifB t15
          (ifB t132
           (upK Try.prog (sCall F_erratalaw04_same #[t33, t34, l0]) w22 fun t145 w23 =>
            K t145 w23)
           (K (.bool false) w22))
          (K (.bool false) w22)))
        ((.int .i64 0), (.int .i64 0), ()) w5))))))
theorem erratalaw04_DiskArms.pt_eq : erratalaw04_DiskArms.pt = fun l0 n1 keep2 w K => FN Try.prog Try.f6 (bodyOf Try.f6) [6] (.node none .leaf (.node none .leaf (.node none .leaf (.node none .leaf (.node none .leaf (.node none .leaf (.node none .leaf (.node none .leaf (.node none (.node none .leaf (.node none (.node none (.node none .leaf (.node (some [10]) (.node none (.node none .leaf (.node none .leaf (.node (some [10]) .leaf (.node none .leaf (.node (some []) .leaf (.node (some []) .leaf (.node (some []) .leaf .leaf))))))) .leaf) .leaf)) .leaf) .leaf)) .leaf))))))))) [l0, n1, keep2] w K := by kernel_rfl
theorem erratalaw04_DiskArms.call {l0 n1 keep2 : Value} {w : World} {K : Value → World → Prop} (h : erratalaw04_DiskArms.pt l0 n1 keep2 w K) : Calls Try.prog F_erratalaw04_DiskArms #[l0, n1, keep2] w (retK K) :=
  calls_FN (args := [l0, n1, keep2]) Try.func6 (by kernel_rfl) (by rw [erratalaw04_DiskArms.pt_eq] at h; exact h)
theorem erratalaw04_DiskArms.up {l0 n1 keep2 : Value} {w : World} {K : Value → World → Prop} (h : Calls Try.prog F_erratalaw04_DiskArms #[l0, n1, keep2] w (retK K)) : upK Try.prog (sCall F_erratalaw04_DiskArms #[l0, n1, keep2]) w K :=
  up_call (fn := Try.f6) Try.func6 (by kernel_rfl) (by kernel_rfl) h

/-- errata/erratalaw04.DiskReads -/
def erratalaw04_DiskReads.pt (l0 f1 at2 s3 size4 : Value) (w : World) (K : Value → World → Prop) : Prop :=
  upK Try.prog (sCall F_erratalaw04_small #[]) w fun t24 w1 =>
  upK Try.prog (sCall F_erratalaw04_few #[l0]) w1 fun t26 w2 =>
  pureK Try.prog (sUn .not t26) fun t27 =>
  ifB t27
  (K t24 w2)
  (readK Try.prog (sBlt .len #[T_string] T_int #[false] #[s3]) w2 fun t30 =>
   pureK Try.prog (sBin .gtr T_int (.tmp 30) (.const (.int .i64 300)) t30 (.int .i64 300)) fun t31 =>
   ifB t31
   (K t24 w2)
   (pureK Try.prog (sBin .lss T_int (.tmp 34) (.const (.int .i64 0)) at2 (.int .i64 0)) fun t35 =>
    ifB t35
    (K t24 w2)
    (pureK Try.prog (sBin .gtr T_int (.tmp 38) (.const (.int .i64 3000)) at2 (.int .i64 3000)) fun t39 =>
     ifB t39
     (K t24 w2)
     (pureK Try.prog (sBin .lss T_int (.tmp 42) (.const (.int .i64 0)) size4 (.int .i64 0)) fun t43 =>
      ifB t43
      (K t24 w2)
      (upK Try.prog (sCall F_erratalaw04_played #[l0]) w2 fun t47 w3 =>
       pureK Try.prog (sBin .eql T_p_disk_Disk (.tmp 48) (.const (.pointer none)) t47 (.pointer none)) fun t49 =>
       ifB t49
       (K (.bool false) w3)
       (upK Try.prog (sCall F_disk_Disk_Arm #[t47, (.int .i64 0), (.slice none 0 0)]) w3 fun t51 w4 =>
        upK Try.prog (sCall F_disk_Disk_Down #[t47]) w4 fun t53 w5 =>
        ifB t53
        (ifB t24
         (upK Try.prog (sCall F_disk_Disk_Write #[t47, f1, at2, s3]) w5 fun t68 w6 =>
          pureK Try.prog (sBin .neq T_api_Errno (.tmp 68) (.const (.int .i64 0)) t68 (.int .i64 0)) fun t69 =>
          K t69 w6)
         (K (.bool false) w5))
        (pureK Try.prog (sBin .lss T_int (.tmp 55) (.const (.int .i64 0)) f1 (.int .i64 0)) fun t56 =>
         ifB t56
         (ifB t24
          (upK Try.prog (sCall F_disk_Disk_Write #[t47, f1, at2, s3]) w5 fun t68_1 w7 =>
           pureK Try.prog (sBin .neq T_api_Errno (.tmp 68) (.const (.int .i64 0)) t68_1 (.int .i64 0)) fun t69_1 =>
           K t69_1 w7)
          (K (.bool false) w5))
         (pureK Try.prog (sBin .gtr T_int (.tmp 59) (.const (.int .i64 15)) f1 (.int .i64 15)) fun t60 =>
          ifB t60
          (ifB t24
           (upK Try.prog (sCall F_disk_Disk_Write #[t47, f1, at2, s3]) w5 fun t68_2 w8 =>
            pureK Try.prog (sBin .neq T_api_Errno (.tmp 68) (.const (.int .i64 0)) t68_2 (.int .i64 0)) fun t69_2 =>
            K t69_2 w8)
           (K (.bool false) w5))
          (upK Try.prog (sCall F_disk_Disk_Write #[t47, f1, at2, s3]) w5 fun t75 w9 =>
           readK Try.prog (sBlt .len #[T_string] T_int #[false] #[s3]) w9 fun t81 =>
           upK Try.prog (sCall F_disk_Disk_Read #[t47, f1, at2, t81]) w9 fun t82 w10 =>
           pureK Try.prog (sExtract t82 0) fun t83 =>
           pureK Try.prog (sExtract t82 1) fun t84 =>
           upK Try.prog (sCall F_disk_Disk_Size #[t47, f1]) w10 fun t90 w11 =>
           upK Try.prog (sCall F_disk_Disk_Read #[t47, f1, (.int .i64 0), t90]) w11 fun t91 w12 =>
           pureK Try.prog (sExtract t91 0) fun t92 =>
           pureK Try.prog (sExtract t91 1) fun t93 =>
           upK Try.prog (sCall F_disk_Disk_Read #[t47, f1, at2, size4]) w12 fun t99 w13 =>
           pureK Try.prog (sExtract t99 0) fun t100 =>
           pureK Try.prog (sExtract t99 1) fun t101 =>
           pureK Try.prog (sBin .neq T_api_Errno (.tmp 102) (.const (.int .i64 0)) t75 (.int .i64 0)) fun t103 =>
           ifB t103
           (K (.bool false) w13)
           (pureK Try.prog (sBin .neq T_api_Errno (.tmp 105) (.const (.int .i64 0)) t84 (.int .i64 0)) fun t106 =>
            ifB t106
            (K (.bool false) w13)
            (pureK Try.prog (sBin .neq T_api_Errno (.tmp 109) (.const (.int .i64 0)) t93 (.int .i64 0)) fun t110 =>
             ifB t110
             (K (.bool false) w13)
             (pureK Try.prog (sBin .neq T_api_Errno (.tmp 113) (.const (.int .i64 0)) t101 (.int .i64 0)) fun t114 =>
              ifB t114
              (K (.bool false) w13)
              (pureK Try.prog (sBin .neq T_string (.tmp 117) (.tmp 118) t83 s3) fun t119 =>
               ifB t119
               (K (.bool false) w13)
               (readK Try.prog (sBlt .len #[T_string] T_int #[false] #[t92]) w13 fun t123 =>
                upK Try.prog (sCall F_disk_Disk_Size #[t47, f1]) w13 fun t126 w14 =>
                pureK Try.prog (sBin .neq T_int (.tmp 123) (.tmp 126) t123 t126) fun t127 =>
                ifB t127
                (K (.bool false) w14)
                (readK Try.prog (sBlt .len #[T_string] T_int #[false] #[t92]) w14 fun t131 =>
                 pureK Try.prog (sBlt .min #[T_int, T_int] T_int #[false, false] #[at2, t131]) fun t132 =>
                 readK Try.prog (sBlt .len #[T_string] T_int #[false] #[t92]) w14 fun t139 =>
                 pureK Try.prog (sBin .sub T_int (.tmp 139) (.tmp 140) t139 t132) fun t141 =>
                 pureK Try.prog (sBlt .min #[T_int, T_int] T_int #[false, false] #[size4, t141]) fun t142 =>
                 pureK Try.prog (sBin .add T_int (.tmp 136) (.tmp 142) t132 t142) fun t143 =>
                 pureK Try.prog (sSlice T_string t92 (some t132) (some t143) none) fun t144 =>
                 pureK Try.prog (sBin .neq T_string (.tmp 133) (.tmp 144) t100 t144) fun t145 =>
                 ifB t145
                 (K (.bool false) w14)
                 (upK Try.prog (sCall F_disk_Disk_Truncate #[t47, f1, t132]) w14 fun t149 w15 =>
                  upK Try.prog (sCall F_disk_Disk_Crash #[t47, (.slice none 0 0)]) w15 fun t151 w16 =>
                  upK Try.prog (sCall F_disk_Disk_Start #[t47]) w16 fun t153 w17 =>
                  upK Try.prog (sCall F_disk_Disk_Read #[t47, f1, (.int .i64 0), (.int .i64 16777216)]) w17 fun t157 w18 =>
                  pureK Try.prog (sExtract t157 0) fun t158 =>
                  pureK Try.prog (sExtract t157 1) fun t159 =>
                  ifB t24
                  (pureK Try.prog (sBin .eql T_api_Errno (.tmp 162) (.const (.int .i64 0)) t149 (.int .i64 0)) fun t163 =>
                   ifB t163
                   (pureK Try.prog (sBin .eql T_api_Errno (.tmp 166) (.const (.int .i64 0)) t159 (.int .i64 0)) fun t167 =>
                    ifB t167
                    (pureK Try.prog (sSlice T_string t92 none (some t132) none) fun t173 =>
                     pureK Try.prog (sBin .eql T_string (.tmp 170) (.tmp 173) t158 t173) fun t174 =>
                     K t174 w18)
                    (K (.bool false) w18))
                   (K (.bool false) w18))
                  (K (.bool false) w18)))))))))))))))))
theorem erratalaw04_DiskReads.pt_eq : erratalaw04_DiskReads.pt = fun l0 f1 at2 s3 size4 w K => FN Try.prog Try.f7 (bodyOf Try.f7) [10] .leaf [l0, f1, at2, s3, size4] w K := by kernel_rfl
theorem erratalaw04_DiskReads.call {l0 f1 at2 s3 size4 : Value} {w : World} {K : Value → World → Prop} (h : erratalaw04_DiskReads.pt l0 f1 at2 s3 size4 w K) : Calls Try.prog F_erratalaw04_DiskReads #[l0, f1, at2, s3, size4] w (retK K) :=
  calls_FN (args := [l0, f1, at2, s3, size4]) Try.func7 (by kernel_rfl) (by rw [erratalaw04_DiskReads.pt_eq] at h; exact h)
theorem erratalaw04_DiskReads.up {l0 f1 at2 s3 size4 : Value} {w : World} {K : Value → World → Prop} (h : Calls Try.prog F_erratalaw04_DiskReads #[l0, f1, at2, s3, size4] w (retK K)) : upK Try.prog (sCall F_erratalaw04_DiskReads #[l0, f1, at2, s3, size4]) w K :=
  up_call (fn := Try.f7) Try.func7 (by kernel_rfl) (by kernel_rfl) h

/-- errata/erratalaw04.small -/
def erratalaw04_small.pt (w : World) (K : Value → World → Prop) : Prop :=
  upK Try.prog (sCall F_disk_New #[]) w fun t16 w1 =>
  pureK Try.prog (sBin .eql T_p_disk_Disk (.tmp 17) (.const (.pointer none)) t16 (.pointer none)) fun t18 =>
  ifB t18
  (K (.bool false) w1)
  (upK Try.prog (sCall F_disk_Disk_Write #[t16, (.int .i64 0), (.int .i64 0), (.string ⟨#[97, 98, 99]⟩)]) w1 fun t20 w2 =>
   upK Try.prog (sCall F_disk_Disk_Sync #[t16, (.int .i64 0)]) w2 fun t22 w3 =>
   upK Try.prog (sCall F_disk_Disk_Write #[t16, (.int .i64 0), (.int .i64 1), (.string ⟨#[88, 89]⟩)]) w3 fun t24 w4 =>
   upK Try.prog (sCall F_disk_Disk_Copy #[t16]) w4 fun t26 w5 =>
   pureK Try.prog (sBin .eql T_p_disk_Disk (.tmp 27) (.const (.pointer none)) t26 (.pointer none)) fun t28 =>
   ifB t28
   (K (.bool false) w5)
   (upK Try.prog (sBuildSlice T_s_int 1 #[(0, (.int .i64 1))]) w5 fun t30 w6 =>
    upK Try.prog (sCall F_disk_Disk_Crash #[t16, t30]) w6 fun t31 w7 =>
    upK Try.prog (sCall F_disk_Disk_Down #[t16]) w7 fun t33 w8 =>
    upK Try.prog (sCall F_disk_Disk_Read #[t16, (.int .i64 0), (.int .i64 0), (.int .i64 9)]) w8 fun t36 w9 =>
    pureK Try.prog (sExtract t36 0) fun t37 =>
    pureK Try.prog (sExtract t36 1) fun t38 =>
    upK Try.prog (sCall F_disk_Disk_Start #[t16]) w9 fun t40 w10 =>
    upK Try.prog (sCall F_disk_Disk_Read #[t16, (.int .i64 0), (.int .i64 0), (.int .i64 9)]) w10 fun t43 w11 =>
    pureK Try.prog (sExtract t43 0) fun t44 =>
    pureK Try.prog (sExtract t43 1) fun t45 =>
    upK Try.prog (sBuildSlice T_s_int 1 #[(0, (.int .i64 0))]) w11 fun t47 w12 =>
    upK Try.prog (sCall F_disk_Disk_Crash #[t26, t47]) w12 fun t48 w13 =>
    upK Try.prog (sCall F_disk_Disk_Start #[t26]) w13 fun t50 w14 =>
    upK Try.prog (sCall F_disk_Disk_Read #[t26, (.int .i64 0), (.int .i64 1), (.int .i64 9)]) w14 fun t53 w15 =>
    pureK Try.prog (sExtract t53 0) fun t54 =>
    pureK Try.prog (sExtract t53 1) fun t55 =>
    upK Try.prog (sCall F_disk_Disk_Write #[t26, (.int .i64 1), (.int .i64 62), (.string ⟨#[97, 98, 99, 100]⟩)]) w15 fun t57 w16 =>
    upK Try.prog (sBuildSlice T_s_int 2 #[(0, (.int .i64 0)), (1, (.int .i64 1))]) w16 fun t59 w17 =>
    upK Try.prog (sCall F_disk_Disk_Crash #[t26, t59]) w17 fun t60 w18 =>
    upK Try.prog (sCall F_disk_Disk_Start #[t26]) w18 fun t62 w19 =>
    upK Try.prog (sCall F_disk_Disk_Read #[t26, (.int .i64 1), (.int .i64 60), (.int .i64 100)]) w19 fun t65 w20 =>
    pureK Try.prog (sExtract t65 0) fun t66 =>
    pureK Try.prog (sExtract t65 1) fun t67 =>
    pureK Try.prog (sBin .eql T_api_Errno (.tmp 68) (.const (.int .i64 0)) t20 (.int .i64 0)) fun t69 =>
    ifB t69
    (pureK Try.prog (sBin .eql T_api_Errno (.tmp 71) (.const (.int .i64 0)) t22 (.int .i64 0)) fun t72 =>
     ifB t72
     (ifB t33
      (pureK Try.prog (sBin .eql T_api_Errno (.tmp 78) (.const (.int .i64 9)) t38 (.int .i64 9)) fun t79 =>
       ifB t79
       (pureK Try.prog (sBin .eql T_string (.tmp 82) (.const (.string ⟨#[97, 88, 89]⟩)) t44 (.string ⟨#[97, 88, 89]⟩)) fun t83 =>
        ifB t83
        (pureK Try.prog (sBin .eql T_api_Errno (.tmp 86) (.const (.int .i64 0)) t45 (.int .i64 0)) fun t87 =>
         ifB t87
         (pureK Try.prog (sBin .eql T_string (.tmp 90) (.const (.string ⟨#[98, 99]⟩)) t54 (.string ⟨#[98, 99]⟩)) fun t91 =>
          ifB t91
          (pureK Try.prog (sBin .eql T_api_Errno (.tmp 94) (.const (.int .i64 0)) t55 (.int .i64 0)) fun t95 =>
           ifB t95
           (pureK Try.prog (sBin .eql T_api_Errno (.tmp 98) (.const (.int .i64 0)) t57 (.int .i64 0)) fun t99 =>
            ifB t99
            (pureK Try.prog (sBin .eql T_string (.tmp 103) (.const (.string ⟨#[0, 0, 0, 0, 99, 100]⟩)) t66 (.string ⟨#[0, 0, 0, 0, 99, 100]⟩)) fun t104 =>
             ifB t104
             (pureK Try.prog (sBin .eql T_api_Errno (.tmp 107) (.const (.int .i64 0)) t67 (.int .i64 0)) fun t108 =>
              ifB t108
              (upK Try.prog (sCall F_disk_Disk_Size #[t26, (.int .i64 1)]) w20 fun t112 w21 =>
               pureK Try.prog (sBin .eql T_int (.tmp 112) (.const (.int .i64 66)) t112 (.int .i64 66)) fun t113 =>
               ifB t113
               (upK Try.prog (sCall F_disk_Disk_Write #[t26, (.int .i64 16), (.int .i64 0), (.string ⟨#[]⟩)]) w21 fun t117 w22 =>
                pureK Try.prog (sBin .eql T_api_Errno (.tmp 117) (.const (.int .i64 1)) t117 (.int .i64 1)) fun t118 =>
                ifB t118
                (upK Try.prog (sCall F_disk_Disk_Write #[t26, (.int .i64 1), (.int .i64 16777216), (.string ⟨#[97]⟩)]) w22 fun t122 w23 =>
                 pureK Try.prog (sBin .eql T_api_Errno (.tmp 122) (.const (.int .i64 6)) t122 (.int .i64 6)) fun t123 =>
                 K t123 w23)
                (K (.bool false) w22))
               (K (.bool false) w21))
              (K (.bool false) w20))
             (K (.bool false) w20))
            (K (.bool false) w20))
           (K (.bool false) w20))
          (K (.bool false) w20))
         (K (.bool false) w20))
        (K (.bool false) w20))
       (K (.bool false) w20))
      (K (.bool false) w20))
     (K (.bool false) w20))
    (K (.bool false) w20)))
theorem erratalaw04_small.pt_eq : erratalaw04_small.pt = fun  w K => FN Try.prog Try.f8 (bodyOf Try.f8) [0] .leaf [] w K := by kernel_rfl
theorem erratalaw04_small.call {w : World} {K : Value → World → Prop} (h : erratalaw04_small.pt  w K) : Calls Try.prog F_erratalaw04_small #[] w (retK K) :=
  calls_FN (args := []) Try.func8 (by kernel_rfl) (by rw [erratalaw04_small.pt_eq] at h; exact h)
theorem erratalaw04_small.up {w : World} {K : Value → World → Prop} (h : Calls Try.prog F_erratalaw04_small #[] w (retK K)) : upK Try.prog (sCall F_erratalaw04_small #[]) w K :=
  up_call (fn := Try.f8) Try.func8 (by kernel_rfl) (by kernel_rfl) h

/-- errata/erratalaw04.few -/
def erratalaw04_few.pt (l0 : Value) (w : World) (K : Value → World → Prop) : Prop :=
  LOOP (X := Value × Unit) (fun x1 w1 next1 =>
   readK Try.prog (sBlt .len #[T_s_erratalaw04_Act] T_int #[false] #[l0]) w1 fun t6 =>
   pureK Try.prog (sBin .lss T_int (.tmp 4) (.tmp 6) x1.1 t6) fun t7 =>
   ifB t7
   (LETJ (X := Unit) (fun y1 w2 =>
     pureK Try.prog (sBin .add T_int (.tmp 8) (.const (.int .i64 1)) x1.1 (.int .i64 1)) fun t9 =>
     next1 (t9, ()) w2)
    (fun J1 =>
     pureK Try.prog (sIdxAddr T_s_erratalaw04_Act l0 x1.1) fun t12 =>
     pureK Try.prog (sFieldAddr T_erratalaw04_Act t12 3) fun t13 =>
     readK Try.prog (sLoad T_string t13) w1 fun t14 =>
     readK Try.prog (sBlt .len #[T_string] T_int #[false] #[t14]) w1 fun t15 =>
     pureK Try.prog (sBin .gtr T_int (.tmp 15) (.const (.int .i64 300)) t15 (.int .i64 300)) fun t16 =>
     ifB t16
     (K (.bool false) w1)
     (pureK Try.prog (sIdxAddr T_s_erratalaw04_Act l0 x1.1) fun t20 =>
      pureK Try.prog (sFieldAddr T_erratalaw04_Act t20 4) fun t21 =>
      readK Try.prog (sLoad T_s_int t21) w1 fun t22 =>
      readK Try.prog (sBlt .len #[T_s_int] T_int #[false] #[t22]) w1 fun t23 =>
      pureK Try.prog (sBin .gtr T_int (.tmp 23) (.const (.int .i64 60)) t23 (.int .i64 60)) fun t24 =>
      ifB t24
      (K (.bool false) w1)
      (pureK Try.prog (sIdxAddr T_s_erratalaw04_Act l0 x1.1) fun t29 =>
       pureK Try.prog (sFieldAddr T_erratalaw04_Act t29 2) fun t30 =>
       readK Try.prog (sLoad T_int t30) w1 fun t31 =>
       pureK Try.prog (sBin .gtr T_int (.tmp 31) (.const (.int .i64 3000)) t31 (.int .i64 3000)) fun t32 =>
       ifB t32
       (pureK Try.prog (sIdxAddr T_s_erratalaw04_Act l0 x1.1) fun t36 =>
        pureK Try.prog (sFieldAddr T_erratalaw04_Act t36 2) fun t37 =>
        readK Try.prog (sLoad T_int t37) w1 fun t38 =>
        pureK Try.prog (sBin .lss T_int (.tmp 38) (.const (.int .i64 16776916)) t38 (.int .i64 16776916)) fun t39 =>
        ifB t39
        (K (.bool false) w1)
        (J1 (()) w1))
       (J1 (()) w1)))))
   (readK Try.prog (sBlt .len #[T_s_erratalaw04_Act] T_int #[false] #[l0]) w1 fun t43 =>
    pureK Try.prog (sBin .leq T_int (.tmp 43) (.const (.int .i64 40)) t43 (.int .i64 40)) fun t44 =>
    K t44 w1))
  ((.int .i64 0), ()) w
theorem erratalaw04_few.pt_eq : erratalaw04_few.pt = fun l0 w K => FN Try.prog Try.f9 (bodyOf Try.f9) [2] (.node none .leaf (.node none (.node none .leaf (.node none (.node none (.node none .leaf (.node (some []) .leaf .leaf)) .leaf) .leaf)) .leaf)) [l0] w K := by kernel_rfl
theorem erratalaw04_few.call {l0 : Value} {w : World} {K : Value → World → Prop} (h : erratalaw04_few.pt l0 w K) : Calls Try.prog F_erratalaw04_few #[l0] w (retK K) :=
  calls_FN (args := [l0]) Try.func9 (by kernel_rfl) (by rw [erratalaw04_few.pt_eq] at h; exact h)
theorem erratalaw04_few.up {l0 : Value} {w : World} {K : Value → World → Prop} (h : Calls Try.prog F_erratalaw04_few #[l0] w (retK K)) : upK Try.prog (sCall F_erratalaw04_few #[l0]) w K :=
  up_call (fn := Try.f9) Try.func9 (by kernel_rfl) (by kernel_rfl) h

/-- errata/disk.New -/
def disk_New.pt (w : World) (K : Value → World → Prop) : Prop :=
  upK Try.prog (sMkMap T_map_int_disk_file none) w fun t1 w1 =>
  upK Try.prog (sMkMap T_map_disk_sector_bool none) w1 fun t2 w2 =>
  pureK Try.prog (sBuild T_disk_Disk #[(0, t1), (2, t2)]) fun t3 =>
  upK Try.prog (sBox T_disk_Disk t3) w2 fun t4 w3 =>
  K t4 w3
theorem disk_New.pt_eq : disk_New.pt = fun  w K => FN Try.prog Try.f10 (bodyOf Try.f10) [0] .leaf [] w K := by kernel_rfl
theorem disk_New.call {w : World} {K : Value → World → Prop} (h : disk_New.pt  w K) : Calls Try.prog F_disk_New #[] w (retK K) :=
  calls_FN (args := []) Try.func10 (by kernel_rfl) (by rw [disk_New.pt_eq] at h; exact h)
theorem disk_New.up {w : World} {K : Value → World → Prop} (h : Calls Try.prog F_disk_New #[] w (retK K)) : upK Try.prog (sCall F_disk_New #[]) w K :=
  up_call (fn := Try.f10) Try.func10 (by kernel_rfl) (by kernel_rfl) h

/-- errata/errataref04.New -/
def errataref04_New.pt (w : World) (K : Value → World → Prop) : Prop :=
  pureK Try.prog (sBuild T_errataref04_Disk #[]) fun t1 =>
  upK Try.prog (sBox T_errataref04_Disk t1) w fun t2 w1 =>
  K t2 w1
theorem errataref04_New.pt_eq : errataref04_New.pt = fun  w K => FN Try.prog Try.f11 (bodyOf Try.f11) [0] .leaf [] w K := by kernel_rfl
theorem errataref04_New.call {w : World} {K : Value → World → Prop} (h : errataref04_New.pt  w K) : Calls Try.prog F_errataref04_New #[] w (retK K) :=
  calls_FN (args := []) Try.func11 (by kernel_rfl) (by rw [errataref04_New.pt_eq] at h; exact h)
theorem errataref04_New.up {w : World} {K : Value → World → Prop} (h : Calls Try.prog F_errataref04_New #[] w (retK K)) : upK Try.prog (sCall F_errataref04_New #[]) w K :=
  up_call (fn := Try.f11) Try.func11 (by kernel_rfl) (by kernel_rfl) h

/-- errata/erratalaw04.do -/
def erratalaw04_do.pt (d0 a1 : Value) (w : World) (K : Value → World → Prop) : Prop :=
  upK Try.prog (sBox T_erratalaw04_Act a1) w fun a3 w1 =>
  LETJ (X := Unit) (fun y1 w2 =>
   K (.int .i64 0) w2)
  (fun J1 =>
   pureK Try.prog (sFieldAddr T_erratalaw04_Act a3 0) fun t5 =>
   readK Try.prog (sLoad T_int t5) w1 fun t6 =>
   pureK Try.prog (sBin .and T_int (.tmp 6) (.const (.int .i64 7)) t6 (.int .i64 7)) fun t7 =>
   pureK Try.prog (sBin .eql T_int (.tmp 7) (.const (.int .i64 2)) t7 (.int .i64 2)) fun t17 =>
   ifB t17
   (pureK Try.prog (sFieldAddr T_erratalaw04_Act a3 1) fun t19 =>
    readK Try.prog (sLoad T_int t19) w1 fun t20 =>
    upK Try.prog (sCall F_disk_Disk_Sync #[d0, t20]) w1 fun t21 w3 =>
    K t21 w3)
   (pureK Try.prog (sBin .eql T_int (.tmp 7) (.const (.int .i64 3)) t7 (.int .i64 3)) fun t23 =>
    ifB t23
    (pureK Try.prog (sFieldAddr T_erratalaw04_Act a3 1) fun t25 =>
     readK Try.prog (sLoad T_int t25) w1 fun t26 =>
     pureK Try.prog (sFieldAddr T_erratalaw04_Act a3 2) fun t27 =>
     readK Try.prog (sLoad T_int t27) w1 fun t28 =>
     upK Try.prog (sCall F_disk_Disk_Truncate #[d0, t26, t28]) w1 fun t29 w4 =>
     K t29 w4)
    (pureK Try.prog (sBin .eql T_int (.tmp 7) (.const (.int .i64 4)) t7 (.int .i64 4)) fun t31 =>
     ifB t31
     (pureK Try.prog (sFieldAddr T_erratalaw04_Act a3 2) fun t33 =>
      readK Try.prog (sLoad T_int t33) w1 fun t34 =>
      pureK Try.prog (sBin .and T_int (.tmp 34) (.const (.int .i64 3)) t34 (.int .i64 3)) fun t35 =>
      upK Try.prog (sCall F_disk_Disk_Lose #[d0, t35]) w1 fun t36 w5 =>
      J1 (()) w5)
     (pureK Try.prog (sBin .eql T_int (.tmp 7) (.const (.int .i64 5)) t7 (.int .i64 5)) fun t38 =>
      ifB t38
      (pureK Try.prog (sFieldAddr T_erratalaw04_Act a3 2) fun t40 =>
       readK Try.prog (sLoad T_int t40) w1 fun t41 =>
       pureK Try.prog (sFieldAddr T_erratalaw04_Act a3 4) fun t42 =>
       readK Try.prog (sLoad T_s_int t42) w1 fun t43 =>
       upK Try.prog (sCall F_disk_Disk_Arm #[d0, t41, t43]) w1 fun t44 w6 =>
       J1 (()) w6)
      (pureK Try.prog (sBin .eql T_int (.tmp 7) (.const (.int .i64 6)) t7 (.int .i64 6)) fun t46 =>
       ifB t46
       (pureK Try.prog (sFieldAddr T_erratalaw04_Act a3 4) fun t48 =>
        readK Try.prog (sLoad T_s_int t48) w1 fun t49 =>
        upK Try.prog (sCall F_disk_Disk_Crash #[d0, t49]) w1 fun t50 w7 =>
        J1 (()) w7)
       (pureK Try.prog (sBin .eql T_int (.tmp 7) (.const (.int .i64 7)) t7 (.int .i64 7)) fun t52 =>
        ifB t52
        (upK Try.prog (sCall F_disk_Disk_Start #[d0]) w1 fun t54 w8 =>
         J1 (()) w8)
        (pureK Try.prog (sFieldAddr T_erratalaw04_Act a3 1) fun t9 =>
         readK Try.prog (sLoad T_int t9) w1 fun t10 =>
         pureK Try.prog (sFieldAddr T_erratalaw04_Act a3 2) fun t11 =>
         readK Try.prog (sLoad T_int t11) w1 fun t12 =>
         pureK Try.prog (sFieldAddr T_erratalaw04_Act a3 3) fun t13 =>
         readK Try.prog (sLoad T_string t13) w1 fun t14 =>
         upK Try.prog (sCall F_disk_Disk_Write #[d0, t10, t12, t14]) w1 fun t15 w9 =>
         K t15 w9)))))))
theorem erratalaw04_do.pt_eq : erratalaw04_do.pt = fun d0 a1 w K => FN Try.prog Try.f12 (bodyOf Try.f12) [4] (.node none .leaf (.node (some []) .leaf .leaf)) [d0, a1] w K := by kernel_rfl
theorem erratalaw04_do.call {d0 a1 : Value} {w : World} {K : Value → World → Prop} (h : erratalaw04_do.pt d0 a1 w K) : Calls Try.prog F_erratalaw04_do #[d0, a1] w (retK K) :=
  calls_FN (args := [d0, a1]) Try.func12 (by kernel_rfl) (by rw [erratalaw04_do.pt_eq] at h; exact h)
theorem erratalaw04_do.up {d0 a1 : Value} {w : World} {K : Value → World → Prop} (h : Calls Try.prog F_erratalaw04_do #[d0, a1] w (retK K)) : upK Try.prog (sCall F_erratalaw04_do #[d0, a1]) w K :=
  up_call (fn := Try.f12) Try.func12 (by kernel_rfl) (by kernel_rfl) h

/-- errata/erratalaw04.tell -/
def erratalaw04_tell.pt (d0 a1 : Value) (w : World) (K : Value → World → Prop) : Prop :=
  upK Try.prog (sBox T_erratalaw04_Act a1) w fun a3 w1 =>
  LETJ (X := Unit) (fun y1 w2 =>
   K (.int .i64 0) w2)
  (fun J1 =>
   pureK Try.prog (sFieldAddr T_erratalaw04_Act a3 0) fun t5 =>
   readK Try.prog (sLoad T_int t5) w1 fun t6 =>
   pureK Try.prog (sBin .and T_int (.tmp 6) (.const (.int .i64 7)) t6 (.int .i64 7)) fun t7 =>
   pureK Try.prog (sBin .eql T_int (.tmp 7) (.const (.int .i64 2)) t7 (.int .i64 2)) fun t17 =>
   ifB t17
   (pureK Try.prog (sFieldAddr T_erratalaw04_Act a3 1) fun t19 =>
    readK Try.prog (sLoad T_int t19) w1 fun t20 =>
    upK Try.prog (sCall F_errataref04_Disk_Sync #[d0, t20]) w1 fun t21 w3 =>
    K t21 w3)
   (pureK Try.prog (sBin .eql T_int (.tmp 7) (.const (.int .i64 3)) t7 (.int .i64 3)) fun t23 =>
    ifB t23
    (pureK Try.prog (sFieldAddr T_erratalaw04_Act a3 1) fun t25 =>
     readK Try.prog (sLoad T_int t25) w1 fun t26 =>
     pureK Try.prog (sFieldAddr T_erratalaw04_Act a3 2) fun t27 =>
     readK Try.prog (sLoad T_int t27) w1 fun t28 =>
     upK Try.prog (sCall F_errataref04_Disk_Truncate #[d0, t26, t28]) w1 fun t29 w4 =>
     K t29 w4)
    (pureK Try.prog (sBin .eql T_int (.tmp 7) (.const (.int .i64 4)) t7 (.int .i64 4)) fun t31 =>
     ifB t31
     (pureK Try.prog (sFieldAddr T_erratalaw04_Act a3 2) fun t33 =>
      readK Try.prog (sLoad T_int t33) w1 fun t34 =>
      pureK Try.prog (sBin .and T_int (.tmp 34) (.const (.int .i64 3)) t34 (.int .i64 3)) fun t35 =>
      upK Try.prog (sCall F_errataref04_Disk_Lose #[d0, t35]) w1 fun t36 w5 =>
      J1 (()) w5)
     (pureK Try.prog (sBin .eql T_int (.tmp 7) (.const (.int .i64 5)) t7 (.int .i64 5)) fun t38 =>
      ifB t38
      (pureK Try.prog (sFieldAddr T_erratalaw04_Act a3 2) fun t40 =>
       readK Try.prog (sLoad T_int t40) w1 fun t41 =>
       pureK Try.prog (sFieldAddr T_erratalaw04_Act a3 4) fun t42 =>
       readK Try.prog (sLoad T_s_int t42) w1 fun t43 =>
       upK Try.prog (sCall F_errataref04_Disk_Arm #[d0, t41, t43]) w1 fun t44 w6 =>
       J1 (()) w6)
      (pureK Try.prog (sBin .eql T_int (.tmp 7) (.const (.int .i64 6)) t7 (.int .i64 6)) fun t46 =>
       ifB t46
       (pureK Try.prog (sFieldAddr T_erratalaw04_Act a3 4) fun t48 =>
        readK Try.prog (sLoad T_s_int t48) w1 fun t49 =>
        upK Try.prog (sCall F_errataref04_Disk_Crash #[d0, t49]) w1 fun t50 w7 =>
        J1 (()) w7)
       (pureK Try.prog (sBin .eql T_int (.tmp 7) (.const (.int .i64 7)) t7 (.int .i64 7)) fun t52 =>
        ifB t52
        (upK Try.prog (sCall F_errataref04_Disk_Start #[d0]) w1 fun t54 w8 =>
         J1 (()) w8)
        (pureK Try.prog (sFieldAddr T_erratalaw04_Act a3 1) fun t9 =>
         readK Try.prog (sLoad T_int t9) w1 fun t10 =>
         pureK Try.prog (sFieldAddr T_erratalaw04_Act a3 2) fun t11 =>
         readK Try.prog (sLoad T_int t11) w1 fun t12 =>
         pureK Try.prog (sFieldAddr T_erratalaw04_Act a3 3) fun t13 =>
         readK Try.prog (sLoad T_string t13) w1 fun t14 =>
         upK Try.prog (sCall F_errataref04_Disk_Write #[d0, t10, t12, t14]) w1 fun t15 w9 =>
         K t15 w9)))))))
theorem erratalaw04_tell.pt_eq : erratalaw04_tell.pt = fun d0 a1 w K => FN Try.prog Try.f13 (bodyOf Try.f13) [4] (.node none .leaf (.node (some []) .leaf .leaf)) [d0, a1] w K := by kernel_rfl
theorem erratalaw04_tell.call {d0 a1 : Value} {w : World} {K : Value → World → Prop} (h : erratalaw04_tell.pt d0 a1 w K) : Calls Try.prog F_erratalaw04_tell #[d0, a1] w (retK K) :=
  calls_FN (args := [d0, a1]) Try.func13 (by kernel_rfl) (by rw [erratalaw04_tell.pt_eq] at h; exact h)
theorem erratalaw04_tell.up {d0 a1 : Value} {w : World} {K : Value → World → Prop} (h : Calls Try.prog F_erratalaw04_tell #[d0, a1] w (retK K)) : upK Try.prog (sCall F_erratalaw04_tell #[d0, a1]) w K :=
  up_call (fn := Try.f13) Try.func13 (by kernel_rfl) (by kernel_rfl) h

/-- (*errata/disk.Disk).Down -/
def disk_Disk_Down.pt (d0 : Value) (w : World) (K : Value → World → Prop) : Prop :=
  pureK Try.prog (sNil d0) fun t4 =>
  pureK Try.prog (sFieldAddr T_disk_Disk t4 4) fun t5 =>
  readK Try.prog (sLoad T_bool t5) w fun t6 =>
  K t6 w
theorem disk_Disk_Down.pt_eq : disk_Disk_Down.pt = fun d0 w K => FN Try.prog Try.f14 (bodyOf Try.f14) [2] .leaf [d0] w K := by kernel_rfl
theorem disk_Disk_Down.call {d0 : Value} {w : World} {K : Value → World → Prop} (h : disk_Disk_Down.pt d0 w K) : Calls Try.prog F_disk_Disk_Down #[d0] w (retK K) :=
  calls_FN (args := [d0]) Try.func14 (by kernel_rfl) (by rw [disk_Disk_Down.pt_eq] at h; exact h)
theorem disk_Disk_Down.up {d0 : Value} {w : World} {K : Value → World → Prop} (h : Calls Try.prog F_disk_Disk_Down #[d0] w (retK K)) : upK Try.prog (sCall F_disk_Disk_Down #[d0]) w K :=
  up_call (fn := Try.f14) Try.func14 (by kernel_rfl) (by kernel_rfl) h

/-- (*errata/errataref04.Disk).Down -/
def errataref04_Disk_Down.pt (d0 : Value) (w : World) (K : Value → World → Prop) : Prop :=
  pureK Try.prog (sNil d0) fun t4 =>
  pureK Try.prog (sFieldAddr T_errataref04_Disk t4 3) fun t5 =>
  readK Try.prog (sLoad T_bool t5) w fun t6 =>
  K t6 w
theorem errataref04_Disk_Down.pt_eq : errataref04_Disk_Down.pt = fun d0 w K => FN Try.prog Try.f15 (bodyOf Try.f15) [2] .leaf [d0] w K := by kernel_rfl
theorem errataref04_Disk_Down.call {d0 : Value} {w : World} {K : Value → World → Prop} (h : errataref04_Disk_Down.pt d0 w K) : Calls Try.prog F_errataref04_Disk_Down #[d0] w (retK K) :=
  calls_FN (args := [d0]) Try.func15 (by kernel_rfl) (by rw [errataref04_Disk_Down.pt_eq] at h; exact h)
theorem errataref04_Disk_Down.up {d0 : Value} {w : World} {K : Value → World → Prop} (h : Calls Try.prog F_errataref04_Disk_Down #[d0] w (retK K)) : upK Try.prog (sCall F_errataref04_Disk_Down #[d0]) w K :=
  up_call (fn := Try.f15) Try.func15 (by kernel_rfl) (by kernel_rfl) h

/-- (*errata/disk.Disk).Size -/
def disk_Disk_Size.pt (d0 f1 : Value) (w : World) (K : Value → World → Prop) : Prop :=
  pureK Try.prog (sNil d0) fun t6 =>
  pureK Try.prog (sFieldAddr T_disk_Disk t6 0) fun t7 =>
  readK Try.prog (sLoad T_map_int_disk_file t7) w fun t8 =>
  readK Try.prog (sLookup T_map_int_disk_file t8 f1 false) w fun t10 =>
  pureK Try.prog (sField T_disk_file t10 0) fun t11 =>
  readK Try.prog (sBlt .len #[T_string] T_int #[false] #[t11]) w fun t12 =>
  K t12 w
theorem disk_Disk_Size.pt_eq : disk_Disk_Size.pt = fun d0 f1 w K => FN Try.prog Try.f16 (bodyOf Try.f16) [4] .leaf [d0, f1] w K := by kernel_rfl
theorem disk_Disk_Size.call {d0 f1 : Value} {w : World} {K : Value → World → Prop} (h : disk_Disk_Size.pt d0 f1 w K) : Calls Try.prog F_disk_Disk_Size #[d0, f1] w (retK K) :=
  calls_FN (args := [d0, f1]) Try.func16 (by kernel_rfl) (by rw [disk_Disk_Size.pt_eq] at h; exact h)
theorem disk_Disk_Size.up {d0 f1 : Value} {w : World} {K : Value → World → Prop} (h : Calls Try.prog F_disk_Disk_Size #[d0, f1] w (retK K)) : upK Try.prog (sCall F_disk_Disk_Size #[d0, f1]) w K :=
  up_call (fn := Try.f16) Try.func16 (by kernel_rfl) (by kernel_rfl) h

/-- (*errata/errataref04.Disk).Size -/
def errataref04_Disk_Size.pt (d0 f1 : Value) (w : World) (K : Value → World → Prop) : Prop :=
  upK Try.prog (sCall F_errataref04_Disk_get #[d0, f1]) w fun t7 w1 =>
  pureK Try.prog (sField T_errataref04_File t7 1) fun t8 =>
  readK Try.prog (sBlt .len #[T_string] T_int #[false] #[t8]) w1 fun t9 =>
  K t9 w1
theorem errataref04_Disk_Size.pt_eq : errataref04_Disk_Size.pt = fun d0 f1 w K => FN Try.prog Try.f17 (bodyOf Try.f17) [4] .leaf [d0, f1] w K := by kernel_rfl
theorem errataref04_Disk_Size.call {d0 f1 : Value} {w : World} {K : Value → World → Prop} (h : errataref04_Disk_Size.pt d0 f1 w K) : Calls Try.prog F_errataref04_Disk_Size #[d0, f1] w (retK K) :=
  calls_FN (args := [d0, f1]) Try.func17 (by kernel_rfl) (by rw [errataref04_Disk_Size.pt_eq] at h; exact h)
theorem errataref04_Disk_Size.up {d0 f1 : Value} {w : World} {K : Value → World → Prop} (h : Calls Try.prog F_errataref04_Disk_Size #[d0, f1] w (retK K)) : upK Try.prog (sCall F_errataref04_Disk_Size #[d0, f1]) w K :=
  up_call (fn := Try.f17) Try.func17 (by kernel_rfl) (by kernel_rfl) h

/-- (*errata/disk.Disk).Copy -/
def disk_Disk_Copy.pt (d0 : Value) (w : World) (K : Value → World → Prop) : Prop :=
  pureK Try.prog (sNil d0) fun t5 =>
  readK Try.prog (sLoad T_disk_Disk t5) w fun t6 =>
  upK Try.prog (sAlloc T_disk_Disk) w fun out3 w1 =>
  upK Try.prog (sStore T_disk_Disk out3 t6) w1 fun tu w2 =>
  pureK Try.prog (sNil d0) fun t8 =>
  pureK Try.prog (sFieldAddr T_disk_Disk t8 0) fun t9 =>
  readK Try.prog (sLoad T_map_int_disk_file t9) (tick w2) fun t10 =>
  pureK Try.prog (sNil d0) fun t13 =>
  pureK Try.prog (sFieldAddr T_disk_Disk t13 1) fun t14 =>
  readK Try.prog (sLoad T_s_disk_sector t14) (tick w2) fun t15 =>
  pureK Try.prog (sNil d0) fun t18 =>
  pureK Try.prog (sFieldAddr T_disk_Disk t18 2) fun t19 =>
  readK Try.prog (sLoad T_map_disk_sector_bool t19) (tick w2) fun t20 =>
  upK Try.prog (sCall F_maps_Clone_map_int_disk_file_int_disk_file #[t10]) (tick w2) fun t11 w3 =>
  Is Try.prog (sLoad T_map_disk_sector_bool t19) t20 w3 ∧ Is Try.prog (sLoad T_s_disk_sector t14) t15 w3 ∧ upK Try.prog (sCall F_slices_Clone_s_disk_sector_disk_sector #[t15]) w3 fun t16 w4 =>
  Is Try.prog (sLoad T_map_disk_sector_bool t19) t20 w4 ∧ upK Try.prog (sCall F_maps_Clone_map_disk_sector_bool_disk_sector_bool #[t20]) w4 fun t21 w5 =>
  pureK Try.prog (sFieldAddr T_disk_Disk out3 0) fun t22 =>
  upK Try.prog (sStore T_map_int_disk_file t22 t11) w5 fun tu_1 w6 =>
  pureK Try.prog (sFieldAddr T_disk_Disk out3 1) fun t23 =>
  upK Try.prog (sStore T_s_disk_sector t23 t16) w6 fun tu_2 w7 =>
  pureK Try.prog (sFieldAddr T_disk_Disk out3 2) fun t24 =>
  upK Try.prog (sStore T_map_disk_sector_bool t24 t21) w7 fun tu_3 w8 =>
  K out3 w8
theorem disk_Disk_Copy.pt_eq : disk_Disk_Copy.pt = fun d0 w K => FN Try.prog Try.f18 (bodyOf Try.f18) [2] .leaf [d0] w K := by kernel_rfl
theorem disk_Disk_Copy.call {d0 : Value} {w : World} {K : Value → World → Prop} (h : disk_Disk_Copy.pt d0 w K) : Calls Try.prog F_disk_Disk_Copy #[d0] w (retK K) :=
  calls_FN (args := [d0]) Try.func18 (by kernel_rfl) (by rw [disk_Disk_Copy.pt_eq] at h; exact h)
theorem disk_Disk_Copy.up {d0 : Value} {w : World} {K : Value → World → Prop} (h : Calls Try.prog F_disk_Disk_Copy #[d0] w (retK K)) : upK Try.prog (sCall F_disk_Disk_Copy #[d0]) w K :=
  up_call (fn := Try.f18) Try.func18 (by kernel_rfl) (by kernel_rfl) h

/-- (*errata/disk.Disk).Sync -/
def disk_Disk_Sync.pt (d0 f1 : Value) (w : World) (K : Value → World → Prop) : Prop :=
  LETJ (X := Unit) (fun y1 w1 =>
   upK Try.prog (sCall F_disk_Disk_may #[d0, f1]) w1 fun t16 w2 =>
   pureK Try.prog (sBin .neq T_api_Errno (.tmp 17) (.const (.int .i64 0)) t16 (.int .i64 0)) fun t18 =>
   ifB t18
   (K t16 w2)
   (pureK Try.prog (sNil d0) fun t21 =>
    pureK Try.prog (sFieldAddr T_disk_Disk t21 3) fun t22 =>
    readK Try.prog (sLoad T_int t22) w2 fun t23 =>
    pureK Try.prog (sBin .gtr T_int (.tmp 23) (.const (.int .i64 0)) t23 (.int .i64 0)) fun t24 =>
    ifB t24
    (pureK Try.prog (sNil d0) fun t26 =>
     pureK Try.prog (sFieldAddr T_disk_Disk t26 3) fun t27 =>
     readK Try.prog (sLoad T_int t27) w2 fun t28 =>
     pureK Try.prog (sBin .sub T_int (.tmp 28) (.const (.int .i64 1)) t28 (.int .i64 1)) fun t29 =>
     pureK Try.prog (sNil d0) fun t30 =>
     pureK Try.prog (sFieldAddr T_disk_Disk t30 3) fun t31 =>
     upK Try.prog (sStore T_int t31 t29) w2 fun tu w3 =>
     K (.int .i64 10) w3)
    (pureK Try.prog (sNil d0) fun t35 =>
     pureK Try.prog (sFieldAddr T_disk_Disk t35 0) fun t36 =>
     readK Try.prog (sLoad T_map_int_disk_file t36) w2 fun t37 =>
     readK Try.prog (sLookup T_map_int_disk_file t37 f1 false) w2 fun t39 =>
     pureK Try.prog (sField T_disk_file t39 0) fun t40 =>
     upK Try.prog (sCall F_disk_Disk_settle #[d0, f1, t40]) w2 fun t41 w4 =>
     K (.int .i64 0) w4)))
  (fun J1 =>
   upK Try.prog (sCall F_disk_Disk_ends #[d0]) w fun t7 w5 =>
   ifB t7
   (pureK Try.prog (sNil d0) fun t10 =>
    pureK Try.prog (sFieldAddr T_disk_Disk t10 6) fun t11 =>
    readK Try.prog (sLoad T_s_int t11) w5 fun t12 =>
    upK Try.prog (sCall F_disk_Disk_Crash #[d0, t12]) w5 fun t13 w6 =>
    J1 (()) w6)
   (J1 (()) w5))
theorem disk_Disk_Sync.pt_eq : disk_Disk_Sync.pt = fun d0 f1 w K => FN Try.prog Try.f19 (bodyOf Try.f19) [4] (.node none .leaf (.node (some []) .leaf .leaf)) [d0, f1] w K := by kernel_rfl
theorem disk_Disk_Sync.call {d0 f1 : Value} {w : World} {K : Value → World → Prop} (h : disk_Disk_Sync.pt d0 f1 w K) : Calls Try.prog F_disk_Disk_Sync #[d0, f1] w (retK K) :=
  calls_FN (args := [d0, f1]) Try.func19 (by kernel_rfl) (by rw [disk_Disk_Sync.pt_eq] at h; exact h)
theorem disk_Disk_Sync.up {d0 f1 : Value} {w : World} {K : Value → World → Prop} (h : Calls Try.prog F_disk_Disk_Sync #[d0, f1] w (retK K)) : upK Try.prog (sCall F_disk_Disk_Sync #[d0, f1]) w K :=
  up_call (fn := Try.f19) Try.func19 (by kernel_rfl) (by kernel_rfl) h

/-- (*errata/disk.Disk).Read -/
def disk_Disk_Read.pt (d0 f1 at2 size3 : Value) (w : World) (K : Value → World → Prop) : Prop :=
  upK Try.prog (sCall F_disk_Disk_may #[d0, f1]) w fun t14 w1 =>
  pureK Try.prog (sBin .neq T_api_Errno (.tmp 15) (.const (.int .i64 0)) t14 (.int .i64 0)) fun t16 =>
  ifB t16
  (K (.tuple #[(.string ⟨#[]⟩), t14]) w1)
  (pureK Try.prog (sBin .lss T_int (.tmp 18) (.const (.int .i64 0)) at2 (.int .i64 0)) fun t19 =>
   ifB t19
   (K (.tuple #[(.string ⟨#[]⟩), (.int .i64 1)]) w1)
   (pureK Try.prog (sBin .lss T_int (.tmp 21) (.const (.int .i64 0)) size3 (.int .i64 0)) fun t22 =>
    ifB t22
    (K (.tuple #[(.string ⟨#[]⟩), (.int .i64 1)]) w1)
    (pureK Try.prog (sNil d0) fun t25 =>
     pureK Try.prog (sFieldAddr T_disk_Disk t25 0) fun t26 =>
     readK Try.prog (sLoad T_map_int_disk_file t26) w1 fun t27 =>
     readK Try.prog (sLookup T_map_int_disk_file t27 f1 false) w1 fun t29 =>
     pureK Try.prog (sField T_disk_file t29 0) fun t30 =>
     readK Try.prog (sBlt .len #[T_string] T_int #[false] #[t30]) w1 fun t34 =>
     pureK Try.prog (sBlt .min #[T_int, T_int] T_int #[false, false] #[at2, t34]) fun t35 =>
     pureK Try.prog (sSlice T_string t30 (some t35) none none) fun t36 =>
     readK Try.prog (sBlt .len #[T_string] T_int #[false] #[t36]) w1 fun t40 =>
     pureK Try.prog (sBlt .min #[T_int, T_int] T_int #[false, false] #[size3, t40]) fun t41 =>
     pureK Try.prog (sSlice T_string t36 none (some t41) none) fun t42 =>
     K (.tuple #[t42, (.int .i64 0)]) w1)))
theorem disk_Disk_Read.pt_eq : disk_Disk_Read.pt = fun d0 f1 at2 size3 w K => FN Try.prog Try.f20 (bodyOf Try.f20) [8, 9] .leaf [d0, f1, at2, size3] w K := by kernel_rfl
theorem disk_Disk_Read.call {d0 f1 at2 size3 : Value} {w : World} {K : Value → World → Prop} (h : disk_Disk_Read.pt d0 f1 at2 size3 w K) : Calls Try.prog F_disk_Disk_Read #[d0, f1, at2, size3] w (retK K) :=
  calls_FN (args := [d0, f1, at2, size3]) Try.func20 (by kernel_rfl) (by rw [disk_Disk_Read.pt_eq] at h; exact h)
theorem disk_Disk_Read.up {d0 f1 at2 size3 : Value} {w : World} {K : Value → World → Prop} (h : Calls Try.prog F_disk_Disk_Read #[d0, f1, at2, size3] w (retK K)) : upK Try.prog (sCall F_disk_Disk_Read #[d0, f1, at2, size3]) w K :=
  up_call (fn := Try.f20) Try.func20 (by kernel_rfl) (by kernel_rfl) h

/-- (*errata/errataref04.Disk).Read -/
def errataref04_Disk_Read.pt (d0 f1 at2 size3 : Value) (w : World) (K : Value → World → Prop) : Prop :=
  upK Try.prog (sCall F_errataref04_Disk_may #[d0, f1]) w fun t14 w1 =>
  pureK Try.prog (sBin .neq T_api_Errno (.tmp 15) (.const (.int .i64 0)) t14 (.int .i64 0)) fun t16 =>
  ifB t16
  (K (.tuple #[(.string ⟨#[]⟩), t14]) w1)
  (pureK Try.prog (sBin .lss T_int (.tmp 18) (.const (.int .i64 0)) at2 (.int .i64 0)) fun t19 =>
   ifB t19
   (K (.tuple #[(.string ⟨#[]⟩), (.int .i64 1)]) w1)
   (pureK Try.prog (sBin .lss T_int (.tmp 21) (.const (.int .i64 0)) size3 (.int .i64 0)) fun t22 =>
    ifB t22
    (K (.tuple #[(.string ⟨#[]⟩), (.int .i64 1)]) w1)
    (upK Try.prog (sCall F_errataref04_Disk_get #[d0, f1]) w1 fun t26 w2 =>
     pureK Try.prog (sField T_errataref04_File t26 1) fun t27 =>
     readK Try.prog (sBlt .len #[T_string] T_int #[false] #[t27]) w2 fun t30 =>
     pureK Try.prog (sBin .geq T_int (.tmp 28) (.tmp 30) at2 t30) fun t31 =>
     ifB t31
     (K (.tuple #[(.string ⟨#[]⟩), (.int .i64 0)]) w2)
     (readK Try.prog (sBlt .len #[T_string] T_int #[false] #[t27]) w2 fun t37 =>
      pureK Try.prog (sBin .sub T_int (.tmp 37) (.tmp 38) t37 at2) fun t39 =>
      pureK Try.prog (sBlt .min #[T_int, T_int] T_int #[false, false] #[size3, t39]) fun t40 =>
      pureK Try.prog (sBin .add T_int (.tmp 34) (.tmp 40) at2 t40) fun t41 =>
      pureK Try.prog (sSlice T_string t27 (some at2) (some t41) none) fun t42 =>
      K (.tuple #[t42, (.int .i64 0)]) w2))))
theorem errataref04_Disk_Read.pt_eq : errataref04_Disk_Read.pt = fun d0 f1 at2 size3 w K => FN Try.prog Try.f21 (bodyOf Try.f21) [8, 9] .leaf [d0, f1, at2, size3] w K := by kernel_rfl
theorem errataref04_Disk_Read.call {d0 f1 at2 size3 : Value} {w : World} {K : Value → World → Prop} (h : errataref04_Disk_Read.pt d0 f1 at2 size3 w K) : Calls Try.prog F_errataref04_Disk_Read #[d0, f1, at2, size3] w (retK K) :=
  calls_FN (args := [d0, f1, at2, size3]) Try.func21 (by kernel_rfl) (by rw [errataref04_Disk_Read.pt_eq] at h; exact h)
theorem errataref04_Disk_Read.up {d0 f1 at2 size3 : Value} {w : World} {K : Value → World → Prop} (h : Calls Try.prog F_errataref04_Disk_Read #[d0, f1, at2, size3] w (retK K)) : upK Try.prog (sCall F_errataref04_Disk_Read #[d0, f1, at2, size3]) w K :=
  up_call (fn := Try.f21) Try.func21 (by kernel_rfl) (by kernel_rfl) h

/-- errata/erratalaw04.played -/
def erratalaw04_played.pt (l0 : Value) (w : World) (K : Value → World → Prop) : Prop :=
  upK Try.prog (sCall F_disk_New #[]) w fun t5 w1 =>
  LETJ (X := Unit) (fun y1 w2 =>
   K t5 w2)
  (fun J1 =>
   LOOP (X := Value × Unit) (fun x3 w3 next3 =>
    readK Try.prog (sBlt .len #[T_s_erratalaw04_Act] T_int #[false] #[l0]) w3 fun t8 =>
    pureK Try.prog (sBin .lss T_int (.tmp 6) (.tmp 8) x3.1 t8) fun t9 =>
    ifB t9
    (pureK Try.prog (sBin .neq T_p_disk_Disk (.tmp 11) (.const (.pointer none)) t5 (.pointer none)) fun t12 =>
     ifB t12
     (pureK Try.prog (sIdxAddr T_s_erratalaw04_Act l0 x3.1) fun t19 =>
      readK Try.prog (sLoad T_erratalaw04_Act t19) w3 fun t20 =>
      upK Try.prog (sCall F_erratalaw04_do #[t5, t20]) w3 fun t21 w4 =>
      pureK Try.prog (sBin .add T_int (.tmp 14) (.const (.int .i64 1)) x3.1 (.int .i64 1)) fun t15 =>
      next3 (t15, ()) w4)
     (J1 (()) w3))
    (J1 (()) w3))
   ((.int .i64 0), ()) w1)
theorem erratalaw04_played.pt_eq : erratalaw04_played.pt = fun l0 w K => FN Try.prog Try.f22 (bodyOf Try.f22) [2] (.node none .leaf (.node none .leaf (.node (some []) .leaf .leaf))) [l0] w K := by kernel_rfl
theorem erratalaw04_played.call {l0 : Value} {w : World} {K : Value → World → Prop} (h : erratalaw04_played.pt l0 w K) : Calls Try.prog F_erratalaw04_played #[l0] w (retK K) :=
  calls_FN (args := [l0]) Try.func22 (by kernel_rfl) (by rw [erratalaw04_played.pt_eq] at h; exact h)
theorem erratalaw04_played.up {l0 : Value} {w : World} {K : Value → World → Prop} (h : Calls Try.prog F_erratalaw04_played #[l0] w (retK K)) : upK Try.prog (sCall F_erratalaw04_played #[l0]) w K :=
  up_call (fn := Try.f22) Try.func22 (by kernel_rfl) (by kernel_rfl) h

/-- errata/erratalaw04.after -/
def erratalaw04_after.pt (d0 f1 keep2 : Value) (w : World) (K : Value → World → Prop) : Prop :=
  upK Try.prog (sCall F_disk_Disk_Copy #[d0]) w fun t12 w1 =>
  pureK Try.prog (sBin .eql T_p_disk_Disk (.tmp 13) (.const (.pointer none)) t12 (.pointer none)) fun t14 =>
  ifB t14
  (K (.tuple #[(.string ⟨#[]⟩), (.bool false)]) w1)
  (upK Try.prog (sCall F_disk_Disk_Crash #[t12, keep2]) w1 fun t17 w2 =>
   upK Try.prog (sCall F_disk_Disk_Start #[t12]) w2 fun t19 w3 =>
   upK Try.prog (sCall F_disk_Disk_Read #[t12, f1, (.int .i64 0), (.int .i64 16777216)]) w3 fun t23 w4 =>
   pureK Try.prog (sExtract t23 0) fun t24 =>
   pureK Try.prog (sExtract t23 1) fun t25 =>
   pureK Try.prog (sBin .eql T_api_Errno (.tmp 27) (.const (.int .i64 0)) t25 (.int .i64 0)) fun t28 =>
   K (.tuple #[t24, t28]) w4)
theorem erratalaw04_after.pt_eq : erratalaw04_after.pt = fun d0 f1 keep2 w K => FN Try.prog Try.f23 (bodyOf Try.f23) [6, 7] .leaf [d0, f1, keep2] w K := by kernel_rfl
theorem erratalaw04_after.call {d0 f1 keep2 : Value} {w : World} {K : Value → World → Prop} (h : erratalaw04_after.pt d0 f1 keep2 w K) : Calls Try.prog F_erratalaw04_after #[d0, f1, keep2] w (retK K) :=
  calls_FN (args := [d0, f1, keep2]) Try.func23 (by kernel_rfl) (by rw [erratalaw04_after.pt_eq] at h; exact h)
theorem erratalaw04_after.up {d0 f1 keep2 : Value} {w : World} {K : Value → World → Prop} (h : Calls Try.prog F_erratalaw04_after #[d0, f1, keep2] w (retK K)) : upK Try.prog (sCall F_erratalaw04_after #[d0, f1, keep2]) w K :=
  up_call (fn := Try.f23) Try.func23 (by kernel_rfl) (by kernel_rfl) h

/-- errata/erratalaw04.byteAt -/
def erratalaw04_byteAt.pt (s0 i1 : Value) (w : World) (K : Value → World → Prop) : Prop :=
  pureK Try.prog (sBin .lss T_int (.tmp 5) (.const (.int .i64 0)) i1 (.int .i64 0)) fun t6 =>
  ifB t6
  (K (.int .u8 0) w)
  (readK Try.prog (sBlt .len #[T_string] T_int #[false] #[s0]) w fun t10 =>
   pureK Try.prog (sBin .geq T_int (.tmp 8) (.tmp 10) i1 t10) fun t11 =>
   ifB t11
   (K (.int .u8 0) w)
   (pureK Try.prog (sIdx T_string s0 i1) fun t15 =>
    K t15 w))
theorem erratalaw04_byteAt.pt_eq : erratalaw04_byteAt.pt = fun s0 i1 w K => FN Try.prog Try.f24 (bodyOf Try.f24) [4] .leaf [s0, i1] w K := by kernel_rfl
theorem erratalaw04_byteAt.call {s0 i1 : Value} {w : World} {K : Value → World → Prop} (h : erratalaw04_byteAt.pt s0 i1 w K) : Calls Try.prog F_erratalaw04_byteAt #[s0, i1] w (retK K) :=
  calls_FN (args := [s0, i1]) Try.func24 (by kernel_rfl) (by rw [erratalaw04_byteAt.pt_eq] at h; exact h)
theorem erratalaw04_byteAt.up {s0 i1 : Value} {w : World} {K : Value → World → Prop} (h : Calls Try.prog F_erratalaw04_byteAt #[s0, i1] w (retK K)) : upK Try.prog (sCall F_erratalaw04_byteAt #[s0, i1]) w K :=
  up_call (fn := Try.f24) Try.func24 (by kernel_rfl) (by kernel_rfl) h

/-- (*errata/disk.Disk).Crash -/
def disk_Disk_Crash.pt (d0 keep1 : Value) (w : World) (K : Value → World → Prop) : Prop :=
  pureK Try.prog (sNil d0) fun t11 =>
  pureK Try.prog (sFieldAddr T_disk_Disk t11 4) fun t12 =>
  readK Try.prog (sLoad T_bool t12) w fun t13 =>
  ifB t13
  (K (.tuple #[]) w)
  (pureK Try.prog (sNil d0) fun t16 =>
   pureK Try.prog (sFieldAddr T_disk_Disk t16 4) fun t17 =>
   upK Try.prog (sStore T_bool t17 (.bool true)) w fun tu w1 =>
   pureK Try.prog (sNil d0) fun t18 =>
   pureK Try.prog (sFieldAddr T_disk_Disk t18 5) fun t19 =>
   upK Try.prog (sStore T_int t19 (.int .i64 0)) w1 fun tu_1 w2 =>
   pureK Try.prog (sNil d0) fun t21 =>
   pureK Try.prog (sFieldAddr T_disk_Disk t21 1) fun t22 =>
   readK Try.prog (sLoad T_s_disk_sector t22) w2 fun t23 =>
   readK Try.prog (sBlt .len #[T_s_disk_sector] T_int #[false] #[t23]) w2 fun t24 =>
   LOOP (X := Value × Unit) (fun x3 w3 next3 =>
    pureK Try.prog (sBin .lss T_int (.tmp 25) (.tmp 24) x3.1 t24) fun t26 =>
    ifB t26
    (LETJ (X := Unit) (fun y1 w4 =>
      pureK Try.prog (sBin .add T_int (.tmp 25) (.const (.int .i64 1)) x3.1 (.int .i64 1)) fun t83 =>
      next3 (t83, ()) w4)
     (fun J1 =>
      pureK Try.prog (sIdxAddr T_s_disk_sector t23 x3.1) fun t28 =>
      readK Try.prog (sLoad T_disk_sector t28) w3 fun t29 =>
      upK Try.prog (sAlloc T_disk_sector) w3 fun p5 w5 =>
      upK Try.prog (sStore T_disk_sector p5 t29) w5 fun tu_2 w6 =>
      pureK Try.prog (sNil d0) fun t31 =>
      pureK Try.prog (sFieldAddr T_disk_Disk t31 0) fun t32 =>
      readK Try.prog (sLoad T_map_int_disk_file t32) (tick w6) fun t33 =>
      pureK Try.prog (sFieldAddr T_disk_sector p5 0) fun t34 =>
      readK Try.prog (sLoad T_int t34) (tick w6) fun t35 =>
      readK Try.prog (sLookup T_map_int_disk_file t33 t35 false) (tick w6) fun t36 =>
      pureK Try.prog (sFieldAddr T_disk_sector p5 1) fun t37 =>
      readK Try.prog (sLoad T_int t37) (tick w6) fun t38 =>
      pureK Try.prog (sBin .mul T_int (.tmp 38) (.const (.int .i64 64)) t38 (.int .i64 64)) fun t39 =>
      upK Try.prog (sAlloc T_disk_file) (tick w6) fun f6 w7 =>
      Is Try.prog (sLoad T_int t37) t38 w7 ∧ Is Try.prog (sLookup T_map_int_disk_file t33 t35 false) t36 w7 ∧ Is Try.prog (sLoad T_int t34) t35 w7 ∧ Is Try.prog (sLoad T_map_int_disk_file t32) t33 w7 ∧ upK Try.prog (sStore T_disk_file f6 t36) w7 fun tu_3 w8 =>
      Is Try.prog (sLoad T_int t37) t38 w8 ∧ readK Try.prog (sBlt .len #[T_s_int] T_int #[false] #[keep1]) w8 fun t41 =>
      pureK Try.prog (sBin .eql T_int (.tmp 41) (.const (.int .i64 0)) t41 (.int .i64 0)) fun t42 =>
      ifB t42
      (J1 (()) w8)
      (readK Try.prog (sBlt .len #[T_s_int] T_int #[false] #[keep1]) w8 fun t47 =>
       pureK Try.prog (sBin .rem T_int (.tmp 45) (.tmp 47) x3.1 t47) fun t48 =>
       pureK Try.prog (sIdxAddr T_s_int keep1 t48) fun t49 =>
       readK Try.prog (sLoad T_int t49) w8 fun t50 =>
       pureK Try.prog (sBin .and T_int (.tmp 50) (.const (.int .i64 1)) t50 (.int .i64 1)) fun t51 =>
       pureK Try.prog (sBin .eql T_int (.tmp 51) (.const (.int .i64 0)) t51 (.int .i64 0)) fun t52 =>
       ifB t52
       (J1 (()) w8)
       (pureK Try.prog (sFieldAddr T_disk_file f6 0) fun t56 =>
        readK Try.prog (sLoad T_string t56) w8 fun t57 =>
        readK Try.prog (sBlt .len #[T_string] T_int #[false] #[t57]) w8 fun t58 =>
        pureK Try.prog (sBin .geq T_int (.tmp 55) (.tmp 58) t39 t58) fun t59 =>
        ifB t59
        (J1 (()) w8)
        (pureK Try.prog (sFieldAddr T_disk_file f6 1) fun t61 =>
         readK Try.prog (sLoad T_string t61) (tick w8) fun t62 =>
         pureK Try.prog (sFieldAddr T_disk_file f6 0) fun t64 =>
         readK Try.prog (sLoad T_string t64) (tick w8) fun t65 =>
         pureK Try.prog (sBin .add T_int (.tmp 67) (.const (.int .i64 64)) t39 (.int .i64 64)) fun t68 =>
         pureK Try.prog (sFieldAddr T_disk_file f6 0) fun t69 =>
         readK Try.prog (sLoad T_string t69) (tick w8) fun t70 =>
         readK Try.prog (sBlt .len #[T_string] T_int #[false] #[t70]) (tick w8) fun t71 =>
         pureK Try.prog (sBlt .min #[T_int, T_int] T_int #[false, false] #[t68, t71]) fun t72 =>
         pureK Try.prog (sSlice T_string t65 (some t39) (some t72) none) fun t73 =>
         upK Try.prog (sCall F_disk_put #[t62, t39, t73]) (tick w8) fun t74 w9 =>
         pureK Try.prog (sFieldAddr T_disk_file f6 1) fun t75 =>
         upK Try.prog (sStore T_string t75 t74) w9 fun tu_4 w10 =>
         pureK Try.prog (sNil d0) fun t77 =>
         pureK Try.prog (sFieldAddr T_disk_Disk t77 0) fun t78 =>
         readK Try.prog (sLoad T_map_int_disk_file t78) (tick w10) fun t79 =>
         pureK Try.prog (sFieldAddr T_disk_sector p5 0) fun t80 =>
         readK Try.prog (sLoad T_int t80) (tick w10) fun t81 =>
         readK Try.prog (sLoad T_disk_file f6) (tick w10) fun t82 =>
         upK Try.prog (sMapUpd T_map_int_disk_file t79 t81 t82) (tick w10) fun tu_5 w11 =>
         J1 (()) w11)))))
    (pureK Try.prog (sNil d0) fun t85 =>
     pureK Try.prog (sFieldAddr T_disk_Disk t85 0) fun t86 =>
     readK Try.prog (sLoad T_map_int_disk_file t86) w3 fun t87 =>
     upK Try.prog (sRange T_map_int_disk_file t87) w3 fun t88 w12 =>
     LOOP (X := Unit) (fun x13 w13 next13 =>
      upK Try.prog (sNext t88 false T_) w13 fun t89 w14 =>
      pureK Try.prog (sExtract t89 0) fun t90 =>
      ifB t90
      (upK Try.prog (sEntry t88) w14 fun t91 w15 =>
       pureK Try.prog (sExtract t91 0) fun t92 =>
       pureK Try.prog (sExtract t91 1) fun t93 =>
       upK Try.prog (sAlloc T_disk_file) w15 fun f9 w16 =>
       upK Try.prog (sStore T_disk_file f9 t93) w16 fun tu_6 w17 =>
       pureK Try.prog (sNil d0) fun t95 =>
       pureK Try.prog (sFieldAddr T_disk_Disk t95 0) fun t96 =>
       readK Try.prog (sLoad T_map_int_disk_file t96) (tick w17) fun t97 =>
       pureK Try.prog (sFieldAddr T_disk_file f9 1) fun t99 =>
       readK Try.prog (sLoad T_string t99) (tick w17) fun t100 =>
       pureK Try.prog (sFieldAddr T_disk_file f9 1) fun t101 =>
       readK Try.prog (sLoad T_string t101) (tick w17) fun t102 =>
       pureK Try.prog (sBuild T_disk_file #[(0, t100), (1, t102)]) fun t103 =>
       upK Try.prog (sMapUpd T_map_int_disk_file t97 t92 t103) (tick w17) fun tu_7 w18 =>
       next13 (()) w18)
      (upK Try.prog (sMkMap T_map_disk_sector_bool none) w14 fun t106 w19 =>
       pureK Try.prog (sNil d0) fun t107 =>
       pureK Try.prog (sFieldAddr T_disk_Disk t107 1) fun t108 =>
       upK Try.prog (sStore T_s_disk_sector t108 (.slice none 0 0)) w19 fun tu_8 w20 =>
       pureK Try.prog (sNil d0) fun t109 =>
       pureK Try.prog (sFieldAddr T_disk_Disk t109 2) fun t110 =>
       upK Try.prog (sStore T_map_disk_sector_bool t110 t106) w20 fun tu_9 w21 =>
       K (.tuple #[]) w21))
     (()) w12))
   ((.int .i64 0), ()) w2)
theorem disk_Disk_Crash.pt_eq : disk_Disk_Crash.pt = fun d0 keep1 w K => FN Try.prog Try.f25 (bodyOf Try.f25) [] (.node none .leaf (.node none .leaf (.node none (.node none .leaf (.node none (.node none (.node none .leaf (.node none .leaf (.node (some []) .leaf .leaf))) .leaf) .leaf)) .leaf))) [d0, keep1] w K := by kernel_rfl
theorem disk_Disk_Crash.call {d0 keep1 : Value} {w : World} {K : Value → World → Prop} (h : disk_Disk_Crash.pt d0 keep1 w K) : Calls Try.prog F_disk_Disk_Crash #[d0, keep1] w (retK K) :=
  calls_FN (args := [d0, keep1]) Try.func25 (by kernel_rfl) (by rw [disk_Disk_Crash.pt_eq] at h; exact h)
theorem disk_Disk_Crash.up {d0 keep1 : Value} {w : World} {K : Value → World → Prop} (h : Calls Try.prog F_disk_Disk_Crash #[d0, keep1] w (retK K)) : upK Try.prog (sCall F_disk_Disk_Crash #[d0, keep1]) w K :=
  up_call (fn := Try.f25) Try.func25 (by kernel_rfl) (by kernel_rfl) h

/-- (*errata/disk.Disk).Start -/
def disk_Disk_Start.pt (d0 : Value) (w : World) (K : Value → World → Prop) : Prop :=
  pureK Try.prog (sNil d0) fun t3 =>
  pureK Try.prog (sFieldAddr T_disk_Disk t3 4) fun t4 =>
  upK Try.prog (sStore T_bool t4 (.bool false)) w fun tu w1 =>
  K (.tuple #[]) w1
theorem disk_Disk_Start.pt_eq : disk_Disk_Start.pt = fun d0 w K => FN Try.prog Try.f26 (bodyOf Try.f26) [] .leaf [d0] w K := by kernel_rfl
theorem disk_Disk_Start.call {d0 : Value} {w : World} {K : Value → World → Prop} (h : disk_Disk_Start.pt d0 w K) : Calls Try.prog F_disk_Disk_Start #[d0] w (retK K) :=
  calls_FN (args := [d0]) Try.func26 (by kernel_rfl) (by rw [disk_Disk_Start.pt_eq] at h; exact h)
theorem disk_Disk_Start.up {d0 : Value} {w : World} {K : Value → World → Prop} (h : Calls Try.prog F_disk_Disk_Start #[d0] w (retK K)) : upK Try.prog (sCall F_disk_Disk_Start #[d0]) w K :=
  up_call (fn := Try.f26) Try.func26 (by kernel_rfl) (by kernel_rfl) h

/-- (*errata/disk.Disk).Arm -/
def disk_Disk_Arm.pt (d0 n1 keep2 : Value) (w : World) (K : Value → World → Prop) : Prop :=
  pureK Try.prog (sBlt .max #[T_int, T_int] T_int #[false, true] #[n1, (.int .i64 0)]) fun t9 =>
  upK Try.prog (sCall F_slices_Clone_s_int_int #[keep2]) w fun t11 w1 =>
  pureK Try.prog (sNil d0) fun t12 =>
  pureK Try.prog (sFieldAddr T_disk_Disk t12 5) fun t13 =>
  upK Try.prog (sStore T_int t13 t9) w1 fun tu w2 =>
  pureK Try.prog (sNil d0) fun t14 =>
  pureK Try.prog (sFieldAddr T_disk_Disk t14 6) fun t15 =>
  upK Try.prog (sStore T_s_int t15 t11) w2 fun tu_1 w3 =>
  K (.tuple #[]) w3
theorem disk_Disk_Arm.pt_eq : disk_Disk_Arm.pt = fun d0 n1 keep2 w K => FN Try.prog Try.f27 (bodyOf Try.f27) [] .leaf [d0, n1, keep2] w K := by kernel_rfl
theorem disk_Disk_Arm.call {d0 n1 keep2 : Value} {w : World} {K : Value → World → Prop} (h : disk_Disk_Arm.pt d0 n1 keep2 w K) : Calls Try.prog F_disk_Disk_Arm #[d0, n1, keep2] w (retK K) :=
  calls_FN (args := [d0, n1, keep2]) Try.func27 (by kernel_rfl) (by rw [disk_Disk_Arm.pt_eq] at h; exact h)
theorem disk_Disk_Arm.up {d0 n1 keep2 : Value} {w : World} {K : Value → World → Prop} (h : Calls Try.prog F_disk_Disk_Arm #[d0, n1, keep2] w (retK K)) : upK Try.prog (sCall F_disk_Disk_Arm #[d0, n1, keep2]) w K :=
  up_call (fn := Try.f27) Try.func27 (by kernel_rfl) (by kernel_rfl) h

/-- errata/erratalaw04.same -/
def erratalaw04_same.pt (a0 b1 l2 : Value) (w : World) (K : Value → World → Prop) : Prop :=
  upK Try.prog (sCall F_disk_Disk_Down #[a0]) w fun t13 w1 =>
  upK Try.prog (sCall F_disk_Disk_Down #[b1]) w1 fun t15 w2 =>
  pureK Try.prog (sBin .neq T_bool (.tmp 13) (.tmp 15) t13 t15) fun t16 =>
  ifB t16
  (K (.bool false) w2)
  (LOOP (X := Value × Unit) (fun x3 w3 next3 =>
    readK Try.prog (sBlt .len #[T_s_erratalaw04_Act] T_int #[false] #[l2]) w3 fun t19 =>
    pureK Try.prog (sBin .lss T_int (.tmp 17) (.tmp 19) x3.1 t19) fun t20 =>
    ifB t20
    (pureK Try.prog (sIdxAddr T_s_erratalaw04_Act l2 x3.1) fun t27 =>
     pureK Try.prog (sFieldAddr T_erratalaw04_Act t27 1) fun t28 =>
     readK Try.prog (sLoad T_int t28) w3 fun t29 =>
     upK Try.prog (sCall F_disk_Disk_Read #[a0, t29, (.int .i64 0), (.int .i64 16777216)]) w3 fun t30 w4 =>
     pureK Try.prog (sExtract t30 0) fun t31 =>
     pureK Try.prog (sExtract t30 1) fun t32 =>
     pureK Try.prog (sIdxAddr T_s_erratalaw04_Act l2 x3.1) fun t37 =>
     pureK Try.prog (sFieldAddr T_erratalaw04_Act t37 1) fun t38 =>
     readK Try.prog (sLoad T_int t38) w4 fun t39 =>
     upK Try.prog (sCall F_disk_Disk_Read #[b1, t39, (.int .i64 0), (.int .i64 16777216)]) w4 fun t40 w5 =>
     pureK Try.prog (sExtract t40 0) fun t41 =>
     pureK Try.prog (sExtract t40 1) fun t42 =>
     pureK Try.prog (sBin .neq T_string (.tmp 43) (.tmp 44) t31 t41) fun t45 =>
     ifB t45
     (K (.bool false) (tick w5))
     (pureK Try.prog (sBin .neq T_api_Errno (.tmp 47) (.tmp 48) t32 t42) fun t49 =>
      ifB t49
      (K (.bool false) (tick w5))
      (pureK Try.prog (sIdxAddr T_s_erratalaw04_Act l2 x3.1) fun t55 =>
       pureK Try.prog (sFieldAddr T_erratalaw04_Act t55 1) fun t56 =>
       readK Try.prog (sLoad T_int t56) (tick w5) fun t57 =>
       pureK Try.prog (sIdxAddr T_s_erratalaw04_Act l2 x3.1) fun t62 =>
       pureK Try.prog (sFieldAddr T_erratalaw04_Act t62 1) fun t63 =>
       readK Try.prog (sLoad T_int t63) (tick w5) fun t64 =>
       upK Try.prog (sCall F_disk_Disk_Size #[a0, t57]) (tick w5) fun t58 w6 =>
       Is Try.prog (sLoad T_int t63) t64 w6 ∧ upK Try.prog (sCall F_disk_Disk_Size #[b1, t64]) w6 fun t65 w7 =>
       pureK Try.prog (sBin .neq T_int (.tmp 58) (.tmp 65) t58 t65) fun t66 =>
       ifB t66
       (K (.bool false) w7)
       (pureK Try.prog (sBin .add T_int (.tmp 21) (.const (.int .i64 1)) x3.1 (.int .i64 1)) fun t22 =>
        next3 (t22, ()) w7))))
    (K (.bool true) w3))
   ((.int .i64 0), ()) w2)
theorem erratalaw04_same.pt_eq : erratalaw04_same.pt = fun a0 b1 l2 w K => FN Try.prog Try.f28 (bodyOf Try.f28) [6] .leaf [a0, b1, l2] w K := by kernel_rfl
theorem erratalaw04_same.call {a0 b1 l2 : Value} {w : World} {K : Value → World → Prop} (h : erratalaw04_same.pt a0 b1 l2 w K) : Calls Try.prog F_erratalaw04_same #[a0, b1, l2] w (retK K) :=
  calls_FN (args := [a0, b1, l2]) Try.func28 (by kernel_rfl) (by rw [erratalaw04_same.pt_eq] at h; exact h)
theorem erratalaw04_same.up {a0 b1 l2 : Value} {w : World} {K : Value → World → Prop} (h : Calls Try.prog F_erratalaw04_same #[a0, b1, l2] w (retK K)) : upK Try.prog (sCall F_erratalaw04_same #[a0, b1, l2]) w K :=
  up_call (fn := Try.f28) Try.func28 (by kernel_rfl) (by kernel_rfl) h

/-- (*errata/disk.Disk).Write -/
def disk_Disk_Write.pt (d0 f1 at2 s3 : Value) (w : World) (K : Value → World → Prop) : Prop :=
  upK Try.prog (sCall F_disk_Disk_ends #[d0]) w fun t12 w1 =>
  upK Try.prog (sCall F_disk_Disk_write #[d0, f1, at2, s3]) w1 fun t17 w2 =>
  ifB t12
  (pureK Try.prog (sNil d0) fun t21 =>
   pureK Try.prog (sFieldAddr T_disk_Disk t21 6) fun t22 =>
   readK Try.prog (sLoad T_s_int t22) w2 fun t23 =>
   upK Try.prog (sCall F_disk_Disk_Crash #[d0, t23]) w2 fun t24 w3 =>
   K (.int .i64 9) w3)
  (K t17 w2)
theorem disk_Disk_Write.pt_eq : disk_Disk_Write.pt = fun d0 f1 at2 s3 w K => FN Try.prog Try.f29 (bodyOf Try.f29) [8] .leaf [d0, f1, at2, s3] w K := by kernel_rfl
theorem disk_Disk_Write.call {d0 f1 at2 s3 : Value} {w : World} {K : Value → World → Prop} (h : disk_Disk_Write.pt d0 f1 at2 s3 w K) : Calls Try.prog F_disk_Disk_Write #[d0, f1, at2, s3] w (retK K) :=
  calls_FN (args := [d0, f1, at2, s3]) Try.func29 (by kernel_rfl) (by rw [disk_Disk_Write.pt_eq] at h; exact h)
theorem disk_Disk_Write.up {d0 f1 at2 s3 : Value} {w : World} {K : Value → World → Prop} (h : Calls Try.prog F_disk_Disk_Write #[d0, f1, at2, s3] w (retK K)) : upK Try.prog (sCall F_disk_Disk_Write #[d0, f1, at2, s3]) w K :=
  up_call (fn := Try.f29) Try.func29 (by kernel_rfl) (by kernel_rfl) h

/-- (*errata/disk.Disk).Truncate -/
def disk_Disk_Truncate.pt (d0 f1 size2 : Value) (w : World) (K : Value → World → Prop) : Prop :=
  LETJ (X := Unit) (fun y1 w1 =>
   upK Try.prog (sCall F_disk_Disk_may #[d0, f1]) w1 fun t18 w2 =>
   pureK Try.prog (sBin .neq T_api_Errno (.tmp 19) (.const (.int .i64 0)) t18 (.int .i64 0)) fun t20 =>
   ifB t20
   (K t18 w2)
   (pureK Try.prog (sBin .lss T_int (.tmp 22) (.const (.int .i64 0)) size2 (.int .i64 0)) fun t23 =>
    ifB t23
    (K (.int .i64 1) w2)
    (upK Try.prog (sCall F_disk_Disk_Size #[d0, f1]) w2 fun t28 w3 =>
     pureK Try.prog (sBin .gtr T_int (.tmp 25) (.tmp 28) size2 t28) fun t29 =>
     ifB t29
     (K (.int .i64 1) w3)
     (pureK Try.prog (sNil d0) fun t34 =>
      pureK Try.prog (sFieldAddr T_disk_Disk t34 0) fun t35 =>
      readK Try.prog (sLoad T_map_int_disk_file t35) w3 fun t36 =>
      readK Try.prog (sLookup T_map_int_disk_file t36 f1 false) w3 fun t38 =>
      pureK Try.prog (sField T_disk_file t38 0) fun t39 =>
      pureK Try.prog (sSlice T_string t39 none (some size2) none) fun t41 =>
      upK Try.prog (sCall F_disk_Disk_settle #[d0, f1, t41]) w3 fun t42 w4 =>
      K (.int .i64 0) w4))))
  (fun J1 =>
   upK Try.prog (sCall F_disk_Disk_ends #[d0]) w fun t9 w5 =>
   ifB t9
   (pureK Try.prog (sNil d0) fun t12 =>
    pureK Try.prog (sFieldAddr T_disk_Disk t12 6) fun t13 =>
    readK Try.prog (sLoad T_s_int t13) w5 fun t14 =>
    upK Try.prog (sCall F_disk_Disk_Crash #[d0, t14]) w5 fun t15 w6 =>
    J1 (()) w6)
   (J1 (()) w5))
theorem disk_Disk_Truncate.pt_eq : disk_Disk_Truncate.pt = fun d0 f1 size2 w K => FN Try.prog Try.f30 (bodyOf Try.f30) [6] (.node none .leaf (.node (some []) .leaf .leaf)) [d0, f1, size2] w K := by kernel_rfl
theorem disk_Disk_Truncate.call {d0 f1 size2 : Value} {w : World} {K : Value → World → Prop} (h : disk_Disk_Truncate.pt d0 f1 size2 w K) : Calls Try.prog F_disk_Disk_Truncate #[d0, f1, size2] w (retK K) :=
  calls_FN (args := [d0, f1, size2]) Try.func30 (by kernel_rfl) (by rw [disk_Disk_Truncate.pt_eq] at h; exact h)
theorem disk_Disk_Truncate.up {d0 f1 size2 : Value} {w : World} {K : Value → World → Prop} (h : Calls Try.prog F_disk_Disk_Truncate #[d0, f1, size2] w (retK K)) : upK Try.prog (sCall F_disk_Disk_Truncate #[d0, f1, size2]) w K :=
  up_call (fn := Try.f30) Try.func30 (by kernel_rfl) (by kernel_rfl) h

/-- (*errata/disk.Disk).Lose -/
def disk_Disk_Lose.pt (d0 n1 : Value) (w : World) (K : Value → World → Prop) : Prop :=
  pureK Try.prog (sBlt .max #[T_int, T_int] T_int #[false, true] #[n1, (.int .i64 0)]) fun t6 =>
  pureK Try.prog (sNil d0) fun t7 =>
  pureK Try.prog (sFieldAddr T_disk_Disk t7 3) fun t8 =>
  upK Try.prog (sStore T_int t8 t6) w fun tu w1 =>
  K (.tuple #[]) w1
theorem disk_Disk_Lose.pt_eq : disk_Disk_Lose.pt = fun d0 n1 w K => FN Try.prog Try.f31 (bodyOf Try.f31) [] .leaf [d0, n1] w K := by kernel_rfl
theorem disk_Disk_Lose.call {d0 n1 : Value} {w : World} {K : Value → World → Prop} (h : disk_Disk_Lose.pt d0 n1 w K) : Calls Try.prog F_disk_Disk_Lose #[d0, n1] w (retK K) :=
  calls_FN (args := [d0, n1]) Try.func31 (by kernel_rfl) (by rw [disk_Disk_Lose.pt_eq] at h; exact h)
theorem disk_Disk_Lose.up {d0 n1 : Value} {w : World} {K : Value → World → Prop} (h : Calls Try.prog F_disk_Disk_Lose #[d0, n1] w (retK K)) : upK Try.prog (sCall F_disk_Disk_Lose #[d0, n1]) w K :=
  up_call (fn := Try.f31) Try.func31 (by kernel_rfl) (by kernel_rfl) h

/-- (*errata/errataref04.Disk).Sync -/
def errataref04_Disk_Sync.pt (d0 f1 : Value) (w : World) (K : Value → World → Prop) : Prop :=
  upK Try.prog (sCall F_errataref04_Disk_comes #[d0, (.int .i64 0), (.int .i64 0), (.string ⟨#[]⟩)]) w fun t7 w1 =>
  upK Try.prog (sCall F_errataref04_Disk_may #[d0, f1]) w1 fun t10 w2 =>
  pureK Try.prog (sBin .neq T_api_Errno (.tmp 11) (.const (.int .i64 0)) t10 (.int .i64 0)) fun t12 =>
  ifB t12
  (K t10 w2)
  (pureK Try.prog (sNil d0) fun t15 =>
   pureK Try.prog (sFieldAddr T_errataref04_Disk t15 2) fun t16 =>
   readK Try.prog (sLoad T_int t16) w2 fun t17 =>
   pureK Try.prog (sBin .gtr T_int (.tmp 17) (.const (.int .i64 0)) t17 (.int .i64 0)) fun t18 =>
   ifB t18
   (pureK Try.prog (sNil d0) fun t20 =>
    pureK Try.prog (sFieldAddr T_errataref04_Disk t20 2) fun t21 =>
    readK Try.prog (sLoad T_int t21) w2 fun t22 =>
    pureK Try.prog (sBin .sub T_int (.tmp 22) (.const (.int .i64 1)) t22 (.int .i64 1)) fun t23 =>
    pureK Try.prog (sNil d0) fun t24 =>
    pureK Try.prog (sFieldAddr T_errataref04_Disk t24 2) fun t25 =>
    upK Try.prog (sStore T_int t25 t23) w2 fun tu w3 =>
    K (.int .i64 10) w3)
   (upK Try.prog (sCall F_errataref04_Disk_get #[d0, f1]) w2 fun t30 w4 =>
    pureK Try.prog (sField T_errataref04_File t30 1) fun t31 =>
    upK Try.prog (sCall F_errataref04_Disk_settle #[d0, f1, t31]) w4 fun t32 w5 =>
    K (.int .i64 0) w5))
theorem errataref04_Disk_Sync.pt_eq : errataref04_Disk_Sync.pt = fun d0 f1 w K => FN Try.prog Try.f32 (bodyOf Try.f32) [4] .leaf [d0, f1] w K := by kernel_rfl
theorem errataref04_Disk_Sync.call {d0 f1 : Value} {w : World} {K : Value → World → Prop} (h : errataref04_Disk_Sync.pt d0 f1 w K) : Calls Try.prog F_errataref04_Disk_Sync #[d0, f1] w (retK K) :=
  calls_FN (args := [d0, f1]) Try.func32 (by kernel_rfl) (by rw [errataref04_Disk_Sync.pt_eq] at h; exact h)
theorem errataref04_Disk_Sync.up {d0 f1 : Value} {w : World} {K : Value → World → Prop} (h : Calls Try.prog F_errataref04_Disk_Sync #[d0, f1] w (retK K)) : upK Try.prog (sCall F_errataref04_Disk_Sync #[d0, f1]) w K :=
  up_call (fn := Try.f32) Try.func32 (by kernel_rfl) (by kernel_rfl) h

/-- (*errata/errataref04.Disk).Truncate -/
def errataref04_Disk_Truncate.pt (d0 f1 size2 : Value) (w : World) (K : Value → World → Prop) : Prop :=
  upK Try.prog (sCall F_errataref04_Disk_comes #[d0, (.int .i64 0), (.int .i64 0), (.string ⟨#[]⟩)]) w fun t10 w1 =>
  upK Try.prog (sCall F_errataref04_Disk_may #[d0, f1]) w1 fun t13 w2 =>
  pureK Try.prog (sBin .neq T_api_Errno (.tmp 14) (.const (.int .i64 0)) t13 (.int .i64 0)) fun t15 =>
  ifB t15
  (K t13 w2)
  (upK Try.prog (sCall F_errataref04_Disk_get #[d0, f1]) w2 fun t19 w3 =>
   pureK Try.prog (sField T_errataref04_File t19 1) fun t20 =>
   pureK Try.prog (sBin .lss T_int (.tmp 21) (.const (.int .i64 0)) size2 (.int .i64 0)) fun t22 =>
   ifB t22
   (K (.int .i64 1) w3)
   (readK Try.prog (sBlt .len #[T_string] T_int #[false] #[t20]) w3 fun t26 =>
    pureK Try.prog (sBin .gtr T_int (.tmp 24) (.tmp 26) size2 t26) fun t27 =>
    ifB t27
    (K (.int .i64 1) w3)
    (pureK Try.prog (sSlice T_string t20 none (some size2) none) fun t33 =>
     upK Try.prog (sCall F_errataref04_Disk_settle #[d0, f1, t33]) w3 fun t34 w4 =>
     K (.int .i64 0) w4)))
theorem errataref04_Disk_Truncate.pt_eq : errataref04_Disk_Truncate.pt = fun d0 f1 size2 w K => FN Try.prog Try.f33 (bodyOf Try.f33) [6] .leaf [d0, f1, size2] w K := by kernel_rfl
theorem errataref04_Disk_Truncate.call {d0 f1 size2 : Value} {w : World} {K : Value → World → Prop} (h : errataref04_Disk_Truncate.pt d0 f1 size2 w K) : Calls Try.prog F_errataref04_Disk_Truncate #[d0, f1, size2] w (retK K) :=
  calls_FN (args := [d0, f1, size2]) Try.func33 (by kernel_rfl) (by rw [errataref04_Disk_Truncate.pt_eq] at h; exact h)
theorem errataref04_Disk_Truncate.up {d0 f1 size2 : Value} {w : World} {K : Value → World → Prop} (h : Calls Try.prog F_errataref04_Disk_Truncate #[d0, f1, size2] w (retK K)) : upK Try.prog (sCall F_errataref04_Disk_Truncate #[d0, f1, size2]) w K :=
  up_call (fn := Try.f33) Try.func33 (by kernel_rfl) (by kernel_rfl) h

/-- (*errata/errataref04.Disk).Lose -/
def errataref04_Disk_Lose.pt (d0 n1 : Value) (w : World) (K : Value → World → Prop) : Prop :=
  pureK Try.prog (sBlt .max #[T_int, T_int] T_int #[false, true] #[n1, (.int .i64 0)]) fun t6 =>
  pureK Try.prog (sNil d0) fun t7 =>
  pureK Try.prog (sFieldAddr T_errataref04_Disk t7 2) fun t8 =>
  upK Try.prog (sStore T_int t8 t6) w fun tu w1 =>
  K (.tuple #[]) w1
theorem errataref04_Disk_Lose.pt_eq : errataref04_Disk_Lose.pt = fun d0 n1 w K => FN Try.prog Try.f34 (bodyOf Try.f34) [] .leaf [d0, n1] w K := by kernel_rfl
theorem errataref04_Disk_Lose.call {d0 n1 : Value} {w : World} {K : Value → World → Prop} (h : errataref04_Disk_Lose.pt d0 n1 w K) : Calls Try.prog F_errataref04_Disk_Lose #[d0, n1] w (retK K) :=
  calls_FN (args := [d0, n1]) Try.func34 (by kernel_rfl) (by rw [errataref04_Disk_Lose.pt_eq] at h; exact h)
theorem errataref04_Disk_Lose.up {d0 n1 : Value} {w : World} {K : Value → World → Prop} (h : Calls Try.prog F_errataref04_Disk_Lose #[d0, n1] w (retK K)) : upK Try.prog (sCall F_errataref04_Disk_Lose #[d0, n1]) w K :=
  up_call (fn := Try.f34) Try.func34 (by kernel_rfl) (by kernel_rfl) h

/-- (*errata/errataref04.Disk).Arm -/
def errataref04_Disk_Arm.pt (d0 n1 keep2 : Value) (w : World) (K : Value → World → Prop) : Prop :=
  pureK Try.prog (sBlt .max #[T_int, T_int] T_int #[false, true] #[n1, (.int .i64 0)]) fun t8 =>
  pureK Try.prog (sNil d0) fun t9 =>
  pureK Try.prog (sFieldAddr T_errataref04_Disk t9 4) fun t10 =>
  upK Try.prog (sStore T_int t10 t8) w fun tu w1 =>
  upK Try.prog (sBuildSlice T_s_int 0 #[]) w1 fun t12 w2 =>
  upK Try.prog (sBlt .append #[T_s_int, T_s_int] T_s_int #[false, false] #[t12, keep2]) w2 fun t14 w3 =>
  pureK Try.prog (sNil d0) fun t15 =>
  pureK Try.prog (sFieldAddr T_errataref04_Disk t15 5) fun t16 =>
  upK Try.prog (sStore T_s_int t16 t14) w3 fun tu_1 w4 =>
  K (.tuple #[]) w4
theorem errataref04_Disk_Arm.pt_eq : errataref04_Disk_Arm.pt = fun d0 n1 keep2 w K => FN Try.prog Try.f35 (bodyOf Try.f35) [] .leaf [d0, n1, keep2] w K := by kernel_rfl
theorem errataref04_Disk_Arm.call {d0 n1 keep2 : Value} {w : World} {K : Value → World → Prop} (h : errataref04_Disk_Arm.pt d0 n1 keep2 w K) : Calls Try.prog F_errataref04_Disk_Arm #[d0, n1, keep2] w (retK K) :=
  calls_FN (args := [d0, n1, keep2]) Try.func35 (by kernel_rfl) (by rw [errataref04_Disk_Arm.pt_eq] at h; exact h)
theorem errataref04_Disk_Arm.up {d0 n1 keep2 : Value} {w : World} {K : Value → World → Prop} (h : Calls Try.prog F_errataref04_Disk_Arm #[d0, n1, keep2] w (retK K)) : upK Try.prog (sCall F_errataref04_Disk_Arm #[d0, n1, keep2]) w K :=
  up_call (fn := Try.f35) Try.func35 (by kernel_rfl) (by kernel_rfl) h

/-- (*errata/errataref04.Disk).Crash -/
def errataref04_Disk_Crash.pt (d0 keep1 : Value) (w : World) (K : Value → World → Prop) : Prop :=
  pureK Try.prog (sNil d0) fun t8 =>
  pureK Try.prog (sFieldAddr T_errataref04_Disk t8 3) fun t9 =>
  readK Try.prog (sLoad T_bool t9) w fun t10 =>
  ifB t10
  (K (.tuple #[]) w)
  (pureK Try.prog (sNil d0) fun t12 =>
   pureK Try.prog (sFieldAddr T_errataref04_Disk t12 3) fun t13 =>
   upK Try.prog (sStore T_bool t13 (.bool true)) w fun tu w1 =>
   pureK Try.prog (sNil d0) fun t15 =>
   pureK Try.prog (sFieldAddr T_errataref04_Disk t15 4) fun t16 =>
   upK Try.prog (sStore T_int t16 (.int .i64 0)) w1 fun tu_1 w2 =>
   LETJ (X := Unit) (fun y1 w3 =>
    LOOP (X := Value × Value × Unit) (fun x4 w4 next4 =>
     pureK Try.prog (sNil d0) fun t51 =>
     pureK Try.prog (sFieldAddr T_errataref04_Disk t51 0) fun t52 =>
     readK Try.prog (sLoad T_s_errataref04_File t52) w4 fun t53 =>
     readK Try.prog (sBlt .len #[T_s_errataref04_File] T_int #[false] #[t53]) w4 fun t54 =>
     pureK Try.prog (sBin .lss T_int (.tmp 49) (.tmp 54) x4.2.1 t54) fun t55 =>
     ifB t55
     (pureK Try.prog (sNil d0) fun t60 =>
      pureK Try.prog (sFieldAddr T_errataref04_Disk t60 0) fun t61 =>
      readK Try.prog (sLoad T_s_errataref04_File t61) (tick w4) fun t62 =>
      pureK Try.prog (sIdxAddr T_s_errataref04_File t62 x4.2.1) fun t64 =>
      pureK Try.prog (sFieldAddr T_errataref04_File t64 0) fun t65 =>
      readK Try.prog (sLoad T_int t65) (tick w4) fun t66 =>
      pureK Try.prog (sNil d0) fun t68 =>
      pureK Try.prog (sFieldAddr T_errataref04_Disk t68 0) fun t69 =>
      readK Try.prog (sLoad T_s_errataref04_File t69) (tick w4) fun t70 =>
      pureK Try.prog (sIdxAddr T_s_errataref04_File t70 x4.2.1) fun t72 =>
      pureK Try.prog (sFieldAddr T_errataref04_File t72 2) fun t73 =>
      readK Try.prog (sLoad T_string t73) (tick w4) fun t74 =>
      pureK Try.prog (sNil d0) fun t76 =>
      pureK Try.prog (sFieldAddr T_errataref04_Disk t76 0) fun t77 =>
      readK Try.prog (sLoad T_s_errataref04_File t77) (tick w4) fun t78 =>
      pureK Try.prog (sIdxAddr T_s_errataref04_File t78 x4.2.1) fun t80 =>
      pureK Try.prog (sFieldAddr T_errataref04_File t80 2) fun t81 =>
      readK Try.prog (sLoad T_string t81) (tick w4) fun t82 =>
      pureK Try.prog (sBuild T_errataref04_File #[(0, t66), (1, t74), (2, t82)]) fun t83 =>
      upK Try.prog (sBuildSlice T_s_errataref04_File 1 #[(0, t83)]) (tick w4) fun t84 w5 =>
      upK Try.prog (sBlt .append #[T_s_errataref04_File, T_s_errataref04_File] T_s_errataref04_File #[false, false] #[x4.1, t84]) w5 fun t85 w6 =>
      pureK Try.prog (sBin .add T_int (.tmp 56) (.const (.int .i64 1)) x4.2.1 (.int .i64 1)) fun t57 =>
      next4 (t85, t57, ()) w6)
     (pureK Try.prog (sNil d0) fun t88 =>
      pureK Try.prog (sFieldAddr T_errataref04_Disk t88 0) fun t89 =>
      upK Try.prog (sStore T_s_errataref04_File t89 x4.1) w4 fun tu_2 w7 =>
      pureK Try.prog (sNil d0) fun t91 =>
      pureK Try.prog (sFieldAddr T_errataref04_Disk t91 1) fun t92 =>
      upK Try.prog (sStore T_s_errataref04_Sector t92 (.slice none 0 0)) w7 fun tu_3 w8 =>
      K (.tuple #[]) w8))
    ((.slice none 0 0), (.int .i64 0), ()) w3)
   (fun J1 =>
    LOOP (X := Value × Unit) (fun x9 w9 next9 =>
     pureK Try.prog (sNil d0) fun t19 =>
     pureK Try.prog (sFieldAddr T_errataref04_Disk t19 1) fun t20 =>
     readK Try.prog (sLoad T_s_errataref04_Sector t20) w9 fun t21 =>
     readK Try.prog (sBlt .len #[T_s_errataref04_Sector] T_int #[false] #[t21]) w9 fun t22 =>
     pureK Try.prog (sBin .lss T_int (.tmp 17) (.tmp 22) x9.1 t22) fun t23 =>
     ifB t23
     (readK Try.prog (sBlt .len #[T_s_int] T_int #[false] #[keep1]) w9 fun t26 =>
      pureK Try.prog (sBin .gtr T_int (.tmp 26) (.const (.int .i64 0)) t26 (.int .i64 0)) fun t27 =>
      ifB t27
      (LETJ (X := Unit) (fun y2 w10 =>
        pureK Try.prog (sBin .add T_int (.tmp 29) (.const (.int .i64 1)) x9.1 (.int .i64 1)) fun t30 =>
        next9 (t30, ()) w10)
       (fun J2 =>
        readK Try.prog (sBlt .len #[T_s_int] T_int #[false] #[keep1]) w9 fun t34 =>
        pureK Try.prog (sBin .rem T_int (.tmp 32) (.tmp 34) x9.1 t34) fun t35 =>
        pureK Try.prog (sIdxAddr T_s_int keep1 t35) fun t36 =>
        readK Try.prog (sLoad T_int t36) w9 fun t37 =>
        pureK Try.prog (sBin .and T_int (.tmp 37) (.const (.int .i64 1)) t37 (.int .i64 1)) fun t38 =>
        pureK Try.prog (sBin .eql T_int (.tmp 38) (.const (.int .i64 1)) t38 (.int .i64 1)) fun t39 =>
        ifB t39
        (pureK Try.prog (sNil d0) fun t42 =>
         pureK Try.prog (sFieldAddr T_errataref04_Disk t42 1) fun t43 =>
         readK Try.prog (sLoad T_s_errataref04_Sector t43) w9 fun t44 =>
         pureK Try.prog (sIdxAddr T_s_errataref04_Sector t44 x9.1) fun t46 =>
         readK Try.prog (sLoad T_errataref04_Sector t46) w9 fun t47 =>
         upK Try.prog (sCall F_errataref04_Disk_survive #[d0, t47]) w9 fun t48 w11 =>
         J2 (()) w11)
        (J2 (()) w9)))
      (J1 (()) w9))
     (J1 (()) w9))
    ((.int .i64 0), ()) w2))
theorem errataref04_Disk_Crash.pt_eq : errataref04_Disk_Crash.pt = fun d0 keep1 w K => FN Try.prog Try.f36 (bodyOf Try.f36) [] (.node none .leaf (.node none .leaf (.node none .leaf (.node (some []) (.node none .leaf (.node none (.node none (.node none .leaf (.node (some []) .leaf .leaf)) .leaf) .leaf)) .leaf)))) [d0, keep1] w K := by kernel_rfl
theorem errataref04_Disk_Crash.call {d0 keep1 : Value} {w : World} {K : Value → World → Prop} (h : errataref04_Disk_Crash.pt d0 keep1 w K) : Calls Try.prog F_errataref04_Disk_Crash #[d0, keep1] w (retK K) :=
  calls_FN (args := [d0, keep1]) Try.func36 (by kernel_rfl) (by rw [errataref04_Disk_Crash.pt_eq] at h; exact h)
theorem errataref04_Disk_Crash.up {d0 keep1 : Value} {w : World} {K : Value → World → Prop} (h : Calls Try.prog F_errataref04_Disk_Crash #[d0, keep1] w (retK K)) : upK Try.prog (sCall F_errataref04_Disk_Crash #[d0, keep1]) w K :=
  up_call (fn := Try.f36) Try.func36 (by kernel_rfl) (by kernel_rfl) h

/-- (*errata/errataref04.Disk).Start -/
def errataref04_Disk_Start.pt (d0 : Value) (w : World) (K : Value → World → Prop) : Prop :=
  pureK Try.prog (sNil d0) fun t3 =>
  pureK Try.prog (sFieldAddr T_errataref04_Disk t3 3) fun t4 =>
  upK Try.prog (sStore T_bool t4 (.bool false)) w fun tu w1 =>
  K (.tuple #[]) w1
theorem errataref04_Disk_Start.pt_eq : errataref04_Disk_Start.pt = fun d0 w K => FN Try.prog Try.f37 (bodyOf Try.f37) [] .leaf [d0] w K := by kernel_rfl
theorem errataref04_Disk_Start.call {d0 : Value} {w : World} {K : Value → World → Prop} (h : errataref04_Disk_Start.pt d0 w K) : Calls Try.prog F_errataref04_Disk_Start #[d0] w (retK K) :=
  calls_FN (args := [d0]) Try.func37 (by kernel_rfl) (by rw [errataref04_Disk_Start.pt_eq] at h; exact h)
theorem errataref04_Disk_Start.up {d0 : Value} {w : World} {K : Value → World → Prop} (h : Calls Try.prog F_errataref04_Disk_Start #[d0] w (retK K)) : upK Try.prog (sCall F_errataref04_Disk_Start #[d0]) w K :=
  up_call (fn := Try.f37) Try.func37 (by kernel_rfl) (by kernel_rfl) h

/-- (*errata/errataref04.Disk).Write -/
def errataref04_Disk_Write.pt (d0 f1 at2 s3 : Value) (w : World) (K : Value → World → Prop) : Prop :=
  upK Try.prog (sCall F_errataref04_Disk_comes #[d0, f1, at2, s3]) w fun t14 w1 =>
  upK Try.prog (sCall F_errataref04_Disk_may #[d0, f1]) w1 fun t17 w2 =>
  pureK Try.prog (sBin .neq T_api_Errno (.tmp 18) (.const (.int .i64 0)) t17 (.int .i64 0)) fun t19 =>
  ifB t19
  (K t17 w2)
  (pureK Try.prog (sBin .lss T_int (.tmp 21) (.const (.int .i64 0)) at2 (.int .i64 0)) fun t22 =>
   ifB t22
   (K (.int .i64 1) w2)
   (upK Try.prog (sCall F_errataref04_fits #[at2, s3]) w2 fun t25 w3 =>
    pureK Try.prog (sUn .not t25) fun t26 =>
    ifB t26
    (K (.int .i64 6) w3)
    (upK Try.prog (sCall F_errataref04_Disk_add #[d0, f1, at2, s3]) w3 fun t31 w4 =>
     K (.int .i64 0) w4)))
theorem errataref04_Disk_Write.pt_eq : errataref04_Disk_Write.pt = fun d0 f1 at2 s3 w K => FN Try.prog Try.f38 (bodyOf Try.f38) [8] .leaf [d0, f1, at2, s3] w K := by kernel_rfl
theorem errataref04_Disk_Write.call {d0 f1 at2 s3 : Value} {w : World} {K : Value → World → Prop} (h : errataref04_Disk_Write.pt d0 f1 at2 s3 w K) : Calls Try.prog F_errataref04_Disk_Write #[d0, f1, at2, s3] w (retK K) :=
  calls_FN (args := [d0, f1, at2, s3]) Try.func38 (by kernel_rfl) (by rw [errataref04_Disk_Write.pt_eq] at h; exact h)
theorem errataref04_Disk_Write.up {d0 f1 at2 s3 : Value} {w : World} {K : Value → World → Prop} (h : Calls Try.prog F_errataref04_Disk_Write #[d0, f1, at2, s3] w (retK K)) : upK Try.prog (sCall F_errataref04_Disk_Write #[d0, f1, at2, s3]) w K :=
  up_call (fn := Try.f38) Try.func38 (by kernel_rfl) (by kernel_rfl) h

/-- (*errata/errataref04.Disk).get -/
def errataref04_Disk_get.pt (d0 f1 : Value) (w : World) (K : Value → World → Prop) : Prop :=
  upK Try.prog (sAlloc T_errataref04_File) w fun t4 w1 =>
  LOOP (X := Value × Unit) (fun x2 w2 next2 =>
   pureK Try.prog (sNil d0) fun t8 =>
   pureK Try.prog (sFieldAddr T_errataref04_Disk t8 0) fun t9 =>
   readK Try.prog (sLoad T_s_errataref04_File t9) w2 fun t10 =>
   readK Try.prog (sBlt .len #[T_s_errataref04_File] T_int #[false] #[t10]) w2 fun t11 =>
   pureK Try.prog (sBin .lss T_int (.tmp 6) (.tmp 11) x2.1 t11) fun t12 =>
   ifB t12
   (pureK Try.prog (sNil d0) fun t16 =>
    pureK Try.prog (sFieldAddr T_errataref04_Disk t16 0) fun t17 =>
    readK Try.prog (sLoad T_s_errataref04_File t17) w2 fun t18 =>
    pureK Try.prog (sIdxAddr T_s_errataref04_File t18 x2.1) fun t20 =>
    pureK Try.prog (sFieldAddr T_errataref04_File t20 0) fun t21 =>
    readK Try.prog (sLoad T_int t21) w2 fun t22 =>
    pureK Try.prog (sBin .eql T_int (.tmp 22) (.tmp 23) t22 f1) fun t24 =>
    ifB t24
    (pureK Try.prog (sNil d0) fun t26 =>
     pureK Try.prog (sFieldAddr T_errataref04_Disk t26 0) fun t27 =>
     readK Try.prog (sLoad T_s_errataref04_File t27) w2 fun t28 =>
     pureK Try.prog (sIdxAddr T_s_errataref04_File t28 x2.1) fun t30 =>
     readK Try.prog (sLoad T_errataref04_File t30) w2 fun t31 =>
     upK Try.prog (sStore T_errataref04_File t4 t31) w2 fun tu w3 =>
     readV Try.prog (do loadVar T_errataref04_File (← asAddr t4)) w3 fun t4_1 =>
     K t4_1 w3)
    (pureK Try.prog (sBin .add T_int (.tmp 13) (.const (.int .i64 1)) x2.1 (.int .i64 1)) fun t14 =>
     next2 (t14, ()) w2))
   (pureK Try.prog (sBuild T_errataref04_File #[(0, f1)]) fun t33 =>
    upK Try.prog (sStore T_errataref04_File t4 t33) w2 fun tu_1 w4 =>
    readV Try.prog (do loadVar T_errataref04_File (← asAddr t4)) w4 fun t4_2 =>
    K t4_2 w4))
  ((.int .i64 0), ()) w1
theorem errataref04_Disk_get.pt_eq : errataref04_Disk_get.pt = fun d0 f1 w K => FN Try.prog Try.f39 (bodyOf Try.f39) [] .leaf [d0, f1] w K := by kernel_rfl
theorem errataref04_Disk_get.call {d0 f1 : Value} {w : World} {K : Value → World → Prop} (h : errataref04_Disk_get.pt d0 f1 w K) : Calls Try.prog F_errataref04_Disk_get #[d0, f1] w (retK K) :=
  calls_FN (args := [d0, f1]) Try.func39 (by kernel_rfl) (by rw [errataref04_Disk_get.pt_eq] at h; exact h)
theorem errataref04_Disk_get.up {d0 f1 : Value} {w : World} {K : Value → World → Prop} (h : Calls Try.prog F_errataref04_Disk_get #[d0, f1] w (retK K)) : upK Try.prog (sCall F_errataref04_Disk_get #[d0, f1]) w K :=
  up_call (fn := Try.f39) Try.func39 (by kernel_rfl) (by kernel_rfl) h

/-- maps.Clone[map[int]errata/disk.file,int,errata/disk.file] -/
def maps_Clone_map_int_disk_file_int_disk_file.pt (m0 : Value) (w : World) (K : Value → World → Prop) : Prop :=
  pureK Try.prog (sBin .eql T_map_int_disk_file (.tmp 3) (.const (.map none)) m0 (.map none)) fun t4 =>
  ifB t4
  (K (.map none) w)
  (pureK Try.prog (sMkIface T_map_int_disk_file m0) fun t6 =>
   upK Try.prog (sCall F_maps_clone #[t6]) w fun t7 w1 =>
   upK Try.prog (sTypeAssert t7 T_interface T_map_int_disk_file false) w1 fun t8 w2 =>
   K t8 w2)
theorem maps_Clone_map_int_disk_file_int_disk_file.pt_eq : maps_Clone_map_int_disk_file_int_disk_file.pt = fun m0 w K => FN Try.prog Try.f40 (bodyOf Try.f40) [2] .leaf [m0] w K := by kernel_rfl
theorem maps_Clone_map_int_disk_file_int_disk_file.call {m0 : Value} {w : World} {K : Value → World → Prop} (h : maps_Clone_map_int_disk_file_int_disk_file.pt m0 w K) : Calls Try.prog F_maps_Clone_map_int_disk_file_int_disk_file #[m0] w (retK K) :=
  calls_FN (args := [m0]) Try.func40 (by kernel_rfl) (by rw [maps_Clone_map_int_disk_file_int_disk_file.pt_eq] at h; exact h)
theorem maps_Clone_map_int_disk_file_int_disk_file.up {m0 : Value} {w : World} {K : Value → World → Prop} (h : Calls Try.prog F_maps_Clone_map_int_disk_file_int_disk_file #[m0] w (retK K)) : upK Try.prog (sCall F_maps_Clone_map_int_disk_file_int_disk_file #[m0]) w K :=
  up_call (fn := Try.f40) Try.func40 (by kernel_rfl) (by kernel_rfl) h

/-- slices.Clone[[]errata/disk.sector,errata/disk.sector] -/
def slices_Clone_s_disk_sector_disk_sector.pt (s0 : Value) (w : World) (K : Value → World → Prop) : Prop :=
  pureK Try.prog (sBin .eql T_s_disk_sector (.tmp 3) (.const (.slice none 0 0)) s0 (.slice none 0 0)) fun t4 =>
  ifB t4
  (K (.slice none 0 0) w)
  (upK Try.prog (sBuildSlice T_s_disk_sector 0 #[]) w fun t5 w1 =>
   upK Try.prog (sBlt .append #[T_s_disk_sector, T_s_disk_sector] T_s_disk_sector #[false, false] #[t5, s0]) w1 fun t7 w2 =>
   K t7 w2)
theorem slices_Clone_s_disk_sector_disk_sector.pt_eq : slices_Clone_s_disk_sector_disk_sector.pt = fun s0 w K => FN Try.prog Try.f41 (bodyOf Try.f41) [2] .leaf [s0] w K := by kernel_rfl
theorem slices_Clone_s_disk_sector_disk_sector.call {s0 : Value} {w : World} {K : Value → World → Prop} (h : slices_Clone_s_disk_sector_disk_sector.pt s0 w K) : Calls Try.prog F_slices_Clone_s_disk_sector_disk_sector #[s0] w (retK K) :=
  calls_FN (args := [s0]) Try.func41 (by kernel_rfl) (by rw [slices_Clone_s_disk_sector_disk_sector.pt_eq] at h; exact h)
theorem slices_Clone_s_disk_sector_disk_sector.up {s0 : Value} {w : World} {K : Value → World → Prop} (h : Calls Try.prog F_slices_Clone_s_disk_sector_disk_sector #[s0] w (retK K)) : upK Try.prog (sCall F_slices_Clone_s_disk_sector_disk_sector #[s0]) w K :=
  up_call (fn := Try.f41) Try.func41 (by kernel_rfl) (by kernel_rfl) h

/-- maps.Clone[map[errata/disk.sector]bool,errata/disk.sector,bool] -/
def maps_Clone_map_disk_sector_bool_disk_sector_bool.pt (m0 : Value) (w : World) (K : Value → World → Prop) : Prop :=
  pureK Try.prog (sBin .eql T_map_disk_sector_bool (.tmp 3) (.const (.map none)) m0 (.map none)) fun t4 =>
  ifB t4
  (K (.map none) w)
  (pureK Try.prog (sMkIface T_map_disk_sector_bool m0) fun t6 =>
   upK Try.prog (sCall F_maps_clone #[t6]) w fun t7 w1 =>
   upK Try.prog (sTypeAssert t7 T_interface T_map_disk_sector_bool false) w1 fun t8 w2 =>
   K t8 w2)
theorem maps_Clone_map_disk_sector_bool_disk_sector_bool.pt_eq : maps_Clone_map_disk_sector_bool_disk_sector_bool.pt = fun m0 w K => FN Try.prog Try.f42 (bodyOf Try.f42) [2] .leaf [m0] w K := by kernel_rfl
theorem maps_Clone_map_disk_sector_bool_disk_sector_bool.call {m0 : Value} {w : World} {K : Value → World → Prop} (h : maps_Clone_map_disk_sector_bool_disk_sector_bool.pt m0 w K) : Calls Try.prog F_maps_Clone_map_disk_sector_bool_disk_sector_bool #[m0] w (retK K) :=
  calls_FN (args := [m0]) Try.func42 (by kernel_rfl) (by rw [maps_Clone_map_disk_sector_bool_disk_sector_bool.pt_eq] at h; exact h)
theorem maps_Clone_map_disk_sector_bool_disk_sector_bool.up {m0 : Value} {w : World} {K : Value → World → Prop} (h : Calls Try.prog F_maps_Clone_map_disk_sector_bool_disk_sector_bool #[m0] w (retK K)) : upK Try.prog (sCall F_maps_Clone_map_disk_sector_bool_disk_sector_bool #[m0]) w K :=
  up_call (fn := Try.f42) Try.func42 (by kernel_rfl) (by kernel_rfl) h

/-- (*errata/disk.Disk).ends -/
def disk_Disk_ends.pt (d0 : Value) (w : World) (K : Value → World → Prop) : Prop :=
  pureK Try.prog (sNil d0) fun t4 =>
  pureK Try.prog (sFieldAddr T_disk_Disk t4 4) fun t5 =>
  readK Try.prog (sLoad T_bool t5) w fun t6 =>
  ifB t6
  (K (.bool false) w)
  (pureK Try.prog (sNil d0) fun t9 =>
   pureK Try.prog (sFieldAddr T_disk_Disk t9 5) fun t10 =>
   readK Try.prog (sLoad T_int t10) w fun t11 =>
   pureK Try.prog (sBin .eql T_int (.tmp 11) (.const (.int .i64 0)) t11 (.int .i64 0)) fun t12 =>
   ifB t12
   (K (.bool false) w)
   (pureK Try.prog (sNil d0) fun t15 =>
    pureK Try.prog (sFieldAddr T_disk_Disk t15 5) fun t16 =>
    readK Try.prog (sLoad T_int t16) w fun t17 =>
    pureK Try.prog (sBin .sub T_int (.tmp 17) (.const (.int .i64 1)) t17 (.int .i64 1)) fun t18 =>
    pureK Try.prog (sNil d0) fun t19 =>
    pureK Try.prog (sFieldAddr T_disk_Disk t19 5) fun t20 =>
    upK Try.prog (sStore T_int t20 t18) w fun tu w1 =>
    pureK Try.prog (sNil d0) fun t22 =>
    pureK Try.prog (sFieldAddr T_disk_Disk t22 5) fun t23 =>
    readK Try.prog (sLoad T_int t23) w1 fun t24 =>
    pureK Try.prog (sBin .eql T_int (.tmp 24) (.const (.int .i64 0)) t24 (.int .i64 0)) fun t25 =>
    K t25 w1))
theorem disk_Disk_ends.pt_eq : disk_Disk_ends.pt = fun d0 w K => FN Try.prog Try.f43 (bodyOf Try.f43) [2] .leaf [d0] w K := by kernel_rfl
theorem disk_Disk_ends.call {d0 : Value} {w : World} {K : Value → World → Prop} (h : disk_Disk_ends.pt d0 w K) : Calls Try.prog F_disk_Disk_ends #[d0] w (retK K) :=
  calls_FN (args := [d0]) Try.func43 (by kernel_rfl) (by rw [disk_Disk_ends.pt_eq] at h; exact h)
theorem disk_Disk_ends.up {d0 : Value} {w : World} {K : Value → World → Prop} (h : Calls Try.prog F_disk_Disk_ends #[d0] w (retK K)) : upK Try.prog (sCall F_disk_Disk_ends #[d0]) w K :=
  up_call (fn := Try.f43) Try.func43 (by kernel_rfl) (by kernel_rfl) h

/-- (*errata/disk.Disk).may -/
def disk_Disk_may.pt (d0 f1 : Value) (w : World) (K : Value → World → Prop) : Prop :=
  pureK Try.prog (sNil d0) fun t7 =>
  pureK Try.prog (sFieldAddr T_disk_Disk t7 4) fun t8 =>
  readK Try.prog (sLoad T_bool t8) w fun t9 =>
  ifB t9
  (K (.int .i64 9) w)
  (pureK Try.prog (sBin .lss T_int (.tmp 11) (.const (.int .i64 0)) f1 (.int .i64 0)) fun t12 =>
   ifB t12
   (K (.int .i64 1) w)
   (pureK Try.prog (sBin .geq T_int (.tmp 14) (.const (.int .i64 16)) f1 (.int .i64 16)) fun t15 =>
    ifB t15
    (K (.int .i64 1) w)
    (K (.int .i64 0) w)))
theorem disk_Disk_may.pt_eq : disk_Disk_may.pt = fun d0 f1 w K => FN Try.prog Try.f44 (bodyOf Try.f44) [4] .leaf [d0, f1] w K := by kernel_rfl
theorem disk_Disk_may.call {d0 f1 : Value} {w : World} {K : Value → World → Prop} (h : disk_Disk_may.pt d0 f1 w K) : Calls Try.prog F_disk_Disk_may #[d0, f1] w (retK K) :=
  calls_FN (args := [d0, f1]) Try.func44 (by kernel_rfl) (by rw [disk_Disk_may.pt_eq] at h; exact h)
theorem disk_Disk_may.up {d0 f1 : Value} {w : World} {K : Value → World → Prop} (h : Calls Try.prog F_disk_Disk_may #[d0, f1] w (retK K)) : upK Try.prog (sCall F_disk_Disk_may #[d0, f1]) w K :=
  up_call (fn := Try.f44) Try.func44 (by kernel_rfl) (by kernel_rfl) h

/-- (*errata/disk.Disk).settle -/
def disk_Disk_settle.pt (d0 f1 s2 : Value) (w : World) (K : Value → World → Prop) : Prop :=
  upK Try.prog (sBox T_int f1) w fun f4 w1 =>
  pureK Try.prog (sNil d0) fun t7 =>
  pureK Try.prog (sFieldAddr T_disk_Disk t7 0) fun t8 =>
  readK Try.prog (sLoad T_map_int_disk_file t8) (tick w1) fun t9 =>
  readK Try.prog (sLoad T_int f4) (tick w1) fun t10 =>
  pureK Try.prog (sBuild T_disk_file #[(0, s2), (1, s2)]) fun t13 =>
  upK Try.prog (sMapUpd T_map_int_disk_file t9 t10 t13) (tick w1) fun tu w2 =>
  pureK Try.prog (sNil d0) fun t16 =>
  pureK Try.prog (sFieldAddr T_disk_Disk t16 1) fun t17 =>
  readK Try.prog (sLoad T_s_disk_sector t17) w2 fun t18 =>
  pureK Try.prog (sMkFunc (.func F_disk_Disk_settle_1) #[] #[f4]) fun t19 =>
  upK Try.prog (sCall F_slices_DeleteFunc_s_disk_sector_disk_sector #[t18, t19]) w2 fun t20 w3 =>
  pureK Try.prog (sNil d0) fun t21 =>
  pureK Try.prog (sFieldAddr T_disk_Disk t21 1) fun t22 =>
  upK Try.prog (sStore T_s_disk_sector t22 t20) w3 fun tu_1 w4 =>
  pureK Try.prog (sNil d0) fun t24 =>
  pureK Try.prog (sFieldAddr T_disk_Disk t24 2) fun t25 =>
  readK Try.prog (sLoad T_map_disk_sector_bool t25) w4 fun t26 =>
  pureK Try.prog (sMkFunc (.func F_disk_Disk_settle_2) #[] #[f4]) fun t27 =>
  upK Try.prog (sCall F_maps_DeleteFunc_map_disk_sector_bool_disk_sector_bool #[t26, t27]) w4 fun t28 w5 =>
  K (.tuple #[]) w5
theorem disk_Disk_settle.pt_eq : disk_Disk_settle.pt = fun d0 f1 s2 w K => FN Try.prog Try.f45 (bodyOf Try.f45) [] .leaf [d0, f1, s2] w K := by kernel_rfl
theorem disk_Disk_settle.call {d0 f1 s2 : Value} {w : World} {K : Value → World → Prop} (h : disk_Disk_settle.pt d0 f1 s2 w K) : Calls Try.prog F_disk_Disk_settle #[d0, f1, s2] w (retK K) :=
  calls_FN (args := [d0, f1, s2]) Try.func45 (by kernel_rfl) (by rw [disk_Disk_settle.pt_eq] at h; exact h)
theorem disk_Disk_settle.up {d0 f1 s2 : Value} {w : World} {K : Value → World → Prop} (h : Calls Try.prog F_disk_Disk_settle #[d0, f1, s2] w (retK K)) : upK Try.prog (sCall F_disk_Disk_settle #[d0, f1, s2]) w K :=
  up_call (fn := Try.f45) Try.func45 (by kernel_rfl) (by kernel_rfl) h

/-- (*errata/errataref04.Disk).may -/
def errataref04_Disk_may.pt (d0 f1 : Value) (w : World) (K : Value → World → Prop) : Prop :=
  pureK Try.prog (sNil d0) fun t6 =>
  pureK Try.prog (sFieldAddr T_errataref04_Disk t6 3) fun t7 =>
  readK Try.prog (sLoad T_bool t7) w fun t8 =>
  ifB t8
  (K (.int .i64 9) w)
  (pureK Try.prog (sBin .lss T_int (.tmp 9) (.const (.int .i64 0)) f1 (.int .i64 0)) fun t10 =>
   ifB t10
   (K (.int .i64 1) w)
   (pureK Try.prog (sBin .gtr T_int (.tmp 12) (.const (.int .i64 15)) f1 (.int .i64 15)) fun t13 =>
    ifB t13
    (K (.int .i64 1) w)
    (K (.int .i64 0) w)))
theorem errataref04_Disk_may.pt_eq : errataref04_Disk_may.pt = fun d0 f1 w K => FN Try.prog Try.f46 (bodyOf Try.f46) [4] .leaf [d0, f1] w K := by kernel_rfl
theorem errataref04_Disk_may.call {d0 f1 : Value} {w : World} {K : Value → World → Prop} (h : errataref04_Disk_may.pt d0 f1 w K) : Calls Try.prog F_errataref04_Disk_may #[d0, f1] w (retK K) :=
  calls_FN (args := [d0, f1]) Try.func46 (by kernel_rfl) (by rw [errataref04_Disk_may.pt_eq] at h; exact h)
theorem errataref04_Disk_may.up {d0 f1 : Value} {w : World} {K : Value → World → Prop} (h : Calls Try.prog F_errataref04_Disk_may #[d0, f1] w (retK K)) : upK Try.prog (sCall F_errataref04_Disk_may #[d0, f1]) w K :=
  up_call (fn := Try.f46) Try.func46 (by kernel_rfl) (by kernel_rfl) h

end Go.Proofs.Ytoldlajahoodjaa
