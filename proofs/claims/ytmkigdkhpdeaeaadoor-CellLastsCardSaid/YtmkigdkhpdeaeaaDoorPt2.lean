/-
  The reckoned conditions of the functions that this seat's statements reach, printed by program, each held against the translation by the kernel. No condition.
-/
import Derived.Test.YtmkigdkhpdeaeaaDoorNames
namespace Go.Proofs.YtmkigdkhpdeaeaaDoor
set_option linter.unusedVariables false
abbrev F_erratalaw05_CellStays : FuncId := 4
abbrev F_erratalaw05_CellLasts : FuncId := 6
abbrev F_erratalaw05_CellTells : FuncId := 7

/-- errata/erratalaw05.CellStays -/
def erratalaw05_CellStays.pt (l0 s1 one2 two3 : Value) (w : World) (K : Value → World → Prop) : Prop :=
  upK Tryd.prog (sCall F_erratalaw05_small #[]) w fun t22 w1 =>
  upK Tryd.prog (sCall F_erratalaw05_few #[l0]) w1 fun t24 w2 =>
  pureK Tryd.prog (sUn .not t24) fun t26 =>
  ifB t26
  (K t22 w2)
  (readK Tryd.prog (sBlt .len #[T_string] T_int #[false] #[s1]) w2 fun t29 =>
   pureK Tryd.prog (sBin .gtr T_int (.tmp 29) (.const (.int .i64 400)) t29 (.int .i64 400)) fun t30 =>
   ifB t30
   (K t22 w2)
   (readK Tryd.prog (sBlt .len #[T_s_int] T_int #[false] #[one2]) w2 fun t34 =>
    pureK Tryd.prog (sBin .gtr T_int (.tmp 34) (.const (.int .i64 100)) t34 (.int .i64 100)) fun t35 =>
    ifB t35
    (K t22 w2)
    (readK Tryd.prog (sBlt .len #[T_s_int] T_int #[false] #[two3]) w2 fun t39 =>
     pureK Tryd.prog (sBin .gtr T_int (.tmp 39) (.const (.int .i64 100)) t39 (.int .i64 100)) fun t40 =>
     ifB t40
     (K t22 w2)
     (upK Tryd.prog (sCall F_disk_New #[]) w2 fun t43 w3 =>
      upK Tryd.prog (sCall F_cell_Open #[t43, (.int .i64 3)]) w3 fun t46 w4 =>
      pureK Tryd.prog (sExtract t46 0) fun t47 =>
      pureK Tryd.prog (sExtract t46 1) fun t48 =>
      pureK Tryd.prog (sBin .eql T_p_disk_Disk (.tmp 49) (.const (.pointer none)) t43 (.pointer none)) fun t50 =>
      ifB t50
      (K (.bool false) w4)
      (pureK Tryd.prog (sBin .eql T_p_cell_Cell (.tmp 52) (.const (.pointer none)) t47 (.pointer none)) fun t53 =>
       ifB t53
       (K (.bool false) w4)
       (pureK Tryd.prog (sBin .neq T_api_Errno (.tmp 56) (.const (.int .i64 0)) t48 (.int .i64 0)) fun t57 =>
        ifB t57
        (K (.bool false) w4)
        (LOOP (X := Value × Value × Value × Unit) (fun x5 w5 next5 =>
          readK Tryd.prog (sBlt .len #[T_s_errataref05_Op] T_int #[false] #[l0]) w5 fun t61 =>
          pureK Tryd.prog (sBin .lss T_int (.tmp 59) (.tmp 61) x5.2.2.1 t61) fun t62 =>
          ifB t62
          (LETJ (X := Value × Value × Unit) (fun y1 w6 =>
            pureK Tryd.prog (sBin .add T_int (.tmp 63) (.const (.int .i64 1)) x5.2.2.1 (.int .i64 1)) fun t64 =>
            next5 (y1.1, y1.2.1, t64, ()) w6)
           (fun J1 =>
            pureK Tryd.prog (sIdxAddr T_s_errataref05_Op l0 x5.2.2.1) fun t67 =>
            pureK Tryd.prog (sFieldAddr T_errataref05_Op t67 0) fun t68 =>
            readK Tryd.prog (sLoad T_int t68) w5 fun t69 =>
            pureK Tryd.prog (sBin .eql T_int (.tmp 69) (.const (.int .i64 0)) t69 (.int .i64 0)) fun t71 =>
            ifB t71
            (pureK Tryd.prog (sIdxAddr T_s_errataref05_Op l0 x5.2.2.1) fun t75 =>
             pureK Tryd.prog (sFieldAddr T_errataref05_Op t75 1) fun t76 =>
             readK Tryd.prog (sLoad T_string t76) w5 fun t77 =>
             upK Tryd.prog (sCall F_cell_Cell_Set #[x5.1, t77]) w5 fun t78 w7 =>
             J1 (x5.1, x5.2.1, ()) w7)
            (pureK Tryd.prog (sBin .eql T_int (.tmp 69) (.const (.int .i64 1)) t69 (.int .i64 1)) fun t80 =>
             ifB t80
             (pureK Tryd.prog (sIdxAddr T_s_errataref05_Op l0 x5.2.2.1) fun t84 =>
              pureK Tryd.prog (sFieldAddr T_errataref05_Op t84 2) fun t85 =>
              readK Tryd.prog (sLoad T_int t85) w5 fun t86 =>
              upK Tryd.prog (sCall F_disk_Disk_Lose #[t43, t86]) w5 fun t87 w8 =>
              J1 (x5.1, x5.2.1, ()) w8)
             (pureK Tryd.prog (sBin .eql T_int (.tmp 69) (.const (.int .i64 3)) t69 (.int .i64 3)) fun t89 =>
              ifB t89
              (pureK Tryd.prog (sIdxAddr T_s_errataref05_Op l0 x5.2.2.1) fun t94 =>
               pureK Tryd.prog (sFieldAddr T_errataref05_Op t94 3) fun t95 =>
               readK Tryd.prog (sLoad T_s_int t95) w5 fun t96 =>
               upK Tryd.prog (sCall F_erratalaw05_again #[t43, t96]) w5 fun t97 w9 =>
               pureK Tryd.prog (sExtract t97 0) fun t98 =>
               pureK Tryd.prog (sExtract t97 1) fun t99 =>
               pureK Tryd.prog (sBin .eql T_p_cell_Cell (.tmp 100) (.const (.pointer none)) t98 (.pointer none)) fun t101 =>
               ifB t101
               (K (.bool false) w9)
               (pureK Tryd.prog (sBin .neq T_api_Errno (.tmp 103) (.const (.int .i64 0)) t99 (.int .i64 0)) fun t104 =>
                ifB t104
                (K (.bool false) w9)
                (J1 (t98, t99, ()) w9)))
              (J1 (x5.1, x5.2.1, ()) w5)))))
          (upK Tryd.prog (sCall F_cell_Cell_Set #[x5.1, s1]) w5 fun t108 w10 =>
           pureK Tryd.prog (sBin .neq T_api_Errno (.tmp 108) (.const (.int .i64 0)) t108 (.int .i64 0)) fun t109 =>
           ifB t109
           (K t22 w10)
           (upK Tryd.prog (sMkSlice T_s_uint8 (.int .i64 65537) (.int .i64 65537)) w10 fun t111 w11 =>
            upK Tryd.prog (sConv T_s_uint8 T_string t111) w11 fun t112 w12 =>
            upK Tryd.prog (sCall F_cell_Cell_Set #[x5.1, t112]) w12 fun t115 w13 =>
            pureK Tryd.prog (sBin .neq T_api_Errno (.tmp 115) (.const (.int .i64 6)) t115 (.int .i64 6)) fun t116 =>
            ifB t116
            (K (.bool false) w13)
            (LOOP (X := Value × Value × Value × Unit) (fun x14 w14 next14 =>
              pureK Tryd.prog (sBin .lss T_int (.tmp 117) (.const (.int .i64 2)) x14.2.2.1 (.int .i64 2)) fun t118 =>
              ifB t118
              (upK Tryd.prog (sCall F_cell_Cell_Get #[x14.1]) w14 fun t123 w15 =>
               pureK Tryd.prog (sExtract t123 0) fun t124 =>
               pureK Tryd.prog (sExtract t123 1) fun t125 =>
               pureK Tryd.prog (sBin .neq T_string (.tmp 126) (.tmp 127) t124 s1) fun t128 =>
               ifB t128
               (K (.bool false) w15)
               (pureK Tryd.prog (sUn .not t125) fun t131 =>
                ifB t131
                (K (.bool false) w15)
                (LETJ (X := Value × Unit) (fun y2 w16 =>
                  upK Tryd.prog (sCall F_erratalaw05_again #[t43, y2.1]) w16 fun t140 w17 =>
                  pureK Tryd.prog (sExtract t140 0) fun t141 =>
                  pureK Tryd.prog (sExtract t140 1) fun t142 =>
                  pureK Tryd.prog (sBin .eql T_p_cell_Cell (.tmp 143) (.const (.pointer none)) t141 (.pointer none)) fun t144 =>
                  ifB t144
                  (K (.bool false) w17)
                  (pureK Tryd.prog (sBin .neq T_api_Errno (.tmp 146) (.const (.int .i64 0)) t142 (.int .i64 0)) fun t147 =>
                   ifB t147
                   (K (.bool false) w17)
                   (pureK Tryd.prog (sBin .add T_int (.tmp 119) (.const (.int .i64 1)) x14.2.2.1 (.int .i64 1)) fun t120 =>
                    next14 (t141, t142, t120, ()) w17)))
                 (fun J2 =>
                  pureK Tryd.prog (sBin .eql T_int (.tmp 134) (.const (.int .i64 1)) x14.2.2.1 (.int .i64 1)) fun t135 =>
                  ifB t135
                  (J2 (two3, ()) w15)
                  (J2 (one2, ()) w15)))))
              (upK Tryd.prog (sCall F_cell_Cell_Get #[x14.1]) w14 fun t151 w18 =>
               pureK Tryd.prog (sExtract t151 0) fun t152 =>
               pureK Tryd.prog (sExtract t151 1) fun t153 =>
               ifB t22
               (pureK Tryd.prog (sBin .eql T_string (.tmp 156) (.tmp 157) t152 s1) fun t158 =>
                ifB t158
                (K t153 w18)
                (K (.bool false) w18))
               (K (.bool false) w18)))
             (x5.1, x5.2.1, (.int .i64 0), ()) w13))))
         (t47, t48, (.int .i64 0), ()) w4)))))))
theorem erratalaw05_CellStays.pt_eq : erratalaw05_CellStays.pt = fun l0 s1 one2 two3 w K => FN Tryd.prog Tryd.f4 (bodyOf Tryd.f4) [8] (.node none .leaf (.node none .leaf (.node none .leaf (.node none .leaf (.node none .leaf (.node none .leaf (.node none .leaf (.node none (.node none .leaf (.node none (.node none (.node none .leaf (.node (some [12, 13]) .leaf .leaf)) .leaf) .leaf)) (.node none .leaf (.node none .leaf (.node none .leaf (.node none (.node none .leaf (.node none (.node none (.node none .leaf (.node none (.node none (.node none .leaf (.node none .leaf (.node none .leaf (.node (some [19]) .leaf .leaf)))) .leaf) .leaf)) .leaf) .leaf)) .leaf)))))))))))) [l0, s1, one2, two3] w K := by kernel_rfl
theorem erratalaw05_CellStays.call {l0 s1 one2 two3 : Value} {w : World} {K : Value → World → Prop} (h : erratalaw05_CellStays.pt l0 s1 one2 two3 w K) : Calls Tryd.prog F_erratalaw05_CellStays #[l0, s1, one2, two3] w (retK K) :=
  calls_FN (args := [l0, s1, one2, two3]) Tryd.func4 (by kernel_rfl) (by rw [erratalaw05_CellStays.pt_eq] at h; exact h)
theorem erratalaw05_CellStays.up {l0 s1 one2 two3 : Value} {w : World} {K : Value → World → Prop} (h : Calls Tryd.prog F_erratalaw05_CellStays #[l0, s1, one2, two3] w (retK K)) : upK Tryd.prog (sCall F_erratalaw05_CellStays #[l0, s1, one2, two3]) w K :=
  up_call (fn := Tryd.f4) Tryd.func4 (by kernel_rfl) (by kernel_rfl) h

/-- errata/erratalaw05.CellLasts -/
def erratalaw05_CellLasts.pt (l0 keep1 : Value) (w : World) (K : Value → World → Prop) : Prop :=
  upK Tryd.prog (sCall F_erratalaw05_small #[]) w fun t16 w1 =>
  upK Tryd.prog (sCall F_erratalaw05_few #[l0]) w1 fun t18 w2 =>
  pureK Tryd.prog (sUn .not t18) fun t20 =>
  ifB t20
  (K t16 w2)
  (readK Tryd.prog (sBlt .len #[T_s_int] T_int #[false] #[keep1]) w2 fun t23 =>
   pureK Tryd.prog (sBin .gtr T_int (.tmp 23) (.const (.int .i64 100)) t23 (.int .i64 100)) fun t24 =>
   ifB t24
   (K t16 w2)
   (upK Tryd.prog (sCall F_disk_New #[]) w2 fun t27 w3 =>
    upK Tryd.prog (sCall F_cell_Open #[t27, (.int .i64 3)]) w3 fun t30 w4 =>
    pureK Tryd.prog (sExtract t30 0) fun t31 =>
    pureK Tryd.prog (sExtract t30 1) fun t32 =>
    pureK Tryd.prog (sBin .eql T_p_disk_Disk (.tmp 33) (.const (.pointer none)) t27 (.pointer none)) fun t34 =>
    ifB t34
    (K (.bool false) w4)
    (pureK Tryd.prog (sBin .eql T_p_cell_Cell (.tmp 36) (.const (.pointer none)) t31 (.pointer none)) fun t37 =>
     ifB t37
     (K (.bool false) w4)
     (pureK Tryd.prog (sBin .neq T_api_Errno (.tmp 40) (.const (.int .i64 0)) t32 (.int .i64 0)) fun t41 =>
      ifB t41
      (K (.bool false) w4)
      (LOOP (X := Value × Value × Value × Value × Value × Unit) (fun x5 w5 next5 =>
        readK Tryd.prog (sBlt .len #[T_s_errataref05_Op] T_int #[false] #[l0]) w5 fun t45 =>
        pureK Tryd.prog (sBin .leq T_int (.tmp 43) (.tmp 45) x5.2.2.2.2.1 t45) fun t46 =>
        ifB t46
        (LETJ (X := Value × Value × Value × Value × Unit) (fun y1 w6 =>
          pureK Tryd.prog (sBin .add T_int (.tmp 47) (.const (.int .i64 1)) x5.2.2.2.2.1 (.int .i64 1)) fun t48 =>
          next5 (y1.1, y1.2.1, y1.2.2.1, y1.2.2.2.1, t48, ()) w6)
         (fun J1 =>
          pureK Tryd.prog (sBuild T_errataref05_Op #[(0, (.int .i64 3)), (3, keep1)]) fun t50 =>
          upK Tryd.prog (sAlloc T_errataref05_Op) w5 fun o13 w7 =>
          upK Tryd.prog (sStore T_errataref05_Op o13 t50) w7 fun tu w8 =>
          LETJ (X := Unit) (fun y2 w9 =>
           pureK Tryd.prog (sFieldAddr T_errataref05_Op o13 0) fun t59 =>
           readK Tryd.prog (sLoad T_int t59) w9 fun t60 =>
           pureK Tryd.prog (sBin .eql T_int (.tmp 60) (.const (.int .i64 0)) t60 (.int .i64 0)) fun t62 =>
           ifB t62
           (pureK Tryd.prog (sFieldAddr T_errataref05_Op o13 1) fun t64 =>
            readK Tryd.prog (sLoad T_string t64) w9 fun t65 =>
            upK Tryd.prog (sCall F_cell_Cell_Set #[x5.2.2.2.1, t65]) w9 fun t66 w10 =>
            LETJ (X := Value × Value × Unit) (fun y3 w11 =>
             pureK Tryd.prog (sFieldAddr T_errataref05_Op o13 1) fun t70 =>
             readK Tryd.prog (sLoad T_string t70) w11 fun t71 =>
             upK Tryd.prog (sBuildSlice T_s_string 1 #[(0, t71)]) w11 fun t72 w12 =>
             upK Tryd.prog (sBlt .append #[T_s_string, T_s_string] T_s_string #[false, false] #[y3.1, t72]) w12 fun t73 w13 =>
             J1 (t66, t73, y3.2.1, x5.2.2.2.1, ()) w13)
            (fun J3 =>
             pureK Tryd.prog (sBin .eql T_api_Errno (.tmp 67) (.const (.int .i64 0)) t66 (.int .i64 0)) fun t68 =>
             ifB t68
             (J3 ((.slice none 0 0), (.bool false), ()) w10)
             (J3 (x5.2.1, x5.2.2.1, ()) w10)))
           (pureK Tryd.prog (sBin .eql T_int (.tmp 60) (.const (.int .i64 1)) t60 (.int .i64 1)) fun t75 =>
            ifB t75
            (pureK Tryd.prog (sFieldAddr T_errataref05_Op o13 2) fun t77 =>
             readK Tryd.prog (sLoad T_int t77) w9 fun t78 =>
             upK Tryd.prog (sCall F_disk_Disk_Lose #[t27, t78]) w9 fun t79 w14 =>
             J1 (x5.1, x5.2.1, x5.2.2.1, x5.2.2.2.1, ()) w14)
            (pureK Tryd.prog (sBin .eql T_int (.tmp 60) (.const (.int .i64 2)) t60 (.int .i64 2)) fun t81 =>
             ifB t81
             (pureK Tryd.prog (sFieldAddr T_errataref05_Op o13 2) fun t83 =>
              readK Tryd.prog (sLoad T_int t83) w9 fun t84 =>
              pureK Tryd.prog (sFieldAddr T_errataref05_Op o13 3) fun t85 =>
              readK Tryd.prog (sLoad T_s_int t85) w9 fun t86 =>
              upK Tryd.prog (sCall F_disk_Disk_Arm #[t27, t84, t86]) w9 fun t87 w15 =>
              J1 (x5.1, x5.2.1, x5.2.2.1, x5.2.2.2.1, ()) w15)
             (pureK Tryd.prog (sBin .eql T_int (.tmp 60) (.const (.int .i64 3)) t60 (.int .i64 3)) fun t89 =>
              ifB t89
              (pureK Tryd.prog (sFieldAddr T_errataref05_Op o13 3) fun t92 =>
               readK Tryd.prog (sLoad T_s_int t92) w9 fun t93 =>
               upK Tryd.prog (sCall F_erratalaw05_again #[t27, t93]) w9 fun t94 w16 =>
               pureK Tryd.prog (sExtract t94 0) fun t95 =>
               pureK Tryd.prog (sExtract t94 1) fun t96 =>
               pureK Tryd.prog (sBin .eql T_p_cell_Cell (.tmp 97) (.const (.pointer none)) t95 (.pointer none)) fun t98 =>
               ifB t98
               (K (.bool false) w16)
               (pureK Tryd.prog (sBin .neq T_api_Errno (.tmp 100) (.const (.int .i64 0)) t96 (.int .i64 0)) fun t101 =>
                ifB t101
                (K (.bool false) w16)
                (upK Tryd.prog (sCall F_cell_Cell_Get #[t95]) w16 fun t105 w17 =>
                 pureK Tryd.prog (sExtract t105 0) fun t106 =>
                 pureK Tryd.prog (sExtract t105 1) fun t107 =>
                 LETJ (X := Unit) (fun y4 w18 =>
                  ifB t107
                  (upK Tryd.prog (sBuildSlice T_s_string 1 #[(0, t106)]) w18 fun t125 w19 =>
                   J1 (t96, t125, (.bool false), t95, ()) w19)
                  (J1 (t96, (.slice none 0 0), x5.2.2.1, t95, ()) w18))
                 (fun J4 =>
                  pureK Tryd.prog (sUn .not t107) fun t109 =>
                  ifB t109
                  (pureK Tryd.prog (sUn .not x5.2.2.1) fun t112 =>
                   ifB t112
                   (K (.bool false) w17)
                   (ifB t107
                    (upK Tryd.prog (sCall F_erratalaw05_has #[x5.2.1, t106]) w17 fun t119 w20 =>
                     pureK Tryd.prog (sUn .not t119) fun t120 =>
                     ifB t120
                     (K (.bool false) w20)
                     (J4 (()) w20))
                    (J4 (()) w17)))
                  (ifB t107
                   (upK Tryd.prog (sCall F_erratalaw05_has #[x5.2.1, t106]) w17 fun t119_1 w21 =>
                    pureK Tryd.prog (sUn .not t119_1) fun t120_1 =>
                    ifB t120_1
                    (K (.bool false) w21)
                    (J4 (()) w21))
                   (J4 (()) w17))))))
              (J1 (x5.1, x5.2.1, x5.2.2.1, x5.2.2.2.1, ()) w9)))))
          (fun J2 =>
           readK Tryd.prog (sBlt .len #[T_s_errataref05_Op] T_int #[false] #[l0]) w8 fun t53 =>
           pureK Tryd.prog (sBin .lss T_int (.tmp 51) (.tmp 53) x5.2.2.2.2.1 t53) fun t54 =>
           ifB t54
           (pureK Tryd.prog (sIdxAddr T_s_errataref05_Op l0 x5.2.2.2.2.1) fun t57 =>
            readK Tryd.prog (sLoad T_errataref05_Op t57) w8 fun t58 =>
            upK Tryd.prog (sStore T_errataref05_Op o13 t58) w8 fun tu_1 w22 =>
            J2 (()) w22)
           (J2 (()) w8))))
        (K t16 w5))
       (t32, (.slice none 0 0), (.bool true), t31, (.int .i64 0), ()) w4)))))
theorem erratalaw05_CellLasts.pt_eq : erratalaw05_CellLasts.pt = fun l0 keep1 w K => FN Tryd.prog Tryd.f6 (bodyOf Tryd.f6) [4] (.node none .leaf (.node none .leaf (.node none .leaf (.node none .leaf (.node none .leaf (.node none .leaf (.node none .leaf (.node none .leaf (.node none .leaf (.node none (.node none .leaf (.node none (.node none (.node none .leaf (.node (some [9, 10, 11, 8]) (.node none (.node none .leaf (.node (some []) .leaf (.node none .leaf (.node none (.node none .leaf (.node none (.node none .leaf (.node (some [10, 11]) .leaf .leaf)) (.node none .leaf (.node none .leaf (.node none .leaf (.node none .leaf (.node none .leaf (.node none (.node none .leaf (.node none .leaf (.node none .leaf (.node (some []) .leaf .leaf)))) .leaf)))))))) .leaf)))) .leaf) .leaf)) .leaf) .leaf)) .leaf)))))))))) [l0, keep1] w K := by kernel_rfl
theorem erratalaw05_CellLasts.call {l0 keep1 : Value} {w : World} {K : Value → World → Prop} (h : erratalaw05_CellLasts.pt l0 keep1 w K) : Calls Tryd.prog F_erratalaw05_CellLasts #[l0, keep1] w (retK K) :=
  calls_FN (args := [l0, keep1]) Tryd.func6 (by kernel_rfl) (by rw [erratalaw05_CellLasts.pt_eq] at h; exact h)
theorem erratalaw05_CellLasts.up {l0 keep1 : Value} {w : World} {K : Value → World → Prop} (h : Calls Tryd.prog F_erratalaw05_CellLasts #[l0, keep1] w (retK K)) : upK Tryd.prog (sCall F_erratalaw05_CellLasts #[l0, keep1]) w K :=
  up_call (fn := Tryd.f6) Tryd.func6 (by kernel_rfl) (by kernel_rfl) h

/-- errata/erratalaw05.CellTells -/
def erratalaw05_CellTells.pt (l0 : Value) (w : World) (K : Value → World → Prop) : Prop :=
  upK Tryd.prog (sCall F_erratalaw05_small #[]) w fun t22 w1 =>
  upK Tryd.prog (sCall F_erratalaw05_few #[l0]) w1 fun t24 w2 =>
  pureK Tryd.prog (sUn .not t24) fun t26 =>
  ifB t26
  (K t22 w2)
  (upK Tryd.prog (sCall F_disk_New #[]) w2 fun t28 w3 =>
   upK Tryd.prog (sCall F_errataref04_New #[]) w3 fun t29 w4 =>
   upK Tryd.prog (sCall F_cell_Open #[t28, (.int .i64 3)]) w4 fun t32 w5 =>
   pureK Tryd.prog (sExtract t32 0) fun t33 =>
   pureK Tryd.prog (sExtract t32 1) fun t34 =>
   upK Tryd.prog (sCall F_errataref05_Open #[t29, (.int .i64 3)]) w5 fun t37 w6 =>
   pureK Tryd.prog (sExtract t37 0) fun t38 =>
   pureK Tryd.prog (sExtract t37 1) fun t39 =>
   pureK Tryd.prog (sBin .eql T_p_disk_Disk (.tmp 40) (.const (.pointer none)) t28 (.pointer none)) fun t41 =>
   ifB t41
   (K (.bool false) w6)
   (pureK Tryd.prog (sBin .neq T_api_Errno (.tmp 43) (.const (.int .i64 0)) t34 (.int .i64 0)) fun t44 =>
    ifB t44
    (K (.bool false) w6)
    (pureK Tryd.prog (sBin .neq T_api_Errno (.tmp 47) (.const (.int .i64 0)) t39 (.int .i64 0)) fun t48 =>
     ifB t48
     (K (.bool false) w6)
     (pureK Tryd.prog (sBin .eql T_p_cell_Cell (.tmp 51) (.const (.pointer none)) t33 (.pointer none)) fun t52 =>
      ifB t52
      (K (.bool false) w6)
      (pureK Tryd.prog (sBin .eql T_p_errataref05_Cell (.tmp 55) (.const (.pointer none)) t38 (.pointer none)) fun t56 =>
       ifB t56
       (K (.bool false) w6)
       (LOOP (X := Value × Value × Value × Value × Value × Unit) (fun x7 w7 next7 =>
         readK Tryd.prog (sBlt .len #[T_s_errataref05_Op] T_int #[false] #[l0]) w7 fun t60 =>
         pureK Tryd.prog (sBin .lss T_int (.tmp 58) (.tmp 60) x7.2.2.2.2.1 t60) fun t61 =>
         ifB t61
         (pureK Tryd.prog (sIdxAddr T_s_errataref05_Op l0 x7.2.2.2.2.1) fun t66 =>
          readK Tryd.prog (sLoad T_errataref05_Op t66) w7 fun t67 =>
          upK Tryd.prog (sAlloc T_errataref05_Op) w7 fun o12 w8 =>
          upK Tryd.prog (sStore T_errataref05_Op o12 t67) w8 fun tu w9 =>
          LETJ (X := Value × Value × Value × Value × Unit) (fun y1 w10 =>
           upK Tryd.prog (sCall F_cell_Cell_Get #[y1.1]) w10 fun t138 w11 =>
           pureK Tryd.prog (sExtract t138 0) fun t139 =>
           pureK Tryd.prog (sExtract t138 1) fun t140 =>
           upK Tryd.prog (sCall F_errataref05_Cell_Get #[y1.2.2.1]) w11 fun t143 w12 =>
           pureK Tryd.prog (sExtract t143 0) fun t144 =>
           pureK Tryd.prog (sExtract t143 1) fun t145 =>
           pureK Tryd.prog (sBin .neq T_string (.tmp 146) (.tmp 147) t139 t144) fun t148 =>
           ifB t148
           (K (.bool false) w12)
           (pureK Tryd.prog (sBin .neq T_bool (.tmp 150) (.tmp 151) t140 t145) fun t152 =>
            ifB t152
            (K (.bool false) w12)
            (pureK Tryd.prog (sBin .add T_int (.tmp 62) (.const (.int .i64 1)) x7.2.2.2.2.1 (.int .i64 1)) fun t63 =>
             next7 (y1.1, y1.2.1, y1.2.2.1, y1.2.2.2.1, t63, ()) w12)))
          (fun J1 =>
           pureK Tryd.prog (sFieldAddr T_errataref05_Op o12 0) fun t68 =>
           readK Tryd.prog (sLoad T_int t68) w9 fun t69 =>
           pureK Tryd.prog (sBin .eql T_int (.tmp 69) (.const (.int .i64 0)) t69 (.int .i64 0)) fun t71 =>
           ifB t71
           (pureK Tryd.prog (sFieldAddr T_errataref05_Op o12 1) fun t73 =>
            readK Tryd.prog (sLoad T_string t73) (tick w9) fun t74 =>
            pureK Tryd.prog (sFieldAddr T_errataref05_Op o12 1) fun t77 =>
            readK Tryd.prog (sLoad T_string t77) (tick w9) fun t78 =>
            upK Tryd.prog (sCall F_cell_Cell_Set #[x7.1, t74]) (tick w9) fun t75 w13 =>
            Is Tryd.prog (sLoad T_string t77) t78 w13 ∧ upK Tryd.prog (sCall F_errataref05_Cell_Set #[x7.2.2.1, t78]) w13 fun t79 w14 =>
            pureK Tryd.prog (sBin .neq T_api_Errno (.tmp 75) (.tmp 79) t75 t79) fun t80 =>
            ifB t80
            (K (.bool false) w14)
            (J1 (x7.1, x7.2.1, x7.2.2.1, x7.2.2.2.1, ()) w14))
           (pureK Tryd.prog (sBin .eql T_int (.tmp 69) (.const (.int .i64 1)) t69 (.int .i64 1)) fun t82 =>
            ifB t82
            (pureK Tryd.prog (sFieldAddr T_errataref05_Op o12 2) fun t84 =>
             readK Tryd.prog (sLoad T_int t84) w9 fun t85 =>
             upK Tryd.prog (sCall F_disk_Disk_Lose #[t28, t85]) w9 fun t86 w15 =>
             pureK Tryd.prog (sFieldAddr T_errataref05_Op o12 2) fun t88 =>
             readK Tryd.prog (sLoad T_int t88) w15 fun t89 =>
             upK Tryd.prog (sCall F_errataref04_Disk_Lose #[t29, t89]) w15 fun t90 w16 =>
             J1 (x7.1, x7.2.1, x7.2.2.1, x7.2.2.2.1, ()) w16)
            (pureK Tryd.prog (sBin .eql T_int (.tmp 69) (.const (.int .i64 2)) t69 (.int .i64 2)) fun t92 =>
             ifB t92
             (pureK Tryd.prog (sFieldAddr T_errataref05_Op o12 2) fun t94 =>
              readK Tryd.prog (sLoad T_int t94) w9 fun t95 =>
              pureK Tryd.prog (sFieldAddr T_errataref05_Op o12 3) fun t96 =>
              readK Tryd.prog (sLoad T_s_int t96) w9 fun t97 =>
              upK Tryd.prog (sCall F_disk_Disk_Arm #[t28, t95, t97]) w9 fun t98 w17 =>
              pureK Tryd.prog (sFieldAddr T_errataref05_Op o12 2) fun t100 =>
              readK Tryd.prog (sLoad T_int t100) w17 fun t101 =>
              pureK Tryd.prog (sFieldAddr T_errataref05_Op o12 3) fun t102 =>
              readK Tryd.prog (sLoad T_s_int t102) w17 fun t103 =>
              upK Tryd.prog (sCall F_errataref04_Disk_Arm #[t29, t101, t103]) w17 fun t104 w18 =>
              J1 (x7.1, x7.2.1, x7.2.2.1, x7.2.2.2.1, ()) w18)
             (pureK Tryd.prog (sBin .eql T_int (.tmp 69) (.const (.int .i64 3)) t69 (.int .i64 3)) fun t106 =>
              ifB t106
              (pureK Tryd.prog (sFieldAddr T_errataref05_Op o12 3) fun t109 =>
               readK Tryd.prog (sLoad T_s_int t109) w9 fun t110 =>
               upK Tryd.prog (sCall F_erratalaw05_again #[t28, t110]) w9 fun t111 w19 =>
               pureK Tryd.prog (sExtract t111 0) fun t112 =>
               pureK Tryd.prog (sExtract t111 1) fun t113 =>
               pureK Tryd.prog (sFieldAddr T_errataref05_Op o12 3) fun t115 =>
               readK Tryd.prog (sLoad T_s_int t115) w19 fun t116 =>
               upK Tryd.prog (sCall F_errataref04_Disk_Crash #[t29, t116]) w19 fun t117 w20 =>
               upK Tryd.prog (sCall F_errataref04_Disk_Start #[t29]) w20 fun t119 w21 =>
               upK Tryd.prog (sCall F_errataref05_Open #[t29, (.int .i64 3)]) w21 fun t122 w22 =>
               pureK Tryd.prog (sExtract t122 0) fun t123 =>
               pureK Tryd.prog (sExtract t122 1) fun t124 =>
               pureK Tryd.prog (sBin .neq T_api_Errno (.tmp 125) (.tmp 126) t113 t124) fun t127 =>
               ifB t127
               (K (.bool false) w22)
               (pureK Tryd.prog (sBin .eql T_p_cell_Cell (.tmp 129) (.const (.pointer none)) t112 (.pointer none)) fun t130 =>
                ifB t130
                (K (.bool false) w22)
                (pureK Tryd.prog (sBin .eql T_p_errataref05_Cell (.tmp 133) (.const (.pointer none)) t123 (.pointer none)) fun t134 =>
                 ifB t134
                 (K (.bool false) w22)
                 (J1 (t112, t113, t123, t124, ()) w22))))
              (J1 (x7.1, x7.2.1, x7.2.2.1, x7.2.2.2.1, ()) w9))))))
         (upK Tryd.prog (sCall F_disk_Disk_Crash #[t28, (.slice none 0 0)]) w7 fun t155 w23 =>
          upK Tryd.prog (sCall F_disk_Disk_Start #[t28]) w23 fun t157 w24 =>
          upK Tryd.prog (sCall F_errataref04_Disk_Crash #[t29, (.slice none 0 0)]) w24 fun t159 w25 =>
          upK Tryd.prog (sCall F_errataref04_Disk_Start #[t29]) w25 fun t161 w26 =>
          upK Tryd.prog (sCall F_disk_Disk_Size #[t28, (.int .i64 3)]) w26 fun t163 w27 =>
          upK Tryd.prog (sCall F_disk_Disk_Read #[t28, (.int .i64 3), (.int .i64 0), t163]) w27 fun t167 w28 =>
          pureK Tryd.prog (sExtract t167 0) fun t168 =>
          pureK Tryd.prog (sExtract t167 1) fun t169 =>
          upK Tryd.prog (sCall F_errataref04_Disk_Read #[t29, (.int .i64 3), (.int .i64 0), t163]) w28 fun t173 w29 =>
          pureK Tryd.prog (sExtract t173 0) fun t174 =>
          pureK Tryd.prog (sExtract t173 1) fun t175 =>
          ifB t22
          (pureK Tryd.prog (sBin .eql T_string (.tmp 178) (.tmp 179) t168 t174) fun t180 =>
           ifB t180
           (upK Tryd.prog (sCall F_errataref04_Disk_Size #[t29, (.int .i64 3)]) w29 fun t185 w30 =>
            pureK Tryd.prog (sBin .eql T_int (.tmp 183) (.tmp 185) t163 t185) fun t186 =>
            K t186 w30)
           (K (.bool false) w29))
          (K (.bool false) w29)))
        (t33, t34, t38, t39, (.int .i64 0), ()) w6))))))
theorem erratalaw05_CellTells.pt_eq : erratalaw05_CellTells.pt = fun l0 w K => FN Tryd.prog Tryd.f7 (bodyOf Tryd.f7) [2] (.node none .leaf (.node none .leaf (.node none .leaf (.node none .leaf (.node none .leaf (.node none .leaf (.node none .leaf (.node none .leaf (.node none .leaf (.node none (.node none .leaf (.node none (.node none (.node none .leaf (.node none (.node none (.node none .leaf (.node (some [7, 8, 9, 10]) .leaf .leaf)) .leaf) .leaf)) .leaf) .leaf)) .leaf)))))))))) [l0] w K := by kernel_rfl
theorem erratalaw05_CellTells.call {l0 : Value} {w : World} {K : Value → World → Prop} (h : erratalaw05_CellTells.pt l0 w K) : Calls Tryd.prog F_erratalaw05_CellTells #[l0] w (retK K) :=
  calls_FN (args := [l0]) Tryd.func7 (by kernel_rfl) (by rw [erratalaw05_CellTells.pt_eq] at h; exact h)
theorem erratalaw05_CellTells.up {l0 : Value} {w : World} {K : Value → World → Prop} (h : Calls Tryd.prog F_erratalaw05_CellTells #[l0] w (retK K)) : upK Tryd.prog (sCall F_erratalaw05_CellTells #[l0]) w K :=
  up_call (fn := Tryd.f7) Tryd.func7 (by kernel_rfl) (by kernel_rfl) h

end Go.Proofs.YtmkigdkhpdeaeaaDoor
