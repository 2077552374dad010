/-
  The reckoned conditions of the functions that this seat's statements reach, printed by program, each held against the translation by the kernel. No condition.
-/
import Derived.Test.YtmkigdkhpdeaeaaDoorNames
namespace Go.Proofs.YtmkigdkhpdeaeaaDoor
set_option linter.unusedVariables false

/-- errata/erratalaw05.CellReads -/
def erratalaw05_CellReads.pt (s0 t1 file2 : Value) (w : World) (K : Value → World → Prop) : Prop :=
  upK Tryd.prog (sCall F_erratalaw05_small #[]) w fun t18 w1 =>
  readK Tryd.prog (sBlt .len #[T_string] T_int #[false] #[s0]) w1 fun t20 =>
  pureK Tryd.prog (sBin .gtr T_int (.tmp 20) (.const (.int .i64 300)) t20 (.int .i64 300)) fun t21 =>
  ifB t21
  (K t18 w1)
  (readK Tryd.prog (sBlt .len #[T_string] T_int #[false] #[t1]) w1 fun t24 =>
   pureK Tryd.prog (sBin .gtr T_int (.tmp 24) (.const (.int .i64 300)) t24 (.int .i64 300)) fun t25 =>
   ifB t25
   (K t18 w1)
   (upK Tryd.prog (sCall F_disk_New #[]) w1 fun t28 w2 =>
    upK Tryd.prog (sCall F_errataref04_New #[]) w2 fun t29 w3 =>
    pureK Tryd.prog (sBin .eql T_p_disk_Disk (.tmp 30) (.const (.pointer none)) t28 (.pointer none)) fun t31 =>
    ifB t31
    (K (.bool false) w3)
    (upK Tryd.prog (sCall F_disk_Disk_Write #[t28, file2, (.int .i64 0), s0]) w3 fun t35 w4 =>
     upK Tryd.prog (sCall F_errataref04_Disk_Write #[t29, file2, (.int .i64 0), s0]) w4 fun t39 w5 =>
     upK Tryd.prog (sCall F_disk_Disk_Write #[t28, file2, (.int .i64 131072), t1]) w5 fun t43 w6 =>
     upK Tryd.prog (sCall F_errataref04_Disk_Write #[t29, file2, (.int .i64 131072), t1]) w6 fun t47 w7 =>
     upK Tryd.prog (sCall F_cell_Open #[t28, file2]) w7 fun t51 w8 =>
     pureK Tryd.prog (sExtract t51 0) fun t52 =>
     pureK Tryd.prog (sExtract t51 1) fun t53 =>
     upK Tryd.prog (sCall F_errataref05_Open #[t29, file2]) w8 fun t57 w9 =>
     pureK Tryd.prog (sExtract t57 0) fun t58 =>
     pureK Tryd.prog (sExtract t57 1) fun t59 =>
     pureK Tryd.prog (sBin .neq T_api_Errno (.tmp 60) (.tmp 61) t53 t59) fun t62 =>
     ifB t62
     (K (.bool false) w9)
     (pureK Tryd.prog (sBin .eql T_p_cell_Cell (.tmp 64) (.const (.pointer none)) t52 (.pointer none)) fun t65 =>
      pureK Tryd.prog (sBin .eql T_p_errataref05_Cell (.tmp 66) (.const (.pointer none)) t58 (.pointer none)) fun t67 =>
      pureK Tryd.prog (sBin .neq T_bool (.tmp 65) (.tmp 67) t65 t67) fun t68 =>
      ifB t68
      (K (.bool false) w9)
      (pureK Tryd.prog (sBin .eql T_p_cell_Cell (.tmp 70) (.const (.pointer none)) t52 (.pointer none)) fun t71 =>
       ifB t71
       (K t18 w9)
       (pureK Tryd.prog (sBin .eql T_p_errataref05_Cell (.tmp 73) (.const (.pointer none)) t58 (.pointer none)) fun t74 =>
        ifB t74
        (K t18 w9)
        (upK Tryd.prog (sCall F_cell_Cell_Get #[t52]) w9 fun t79 w10 =>
         pureK Tryd.prog (sExtract t79 0) fun t80 =>
         pureK Tryd.prog (sExtract t79 1) fun t81 =>
         upK Tryd.prog (sCall F_errataref05_Cell_Get #[t58]) w10 fun t84 w11 =>
         pureK Tryd.prog (sExtract t84 0) fun t85 =>
         pureK Tryd.prog (sExtract t84 1) fun t86 =>
         ifB t18
         (pureK Tryd.prog (sBin .eql T_string (.tmp 89) (.tmp 90) t80 t85) fun t91 =>
          ifB t91
          (pureK Tryd.prog (sBin .eql T_bool (.tmp 94) (.tmp 95) t81 t86) fun t96 =>
           K t96 w11)
          (K (.bool false) w11))
         (K (.bool false) w11))))))))
theorem erratalaw05_CellReads.pt_eq : erratalaw05_CellReads.pt = fun s0 t1 file2 w K => FN Tryd.prog Tryd.f3 (bodyOf Tryd.f3) [6] .leaf [s0, t1, file2] w K := by kernel_rfl
theorem erratalaw05_CellReads.call {s0 t1 file2 : Value} {w : World} {K : Value → World → Prop} (h : erratalaw05_CellReads.pt s0 t1 file2 w K) : Calls Tryd.prog F_erratalaw05_CellReads #[s0, t1, file2] w (retK K) :=
  calls_FN (args := [s0, t1, file2]) Tryd.func3 (by kernel_rfl) (by rw [erratalaw05_CellReads.pt_eq] at h; exact h)
theorem erratalaw05_CellReads.up {s0 t1 file2 : Value} {w : World} {K : Value → World → Prop} (h : Calls Tryd.prog F_erratalaw05_CellReads #[s0, t1, file2] w (retK K)) : upK Tryd.prog (sCall F_erratalaw05_CellReads #[s0, t1, file2]) w K :=
  up_call (fn := Tryd.f3) Tryd.func3 (by kernel_rfl) (by kernel_rfl) h

/-- errata/erratalaw05.CellApart -/
def erratalaw05_CellApart.pt (s0 t1 f2 g3 n4 keep5 : Value) (w : World) (K : Value → World → Prop) : Prop :=
  upK Tryd.prog (sCall F_erratalaw05_small #[]) w fun t24 w1 =>
  readK Tryd.prog (sBlt .len #[T_string] T_int #[false] #[s0]) w1 fun t26 =>
  pureK Tryd.prog (sBin .gtr T_int (.tmp 26) (.const (.int .i64 400)) t26 (.int .i64 400)) fun t27 =>
  ifB t27
  (K t24 w1)
  (readK Tryd.prog (sBlt .len #[T_string] T_int #[false] #[t1]) w1 fun t30 =>
   pureK Tryd.prog (sBin .gtr T_int (.tmp 30) (.const (.int .i64 400)) t30 (.int .i64 400)) fun t31 =>
   ifB t31
   (K t24 w1)
   (pureK Tryd.prog (sBin .lss T_int (.tmp 34) (.const (.int .i64 0)) f2 (.int .i64 0)) fun t35 =>
    ifB t35
    (K t24 w1)
    (pureK Tryd.prog (sBin .gtr T_int (.tmp 38) (.const (.int .i64 15)) f2 (.int .i64 15)) fun t39 =>
     ifB t39
     (K t24 w1)
     (pureK Tryd.prog (sBin .lss T_int (.tmp 42) (.const (.int .i64 0)) g3 (.int .i64 0)) fun t43 =>
      ifB t43
      (K t24 w1)
      (pureK Tryd.prog (sBin .gtr T_int (.tmp 46) (.const (.int .i64 15)) g3 (.int .i64 15)) fun t47 =>
       ifB t47
       (K t24 w1)
       (pureK Tryd.prog (sBin .eql T_int (.tmp 50) (.tmp 51) f2 g3) fun t52 =>
        ifB t52
        (K t24 w1)
        (readK Tryd.prog (sBlt .len #[T_s_int] T_int #[false] #[keep5]) w1 fun t56 =>
         pureK Tryd.prog (sBin .gtr T_int (.tmp 56) (.const (.int .i64 100)) t56 (.int .i64 100)) fun t57 =>
         ifB t57
         (K t24 w1)
         (upK Tryd.prog (sCall F_disk_New #[]) w1 fun t60 w2 =>
          pureK Tryd.prog (sBin .eql T_p_disk_Disk (.tmp 61) (.const (.pointer none)) t60 (.pointer none)) fun t62 =>
          ifB t62
          (K (.bool false) w2)
          (upK Tryd.prog (sCall F_cell_Open #[t60, f2]) w2 fun t66 w3 =>
           pureK Tryd.prog (sExtract t66 0) fun t67 =>
           pureK Tryd.prog (sExtract t66 1) fun t68 =>
           upK Tryd.prog (sCall F_cell_Open #[t60, g3]) w3 fun t72 w4 =>
           pureK Tryd.prog (sExtract t72 0) fun t73 =>
           pureK Tryd.prog (sExtract t72 1) fun t74 =>
           pureK Tryd.prog (sBin .eql T_p_cell_Cell (.tmp 75) (.const (.pointer none)) t67 (.pointer none)) fun t76 =>
           ifB t76
           (K (.bool false) w4)
           (pureK Tryd.prog (sBin .eql T_p_cell_Cell (.tmp 78) (.const (.pointer none)) t73 (.pointer none)) fun t79 =>
            ifB t79
            (K (.bool false) w4)
            (pureK Tryd.prog (sBin .neq T_api_Errno (.tmp 82) (.const (.int .i64 0)) t68 (.int .i64 0)) fun t83 =>
             ifB t83
             (K (.bool false) w4)
             (pureK Tryd.prog (sBin .neq T_api_Errno (.tmp 86) (.const (.int .i64 0)) t74 (.int .i64 0)) fun t87 =>
              ifB t87
              (K (.bool false) w4)
              (upK Tryd.prog (sCall F_cell_Cell_Set #[t67, s0]) w4 fun t91 w5 =>
               pureK Tryd.prog (sBin .neq T_api_Errno (.tmp 91) (.const (.int .i64 0)) t91 (.int .i64 0)) fun t92 =>
               ifB t92
               (K (.bool false) w5)
               (upK Tryd.prog (sCall F_disk_Disk_Arm #[t60, n4, keep5]) w5 fun t96 w6 =>
                upK Tryd.prog (sCall F_cell_Cell_Set #[t73, t1]) w6 fun t99 w7 =>
                upK Tryd.prog (sCall F_disk_Disk_Crash #[t60, keep5]) w7 fun t102 w8 =>
                upK Tryd.prog (sCall F_disk_Disk_Start #[t60]) w8 fun t104 w9 =>
                upK Tryd.prog (sCall F_cell_Open #[t60, f2]) w9 fun t108 w10 =>
                pureK Tryd.prog (sExtract t108 0) fun t109 =>
                pureK Tryd.prog (sExtract t108 1) fun t110 =>
                upK Tryd.prog (sCall F_cell_Open #[t60, g3]) w10 fun t114 w11 =>
                pureK Tryd.prog (sExtract t114 0) fun t115 =>
                pureK Tryd.prog (sExtract t114 1) fun t116 =>
                pureK Tryd.prog (sBin .eql T_p_cell_Cell (.tmp 117) (.const (.pointer none)) t109 (.pointer none)) fun t118 =>
                ifB t118
                (K (.bool false) w11)
                (pureK Tryd.prog (sBin .eql T_p_cell_Cell (.tmp 120) (.const (.pointer none)) t115 (.pointer none)) fun t121 =>
                 ifB t121
                 (K (.bool false) w11)
                 (pureK Tryd.prog (sBin .neq T_api_Errno (.tmp 124) (.const (.int .i64 0)) t110 (.int .i64 0)) fun t125 =>
                  ifB t125
                  (K (.bool false) w11)
                  (pureK Tryd.prog (sBin .neq T_api_Errno (.tmp 128) (.const (.int .i64 0)) t116 (.int .i64 0)) fun t129 =>
                   ifB t129
                   (K (.bool false) w11)
                   (upK Tryd.prog (sCall F_cell_Cell_Get #[t109]) w11 fun t133 w12 =>
                    pureK Tryd.prog (sExtract t133 0) fun t134 =>
                    pureK Tryd.prog (sExtract t133 1) fun t135 =>
                    upK Tryd.prog (sCall F_cell_Cell_Get #[t115]) w12 fun t138 w13 =>
                    pureK Tryd.prog (sExtract t138 0) fun t139 =>
                    pureK Tryd.prog (sExtract t138 1) fun t140 =>
                    ifB t24
                    (pureK Tryd.prog (sBin .eql T_string (.tmp 143) (.tmp 144) t134 s0) fun t145 =>
                     ifB t145
                     (ifB t135
                      (pureK Tryd.prog (sBin .neq T_api_Errno (.tmp 151) (.const (.int .i64 0)) t99 (.int .i64 0)) fun t152 =>
                       ifB t152
                       (pureK Tryd.prog (sUn .not t140) fun t164 =>
                        ifB t164
                        (K (.bool true) w13)
                        (pureK Tryd.prog (sBin .eql T_string (.tmp 166) (.tmp 167) t139 t1) fun t168 =>
                         K t168 w13))
                       (pureK Tryd.prog (sBin .eql T_string (.tmp 154) (.tmp 155) t139 t1) fun t156 =>
                        ifB t156
                        (ifB t140
                         (pureK Tryd.prog (sUn .not t140) fun t164_1 =>
                          ifB t164_1
                          (K (.bool true) w13)
                          (pureK Tryd.prog (sBin .eql T_string (.tmp 166) (.tmp 167) t139 t1) fun t168_1 =>
                           K t168_1 w13))
                         (K (.bool false) w13))
                        (K (.bool false) w13)))
                      (K (.bool false) w13))
                     (K (.bool false) w13))
                    (K (.bool false) w13)))))))))))))))))))
theorem erratalaw05_CellApart.pt_eq : erratalaw05_CellApart.pt = fun s0 t1 f2 g3 n4 keep5 w K => FN Tryd.prog Tryd.f5 (bodyOf Tryd.f5) [12] .leaf [s0, t1, f2, g3, n4, keep5] w K := by kernel_rfl
theorem erratalaw05_CellApart.call {s0 t1 f2 g3 n4 keep5 : Value} {w : World} {K : Value → World → Prop} (h : erratalaw05_CellApart.pt s0 t1 f2 g3 n4 keep5 w K) : Calls Tryd.prog F_erratalaw05_CellApart #[s0, t1, f2, g3, n4, keep5] w (retK K) :=
  calls_FN (args := [s0, t1, f2, g3, n4, keep5]) Tryd.func5 (by kernel_rfl) (by rw [erratalaw05_CellApart.pt_eq] at h; exact h)
theorem erratalaw05_CellApart.up {s0 t1 f2 g3 n4 keep5 : Value} {w : World} {K : Value → World → Prop} (h : Calls Tryd.prog F_erratalaw05_CellApart #[s0, t1, f2, g3, n4, keep5] w (retK K)) : upK Tryd.prog (sCall F_erratalaw05_CellApart #[s0, t1, f2, g3, n4, keep5]) w K :=
  up_call (fn := Tryd.f5) Tryd.func5 (by kernel_rfl) (by kernel_rfl) h

/-- errata/erratalaw05.small -/
def erratalaw05_small.pt (w : World) (K : Value → World → Prop) : Prop :=
  upK Tryd.prog (sCall F_disk_New #[]) w fun t16 w1 =>
  upK Tryd.prog (sCall F_cell_Open #[t16, (.int .i64 3)]) w1 fun t19 w2 =>
  pureK Tryd.prog (sExtract t19 0) fun t20 =>
  pureK Tryd.prog (sExtract t19 1) fun t21 =>
  pureK Tryd.prog (sBin .eql T_p_disk_Disk (.tmp 22) (.const (.pointer none)) t16 (.pointer none)) fun t23 =>
  ifB t23
  (K (.bool false) w2)
  (pureK Tryd.prog (sBin .eql T_p_cell_Cell (.tmp 25) (.const (.pointer none)) t20 (.pointer none)) fun t26 =>
   ifB t26
   (K (.bool false) w2)
   (upK Tryd.prog (sCall F_cell_Cell_Get #[t20]) w2 fun t30 w3 =>
    pureK Tryd.prog (sExtract t30 0) fun t31 =>
    pureK Tryd.prog (sExtract t30 1) fun t32 =>
    upK Tryd.prog (sCall F_cell_Cell_Set #[t20, (.string ⟨#[97]⟩)]) w3 fun t34 w4 =>
    upK Tryd.prog (sCall F_cell_Cell_Set #[t20, (.string ⟨#[98, 99]⟩)]) w4 fun t36 w5 =>
    upK Tryd.prog (sCall F_cell_Cell_Get #[t20]) w5 fun t39 w6 =>
    pureK Tryd.prog (sExtract t39 0) fun t40 =>
    pureK Tryd.prog (sExtract t39 1) fun t41 =>
    upK Tryd.prog (sCall F_disk_Disk_Read #[t16, (.int .i64 3), (.int .i64 0), (.int .i64 6)]) w6 fun t44 w7 =>
    pureK Tryd.prog (sExtract t44 0) fun t45 =>
    pureK Tryd.prog (sExtract t44 1) fun t46 =>
    upK Tryd.prog (sCall F_disk_Disk_Read #[t16, (.int .i64 3), (.int .i64 64), (.int .i64 1)]) w7 fun t49 w8 =>
    pureK Tryd.prog (sExtract t49 0) fun t50 =>
    pureK Tryd.prog (sExtract t49 1) fun t51 =>
    upK Tryd.prog (sCall F_disk_Disk_Read #[t16, (.int .i64 3), (.int .i64 131072), (.int .i64 9)]) w8 fun t54 w9 =>
    pureK Tryd.prog (sExtract t54 0) fun t55 =>
    pureK Tryd.prog (sExtract t54 1) fun t56 =>
    pureK Tryd.prog (sBin .eql T_api_Errno (.tmp 57) (.const (.int .i64 0)) t21 (.int .i64 0)) fun t58 =>
    ifB t58
    (pureK Tryd.prog (sBin .eql T_string (.tmp 60) (.const (.string ⟨#[]⟩)) t31 (.string ⟨#[]⟩)) fun t61 =>
     ifB t61
     (pureK Tryd.prog (sUn .not t32) fun t65 =>
      ifB t65
      (pureK Tryd.prog (sBin .eql T_api_Errno (.tmp 68) (.const (.int .i64 0)) t34 (.int .i64 0)) fun t69 =>
       ifB t69
       (pureK Tryd.prog (sBin .eql T_api_Errno (.tmp 72) (.const (.int .i64 0)) t36 (.int .i64 0)) fun t73 =>
        ifB t73
        (pureK Tryd.prog (sBin .eql T_string (.tmp 76) (.const (.string ⟨#[98, 99]⟩)) t40 (.string ⟨#[98, 99]⟩)) fun t77 =>
         ifB t77
         (ifB t41
          (pureK Tryd.prog (sBin .eql T_string (.tmp 83) (.const (.string ⟨#[2, 2, 0, 0, 0, 0]⟩)) t45 (.string ⟨#[2, 2, 0, 0, 0, 0]⟩)) fun t84 =>
           ifB t84
           (pureK Tryd.prog (sBin .eql T_string (.tmp 87) (.const (.string ⟨#[97]⟩)) t50 (.string ⟨#[97]⟩)) fun t88 =>
            ifB t88
            (pureK Tryd.prog (sBin .eql T_string (.tmp 91) (.const (.string ⟨#[98, 99]⟩)) t55 (.string ⟨#[98, 99]⟩)) fun t92 =>
             K t92 w9)
            (K (.bool false) w9))
           (K (.bool false) w9))
          (K (.bool false) w9))
         (K (.bool false) w9))
        (K (.bool false) w9))
       (K (.bool false) w9))
      (K (.bool false) w9))
     (K (.bool false) w9))
    (K (.bool false) w9)))
theorem erratalaw05_small.pt_eq : erratalaw05_small.pt = fun  w K => FN Tryd.prog Tryd.f8 (bodyOf Tryd.f8) [0] .leaf [] w K := by kernel_rfl
theorem erratalaw05_small.call {w : World} {K : Value → World → Prop} (h : erratalaw05_small.pt  w K) : Calls Tryd.prog F_erratalaw05_small #[] w (retK K) :=
  calls_FN (args := []) Tryd.func8 (by kernel_rfl) (by rw [erratalaw05_small.pt_eq] at h; exact h)
theorem erratalaw05_small.up {w : World} {K : Value → World → Prop} (h : Calls Tryd.prog F_erratalaw05_small #[] w (retK K)) : upK Tryd.prog (sCall F_erratalaw05_small #[]) w K :=
  up_call (fn := Tryd.f8) Tryd.func8 (by kernel_rfl) (by kernel_rfl) h

/-- errata/disk.New -/
def disk_New.pt (w : World) (K : Value → World → Prop) : Prop :=
  upK Tryd.prog (sMkMap T_map_int_disk_file none) w fun t1 w1 =>
  upK Tryd.prog (sMkMap T_map_disk_sector_bool none) w1 fun t2 w2 =>
  pureK Tryd.prog (sBuild T_disk_Disk #[(0, t1), (2, t2)]) fun t3 =>
  upK Tryd.prog (sBox T_disk_Disk t3) w2 fun t4 w3 =>
  K t4 w3
theorem disk_New.pt_eq : disk_New.pt = fun  w K => FN Tryd.prog Tryd.f9 (bodyOf Tryd.f9) [0] .leaf [] w K := by kernel_rfl
theorem disk_New.call {w : World} {K : Value → World → Prop} (h : disk_New.pt  w K) : Calls Tryd.prog F_disk_New #[] w (retK K) :=
  calls_FN (args := []) Tryd.func9 (by kernel_rfl) (by rw [disk_New.pt_eq] at h; exact h)
theorem disk_New.up {w : World} {K : Value → World → Prop} (h : Calls Tryd.prog F_disk_New #[] w (retK K)) : upK Tryd.prog (sCall F_disk_New #[]) w K :=
  up_call (fn := Tryd.f9) Tryd.func9 (by kernel_rfl) (by kernel_rfl) h

/-- errata/errataref04.New -/
def errataref04_New.pt (w : World) (K : Value → World → Prop) : Prop :=
  pureK Tryd.prog (sBuild T_errataref04_Disk #[]) fun t1 =>
  upK Tryd.prog (sBox T_errataref04_Disk t1) w fun t2 w1 =>
  K t2 w1
theorem errataref04_New.pt_eq : errataref04_New.pt = fun  w K => FN Tryd.prog Tryd.f10 (bodyOf Tryd.f10) [0] .leaf [] w K := by kernel_rfl
theorem errataref04_New.call {w : World} {K : Value → World → Prop} (h : errataref04_New.pt  w K) : Calls Tryd.prog F_errataref04_New #[] w (retK K) :=
  calls_FN (args := []) Tryd.func10 (by kernel_rfl) (by rw [errataref04_New.pt_eq] at h; exact h)
theorem errataref04_New.up {w : World} {K : Value → World → Prop} (h : Calls Tryd.prog F_errataref04_New #[] w (retK K)) : upK Tryd.prog (sCall F_errataref04_New #[]) w K :=
  up_call (fn := Tryd.f10) Tryd.func10 (by kernel_rfl) (by kernel_rfl) h

/-- (*errata/disk.Disk).Write -/
def disk_Disk_Write.pt (d0 f1 at2 s3 : Value) (w : World) (K : Value → World → Prop) : Prop :=
  upK Tryd.prog (sCall F_disk_Disk_ends #[d0]) w fun t12 w1 =>
  upK Tryd.prog (sCall F_disk_Disk_write #[d0, f1, at2, s3]) w1 fun t17 w2 =>
  ifB t12
  (pureK Tryd.prog (sNil d0) fun t21 =>
   pureK Tryd.prog (sFieldAddr T_disk_Disk t21 6) fun t22 =>
   readK Tryd.prog (sLoad T_s_int t22) w2 fun t23 =>
   upK Tryd.prog (sCall F_disk_Disk_Crash #[d0, t23]) w2 fun t24 w3 =>
   K (.int .i64 9) w3)
  (K t17 w2)
theorem disk_Disk_Write.pt_eq : disk_Disk_Write.pt = fun d0 f1 at2 s3 w K => FN Tryd.prog Tryd.f11 (bodyOf Tryd.f11) [8] .leaf [d0, f1, at2, s3] w K := by kernel_rfl
theorem disk_Disk_Write.call {d0 f1 at2 s3 : Value} {w : World} {K : Value → World → Prop} (h : disk_Disk_Write.pt d0 f1 at2 s3 w K) : Calls Tryd.prog F_disk_Disk_Write #[d0, f1, at2, s3] w (retK K) :=
  calls_FN (args := [d0, f1, at2, s3]) Tryd.func11 (by kernel_rfl) (by rw [disk_Disk_Write.pt_eq] at h; exact h)
theorem disk_Disk_Write.up {d0 f1 at2 s3 : Value} {w : World} {K : Value → World → Prop} (h : Calls Tryd.prog F_disk_Disk_Write #[d0, f1, at2, s3] w (retK K)) : upK Tryd.prog (sCall F_disk_Disk_Write #[d0, f1, at2, s3]) w K :=
  up_call (fn := Tryd.f11) Tryd.func11 (by kernel_rfl) (by kernel_rfl) h

/-- (*errata/errataref04.Disk).Write -/
def errataref04_Disk_Write.pt (d0 f1 at2 s3 : Value) (w : World) (K : Value → World → Prop) : Prop :=
  upK Tryd.prog (sCall F_errataref04_Disk_comes #[d0, f1, at2, s3]) w fun t14 w1 =>
  upK Tryd.prog (sCall F_errataref04_Disk_may #[d0, f1]) w1 fun t17 w2 =>
  pureK Tryd.prog (sBin .neq T_api_Errno (.tmp 18) (.const (.int .i64 0)) t17 (.int .i64 0)) fun t19 =>
  ifB t19
  (K t17 w2)
  (pureK Tryd.prog (sBin .lss T_int (.tmp 21) (.const (.int .i64 0)) at2 (.int .i64 0)) fun t22 =>
   ifB t22
   (K (.int .i64 1) w2)
   (upK Tryd.prog (sCall F_errataref04_fits #[at2, s3]) w2 fun t25 w3 =>
    pureK Tryd.prog (sUn .not t25) fun t26 =>
    ifB t26
    (K (.int .i64 6) w3)
    (upK Tryd.prog (sCall F_errataref04_Disk_add #[d0, f1, at2, s3]) w3 fun t31 w4 =>
     K (.int .i64 0) w4)))
theorem errataref04_Disk_Write.pt_eq : errataref04_Disk_Write.pt = fun d0 f1 at2 s3 w K => FN Tryd.prog Tryd.f12 (bodyOf Tryd.f12) [8] .leaf [d0, f1, at2, s3] w K := by kernel_rfl
theorem errataref04_Disk_Write.call {d0 f1 at2 s3 : Value} {w : World} {K : Value → World → Prop} (h : errataref04_Disk_Write.pt d0 f1 at2 s3 w K) : Calls Tryd.prog F_errataref04_Disk_Write #[d0, f1, at2, s3] w (retK K) :=
  calls_FN (args := [d0, f1, at2, s3]) Tryd.func12 (by kernel_rfl) (by rw [errataref04_Disk_Write.pt_eq] at h; exact h)
theorem errataref04_Disk_Write.up {d0 f1 at2 s3 : Value} {w : World} {K : Value → World → Prop} (h : Calls Tryd.prog F_errataref04_Disk_Write #[d0, f1, at2, s3] w (retK K)) : upK Tryd.prog (sCall F_errataref04_Disk_Write #[d0, f1, at2, s3]) w K :=
  up_call (fn := Tryd.f12) Tryd.func12 (by kernel_rfl) (by kernel_rfl) h

/-- errata/cell.Open -/
def cell_Open.pt (d0 file1 : Value) (w : World) (K : Value → World → Prop) : Prop :=
  pureK Tryd.prog (sBuild T_cell_Cell #[(0, d0), (1, file1)]) fun t13 =>
  upK Tryd.prog (sBox T_cell_Cell t13) w fun t14 w1 =>
  upK Tryd.prog (sCall F_disk_Disk_Read #[d0, file1, (.int .i64 0), (.int .i64 5)]) w1 fun t18 w2 =>
  pureK Tryd.prog (sExtract t18 0) fun t19 =>
  pureK Tryd.prog (sExtract t18 1) fun t20 =>
  pureK Tryd.prog (sBin .neq T_api_Errno (.tmp 21) (.const (.int .i64 0)) t20 (.int .i64 0)) fun t22 =>
  ifB t22
  (K (.tuple #[(.pointer none), t20]) w2)
  (pureK Tryd.prog (sBin .eql T_string (.tmp 24) (.const (.string ⟨#[]⟩)) t19 (.string ⟨#[]⟩)) fun t25 =>
   ifB t25
   (K (.tuple #[t14, (.int .i64 0)]) w2)
   (pureK Tryd.prog (sIdx T_string t19 (.int .i64 0)) fun t28 =>
    pureK Tryd.prog (sBin .eql T_uint8 (.tmp 28) (.const (.int .u8 0)) t28 (.int .u8 0)) fun t29 =>
    ifB t29
    (K (.tuple #[t14, (.int .i64 0)]) w2)
    (LETJ (X := Unit) (fun y1 w3 =>
      LOOP (X := Value × Value × Unit) (fun x4 w4 next4 =>
       pureK Tryd.prog (sBin .gtr T_int (.tmp 45) (.const (.int .i64 0)) x4.2.1 (.int .i64 0)) fun t46 =>
       ifB t46
       (pureK Tryd.prog (sBin .shl T_int (.tmp 49) (.const (.int .u64 8)) x4.1 (.int .u64 8)) fun t50 =>
        pureK Tryd.prog (sIdx T_string t19 x4.2.1) fun t53 =>
        upK Tryd.prog (sConv T_uint8 T_int t53) w4 fun t54 w5 =>
        pureK Tryd.prog (sBin .or T_int (.tmp 50) (.tmp 54) t50 t54) fun t55 =>
        pureK Tryd.prog (sBin .sub T_int (.tmp 47) (.const (.int .i64 1)) x4.2.1 (.int .i64 1)) fun t48 =>
        next4 (t55, t48, ()) w5)
       (pureK Tryd.prog (sBin .gtr T_int (.tmp 56) (.const (.int .i64 65536)) x4.1 (.int .i64 65536)) fun t57 =>
        ifB t57
        (K (.tuple #[(.pointer none), (.int .i64 2)]) w4)
        (pureK Tryd.prog (sIdx T_string t19 (.int .i64 0)) fun t60 =>
         upK Tryd.prog (sConv T_uint8 T_int t60) w4 fun t61 w6 =>
         pureK Tryd.prog (sNil t14) fun t62 =>
         pureK Tryd.prog (sFieldAddr T_cell_Cell t62 2) fun t63 =>
         upK Tryd.prog (sStore T_int t63 t61) w6 fun tu w7 =>
         pureK Tryd.prog (sNil t14) fun t69 =>
         pureK Tryd.prog (sFieldAddr T_cell_Cell t69 2) fun t70 =>
         readK Tryd.prog (sLoad T_int t70) w7 fun t71 =>
         pureK Tryd.prog (sIdxAddr T_3_int (.pointer (some ⟨0, 0, none⟩)) t71) fun t72 =>
         readK Tryd.prog (sLoad T_int t72) w7 fun t73 =>
         upK Tryd.prog (sCall F_disk_Disk_Read #[d0, file1, t73, x4.1]) w7 fun t75 w8 =>
         pureK Tryd.prog (sExtract t75 0) fun t76 =>
         pureK Tryd.prog (sExtract t75 1) fun t77 =>
         pureK Tryd.prog (sNil t14) fun t78 =>
         pureK Tryd.prog (sFieldAddr T_cell_Cell t78 3) fun t79 =>
         upK Tryd.prog (sStore T_string t79 t76) w8 fun tu_1 w9 =>
         LETJ (X := Value × Unit) (fun y2 w10 =>
          pureK Tryd.prog (sBin .neq T_api_Errno (.tmp 91) (.const (.int .i64 0)) y2.1 (.int .i64 0)) fun t92 =>
          ifB t92
          (K (.tuple #[(.pointer none), y2.1]) w10)
          (K (.tuple #[t14, (.int .i64 0)]) w10))
         (fun J2 =>
          pureK Tryd.prog (sBin .eql T_api_Errno (.tmp 80) (.const (.int .i64 0)) t77 (.int .i64 0)) fun t81 =>
          ifB t81
          (pureK Tryd.prog (sNil t14) fun t84 =>
           pureK Tryd.prog (sFieldAddr T_cell_Cell t84 3) fun t85 =>
           readK Tryd.prog (sLoad T_string t85) w9 fun t86 =>
           readK Tryd.prog (sBlt .len #[T_string] T_int #[false] #[t86]) w9 fun t87 =>
           pureK Tryd.prog (sBin .lss T_int (.tmp 87) (.tmp 88) t87 x4.1) fun t89 =>
           ifB t89
           (J2 ((.int .i64 2), ()) w9)
           (J2 (t77, ()) w9))
          (J2 (t77, ()) w9)))))
      ((.int .i64 0), (.int .i64 4), ()) w3)
     (fun J1 =>
      readK Tryd.prog (sBlt .len #[T_string] T_int #[false] #[t19]) w2 fun t33 =>
      pureK Tryd.prog (sBin .lss T_int (.tmp 33) (.const (.int .i64 5)) t33 (.int .i64 5)) fun t34 =>
      ifB t34
      (K (.tuple #[(.pointer none), (.int .i64 2)]) w2)
      (pureK Tryd.prog (sIdx T_string t19 (.int .i64 0)) fun t37 =>
       pureK Tryd.prog (sBin .neq T_uint8 (.tmp 37) (.const (.int .u8 1)) t37 (.int .u8 1)) fun t38 =>
       ifB t38
       (pureK Tryd.prog (sIdx T_string t19 (.int .i64 0)) fun t41 =>
        pureK Tryd.prog (sBin .neq T_uint8 (.tmp 41) (.const (.int .u8 2)) t41 (.int .u8 2)) fun t42 =>
        ifB t42
        (K (.tuple #[(.pointer none), (.int .i64 2)]) w2)
        (J1 (()) w2))
       (J1 (()) w2))))))
theorem cell_Open.pt_eq : cell_Open.pt = fun d0 file1 w K => FN Tryd.prog Tryd.f13 (bodyOf Tryd.f13) [4, 5] (.node none .leaf (.node none .leaf (.node none .leaf (.node none .leaf (.node none .leaf (.node (some []) .leaf (.node none .leaf (.node none .leaf (.node none .leaf (.node none .leaf (.node none .leaf (.node (some [8]) .leaf .leaf)))))))))))) [d0, file1] w K := by kernel_rfl
theorem cell_Open.call {d0 file1 : Value} {w : World} {K : Value → World → Prop} (h : cell_Open.pt d0 file1 w K) : Calls Tryd.prog F_cell_Open #[d0, file1] w (retK K) :=
  calls_FN (args := [d0, file1]) Tryd.func13 (by kernel_rfl) (by rw [cell_Open.pt_eq] at h; exact h)
theorem cell_Open.up {d0 file1 : Value} {w : World} {K : Value → World → Prop} (h : Calls Tryd.prog F_cell_Open #[d0, file1] w (retK K)) : upK Tryd.prog (sCall F_cell_Open #[d0, file1]) w K :=
  up_call (fn := Tryd.f13) Tryd.func13 (by kernel_rfl) (by kernel_rfl) h

/-- errata/errataref05.Open -/
def errataref05_Open.pt (d0 file1 : Value) (w : World) (K : Value → World → Prop) : Prop :=
  upK Tryd.prog (sCall F_errataref04_Disk_Read #[d0, file1, (.int .i64 0), (.int .i64 5)]) w fun t13 w1 =>
  pureK Tryd.prog (sExtract t13 0) fun t14 =>
  pureK Tryd.prog (sExtract t13 1) fun t15 =>
  pureK Tryd.prog (sBin .neq T_api_Errno (.tmp 16) (.const (.int .i64 0)) t15 (.int .i64 0)) fun t17 =>
  ifB t17
  (K (.tuple #[(.pointer none), t15]) w1)
  (pureK Tryd.prog (sBuild T_errataref05_Cell #[(0, d0), (1, file1)]) fun t21 =>
   upK Tryd.prog (sBox T_errataref05_Cell t21) w1 fun t22 w2 =>
   pureK Tryd.prog (sBin .eql T_string (.tmp 23) (.const (.string ⟨#[]⟩)) t14 (.string ⟨#[]⟩)) fun t24 =>
   ifB t24
   (K (.tuple #[t22, (.int .i64 0)]) w2)
   (pureK Tryd.prog (sIdx T_string t14 (.int .i64 0)) fun t27 =>
    pureK Tryd.prog (sBin .eql T_uint8 (.tmp 27) (.const (.int .u8 0)) t27 (.int .u8 0)) fun t28 =>
    ifB t28
    (K (.tuple #[t22, (.int .i64 0)]) w2)
    (readK Tryd.prog (sBlt .len #[T_string] T_int #[false] #[t14]) w2 fun t31 =>
     pureK Tryd.prog (sBin .lss T_int (.tmp 31) (.const (.int .i64 5)) t31 (.int .i64 5)) fun t32 =>
     ifB t32
     (K (.tuple #[(.pointer none), (.int .i64 2)]) w2)
     (LETJ (X := Value × Unit) (fun y1 w3 =>
       LETJ (X := Unit) (fun y2 w4 =>
        pureK Tryd.prog (sIdx T_string t14 (.int .i64 0)) fun t65 =>
        upK Tryd.prog (sConv T_uint8 T_int t65) w4 fun t66 w5 =>
        pureK Tryd.prog (sNil t22) fun t67 =>
        pureK Tryd.prog (sFieldAddr T_errataref05_Cell t67 2) fun t68 =>
        upK Tryd.prog (sStore T_int t68 t66) w5 fun tu w6 =>
        pureK Tryd.prog (sNil t22) fun t74 =>
        pureK Tryd.prog (sFieldAddr T_errataref05_Cell t74 2) fun t75 =>
        readK Tryd.prog (sLoad T_int t75) w6 fun t76 =>
        upK Tryd.prog (sCall F_errataref05_begin #[t76]) w6 fun t77 w7 =>
        upK Tryd.prog (sCall F_errataref04_Disk_Read #[d0, file1, t77, y1.1]) w7 fun t79 w8 =>
        pureK Tryd.prog (sExtract t79 0) fun t80 =>
        pureK Tryd.prog (sExtract t79 1) fun t81 =>
        pureK Tryd.prog (sNil t22) fun t82 =>
        pureK Tryd.prog (sFieldAddr T_errataref05_Cell t82 3) fun t83 =>
        upK Tryd.prog (sStore T_string t83 t80) w8 fun tu_1 w9 =>
        pureK Tryd.prog (sBin .neq T_api_Errno (.tmp 84) (.const (.int .i64 0)) t81 (.int .i64 0)) fun t85 =>
        ifB t85
        (K (.tuple #[(.pointer none), t81]) w9)
        (pureK Tryd.prog (sNil t22) fun t88 =>
         pureK Tryd.prog (sFieldAddr T_errataref05_Cell t88 3) fun t89 =>
         readK Tryd.prog (sLoad T_string t89) w9 fun t90 =>
         readK Tryd.prog (sBlt .len #[T_string] T_int #[false] #[t90]) w9 fun t91 =>
         pureK Tryd.prog (sBin .neq T_int (.tmp 91) (.tmp 92) t91 y1.1) fun t93 =>
         ifB t93
         (K (.tuple #[(.pointer none), (.int .i64 2)]) w9)
         (K (.tuple #[t22, (.int .i64 0)]) w9)))
       (fun J2 =>
        pureK Tryd.prog (sIdx T_string t14 (.int .i64 0)) fun t52 =>
        pureK Tryd.prog (sBin .neq T_uint8 (.tmp 52) (.const (.int .u8 1)) t52 (.int .u8 1)) fun t53 =>
        ifB t53
        (pureK Tryd.prog (sIdx T_string t14 (.int .i64 0)) fun t56 =>
         pureK Tryd.prog (sBin .neq T_uint8 (.tmp 56) (.const (.int .u8 2)) t56 (.int .u8 2)) fun t57 =>
         ifB t57
         (K (.tuple #[(.pointer none), (.int .i64 2)]) w3)
         (pureK Tryd.prog (sBin .gtr T_int (.tmp 60) (.const (.int .i64 65536)) y1.1 (.int .i64 65536)) fun t61 =>
          ifB t61
          (K (.tuple #[(.pointer none), (.int .i64 2)]) w3)
          (J2 (()) w3)))
        (pureK Tryd.prog (sBin .gtr T_int (.tmp 60) (.const (.int .i64 65536)) y1.1 (.int .i64 65536)) fun t61_1 =>
         ifB t61_1
         (K (.tuple #[(.pointer none), (.int .i64 2)]) w3)
         (J2 (()) w3))))
      (fun J1 =>
       pureK Tryd.prog (sIdx T_string t14 (.int .i64 1)) fun t34 =>
       pureK Tryd.prog (sIdx T_string t14 (.int .i64 2)) fun t37 =>
       pureK Tryd.prog (sIdx T_string t14 (.int .i64 3)) fun t42 =>
       pureK Tryd.prog (sIdx T_string t14 (.int .i64 4)) fun t47 =>
       ((upK Tryd.prog (sConv T_uint8 T_int t34) (tick w2) fun t35 w10 =>
         ((upK Tryd.prog (sConv T_uint8 T_int t37) w10 fun t38 w11 =>
           pureK Tryd.prog (sBin .mul T_int (.const (.int .i64 256)) (.tmp 38) (.int .i64 256) t38) fun t39 =>
           pureK Tryd.prog (sBin .add T_int (.tmp 35) (.tmp 39) t35 t39) fun t40 =>
           ((upK Tryd.prog (sConv T_uint8 T_int t42) w11 fun t43 w12 =>
             pureK Tryd.prog (sBin .mul T_int (.const (.int .i64 65536)) (.tmp 43) (.int .i64 65536) t43) fun t44 =>
             pureK Tryd.prog (sBin .add T_int (.tmp 40) (.tmp 44) t40 t44) fun t45 =>
             upK Tryd.prog (sConv T_uint8 T_int t47) w12 fun t48 w13 =>
             pureK Tryd.prog (sBin .mul T_int (.const (.int .i64 16777216)) (.tmp 48) (.int .i64 16777216) t48) fun t49 =>
             pureK Tryd.prog (sBin .add T_int (.tmp 45) (.tmp 49) t45 t49) fun t50 =>
             J1 (t50, ()) w13)
            ∧ (upK Tryd.prog (sConv T_uint8 T_int t47) w11 fun t48_1 w14 =>
             pureK Tryd.prog (sBin .mul T_int (.const (.int .i64 16777216)) (.tmp 48) (.int .i64 16777216) t48_1) fun t49_1 =>
             upK Tryd.prog (sConv T_uint8 T_int t42) w14 fun t43_1 w15 =>
             pureK Tryd.prog (sBin .mul T_int (.const (.int .i64 65536)) (.tmp 43) (.int .i64 65536) t43_1) fun t44_1 =>
             pureK Tryd.prog (sBin .add T_int (.tmp 40) (.tmp 44) t40 t44_1) fun t45_1 =>
             pureK Tryd.prog (sBin .add T_int (.tmp 45) (.tmp 49) t45_1 t49_1) fun t50_1 =>
             J1 (t50_1, ()) w15)))
          ∧ ((upK Tryd.prog (sConv T_uint8 T_int t42) w10 fun t43_2 w16 =>
            pureK Tryd.prog (sBin .mul T_int (.const (.int .i64 65536)) (.tmp 43) (.int .i64 65536) t43_2) fun t44_2 =>
            ((upK Tryd.prog (sConv T_uint8 T_int t37) w16 fun t38_1 w17 =>
              pureK Tryd.prog (sBin .mul T_int (.const (.int .i64 256)) (.tmp 38) (.int .i64 256) t38_1) fun t39_1 =>
              pureK Tryd.prog (sBin .add T_int (.tmp 35) (.tmp 39) t35 t39_1) fun t40_1 =>
              pureK Tryd.prog (sBin .add T_int (.tmp 40) (.tmp 44) t40_1 t44_2) fun t45_2 =>
              upK Tryd.prog (sConv T_uint8 T_int t47) w17 fun t48_2 w18 =>
              pureK Tryd.prog (sBin .mul T_int (.const (.int .i64 16777216)) (.tmp 48) (.int .i64 16777216) t48_2) fun t49_2 =>
              pureK Tryd.prog (sBin .add T_int (.tmp 45) (.tmp 49) t45_2 t49_2) fun t50_2 =>
              J1 (t50_2, ()) w18)
             ∧ (upK Tryd.prog (sConv T_uint8 T_int t47) w16 fun t48_3 w19 =>
              pureK Tryd.prog (sBin .mul T_int (.const (.int .i64 16777216)) (.tmp 48) (.int .i64 16777216) t48_3) fun t49_3 =>
              upK Tryd.prog (sConv T_uint8 T_int t37) w19 fun t38_2 w20 =>
              pureK Tryd.prog (sBin .mul T_int (.const (.int .i64 256)) (.tmp 38) (.int .i64 256) t38_2) fun t39_2 =>
              pureK Tryd.prog (sBin .add T_int (.tmp 35) (.tmp 39) t35 t39_2) fun t40_2 =>
              pureK Tryd.prog (sBin .add T_int (.tmp 40) (.tmp 44) t40_2 t44_2) fun t45_3 =>
              pureK Tryd.prog (sBin .add T_int (.tmp 45) (.tmp 49) t45_3 t49_3) fun t50_3 =>
              J1 (t50_3, ()) w20)))
           ∧ (upK Tryd.prog (sConv T_uint8 T_int t47) w10 fun t48_4 w21 =>
            pureK Tryd.prog (sBin .mul T_int (.const (.int .i64 16777216)) (.tmp 48) (.int .i64 16777216) t48_4) fun t49_4 =>
            ((upK Tryd.prog (sConv T_uint8 T_int t37) w21 fun t38_3 w22 =>
              pureK Tryd.prog (sBin .mul T_int (.const (.int .i64 256)) (.tmp 38) (.int .i64 256) t38_3) fun t39_3 =>
              pureK Tryd.prog (sBin .add T_int (.tmp 35) (.tmp 39) t35 t39_3) fun t40_3 =>
              upK Tryd.prog (sConv T_uint8 T_int t42) w22 fun t43_3 w23 =>
              pureK Tryd.prog (sBin .mul T_int (.const (.int .i64 65536)) (.tmp 43) (.int .i64 65536) t43_3) fun t44_3 =>
              pureK Tryd.prog (sBin .add T_int (.tmp 40) (.tmp 44) t40_3 t44_3) fun t45_4 =>
              pureK Tryd.prog (sBin .add T_int (.tmp 45) (.tmp 49) t45_4 t49_4) fun t50_4 =>
              J1 (t50_4, ()) w23)
             ∧ (upK Tryd.prog (sConv T_uint8 T_int t42) w21 fun t43_4 w24 =>
              pureK Tryd.prog (sBin .mul T_int (.const (.int .i64 65536)) (.tmp 43) (.int .i64 65536) t43_4) fun t44_4 =>
              upK Tryd.prog (sConv T_uint8 T_int t37) w24 fun t38_4 w25 =>
              pureK Tryd.prog (sBin .mul T_int (.const (.int .i64 256)) (.tmp 38) (.int .i64 256) t38_4) fun t39_4 =>
              pureK Tryd.prog (sBin .add T_int (.tmp 35) (.tmp 39) t35 t39_4) fun t40_4 =>
              pureK Tryd.prog (sBin .add T_int (.tmp 40) (.tmp 44) t40_4 t44_4) fun t45_5 =>
              pureK Tryd.prog (sBin .add T_int (.tmp 45) (.tmp 49) t45_5 t49_4) fun t50_5 =>
              J1 (t50_5, ()) w25))))))
        ∧ ((upK Tryd.prog (sConv T_uint8 T_int t37) (tick w2) fun t38_5 w26 =>
          pureK Tryd.prog (sBin .mul T_int (.const (.int .i64 256)) (.tmp 38) (.int .i64 256) t38_5) fun t39_5 =>
          ((upK Tryd.prog (sConv T_uint8 T_int t34) w26 fun t35_1 w27 =>
            pureK Tryd.prog (sBin .add T_int (.tmp 35) (.tmp 39) t35_1 t39_5) fun t40_5 =>
            ((upK Tryd.prog (sConv T_uint8 T_int t42) w27 fun t43_5 w28 =>
              pureK Tryd.prog (sBin .mul T_int (.const (.int .i64 65536)) (.tmp 43) (.int .i64 65536) t43_5) fun t44_5 =>
              pureK Tryd.prog (sBin .add T_int (.tmp 40) (.tmp 44) t40_5 t44_5) fun t45_6 =>
              upK Tryd.prog (sConv T_uint8 T_int t47) w28 fun t48_5 w29 =>
              pureK Tryd.prog (sBin .mul T_int (.const (.int .i64 16777216)) (.tmp 48) (.int .i64 16777216) t48_5) fun t49_5 =>
              pureK Tryd.prog (sBin .add T_int (.tmp 45) (.tmp 49) t45_6 t49_5) fun t50_6 =>
              J1 (t50_6, ()) w29)
             ∧ (upK Tryd.prog (sConv T_uint8 T_int t47) w27 fun t48_6 w30 =>
              pureK Tryd.prog (sBin .mul T_int (.const (.int .i64 16777216)) (.tmp 48) (.int .i64 16777216) t48_6) fun t49_6 =>
              upK Tryd.prog (sConv T_uint8 T_int t42) w30 fun t43_6 w31 =>
              pureK Tryd.prog (sBin .mul T_int (.const (.int .i64 65536)) (.tmp 43) (.int .i64 65536) t43_6) fun t44_6 =>
              pureK Tryd.prog (sBin .add T_int (.tmp 40) (.tmp 44) t40_5 t44_6) fun t45_7 =>
              pureK Tryd.prog (sBin .add T_int (.tmp 45) (.tmp 49) t45_7 t49_6) fun t50_7 =>
              J1 (t50_7, ()) w31)))
           ∧ ((upK Tryd.prog (sConv T_uint8 T_int t42) w26 fun t43_7 w32 =>
             pureK Tryd.prog (sBin .mul T_int (.const (.int .i64 65536)) (.tmp 43) (.int .i64 65536) t43_7) fun t44_7 =>
             ((upK Tryd.prog (sConv T_uint8 T_int t34) w32 fun t35_2 w33 =>
               pureK Tryd.prog (sBin .add T_int (.tmp 35) (.tmp 39) t35_2 t39_5) fun t40_6 =>
               pureK Tryd.prog (sBin .add T_int (.tmp 40) (.tmp 44) t40_6 t44_7) fun t45_8 =>
               upK Tryd.prog (sConv T_uint8 T_int t47) w33 fun t48_7 w34 =>
               pureK Tryd.prog (sBin .mul T_int (.const (.int .i64 16777216)) (.tmp 48) (.int .i64 16777216) t48_7) fun t49_7 =>
               pureK Tryd.prog (sBin .add T_int (.tmp 45) (.tmp 49) t45_8 t49_7) fun t50_8 =>
               J1 (t50_8, ()) w34)
              ∧ (upK Tryd.prog (sConv T_uint8 T_int t47) w32 fun t48_8 w35 =>
               pureK Tryd.prog (sBin .mul T_int (.const (.int .i64 16777216)) (.tmp 48) (.int .i64 16777216) t48_8) fun t49_8 =>
               upK Tryd.prog (sConv T_uint8 T_int t34) w35 fun t35_3 w36 =>
               pureK Tryd.prog (sBin .add T_int (.tmp 35) (.tmp 39) t35_3 t39_5) fun t40_7 =>
               pureK Tryd.prog (sBin .add T_int (.tmp 40) (.tmp 44) t40_7 t44_7) fun t45_9 =>
               pureK Tryd.prog (sBin .add T_int (.tmp 45) (.tmp 49) t45_9 t49_8) fun t50_9 =>
               J1 (t50_9, ()) w36)))
            ∧ (upK Tryd.prog (sConv T_uint8 T_int t47) w26 fun t48_9 w37 =>
             pureK Tryd.prog (sBin .mul T_int (.const (.int .i64 16777216)) (.tmp 48) (.int .i64 16777216) t48_9) fun t49_9 =>
             ((upK Tryd.prog (sConv T_uint8 T_int t34) w37 fun t35_4 w38 =>
               pureK Tryd.prog (sBin .add T_int (.tmp 35) (.tmp 39) t35_4 t39_5) fun t40_8 =>
               upK Tryd.prog (sConv T_uint8 T_int t42) w38 fun t43_8 w39 =>
               pureK Tryd.prog (sBin .mul T_int (.const (.int .i64 65536)) (.tmp 43) (.int .i64 65536) t43_8) fun t44_8 =>
               pureK Tryd.prog (sBin .add T_int (.tmp 40) (.tmp 44) t40_8 t44_8) fun t45_10 =>
               pureK Tryd.prog (sBin .add T_int (.tmp 45) (.tmp 49) t45_10 t49_9) fun t50_10 =>
               J1 (t50_10, ()) w39)
              ∧ (upK Tryd.prog (sConv T_uint8 T_int t42) w37 fun t43_9 w40 =>
               pureK Tryd.prog (sBin .mul T_int (.const (.int .i64 65536)) (.tmp 43) (.int .i64 65536) t43_9) fun t44_9 =>
               upK Tryd.prog (sConv T_uint8 T_int t34) w40 fun t35_5 w41 =>
               pureK Tryd.prog (sBin .add T_int (.tmp 35) (.tmp 39) t35_5 t39_5) fun t40_9 =>
               pureK Tryd.prog (sBin .add T_int (.tmp 40) (.tmp 44) t40_9 t44_9) fun t45_11 =>
               pureK Tryd.prog (sBin .add T_int (.tmp 45) (.tmp 49) t45_11 t49_9) fun t50_11 =>
               J1 (t50_11, ()) w41))))))
         ∧ ((upK Tryd.prog (sConv T_uint8 T_int t42) (tick w2) fun t43_10 w42 =>
           pureK Tryd.prog (sBin .mul T_int (.const (.int .i64 65536)) (.tmp 43) (.int .i64 65536) t43_10) fun t44_10 =>
           ((upK Tryd.prog (sConv T_uint8 T_int t34) w42 fun t35_6 w43 =>
             ((upK Tryd.prog (sConv T_uint8 T_int t37) w43 fun t38_6 w44 =>
               pureK Tryd.prog (sBin .mul T_int (.const (.int .i64 256)) (.tmp 38) (.int .i64 256) t38_6) fun t39_6 =>
               pureK Tryd.prog (sBin .add T_int (.tmp 35) (.tmp 39) t35_6 t39_6) fun t40_10 =>
               pureK Tryd.prog (sBin .add T_int (.tmp 40) (.tmp 44) t40_10 t44_10) fun t45_12 =>
               upK Tryd.prog (sConv T_uint8 T_int t47) w44 fun t48_10 w45 =>
               pureK Tryd.prog (sBin .mul T_int (.const (.int .i64 16777216)) (.tmp 48) (.int .i64 16777216) t48_10) fun t49_10 =>
               pureK Tryd.prog (sBin .add T_int (.tmp 45) (.tmp 49) t45_12 t49_10) fun t50_12 =>
               J1 (t50_12, ()) w45)
              ∧ (upK Tryd.prog (sConv T_uint8 T_int t47) w43 fun t48_11 w46 =>
               pureK Tryd.prog (sBin .mul T_int (.const (.int .i64 16777216)) (.tmp 48) (.int .i64 16777216) t48_11) fun t49_11 =>
               upK Tryd.prog (sConv T_uint8 T_int t37) w46 fun t38_7 w47 =>
               pureK Tryd.prog (sBin .mul T_int (.const (.int .i64 256)) (.tmp 38) (.int .i64 256) t38_7) fun t39_7 =>
               pureK Tryd.prog (sBin .add T_int (.tmp 35) (.tmp 39) t35_6 t39_7) fun t40_11 =>
               pureK Tryd.prog (sBin .add T_int (.tmp 40) (.tmp 44) t40_11 t44_10) fun t45_13 =>
               pureK Tryd.prog (sBin .add T_int (.tmp 45) (.tmp 49) t45_13 t49_11) fun t50_13 =>
               J1 (t50_13, ()) w47)))
            ∧ ((upK Tryd.prog (sConv T_uint8 T_int t37) w42 fun t38_8 w48 =>
              pureK Tryd.prog (sBin .mul T_int (.const (.int .i64 256)) (.tmp 38) (.int .i64 256) t38_8) fun t39_8 =>
              ((upK Tryd.prog (sConv T_uint8 T_int t34) w48 fun t35_7 w49 =>
                pureK Tryd.prog (sBin .add T_int (.tmp 35) (.tmp 39) t35_7 t39_8) fun t40_12 =>
                pureK Tryd.prog (sBin .add T_int (.tmp 40) (.tmp 44) t40_12 t44_10) fun t45_14 =>
                upK Tryd.prog (sConv T_uint8 T_int t47) w49 fun t48_12 w50 =>
                pureK Tryd.prog (sBin .mul T_int (.const (.int .i64 16777216)) (.tmp 48) (.int .i64 16777216) t48_12) fun t49_12 =>
                pureK Tryd.prog (sBin .add T_int (.tmp 45) (.tmp 49) t45_14 t49_12) fun t50_14 =>
                J1 (t50_14, ()) w50)
               ∧ (upK Tryd.prog (sConv T_uint8 T_int t47) w48 fun t48_13 w51 =>
                pureK Tryd.prog (sBin .mul T_int (.const (.int .i64 16777216)) (.tmp 48) (.int .i64 16777216) t48_13) fun t49_13 =>
                upK Tryd.prog (sConv T_uint8 T_int t34) w51 fun t35_8 w52 =>
                pureK Tryd.prog (sBin .add T_int (.tmp 35) (.tmp 39) t35_8 t39_8) fun t40_13 =>
                pureK Tryd.prog (sBin .add T_int (.tmp 40) (.tmp 44) t40_13 t44_10) fun t45_15 =>
                pureK Tryd.prog (sBin .add T_int (.tmp 45) (.tmp 49) t45_15 t49_13) fun t50_15 =>
                J1 (t50_15, ()) w52)))
             ∧ (upK Tryd.prog (sConv T_uint8 T_int t47) w42 fun t48_14 w53 =>
              pureK Tryd.prog (sBin .mul T_int (.const (.int .i64 16777216)) (.tmp 48) (.int .i64 16777216) t48_14) fun t49_14 =>
              ((upK Tryd.prog (sConv T_uint8 T_int t34) w53 fun t35_9 w54 =>
                upK Tryd.prog (sConv T_uint8 T_int t37) w54 fun t38_9 w55 =>
                pureK Tryd.prog (sBin .mul T_int (.const (.int .i64 256)) (.tmp 38) (.int .i64 256) t38_9) fun t39_9 =>
                pureK Tryd.prog (sBin .add T_int (.tmp 35) (.tmp 39) t35_9 t39_9) fun t40_14 =>
                pureK Tryd.prog (sBin .add T_int (.tmp 40) (.tmp 44) t40_14 t44_10) fun t45_16 =>
                pureK Tryd.prog (sBin .add T_int (.tmp 45) (.tmp 49) t45_16 t49_14) fun t50_16 =>
                J1 (t50_16, ()) w55)
               ∧ (upK Tryd.prog (sConv T_uint8 T_int t37) w53 fun t38_10 w56 =>
                pureK Tryd.prog (sBin .mul T_int (.const (.int .i64 256)) (.tmp 38) (.int .i64 256) t38_10) fun t39_10 =>
                upK Tryd.prog (sConv T_uint8 T_int t34) w56 fun t35_10 w57 =>
                pureK Tryd.prog (sBin .add T_int (.tmp 35) (.tmp 39) t35_10 t39_10) fun t40_15 =>
                pureK Tryd.prog (sBin .add T_int (.tmp 40) (.tmp 44) t40_15 t44_10) fun t45_17 =>
                pureK Tryd.prog (sBin .add T_int (.tmp 45) (.tmp 49) t45_17 t49_14) fun t50_17 =>
                J1 (t50_17, ()) w57))))))
          ∧ (upK Tryd.prog (sConv T_uint8 T_int t47) (tick w2) fun t48_15 w58 =>
           pureK Tryd.prog (sBin .mul T_int (.const (.int .i64 16777216)) (.tmp 48) (.int .i64 16777216) t48_15) fun t49_15 =>
           ((upK Tryd.prog (sConv T_uint8 T_int t34) w58 fun t35_11 w59 =>
             ((upK Tryd.prog (sConv T_uint8 T_int t37) w59 fun t38_11 w60 =>
               pureK Tryd.prog (sBin .mul T_int (.const (.int .i64 256)) (.tmp 38) (.int .i64 256) t38_11) fun t39_11 =>
               pureK Tryd.prog (sBin .add T_int (.tmp 35) (.tmp 39) t35_11 t39_11) fun t40_16 =>
               upK Tryd.prog (sConv T_uint8 T_int t42) w60 fun t43_11 w61 =>
               pureK Tryd.prog (sBin .mul T_int (.const (.int .i64 65536)) (.tmp 43) (.int .i64 65536) t43_11) fun t44_11 =>
               pureK Tryd.prog (sBin .add T_int (.tmp 40) (.tmp 44) t40_16 t44_11) fun t45_18 =>
               pureK Tryd.prog (sBin .add T_int (.tmp 45) (.tmp 49) t45_18 t49_15) fun t50_18 =>
               J1 (t50_18, ()) w61)
              ∧ (upK Tryd.prog (sConv T_uint8 T_int t42) w59 fun t43_12 w62 =>
               pureK Tryd.prog (sBin .mul T_int (.const (.int .i64 65536)) (.tmp 43) (.int .i64 65536) t43_12) fun t44_12 =>
               upK Tryd.prog (sConv T_uint8 T_int t37) w62 fun t38_12 w63 =>
               pureK Tryd.prog (sBin .mul T_int (.const (.int .i64 256)) (.tmp 38) (.int .i64 256) t38_12) fun t39_12 =>
               pureK Tryd.prog (sBin .add T_int (.tmp 35) (.tmp 39) t35_11 t39_12) fun t40_17 =>
               pureK Tryd.prog (sBin .add T_int (.tmp 40) (.tmp 44) t40_17 t44_12) fun t45_19 =>
               pureK Tryd.prog (sBin .add T_int (.tmp 45) (.tmp 49) t45_19 t49_15) fun t50_19 =>
               J1 (t50_19, ()) w63)))
            ∧ ((upK Tryd.prog (sConv T_uint8 T_int t37) w58 fun t38_13 w64 =>
              pureK Tryd.prog (sBin .mul T_int (.const (.int .i64 256)) (.tmp 38) (.int .i64 256) t38_13) fun t39_13 =>
              ((upK Tryd.prog (sConv T_uint8 T_int t34) w64 fun t35_12 w65 =>
                pureK Tryd.prog (sBin .add T_int (.tmp 35) (.tmp 39) t35_12 t39_13) fun t40_18 =>
                upK Tryd.prog (sConv T_uint8 T_int t42) w65 fun t43_13 w66 =>
                pureK Tryd.prog (sBin .mul T_int (.const (.int .i64 65536)) (.tmp 43) (.int .i64 65536) t43_13) fun t44_13 =>
                pureK Tryd.prog (sBin .add T_int (.tmp 40) (.tmp 44) t40_18 t44_13) fun t45_20 =>
                pureK Tryd.prog (sBin .add T_int (.tmp 45) (.tmp 49) t45_20 t49_15) fun t50_20 =>
                J1 (t50_20, ()) w66)
               ∧ (upK Tryd.prog (sConv T_uint8 T_int t42) w64 fun t43_14 w67 =>
                pureK Tryd.prog (sBin .mul T_int (.const (.int .i64 65536)) (.tmp 43) (.int .i64 65536) t43_14) fun t44_14 =>
                upK Tryd.prog (sConv T_uint8 T_int t34) w67 fun t35_13 w68 =>
                pureK Tryd.prog (sBin .add T_int (.tmp 35) (.tmp 39) t35_13 t39_13) fun t40_19 =>
                pureK Tryd.prog (sBin .add T_int (.tmp 40) (.tmp 44) t40_19 t44_14) fun t45_21 =>
                pureK Tryd.prog (sBin .add T_int (.tmp 45) (.tmp 49) t45_21 t49_15) fun t50_21 =>
                J1 (t50_21, ()) w68)))
             ∧ (upK Tryd.prog (sConv T_uint8 T_int t42) w58 fun t43_15 w69 =>
              pureK Tryd.prog (sBin .mul T_int (.const (.int .i64 65536)) (.tmp 43) (.int .i64 65536) t43_15) fun t44_15 =>
              ((upK Tryd.prog (sConv T_uint8 T_int t34) w69 fun t35_14 w70 =>
                upK Tryd.prog (sConv T_uint8 T_int t37) w70 fun t38_14 w71 =>
                pureK Tryd.prog (sBin .mul T_int (.const (.int .i64 256)) (.tmp 38) (.int .i64 256) t38_14) fun t39_14 =>
                pureK Tryd.prog (sBin .add T_int (.tmp 35) (.tmp 39) t35_14 t39_14) fun t40_20 =>
                pureK Tryd.prog (sBin .add T_int (.tmp 40) (.tmp 44) t40_20 t44_15) fun t45_22 =>
                pureK Tryd.prog (sBin .add T_int (.tmp 45) (.tmp 49) t45_22 t49_15) fun t50_22 =>
                J1 (t50_22, ()) w71)
               ∧ (upK Tryd.prog (sConv T_uint8 T_int t37) w69 fun t38_15 w72 =>
                pureK Tryd.prog (sBin .mul T_int (.const (.int .i64 256)) (.tmp 38) (.int .i64 256) t38_15) fun t39_15 =>
                upK Tryd.prog (sConv T_uint8 T_int t34) w72 fun t35_15 w73 =>
                pureK Tryd.prog (sBin .add T_int (.tmp 35) (.tmp 39) t35_15 t39_15) fun t40_21 =>
                pureK Tryd.prog (sBin .add T_int (.tmp 40) (.tmp 44) t40_21 t44_15) fun t45_23 =>
                pureK Tryd.prog (sBin .add T_int (.tmp 45) (.tmp 49) t45_23 t49_15) fun t50_23 =>
                J1 (t50_23, ()) w73))))))))))))))
theorem errataref05_Open.pt_eq : errataref05_Open.pt = fun d0 file1 w K => FN Tryd.prog Tryd.f14 (bodyOf Tryd.f14) [4, 5] (.node none .leaf (.node none .leaf (.node none .leaf (.node none .leaf (.node none .leaf (.node none .leaf (.node none .leaf (.node (some [9]) .leaf (.node (some []) .leaf .leaf))))))))) [d0, file1] w K := by kernel_rfl
theorem errataref05_Open.call {d0 file1 : Value} {w : World} {K : Value → World → Prop} (h : errataref05_Open.pt d0 file1 w K) : Calls Tryd.prog F_errataref05_Open #[d0, file1] w (retK K) :=
  calls_FN (args := [d0, file1]) Tryd.func14 (by kernel_rfl) (by rw [errataref05_Open.pt_eq] at h; exact h)
theorem errataref05_Open.up {d0 file1 : Value} {w : World} {K : Value → World → Prop} (h : Calls Tryd.prog F_errataref05_Open #[d0, file1] w (retK K)) : upK Tryd.prog (sCall F_errataref05_Open #[d0, file1]) w K :=
  up_call (fn := Tryd.f14) Tryd.func14 (by kernel_rfl) (by kernel_rfl) h

/-- (*errata/cell.Cell).Get -/
def cell_Cell_Get.pt (c0 : Value) (w : World) (K : Value → World → Prop) : Prop :=
  pureK Tryd.prog (sNil c0) fun t5 =>
  pureK Tryd.prog (sFieldAddr T_cell_Cell t5 3) fun t6 =>
  readK Tryd.prog (sLoad T_string t6) (tick w) fun t7 =>
  pureK Tryd.prog (sNil c0) fun t9 =>
  pureK Tryd.prog (sFieldAddr T_cell_Cell t9 2) fun t10 =>
  readK Tryd.prog (sLoad T_int t10) (tick w) fun t11 =>
  pureK Tryd.prog (sBin .gtr T_int (.tmp 11) (.const (.int .i64 0)) t11 (.int .i64 0)) fun t12 =>
  K (.tuple #[t7, t12]) (tick w)
theorem cell_Cell_Get.pt_eq : cell_Cell_Get.pt = fun c0 w K => FN Tryd.prog Tryd.f15 (bodyOf Tryd.f15) [2, 3] .leaf [c0] w K := by kernel_rfl
theorem cell_Cell_Get.call {c0 : Value} {w : World} {K : Value → World → Prop} (h : cell_Cell_Get.pt c0 w K) : Calls Tryd.prog F_cell_Cell_Get #[c0] w (retK K) :=
  calls_FN (args := [c0]) Tryd.func15 (by kernel_rfl) (by rw [cell_Cell_Get.pt_eq] at h; exact h)
theorem cell_Cell_Get.up {c0 : Value} {w : World} {K : Value → World → Prop} (h : Calls Tryd.prog F_cell_Cell_Get #[c0] w (retK K)) : upK Tryd.prog (sCall F_cell_Cell_Get #[c0]) w K :=
  up_call (fn := Tryd.f15) Tryd.func15 (by kernel_rfl) (by kernel_rfl) h

/-- (*errata/errataref05.Cell).Get -/
def errataref05_Cell_Get.pt (c0 : Value) (w : World) (K : Value → World → Prop) : Prop :=
  pureK Tryd.prog (sNil c0) fun t5 =>
  pureK Tryd.prog (sFieldAddr T_errataref05_Cell t5 3) fun t6 =>
  readK Tryd.prog (sLoad T_string t6) (tick w) fun t7 =>
  pureK Tryd.prog (sNil c0) fun t9 =>
  pureK Tryd.prog (sFieldAddr T_errataref05_Cell t9 2) fun t10 =>
  readK Tryd.prog (sLoad T_int t10) (tick w) fun t11 =>
  pureK Tryd.prog (sBin .neq T_int (.tmp 11) (.const (.int .i64 0)) t11 (.int .i64 0)) fun t12 =>
  K (.tuple #[t7, t12]) (tick w)
theorem errataref05_Cell_Get.pt_eq : errataref05_Cell_Get.pt = fun c0 w K => FN Tryd.prog Tryd.f16 (bodyOf Tryd.f16) [2, 3] .leaf [c0] w K := by kernel_rfl
theorem errataref05_Cell_Get.call {c0 : Value} {w : World} {K : Value → World → Prop} (h : errataref05_Cell_Get.pt c0 w K) : Calls Tryd.prog F_errataref05_Cell_Get #[c0] w (retK K) :=
  calls_FN (args := [c0]) Tryd.func16 (by kernel_rfl) (by rw [errataref05_Cell_Get.pt_eq] at h; exact h)
theorem errataref05_Cell_Get.up {c0 : Value} {w : World} {K : Value → World → Prop} (h : Calls Tryd.prog F_errataref05_Cell_Get #[c0] w (retK K)) : upK Tryd.prog (sCall F_errataref05_Cell_Get #[c0]) w K :=
  up_call (fn := Tryd.f16) Tryd.func16 (by kernel_rfl) (by kernel_rfl) h

/-- errata/erratalaw05.few -/
def erratalaw05_few.pt (l0 : Value) (w : World) (K : Value → World → Prop) : Prop :=
  LOOP (X := Value × Unit) (fun x1 w1 next1 =>
   readK Tryd.prog (sBlt .len #[T_s_errataref05_Op] T_int #[false] #[l0]) w1 fun t6 =>
   pureK Tryd.prog (sBin .lss T_int (.tmp 4) (.tmp 6) x1.1 t6) fun t7 =>
   ifB t7
   (pureK Tryd.prog (sIdxAddr T_s_errataref05_Op l0 x1.1) fun t12 =>
    pureK Tryd.prog (sFieldAddr T_errataref05_Op t12 1) fun t13 =>
    readK Tryd.prog (sLoad T_string t13) w1 fun t14 =>
    readK Tryd.prog (sBlt .len #[T_string] T_int #[false] #[t14]) w1 fun t15 =>
    pureK Tryd.prog (sBin .gtr T_int (.tmp 15) (.const (.int .i64 400)) t15 (.int .i64 400)) fun t16 =>
    ifB t16
    (K (.bool false) w1)
    (pureK Tryd.prog (sIdxAddr T_s_errataref05_Op l0 x1.1) fun t20 =>
     pureK Tryd.prog (sFieldAddr T_errataref05_Op t20 3) fun t21 =>
     readK Tryd.prog (sLoad T_s_int t21) w1 fun t22 =>
     readK Tryd.prog (sBlt .len #[T_s_int] T_int #[false] #[t22]) w1 fun t23 =>
     pureK Tryd.prog (sBin .gtr T_int (.tmp 23) (.const (.int .i64 100)) t23 (.int .i64 100)) fun t24 =>
     ifB t24
     (K (.bool false) w1)
     (pureK Tryd.prog (sBin .add T_int (.tmp 8) (.const (.int .i64 1)) x1.1 (.int .i64 1)) fun t9 =>
      next1 (t9, ()) w1)))
   (readK Tryd.prog (sBlt .len #[T_s_errataref05_Op] T_int #[false] #[l0]) w1 fun t27 =>
    pureK Tryd.prog (sBin .leq T_int (.tmp 27) (.const (.int .i64 30)) t27 (.int .i64 30)) fun t28 =>
    K t28 w1))
  ((.int .i64 0), ()) w
theorem erratalaw05_few.pt_eq : erratalaw05_few.pt = fun l0 w K => FN Tryd.prog Tryd.f17 (bodyOf Tryd.f17) [2] .leaf [l0] w K := by kernel_rfl
theorem erratalaw05_few.call {l0 : Value} {w : World} {K : Value → World → Prop} (h : erratalaw05_few.pt l0 w K) : Calls Tryd.prog F_erratalaw05_few #[l0] w (retK K) :=
  calls_FN (args := [l0]) Tryd.func17 (by kernel_rfl) (by rw [erratalaw05_few.pt_eq] at h; exact h)
theorem erratalaw05_few.up {l0 : Value} {w : World} {K : Value → World → Prop} (h : Calls Tryd.prog F_erratalaw05_few #[l0] w (retK K)) : upK Tryd.prog (sCall F_erratalaw05_few #[l0]) w K :=
  up_call (fn := Tryd.f17) Tryd.func17 (by kernel_rfl) (by kernel_rfl) h

/-- (*errata/cell.Cell).Set -/
def cell_Cell_Set.pt (c0 s1 : Value) (w : World) (K : Value → World → Prop) : Prop :=
  readK Tryd.prog (sBlt .len #[T_string] T_int #[false] #[s1]) w fun t12 =>
  pureK Tryd.prog (sBin .gtr T_int (.tmp 12) (.const (.int .i64 65536)) t12 (.int .i64 65536)) fun t13 =>
  ifB t13
  (K (.int .i64 6) w)
  (LETJ (X := Unit) (fun y1 w1 =>
    LETJ (X := Value × Unit) (fun y2 w2 =>
     pureK Tryd.prog (sNil c0) fun t47 =>
     pureK Tryd.prog (sFieldAddr T_cell_Cell t47 0) fun t48 =>
     readK Tryd.prog (sLoad T_p_disk_Disk t48) (tick w2) fun t49 =>
     pureK Tryd.prog (sNil c0) fun t51 =>
     pureK Tryd.prog (sFieldAddr T_cell_Cell t51 1) fun t52 =>
     readK Tryd.prog (sLoad T_int t52) (tick w2) fun t53 =>
     pureK Tryd.prog (sIdxAddr T_3_int (.pointer (some ⟨0, 0, none⟩)) y2.1) fun t55 =>
     readK Tryd.prog (sLoad T_int t55) (tick w2) fun t56 =>
     upK Tryd.prog (sCall F_disk_Disk_Write #[t49, t53, t56, s1]) (tick w2) fun t58 w3 =>
     pureK Tryd.prog (sBin .neq T_api_Errno (.tmp 59) (.const (.int .i64 0)) t58 (.int .i64 0)) fun t60 =>
     ifB t60
     (K t58 w3)
     (pureK Tryd.prog (sNil c0) fun t63 =>
      pureK Tryd.prog (sFieldAddr T_cell_Cell t63 0) fun t64 =>
      readK Tryd.prog (sLoad T_p_disk_Disk t64) (tick w3) fun t65 =>
      pureK Tryd.prog (sNil c0) fun t67 =>
      pureK Tryd.prog (sFieldAddr T_cell_Cell t67 1) fun t68 =>
      readK Tryd.prog (sLoad T_int t68) (tick w3) fun t69 =>
      upK Tryd.prog (sCall F_disk_Disk_Sync #[t65, t69]) (tick w3) fun t70 w4 =>
      pureK Tryd.prog (sBin .neq T_api_Errno (.tmp 71) (.const (.int .i64 0)) t70 (.int .i64 0)) fun t72 =>
      ifB t72
      (K t70 w4)
      (pureK Tryd.prog (sNil c0) fun t75 =>
       pureK Tryd.prog (sFieldAddr T_cell_Cell t75 0) fun t76 =>
       readK Tryd.prog (sLoad T_p_disk_Disk t76) (tick w4) fun t77 =>
       pureK Tryd.prog (sNil c0) fun t79 =>
       pureK Tryd.prog (sFieldAddr T_cell_Cell t79 1) fun t80 =>
       readK Tryd.prog (sLoad T_int t80) (tick w4) fun t81 =>
       upK Tryd.prog (sCall F_cell_header #[y2.1, s1]) (tick w4) fun t84 w5 =>
       Is Tryd.prog (sLoad T_int t80) t81 w5 ∧ Is Tryd.prog (sLoad T_p_disk_Disk t76) t77 w5 ∧ upK Tryd.prog (sCall F_disk_Disk_Write #[t77, t81, (.int .i64 0), t84]) w5 fun t85 w6 =>
       pureK Tryd.prog (sBin .neq T_api_Errno (.tmp 86) (.const (.int .i64 0)) t85 (.int .i64 0)) fun t87 =>
       ifB t87
       (K t85 w6)
       (pureK Tryd.prog (sNil c0) fun t94 =>
        pureK Tryd.prog (sFieldAddr T_cell_Cell t94 2) fun t95 =>
        upK Tryd.prog (sStore T_int t95 y2.1) w6 fun tu w7 =>
        pureK Tryd.prog (sNil c0) fun t96 =>
        pureK Tryd.prog (sFieldAddr T_cell_Cell t96 3) fun t97 =>
        upK Tryd.prog (sStore T_string t97 s1) w7 fun tu_1 w8 =>
        pureK Tryd.prog (sNil c0) fun t98 =>
        pureK Tryd.prog (sFieldAddr T_cell_Cell t98 4) fun t99 =>
        upK Tryd.prog (sStore T_bool t99 (.bool false)) w8 fun tu_2 w9 =>
        pureK Tryd.prog (sNil c0) fun t101 =>
        pureK Tryd.prog (sFieldAddr T_cell_Cell t101 0) fun t102 =>
        readK Tryd.prog (sLoad T_p_disk_Disk t102) (tick w9) fun t103 =>
        pureK Tryd.prog (sNil c0) fun t105 =>
        pureK Tryd.prog (sFieldAddr T_cell_Cell t105 1) fun t106 =>
        readK Tryd.prog (sLoad T_int t106) (tick w9) fun t107 =>
        upK Tryd.prog (sCall F_disk_Disk_Sync #[t103, t107]) (tick w9) fun t108 w10 =>
        pureK Tryd.prog (sBin .eql T_api_Errno (.tmp 110) (.const (.int .i64 0)) t108 (.int .i64 0)) fun t111 =>
        pureK Tryd.prog (sNil c0) fun t112 =>
        pureK Tryd.prog (sFieldAddr T_cell_Cell t112 4) fun t113 =>
        upK Tryd.prog (sStore T_bool t113 t111) w10 fun tu_3 w11 =>
        K t108 w11))))
    (fun J2 =>
     pureK Tryd.prog (sNil c0) fun t42 =>
     pureK Tryd.prog (sFieldAddr T_cell_Cell t42 2) fun t43 =>
     readK Tryd.prog (sLoad T_int t43) w1 fun t44 =>
     pureK Tryd.prog (sBin .eql T_int (.tmp 44) (.const (.int .i64 1)) t44 (.int .i64 1)) fun t45 =>
     ifB t45
     (J2 ((.int .i64 2), ()) w1)
     (J2 ((.int .i64 1), ()) w1)))
   (fun J1 =>
    pureK Tryd.prog (sNil c0) fun t15 =>
    pureK Tryd.prog (sFieldAddr T_cell_Cell t15 4) fun t16 =>
    readK Tryd.prog (sLoad T_bool t16) w fun t17 =>
    pureK Tryd.prog (sUn .not t17) fun t18 =>
    ifB t18
    (pureK Tryd.prog (sNil c0) fun t21 =>
     pureK Tryd.prog (sFieldAddr T_cell_Cell t21 2) fun t22 =>
     readK Tryd.prog (sLoad T_int t22) w fun t23 =>
     pureK Tryd.prog (sBin .gtr T_int (.tmp 23) (.const (.int .i64 0)) t23 (.int .i64 0)) fun t24 =>
     ifB t24
     (pureK Tryd.prog (sNil c0) fun t27 =>
      pureK Tryd.prog (sFieldAddr T_cell_Cell t27 0) fun t28 =>
      readK Tryd.prog (sLoad T_p_disk_Disk t28) (tick w) fun t29 =>
      pureK Tryd.prog (sNil c0) fun t31 =>
      pureK Tryd.prog (sFieldAddr T_cell_Cell t31 1) fun t32 =>
      readK Tryd.prog (sLoad T_int t32) (tick w) fun t33 =>
      upK Tryd.prog (sCall F_disk_Disk_Sync #[t29, t33]) (tick w) fun t34 w12 =>
      pureK Tryd.prog (sBin .neq T_api_Errno (.tmp 35) (.const (.int .i64 0)) t34 (.int .i64 0)) fun t36 =>
      ifB t36
      (K t34 w12)
      (pureK Tryd.prog (sNil c0) fun t39 =>
       pureK Tryd.prog (sFieldAddr T_cell_Cell t39 4) fun t40 =>
       upK Tryd.prog (sStore T_bool t40 (.bool true)) w12 fun tu_4 w13 =>
       J1 (()) w13))
     (J1 (()) w))
    (J1 (()) w)))
theorem cell_Cell_Set.pt_eq : cell_Cell_Set.pt = fun c0 s1 w K => FN Tryd.prog Tryd.f18 (bodyOf Tryd.f18) [4] (.node none .leaf (.node none .leaf (.node (some []) .leaf (.node none .leaf (.node (some [6]) .leaf .leaf))))) [c0, s1] w K := by kernel_rfl
theorem cell_Cell_Set.call {c0 s1 : Value} {w : World} {K : Value → World → Prop} (h : cell_Cell_Set.pt c0 s1 w K) : Calls Tryd.prog F_cell_Cell_Set #[c0, s1] w (retK K) :=
  calls_FN (args := [c0, s1]) Tryd.func18 (by kernel_rfl) (by rw [cell_Cell_Set.pt_eq] at h; exact h)
theorem cell_Cell_Set.up {c0 s1 : Value} {w : World} {K : Value → World → Prop} (h : Calls Tryd.prog F_cell_Cell_Set #[c0, s1] w (retK K)) : upK Tryd.prog (sCall F_cell_Cell_Set #[c0, s1]) w K :=
  up_call (fn := Tryd.f18) Tryd.func18 (by kernel_rfl) (by kernel_rfl) h

/-- (*errata/disk.Disk).Lose -/
def disk_Disk_Lose.pt (d0 n1 : Value) (w : World) (K : Value → World → Prop) : Prop :=
  pureK Tryd.prog (sBlt .max #[T_int, T_int] T_int #[false, true] #[n1, (.int .i64 0)]) fun t6 =>
  pureK Tryd.prog (sNil d0) fun t7 =>
  pureK Tryd.prog (sFieldAddr T_disk_Disk t7 3) fun t8 =>
  upK Tryd.prog (sStore T_int t8 t6) w fun tu w1 =>
  K (.tuple #[]) w1
theorem disk_Disk_Lose.pt_eq : disk_Disk_Lose.pt = fun d0 n1 w K => FN Tryd.prog Tryd.f19 (bodyOf Tryd.f19) [] .leaf [d0, n1] w K := by kernel_rfl
theorem disk_Disk_Lose.call {d0 n1 : Value} {w : World} {K : Value → World → Prop} (h : disk_Disk_Lose.pt d0 n1 w K) : Calls Tryd.prog F_disk_Disk_Lose #[d0, n1] w (retK K) :=
  calls_FN (args := [d0, n1]) Tryd.func19 (by kernel_rfl) (by rw [disk_Disk_Lose.pt_eq] at h; exact h)
theorem disk_Disk_Lose.up {d0 n1 : Value} {w : World} {K : Value → World → Prop} (h : Calls Tryd.prog F_disk_Disk_Lose #[d0, n1] w (retK K)) : upK Tryd.prog (sCall F_disk_Disk_Lose #[d0, n1]) w K :=
  up_call (fn := Tryd.f19) Tryd.func19 (by kernel_rfl) (by kernel_rfl) h

/-- errata/erratalaw05.again -/
def erratalaw05_again.pt (d0 keep1 : Value) (w : World) (K : Value → World → Prop) : Prop :=
  upK Tryd.prog (sCall F_disk_Disk_Crash #[d0, keep1]) w fun t8 w1 =>
  upK Tryd.prog (sCall F_disk_Disk_Start #[d0]) w1 fun t10 w2 =>
  upK Tryd.prog (sCall F_cell_Open #[d0, (.int .i64 3)]) w2 fun t12 w3 =>
  pureK Tryd.prog (sExtract t12 0) fun t13 =>
  pureK Tryd.prog (sExtract t12 1) fun t14 =>
  K (.tuple #[t13, t14]) w3
theorem erratalaw05_again.pt_eq : erratalaw05_again.pt = fun d0 keep1 w K => FN Tryd.prog Tryd.f20 (bodyOf Tryd.f20) [4, 5] .leaf [d0, keep1] w K := by kernel_rfl
theorem erratalaw05_again.call {d0 keep1 : Value} {w : World} {K : Value → World → Prop} (h : erratalaw05_again.pt d0 keep1 w K) : Calls Tryd.prog F_erratalaw05_again #[d0, keep1] w (retK K) :=
  calls_FN (args := [d0, keep1]) Tryd.func20 (by kernel_rfl) (by rw [erratalaw05_again.pt_eq] at h; exact h)
theorem erratalaw05_again.up {d0 keep1 : Value} {w : World} {K : Value → World → Prop} (h : Calls Tryd.prog F_erratalaw05_again #[d0, keep1] w (retK K)) : upK Tryd.prog (sCall F_erratalaw05_again #[d0, keep1]) w K :=
  up_call (fn := Tryd.f20) Tryd.func20 (by kernel_rfl) (by kernel_rfl) h

/-- (*errata/disk.Disk).Arm -/
def disk_Disk_Arm.pt (d0 n1 keep2 : Value) (w : World) (K : Value → World → Prop) : Prop :=
  pureK Tryd.prog (sBlt .max #[T_int, T_int] T_int #[false, true] #[n1, (.int .i64 0)]) fun t9 =>
  upK Tryd.prog (sCall F_slices_Clone_s_int_int #[keep2]) w fun t11 w1 =>
  pureK Tryd.prog (sNil d0) fun t12 =>
  pureK Tryd.prog (sFieldAddr T_disk_Disk t12 5) fun t13 =>
  upK Tryd.prog (sStore T_int t13 t9) w1 fun tu w2 =>
  pureK Tryd.prog (sNil d0) fun t14 =>
  pureK Tryd.prog (sFieldAddr T_disk_Disk t14 6) fun t15 =>
  upK Tryd.prog (sStore T_s_int t15 t11) w2 fun tu_1 w3 =>
  K (.tuple #[]) w3
theorem disk_Disk_Arm.pt_eq : disk_Disk_Arm.pt = fun d0 n1 keep2 w K => FN Tryd.prog Tryd.f21 (bodyOf Tryd.f21) [] .leaf [d0, n1, keep2] w K := by kernel_rfl
theorem disk_Disk_Arm.call {d0 n1 keep2 : Value} {w : World} {K : Value → World → Prop} (h : disk_Disk_Arm.pt d0 n1 keep2 w K) : Calls Tryd.prog F_disk_Disk_Arm #[d0, n1, keep2] w (retK K) :=
  calls_FN (args := [d0, n1, keep2]) Tryd.func21 (by kernel_rfl) (by rw [disk_Disk_Arm.pt_eq] at h; exact h)
theorem disk_Disk_Arm.up {d0 n1 keep2 : Value} {w : World} {K : Value → World → Prop} (h : Calls Tryd.prog F_disk_Disk_Arm #[d0, n1, keep2] w (retK K)) : upK Tryd.prog (sCall F_disk_Disk_Arm #[d0, n1, keep2]) w K :=
  up_call (fn := Tryd.f21) Tryd.func21 (by kernel_rfl) (by kernel_rfl) h

/-- (*errata/disk.Disk).Crash -/
def disk_Disk_Crash.pt (d0 keep1 : Value) (w : World) (K : Value → World → Prop) : Prop :=
  pureK Tryd.prog (sNil d0) fun t11 =>
  pureK Tryd.prog (sFieldAddr T_disk_Disk t11 4) fun t12 =>
  readK Tryd.prog (sLoad T_bool t12) w fun t13 =>
  ifB t13
  (K (.tuple #[]) w)
  (pureK Tryd.prog (sNil d0) fun t16 =>
   pureK Tryd.prog (sFieldAddr T_disk_Disk t16 4) fun t17 =>
   upK Tryd.prog (sStore T_bool t17 (.bool true)) w fun tu w1 =>
   pureK Tryd.prog (sNil d0) fun t18 =>
   pureK Tryd.prog (sFieldAddr T_disk_Disk t18 5) fun t19 =>
   upK Tryd.prog (sStore T_int t19 (.int .i64 0)) w1 fun tu_1 w2 =>
   pureK Tryd.prog (sNil d0) fun t21 =>
   pureK Tryd.prog (sFieldAddr T_disk_Disk t21 1) fun t22 =>
   readK Tryd.prog (sLoad T_s_disk_sector t22) w2 fun t23 =>
   readK Tryd.prog (sBlt .len #[T_s_disk_sector] T_int #[false] #[t23]) w2 fun t24 =>
   LOOP (X := Value × Unit) (fun x3 w3 next3 =>
    pureK Tryd.prog (sBin .lss T_int (.tmp 25) (.tmp 24) x3.1 t24) fun t26 =>
    ifB t26
    (LETJ (X := Unit) (fun y1 w4 =>
      pureK Tryd.prog (sBin .add T_int (.tmp 25) (.const (.int .i64 1)) x3.1 (.int .i64 1)) fun t83 =>
      next3 (t83, ()) w4)
     (fun J1 =>
      pureK Tryd.prog (sIdxAddr T_s_disk_sector t23 x3.1) fun t28 =>
      readK Tryd.prog (sLoad T_disk_sector t28) w3 fun t29 =>
      upK Tryd.prog (sAlloc T_disk_sector) w3 fun p5 w5 =>
      upK Tryd.prog (sStore T_disk_sector p5 t29) w5 fun tu_2 w6 =>
      pureK Tryd.prog (sNil d0) fun t31 =>
      pureK Tryd.prog (sFieldAddr T_disk_Disk t31 0) fun t32 =>
      readK Tryd.prog (sLoad T_map_int_disk_file t32) (tick w6) fun t33 =>
      pureK Tryd.prog (sFieldAddr T_disk_sector p5 0) fun t34 =>
      readK Tryd.prog (sLoad T_int t34) (tick w6) fun t35 =>
      readK Tryd.prog (sLookup T_map_int_disk_file t33 t35 false) (tick w6) fun t36 =>
      pureK Tryd.prog (sFieldAddr T_disk_sector p5 1) fun t37 =>
      readK Tryd.prog (sLoad T_int t37) (tick w6) fun t38 =>
      pureK Tryd.prog (sBin .mul T_int (.tmp 38) (.const (.int .i64 64)) t38 (.int .i64 64)) fun t39 =>
      upK Tryd.prog (sAlloc T_disk_file) (tick w6) fun f6 w7 =>
      Is Tryd.prog (sLoad T_int t37) t38 w7 ∧ Is Tryd.prog (sLookup T_map_int_disk_file t33 t35 false) t36 w7 ∧ Is Tryd.prog (sLoad T_int t34) t35 w7 ∧ Is Tryd.prog (sLoad T_map_int_disk_file t32) t33 w7 ∧ upK Tryd.prog (sStore T_disk_file f6 t36) w7 fun tu_3 w8 =>
      Is Tryd.prog (sLoad T_int t37) t38 w8 ∧ readK Tryd.prog (sBlt .len #[T_s_int] T_int #[false] #[keep1]) w8 fun t41 =>
      pureK Tryd.prog (sBin .eql T_int (.tmp 41) (.const (.int .i64 0)) t41 (.int .i64 0)) fun t42 =>
      ifB t42
      (J1 (()) w8)
      (readK Tryd.prog (sBlt .len #[T_s_int] T_int #[false] #[keep1]) w8 fun t47 =>
       pureK Tryd.prog (sBin .rem T_int (.tmp 45) (.tmp 47) x3.1 t47) fun t48 =>
       pureK Tryd.prog (sIdxAddr T_s_int keep1 t48) fun t49 =>
       readK Tryd.prog (sLoad T_int t49) w8 fun t50 =>
       pureK Tryd.prog (sBin .and T_int (.tmp 50) (.const (.int .i64 1)) t50 (.int .i64 1)) fun t51 =>
       pureK Tryd.prog (sBin .eql T_int (.tmp 51) (.const (.int .i64 0)) t51 (.int .i64 0)) fun t52 =>
       ifB t52
       (J1 (()) w8)
       (pureK Tryd.prog (sFieldAddr T_disk_file f6 0) fun t56 =>
        readK Tryd.prog (sLoad T_string t56) w8 fun t57 =>
        readK Tryd.prog (sBlt .len #[T_string] T_int #[false] #[t57]) w8 fun t58 =>
        pureK Tryd.prog (sBin .geq T_int (.tmp 55) (.tmp 58) t39 t58) fun t59 =>
        ifB t59
        (J1 (()) w8)
        (pureK Tryd.prog (sFieldAddr T_disk_file f6 1) fun t61 =>
         readK Tryd.prog (sLoad T_string t61) (tick w8) fun t62 =>
         pureK Tryd.prog (sFieldAddr T_disk_file f6 0) fun t64 =>
         readK Tryd.prog (sLoad T_string t64) (tick w8) fun t65 =>
         pureK Tryd.prog (sBin .add T_int (.tmp 67) (.const (.int .i64 64)) t39 (.int .i64 64)) fun t68 =>
         pureK Tryd.prog (sFieldAddr T_disk_file f6 0) fun t69 =>
         readK Tryd.prog (sLoad T_string t69) (tick w8) fun t70 =>
         readK Tryd.prog (sBlt .len #[T_string] T_int #[false] #[t70]) (tick w8) fun t71 =>
         pureK Tryd.prog (sBlt .min #[T_int, T_int] T_int #[false, false] #[t68, t71]) fun t72 =>
         pureK Tryd.prog (sSlice T_string t65 (some t39) (some t72) none) fun t73 =>
         upK Tryd.prog (sCall F_disk_put #[t62, t39, t73]) (tick w8) fun t74 w9 =>
         pureK Tryd.prog (sFieldAddr T_disk_file f6 1) fun t75 =>
         upK Tryd.prog (sStore T_string t75 t74) w9 fun tu_4 w10 =>
         pureK Tryd.prog (sNil d0) fun t77 =>
         pureK Tryd.prog (sFieldAddr T_disk_Disk t77 0) fun t78 =>
         readK Tryd.prog (sLoad T_map_int_disk_file t78) (tick w10) fun t79 =>
         pureK Tryd.prog (sFieldAddr T_disk_sector p5 0) fun t80 =>
         readK Tryd.prog (sLoad T_int t80) (tick w10) fun t81 =>
         readK Tryd.prog (sLoad T_disk_file f6) (tick w10) fun t82 =>
         upK Tryd.prog (sMapUpd T_map_int_disk_file t79 t81 t82) (tick w10) fun tu_5 w11 =>
         J1 (()) w11)))))
    (pureK Tryd.prog (sNil d0) fun t85 =>
     pureK Tryd.prog (sFieldAddr T_disk_Disk t85 0) fun t86 =>
     readK Tryd.prog (sLoad T_map_int_disk_file t86) w3 fun t87 =>
     upK Tryd.prog (sRange T_map_int_disk_file t87) w3 fun t88 w12 =>
     LOOP (X := Unit) (fun x13 w13 next13 =>
      upK Tryd.prog (sNext t88 false T_) w13 fun t89 w14 =>
      pureK Tryd.prog (sExtract t89 0) fun t90 =>
      ifB t90
      (upK Tryd.prog (sEntry t88) w14 fun t91 w15 =>
       pureK Tryd.prog (sExtract t91 0) fun t92 =>
       pureK Tryd.prog (sExtract t91 1) fun t93 =>
       upK Tryd.prog (sAlloc T_disk_file) w15 fun f9 w16 =>
       upK Tryd.prog (sStore T_disk_file f9 t93) w16 fun tu_6 w17 =>
       pureK Tryd.prog (sNil d0) fun t95 =>
       pureK Tryd.prog (sFieldAddr T_disk_Disk t95 0) fun t96 =>
       readK Tryd.prog (sLoad T_map_int_disk_file t96) (tick w17) fun t97 =>
       pureK Tryd.prog (sFieldAddr T_disk_file f9 1) fun t99 =>
       readK Tryd.prog (sLoad T_string t99) (tick w17) fun t100 =>
       pureK Tryd.prog (sFieldAddr T_disk_file f9 1) fun t101 =>
       readK Tryd.prog (sLoad T_string t101) (tick w17) fun t102 =>
       pureK Tryd.prog (sBuild T_disk_file #[(0, t100), (1, t102)]) fun t103 =>
       upK Tryd.prog (sMapUpd T_map_int_disk_file t97 t92 t103) (tick w17) fun tu_7 w18 =>
       next13 (()) w18)
      (upK Tryd.prog (sMkMap T_map_disk_sector_bool none) w14 fun t106 w19 =>
       pureK Tryd.prog (sNil d0) fun t107 =>
       pureK Tryd.prog (sFieldAddr T_disk_Disk t107 1) fun t108 =>
       upK Tryd.prog (sStore T_s_disk_sector t108 (.slice none 0 0)) w19 fun tu_8 w20 =>
       pureK Tryd.prog (sNil d0) fun t109 =>
       pureK Tryd.prog (sFieldAddr T_disk_Disk t109 2) fun t110 =>
       upK Tryd.prog (sStore T_map_disk_sector_bool t110 t106) w20 fun tu_9 w21 =>
       K (.tuple #[]) w21))
     (()) w12))
   ((.int .i64 0), ()) w2)
theorem disk_Disk_Crash.pt_eq : disk_Disk_Crash.pt = fun d0 keep1 w K => FN Tryd.prog Tryd.f22 (bodyOf Tryd.f22) [] (.node none .leaf (.node none .leaf (.node none (.node none .leaf (.node none (.node none (.node none .leaf (.node none .leaf (.node (some []) .leaf .leaf))) .leaf) .leaf)) .leaf))) [d0, keep1] w K := by kernel_rfl
theorem disk_Disk_Crash.call {d0 keep1 : Value} {w : World} {K : Value → World → Prop} (h : disk_Disk_Crash.pt d0 keep1 w K) : Calls Tryd.prog F_disk_Disk_Crash #[d0, keep1] w (retK K) :=
  calls_FN (args := [d0, keep1]) Tryd.func22 (by kernel_rfl) (by rw [disk_Disk_Crash.pt_eq] at h; exact h)
theorem disk_Disk_Crash.up {d0 keep1 : Value} {w : World} {K : Value → World → Prop} (h : Calls Tryd.prog F_disk_Disk_Crash #[d0, keep1] w (retK K)) : upK Tryd.prog (sCall F_disk_Disk_Crash #[d0, keep1]) w K :=
  up_call (fn := Tryd.f22) Tryd.func22 (by kernel_rfl) (by kernel_rfl) h

/-- (*errata/disk.Disk).Start -/
def disk_Disk_Start.pt (d0 : Value) (w : World) (K : Value → World → Prop) : Prop :=
  pureK Tryd.prog (sNil d0) fun t3 =>
  pureK Tryd.prog (sFieldAddr T_disk_Disk t3 4) fun t4 =>
  upK Tryd.prog (sStore T_bool t4 (.bool false)) w fun tu w1 =>
  K (.tuple #[]) w1
theorem disk_Disk_Start.pt_eq : disk_Disk_Start.pt = fun d0 w K => FN Tryd.prog Tryd.f23 (bodyOf Tryd.f23) [] .leaf [d0] w K := by kernel_rfl
theorem disk_Disk_Start.call {d0 : Value} {w : World} {K : Value → World → Prop} (h : disk_Disk_Start.pt d0 w K) : Calls Tryd.prog F_disk_Disk_Start #[d0] w (retK K) :=
  calls_FN (args := [d0]) Tryd.func23 (by kernel_rfl) (by rw [disk_Disk_Start.pt_eq] at h; exact h)
theorem disk_Disk_Start.up {d0 : Value} {w : World} {K : Value → World → Prop} (h : Calls Tryd.prog F_disk_Disk_Start #[d0] w (retK K)) : upK Tryd.prog (sCall F_disk_Disk_Start #[d0]) w K :=
  up_call (fn := Tryd.f23) Tryd.func23 (by kernel_rfl) (by kernel_rfl) h

/-- errata/erratalaw05.has -/
def erratalaw05_has.pt (l0 s1 : Value) (w : World) (K : Value → World → Prop) : Prop :=
  LOOP (X := Value × Unit) (fun x1 w1 next1 =>
   readK Tryd.prog (sBlt .len #[T_s_string] T_int #[false] #[l0]) w1 fun t8 =>
   pureK Tryd.prog (sBin .lss T_int (.tmp 6) (.tmp 8) x1.1 t8) fun t9 =>
   ifB t9
   (pureK Tryd.prog (sIdxAddr T_s_string l0 x1.1) fun t14 =>
    readK Tryd.prog (sLoad T_string t14) w1 fun t15 =>
    pureK Tryd.prog (sBin .eql T_string (.tmp 15) (.tmp 16) t15 s1) fun t17 =>
    ifB t17
    (K (.bool true) w1)
    (pureK Tryd.prog (sBin .add T_int (.tmp 10) (.const (.int .i64 1)) x1.1 (.int .i64 1)) fun t11 =>
     next1 (t11, ()) w1))
   (K (.bool false) w1))
  ((.int .i64 0), ()) w
theorem erratalaw05_has.pt_eq : erratalaw05_has.pt = fun l0 s1 w K => FN Tryd.prog Tryd.f24 (bodyOf Tryd.f24) [4] .leaf [l0, s1] w K := by kernel_rfl
theorem erratalaw05_has.call {l0 s1 : Value} {w : World} {K : Value → World → Prop} (h : erratalaw05_has.pt l0 s1 w K) : Calls Tryd.prog F_erratalaw05_has #[l0, s1] w (retK K) :=
  calls_FN (args := [l0, s1]) Tryd.func24 (by kernel_rfl) (by rw [erratalaw05_has.pt_eq] at h; exact h)
theorem erratalaw05_has.up {l0 s1 : Value} {w : World} {K : Value → World → Prop} (h : Calls Tryd.prog F_erratalaw05_has #[l0, s1] w (retK K)) : upK Tryd.prog (sCall F_erratalaw05_has #[l0, s1]) w K :=
  up_call (fn := Tryd.f24) Tryd.func24 (by kernel_rfl) (by kernel_rfl) h

/-- (*errata/errataref05.Cell).Set -/
def errataref05_Cell_Set.pt (c0 s1 : Value) (w : World) (K : Value → World → Prop) : Prop :=
  readK Tryd.prog (sBlt .len #[T_string] T_int #[false] #[s1]) w fun t10 =>
  pureK Tryd.prog (sBin .gtr T_int (.tmp 10) (.const (.int .i64 65536)) t10 (.int .i64 65536)) fun t11 =>
  ifB t11
  (K (.int .i64 6) w)
  (LETJ (X := Unit) (fun y1 w1 =>
    LETJ (X := Value × Unit) (fun y2 w2 =>
     pureK Tryd.prog (sNil c0) fun t45 =>
     pureK Tryd.prog (sFieldAddr T_errataref05_Cell t45 0) fun t46 =>
     readK Tryd.prog (sLoad T_p_errataref04_Disk t46) (tick w2) fun t47 =>
     pureK Tryd.prog (sNil c0) fun t49 =>
     pureK Tryd.prog (sFieldAddr T_errataref05_Cell t49 1) fun t50 =>
     readK Tryd.prog (sLoad T_int t50) (tick w2) fun t51 =>
     upK Tryd.prog (sCall F_errataref05_begin #[y2.1]) (tick w2) fun t53 w3 =>
     Is Tryd.prog (sLoad T_int t50) t51 w3 ∧ Is Tryd.prog (sLoad T_p_errataref04_Disk t46) t47 w3 ∧ upK Tryd.prog (sCall F_errataref04_Disk_Write #[t47, t51, t53, s1]) w3 fun t55 w4 =>
     pureK Tryd.prog (sBin .neq T_api_Errno (.tmp 56) (.const (.int .i64 0)) t55 (.int .i64 0)) fun t57 =>
     ifB t57
     (K t55 w4)
     (pureK Tryd.prog (sNil c0) fun t60 =>
      pureK Tryd.prog (sFieldAddr T_errataref05_Cell t60 0) fun t61 =>
      readK Tryd.prog (sLoad T_p_errataref04_Disk t61) (tick w4) fun t62 =>
      pureK Tryd.prog (sNil c0) fun t64 =>
      pureK Tryd.prog (sFieldAddr T_errataref05_Cell t64 1) fun t65 =>
      readK Tryd.prog (sLoad T_int t65) (tick w4) fun t66 =>
      upK Tryd.prog (sCall F_errataref04_Disk_Sync #[t62, t66]) (tick w4) fun t67 w5 =>
      pureK Tryd.prog (sBin .neq T_api_Errno (.tmp 68) (.const (.int .i64 0)) t67 (.int .i64 0)) fun t69 =>
      ifB t69
      (K t67 w5)
      (readK Tryd.prog (sBlt .len #[T_string] T_int #[false] #[s1]) w5 fun t72 =>
       LETJ (X := Value × Unit) (fun y3 w6 =>
        pureK Tryd.prog (sBin .neq T_api_Errno (.tmp 96) (.const (.int .i64 0)) y3.1 (.int .i64 0)) fun t97 =>
        ifB t97
        (K y3.1 w6)
        (pureK Tryd.prog (sNil c0) fun t101 =>
         pureK Tryd.prog (sFieldAddr T_errataref05_Cell t101 2) fun t102 =>
         upK Tryd.prog (sStore T_int t102 y2.1) w6 fun tu w7 =>
         pureK Tryd.prog (sNil c0) fun t105 =>
         pureK Tryd.prog (sFieldAddr T_errataref05_Cell t105 3) fun t106 =>
         upK Tryd.prog (sStore T_string t106 s1) w7 fun tu_1 w8 =>
         pureK Tryd.prog (sNil c0) fun t108 =>
         pureK Tryd.prog (sFieldAddr T_errataref05_Cell t108 4) fun t109 =>
         upK Tryd.prog (sStore T_bool t109 (.bool false)) w8 fun tu_2 w9 =>
         pureK Tryd.prog (sNil c0) fun t111 =>
         pureK Tryd.prog (sFieldAddr T_errataref05_Cell t111 0) fun t112 =>
         readK Tryd.prog (sLoad T_p_errataref04_Disk t112) (tick w9) fun t113 =>
         pureK Tryd.prog (sNil c0) fun t115 =>
         pureK Tryd.prog (sFieldAddr T_errataref05_Cell t115 1) fun t116 =>
         readK Tryd.prog (sLoad T_int t116) (tick w9) fun t117 =>
         upK Tryd.prog (sCall F_errataref04_Disk_Sync #[t113, t117]) (tick w9) fun t118 w10 =>
         pureK Tryd.prog (sBin .eql T_api_Errno (.tmp 120) (.const (.int .i64 0)) t118 (.int .i64 0)) fun t121 =>
         pureK Tryd.prog (sNil c0) fun t122 =>
         pureK Tryd.prog (sFieldAddr T_errataref05_Cell t122 4) fun t123 =>
         upK Tryd.prog (sStore T_bool t123 t121) w10 fun tu_3 w11 =>
         K t118 w11))
       (fun J3 =>
        pureK Tryd.prog (sNil c0) fun t74 =>
        pureK Tryd.prog (sFieldAddr T_errataref05_Cell t74 0) fun t75 =>
        readK Tryd.prog (sLoad T_p_errataref04_Disk t75) (tick w5) fun t76 =>
        pureK Tryd.prog (sNil c0) fun t78 =>
        pureK Tryd.prog (sFieldAddr T_errataref05_Cell t78 1) fun t79 =>
        readK Tryd.prog (sLoad T_int t79) (tick w5) fun t80 =>
        pureK Tryd.prog (sBin .rem T_int (.tmp 83) (.const (.int .i64 256)) t72 (.int .i64 256)) fun t84 =>
        pureK Tryd.prog (sBin .quo T_int (.tmp 86) (.const (.int .i64 256)) t72 (.int .i64 256)) fun t87 =>
        pureK Tryd.prog (sBin .rem T_int (.tmp 87) (.const (.int .i64 256)) t87 (.int .i64 256)) fun t88 =>
        pureK Tryd.prog (sBin .quo T_int (.tmp 90) (.const (.int .i64 65536)) t72 (.int .i64 65536)) fun t91 =>
        ((upK Tryd.prog (sConv T_int T_uint8 y2.1) (tick w5) fun t82 w12 =>
          Is Tryd.prog (sLoad T_int t79) t80 w12 ∧ Is Tryd.prog (sLoad T_p_errataref04_Disk t75) t76 w12 ∧ ((upK Tryd.prog (sConv T_int T_uint8 t84) w12 fun t85 w13 =>
            Is Tryd.prog (sLoad T_int t79) t80 w13 ∧ Is Tryd.prog (sLoad T_p_errataref04_Disk t75) t76 w13 ∧ ((upK Tryd.prog (sConv T_int T_uint8 t88) w13 fun t89 w14 =>
              Is Tryd.prog (sLoad T_int t79) t80 w14 ∧ Is Tryd.prog (sLoad T_p_errataref04_Disk t75) t76 w14 ∧ upK Tryd.prog (sConv T_int T_uint8 t91) w14 fun t92 w15 =>
              Is Tryd.prog (sLoad T_int t79) t80 w15 ∧ Is Tryd.prog (sLoad T_p_errataref04_Disk t75) t76 w15 ∧ upK Tryd.prog (sBuildSlice T_s_uint8 5 #[(0, t82), (1, t85), (2, t89), (3, t92), (4, (.int .u8 0))]) w15 fun t93 w16 =>
              Is Tryd.prog (sLoad T_int t79) t80 w16 ∧ Is Tryd.prog (sLoad T_p_errataref04_Disk t75) t76 w16 ∧ upK Tryd.prog (sConv T_s_uint8 T_string t93) w16 fun t94 w17 =>
              Is Tryd.prog (sLoad T_int t79) t80 w17 ∧ Is Tryd.prog (sLoad T_p_errataref04_Disk t75) t76 w17 ∧ upK Tryd.prog (sCall F_errataref04_Disk_Write #[t76, t80, (.int .i64 0), t94]) w17 fun t95 w18 =>
              J3 (t95, ()) w18)
             ∧ (upK Tryd.prog (sConv T_int T_uint8 t91) w13 fun t92_1 w19 =>
              Is Tryd.prog (sLoad T_int t79) t80 w19 ∧ Is Tryd.prog (sLoad T_p_errataref04_Disk t75) t76 w19 ∧ upK Tryd.prog (sConv T_int T_uint8 t88) w19 fun t89_1 w20 =>
              Is Tryd.prog (sLoad T_int t79) t80 w20 ∧ Is Tryd.prog (sLoad T_p_errataref04_Disk t75) t76 w20 ∧ upK Tryd.prog (sBuildSlice T_s_uint8 5 #[(0, t82), (1, t85), (2, t89_1), (3, t92_1), (4, (.int .u8 0))]) w20 fun t93_1 w21 =>
              Is Tryd.prog (sLoad T_int t79) t80 w21 ∧ Is Tryd.prog (sLoad T_p_errataref04_Disk t75) t76 w21 ∧ upK Tryd.prog (sConv T_s_uint8 T_string t93_1) w21 fun t94_1 w22 =>
              Is Tryd.prog (sLoad T_int t79) t80 w22 ∧ Is Tryd.prog (sLoad T_p_errataref04_Disk t75) t76 w22 ∧ upK Tryd.prog (sCall F_errataref04_Disk_Write #[t76, t80, (.int .i64 0), t94_1]) w22 fun t95_1 w23 =>
              J3 (t95_1, ()) w23)))
           ∧ ((upK Tryd.prog (sConv T_int T_uint8 t88) w12 fun t89_2 w24 =>
             Is Tryd.prog (sLoad T_int t79) t80 w24 ∧ Is Tryd.prog (sLoad T_p_errataref04_Disk t75) t76 w24 ∧ ((upK Tryd.prog (sConv T_int T_uint8 t84) w24 fun t85_1 w25 =>
               Is Tryd.prog (sLoad T_int t79) t80 w25 ∧ Is Tryd.prog (sLoad T_p_errataref04_Disk t75) t76 w25 ∧ upK Tryd.prog (sConv T_int T_uint8 t91) w25 fun t92_2 w26 =>
               Is Tryd.prog (sLoad T_int t79) t80 w26 ∧ Is Tryd.prog (sLoad T_p_errataref04_Disk t75) t76 w26 ∧ upK Tryd.prog (sBuildSlice T_s_uint8 5 #[(0, t82), (1, t85_1), (2, t89_2), (3, t92_2), (4, (.int .u8 0))]) w26 fun t93_2 w27 =>
               Is Tryd.prog (sLoad T_int t79) t80 w27 ∧ Is Tryd.prog (sLoad T_p_errataref04_Disk t75) t76 w27 ∧ upK Tryd.prog (sConv T_s_uint8 T_string t93_2) w27 fun t94_2 w28 =>
               Is Tryd.prog (sLoad T_int t79) t80 w28 ∧ Is Tryd.prog (sLoad T_p_errataref04_Disk t75) t76 w28 ∧ upK Tryd.prog (sCall F_errataref04_Disk_Write #[t76, t80, (.int .i64 0), t94_2]) w28 fun t95_2 w29 =>
               J3 (t95_2, ()) w29)
              ∧ (upK Tryd.prog (sConv T_int T_uint8 t91) w24 fun t92_3 w30 =>
               Is Tryd.prog (sLoad T_int t79) t80 w30 ∧ Is Tryd.prog (sLoad T_p_errataref04_Disk t75) t76 w30 ∧ upK Tryd.prog (sConv T_int T_uint8 t84) w30 fun t85_2 w31 =>
               Is Tryd.prog (sLoad T_int t79) t80 w31 ∧ Is Tryd.prog (sLoad T_p_errataref04_Disk t75) t76 w31 ∧ upK Tryd.prog (sBuildSlice T_s_uint8 5 #[(0, t82), (1, t85_2), (2, t89_2), (3, t92_3), (4, (.int .u8 0))]) w31 fun t93_3 w32 =>
               Is Tryd.prog (sLoad T_int t79) t80 w32 ∧ Is Tryd.prog (sLoad T_p_errataref04_Disk t75) t76 w32 ∧ upK Tryd.prog (sConv T_s_uint8 T_string t93_3) w32 fun t94_3 w33 =>
               Is Tryd.prog (sLoad T_int t79) t80 w33 ∧ Is Tryd.prog (sLoad T_p_errataref04_Disk t75) t76 w33 ∧ upK Tryd.prog (sCall F_errataref04_Disk_Write #[t76, t80, (.int .i64 0), t94_3]) w33 fun t95_3 w34 =>
               J3 (t95_3, ()) w34)))
            ∧ (upK Tryd.prog (sConv T_int T_uint8 t91) w12 fun t92_4 w35 =>
             Is Tryd.prog (sLoad T_int t79) t80 w35 ∧ Is Tryd.prog (sLoad T_p_errataref04_Disk t75) t76 w35 ∧ ((upK Tryd.prog (sConv T_int T_uint8 t84) w35 fun t85_3 w36 =>
               Is Tryd.prog (sLoad T_int t79) t80 w36 ∧ Is Tryd.prog (sLoad T_p_errataref04_Disk t75) t76 w36 ∧ upK Tryd.prog (sConv T_int T_uint8 t88) w36 fun t89_3 w37 =>
               Is Tryd.prog (sLoad T_int t79) t80 w37 ∧ Is Tryd.prog (sLoad T_p_errataref04_Disk t75) t76 w37 ∧ upK Tryd.prog (sBuildSlice T_s_uint8 5 #[(0, t82), (1, t85_3), (2, t89_3), (3, t92_4), (4, (.int .u8 0))]) w37 fun t93_4 w38 =>
               Is Tryd.prog (sLoad T_int t79) t80 w38 ∧ Is Tryd.prog (sLoad T_p_errataref04_Disk t75) t76 w38 ∧ upK Tryd.prog (sConv T_s_uint8 T_string t93_4) w38 fun t94_4 w39 =>
               Is Tryd.prog (sLoad T_int t79) t80 w39 ∧ Is Tryd.prog (sLoad T_p_errataref04_Disk t75) t76 w39 ∧ upK Tryd.prog (sCall F_errataref04_Disk_Write #[t76, t80, (.int .i64 0), t94_4]) w39 fun t95_4 w40 =>
               J3 (t95_4, ()) w40)
              ∧ (upK Tryd.prog (sConv T_int T_uint8 t88) w35 fun t89_4 w41 =>
               Is Tryd.prog (sLoad T_int t79) t80 w41 ∧ Is Tryd.prog (sLoad T_p_errataref04_Disk t75) t76 w41 ∧ upK Tryd.prog (sConv T_int T_uint8 t84) w41 fun t85_4 w42 =>
               Is Tryd.prog (sLoad T_int t79) t80 w42 ∧ Is Tryd.prog (sLoad T_p_errataref04_Disk t75) t76 w42 ∧ upK Tryd.prog (sBuildSlice T_s_uint8 5 #[(0, t82), (1, t85_4), (2, t89_4), (3, t92_4), (4, (.int .u8 0))]) w42 fun t93_5 w43 =>
               Is Tryd.prog (sLoad T_int t79) t80 w43 ∧ Is Tryd.prog (sLoad T_p_errataref04_Disk t75) t76 w43 ∧ upK Tryd.prog (sConv T_s_uint8 T_string t93_5) w43 fun t94_5 w44 =>
               Is Tryd.prog (sLoad T_int t79) t80 w44 ∧ Is Tryd.prog (sLoad T_p_errataref04_Disk t75) t76 w44 ∧ upK Tryd.prog (sCall F_errataref04_Disk_Write #[t76, t80, (.int .i64 0), t94_5]) w44 fun t95_5 w45 =>
               J3 (t95_5, ()) w45))))))
         ∧ ((upK Tryd.prog (sConv T_int T_uint8 t84) (tick w5) fun t85_5 w46 =>
           Is Tryd.prog (sLoad T_int t79) t80 w46 ∧ Is Tryd.prog (sLoad T_p_errataref04_Disk t75) t76 w46 ∧ ((upK Tryd.prog (sConv T_int T_uint8 y2.1) w46 fun t82_1 w47 =>
             Is Tryd.prog (sLoad T_int t79) t80 w47 ∧ Is Tryd.prog (sLoad T_p_errataref04_Disk t75) t76 w47 ∧ ((upK Tryd.prog (sConv T_int T_uint8 t88) w47 fun t89_5 w48 =>
               Is Tryd.prog (sLoad T_int t79) t80 w48 ∧ Is Tryd.prog (sLoad T_p_errataref04_Disk t75) t76 w48 ∧ upK Tryd.prog (sConv T_int T_uint8 t91) w48 fun t92_5 w49 =>
               Is Tryd.prog (sLoad T_int t79) t80 w49 ∧ Is Tryd.prog (sLoad T_p_errataref04_Disk t75) t76 w49 ∧ upK Tryd.prog (sBuildSlice T_s_uint8 5 #[(0, t82_1), (1, t85_5), (2, t89_5), (3, t92_5), (4, (.int .u8 0))]) w49 fun t93_6 w50 =>
               Is Tryd.prog (sLoad T_int t79) t80 w50 ∧ Is Tryd.prog (sLoad T_p_errataref04_Disk t75) t76 w50 ∧ upK Tryd.prog (sConv T_s_uint8 T_string t93_6) w50 fun t94_6 w51 =>
               Is Tryd.prog (sLoad T_int t79) t80 w51 ∧ Is Tryd.prog (sLoad T_p_errataref04_Disk t75) t76 w51 ∧ upK Tryd.prog (sCall F_errataref04_Disk_Write #[t76, t80, (.int .i64 0), t94_6]) w51 fun t95_6 w52 =>
               J3 (t95_6, ()) w52)
              ∧ (upK Tryd.prog (sConv T_int T_uint8 t91) w47 fun t92_6 w53 =>
               Is Tryd.prog (sLoad T_int t79) t80 w53 ∧ Is Tryd.prog (sLoad T_p_errataref04_Disk t75) t76 w53 ∧ upK Tryd.prog (sConv T_int T_uint8 t88) w53 fun t89_6 w54 =>
               Is Tryd.prog (sLoad T_int t79) t80 w54 ∧ Is Tryd.prog (sLoad T_p_errataref04_Disk t75) t76 w54 ∧ upK Tryd.prog (sBuildSlice T_s_uint8 5 #[(0, t82_1), (1, t85_5), (2, t89_6), (3, t92_6), (4, (.int .u8 0))]) w54 fun t93_7 w55 =>
               Is Tryd.prog (sLoad T_int t79) t80 w55 ∧ Is Tryd.prog (sLoad T_p_errataref04_Disk t75) t76 w55 ∧ upK Tryd.prog (sConv T_s_uint8 T_string t93_7) w55 fun t94_7 w56 =>
               Is Tryd.prog (sLoad T_int t79) t80 w56 ∧ Is Tryd.prog (sLoad T_p_errataref04_Disk t75) t76 w56 ∧ upK Tryd.prog (sCall F_errataref04_Disk_Write #[t76, t80, (.int .i64 0), t94_7]) w56 fun t95_7 w57 =>
               J3 (t95_7, ()) w57)))
            ∧ ((upK Tryd.prog (sConv T_int T_uint8 t88) w46 fun t89_7 w58 =>
              Is Tryd.prog (sLoad T_int t79) t80 w58 ∧ Is Tryd.prog (sLoad T_p_errataref04_Disk t75) t76 w58 ∧ ((upK Tryd.prog (sConv T_int T_uint8 y2.1) w58 fun t82_2 w59 =>
                Is Tryd.prog (sLoad T_int t79) t80 w59 ∧ Is Tryd.prog (sLoad T_p_errataref04_Disk t75) t76 w59 ∧ upK Tryd.prog (sConv T_int T_uint8 t91) w59 fun t92_7 w60 =>
                Is Tryd.prog (sLoad T_int t79) t80 w60 ∧ Is Tryd.prog (sLoad T_p_errataref04_Disk t75) t76 w60 ∧ upK Tryd.prog (sBuildSlice T_s_uint8 5 #[(0, t82_2), (1, t85_5), (2, t89_7), (3, t92_7), (4, (.int .u8 0))]) w60 fun t93_8 w61 =>
                Is Tryd.prog (sLoad T_int t79) t80 w61 ∧ Is Tryd.prog (sLoad T_p_errataref04_Disk t75) t76 w61 ∧ upK Tryd.prog (sConv T_s_uint8 T_string t93_8) w61 fun t94_8 w62 =>
                Is Tryd.prog (sLoad T_int t79) t80 w62 ∧ Is Tryd.prog (sLoad T_p_errataref04_Disk t75) t76 w62 ∧ upK Tryd.prog (sCall F_errataref04_Disk_Write #[t76, t80, (.int .i64 0), t94_8]) w62 fun t95_8 w63 =>
                J3 (t95_8, ()) w63)
               ∧ (upK Tryd.prog (sConv T_int T_uint8 t91) w58 fun t92_8 w64 =>
                Is Tryd.prog (sLoad T_int t79) t80 w64 ∧ Is Tryd.prog (sLoad T_p_errataref04_Disk t75) t76 w64 ∧ upK Tryd.prog (sConv T_int T_uint8 y2.1) w64 fun t82_3 w65 =>
                Is Tryd.prog (sLoad T_int t79) t80 w65 ∧ Is Tryd.prog (sLoad T_p_errataref04_Disk t75) t76 w65 ∧ upK Tryd.prog (sBuildSlice T_s_uint8 5 #[(0, t82_3), (1, t85_5), (2, t89_7), (3, t92_8), (4, (.int .u8 0))]) w65 fun t93_9 w66 =>
                Is Tryd.prog (sLoad T_int t79) t80 w66 ∧ Is Tryd.prog (sLoad T_p_errataref04_Disk t75) t76 w66 ∧ upK Tryd.prog (sConv T_s_uint8 T_string t93_9) w66 fun t94_9 w67 =>
                Is Tryd.prog (sLoad T_int t79) t80 w67 ∧ Is Tryd.prog (sLoad T_p_errataref04_Disk t75) t76 w67 ∧ upK Tryd.prog (sCall F_errataref04_Disk_Write #[t76, t80, (.int .i64 0), t94_9]) w67 fun t95_9 w68 =>
                J3 (t95_9, ()) w68)))
             ∧ (upK Tryd.prog (sConv T_int T_uint8 t91) w46 fun t92_9 w69 =>
              Is Tryd.prog (sLoad T_int t79) t80 w69 ∧ Is Tryd.prog (sLoad T_p_errataref04_Disk t75) t76 w69 ∧ ((upK Tryd.prog (sConv T_int T_uint8 y2.1) w69 fun t82_4 w70 =>
                Is Tryd.prog (sLoad T_int t79) t80 w70 ∧ Is Tryd.prog (sLoad T_p_errataref04_Disk t75) t76 w70 ∧ upK Tryd.prog (sConv T_int T_uint8 t88) w70 fun t89_8 w71 =>
                Is Tryd.prog (sLoad T_int t79) t80 w71 ∧ Is Tryd.prog (sLoad T_p_errataref04_Disk t75) t76 w71 ∧ upK Tryd.prog (sBuildSlice T_s_uint8 5 #[(0, t82_4), (1, t85_5), (2, t89_8), (3, t92_9), (4, (.int .u8 0))]) w71 fun t93_10 w72 =>
                Is Tryd.prog (sLoad T_int t79) t80 w72 ∧ Is Tryd.prog (sLoad T_p_errataref04_Disk t75) t76 w72 ∧ upK Tryd.prog (sConv T_s_uint8 T_string t93_10) w72 fun t94_10 w73 =>
                Is Tryd.prog (sLoad T_int t79) t80 w73 ∧ Is Tryd.prog (sLoad T_p_errataref04_Disk t75) t76 w73 ∧ upK Tryd.prog (sCall F_errataref04_Disk_Write #[t76, t80, (.int .i64 0), t94_10]) w73 fun t95_10 w74 =>
                J3 (t95_10, ()) w74)
               ∧ (upK Tryd.prog (sConv T_int T_uint8 t88) w69 fun t89_9 w75 =>
                Is Tryd.prog (sLoad T_int t79) t80 w75 ∧ Is Tryd.prog (sLoad T_p_errataref04_Disk t75) t76 w75 ∧ upK Tryd.prog (sConv T_int T_uint8 y2.1) w75 fun t82_5 w76 =>
                Is Tryd.prog (sLoad T_int t79) t80 w76 ∧ Is Tryd.prog (sLoad T_p_errataref04_Disk t75) t76 w76 ∧ upK Tryd.prog (sBuildSlice T_s_uint8 5 #[(0, t82_5), (1, t85_5), (2, t89_9), (3, t92_9), (4, (.int .u8 0))]) w76 fun t93_11 w77 =>
                Is Tryd.prog (sLoad T_int t79) t80 w77 ∧ Is Tryd.prog (sLoad T_p_errataref04_Disk t75) t76 w77 ∧ upK Tryd.prog (sConv T_s_uint8 T_string t93_11) w77 fun t94_11 w78 =>
                Is Tryd.prog (sLoad T_int t79) t80 w78 ∧ Is Tryd.prog (sLoad T_p_errataref04_Disk t75) t76 w78 ∧ upK Tryd.prog (sCall F_errataref04_Disk_Write #[t76, t80, (.int .i64 0), t94_11]) w78 fun t95_11 w79 =>
                J3 (t95_11, ()) w79))))))
          ∧ ((upK Tryd.prog (sConv T_int T_uint8 t88) (tick w5) fun t89_10 w80 =>
            Is Tryd.prog (sLoad T_int t79) t80 w80 ∧ Is Tryd.prog (sLoad T_p_errataref04_Disk t75) t76 w80 ∧ ((upK Tryd.prog (sConv T_int T_uint8 y2.1) w80 fun t82_6 w81 =>
              Is Tryd.prog (sLoad T_int t79) t80 w81 ∧ Is Tryd.prog (sLoad T_p_errataref04_Disk t75) t76 w81 ∧ ((upK Tryd.prog (sConv T_int T_uint8 t84) w81 fun t85_6 w82 =>
                Is Tryd.prog (sLoad T_int t79) t80 w82 ∧ Is Tryd.prog (sLoad T_p_errataref04_Disk t75) t76 w82 ∧ upK Tryd.prog (sConv T_int T_uint8 t91) w82 fun t92_10 w83 =>
                Is Tryd.prog (sLoad T_int t79) t80 w83 ∧ Is Tryd.prog (sLoad T_p_errataref04_Disk t75) t76 w83 ∧ upK Tryd.prog (sBuildSlice T_s_uint8 5 #[(0, t82_6), (1, t85_6), (2, t89_10), (3, t92_10), (4, (.int .u8 0))]) w83 fun t93_12 w84 =>
                Is Tryd.prog (sLoad T_int t79) t80 w84 ∧ Is Tryd.prog (sLoad T_p_errataref04_Disk t75) t76 w84 ∧ upK Tryd.prog (sConv T_s_uint8 T_string t93_12) w84 fun t94_12 w85 =>
                Is Tryd.prog (sLoad T_int t79) t80 w85 ∧ Is Tryd.prog (sLoad T_p_errataref04_Disk t75) t76 w85 ∧ upK Tryd.prog (sCall F_errataref04_Disk_Write #[t76, t80, (.int .i64 0), t94_12]) w85 fun t95_12 w86 =>
                J3 (t95_12, ()) w86)
               ∧ (upK Tryd.prog (sConv T_int T_uint8 t91) w81 fun t92_11 w87 =>
                Is Tryd.prog (sLoad T_int t79) t80 w87 ∧ Is Tryd.prog (sLoad T_p_errataref04_Disk t75) t76 w87 ∧ upK Tryd.prog (sConv T_int T_uint8 t84) w87 fun t85_7 w88 =>
                Is Tryd.prog (sLoad T_int t79) t80 w88 ∧ Is Tryd.prog (sLoad T_p_errataref04_Disk t75) t76 w88 ∧ upK Tryd.prog (sBuildSlice T_s_uint8 5 #[(0, t82_6), (1, t85_7), (2, t89_10), (3, t92_11), (4, (.int .u8 0))]) w88 fun t93_13 w89 =>
                Is Tryd.prog (sLoad T_int t79) t80 w89 ∧ Is Tryd.prog (sLoad T_p_errataref04_Disk t75) t76 w89 ∧ upK Tryd.prog (sConv T_s_uint8 T_string t93_13) w89 fun t94_13 w90 =>
                Is Tryd.prog (sLoad T_int t79) t80 w90 ∧ Is Tryd.prog (sLoad T_p_errataref04_Disk t75) t76 w90 ∧ upK Tryd.prog (sCall F_errataref04_Disk_Write #[t76, t80, (.int .i64 0), t94_13]) w90 fun t95_13 w91 =>
                J3 (t95_13, ()) w91)))
             ∧ ((upK Tryd.prog (sConv T_int T_uint8 t84) w80 fun t85_8 w92 =>
               Is Tryd.prog (sLoad T_int t79) t80 w92 ∧ Is Tryd.prog (sLoad T_p_errataref04_Disk t75) t76 w92 ∧ ((upK Tryd.prog (sConv T_int T_uint8 y2.1) w92 fun t82_7 w93 =>
                 Is Tryd.prog (sLoad T_int t79) t80 w93 ∧ Is Tryd.prog (sLoad T_p_errataref04_Disk t75) t76 w93 ∧ upK Tryd.prog (sConv T_int T_uint8 t91) w93 fun t92_12 w94 =>
                 Is Tryd.prog (sLoad T_int t79) t80 w94 ∧ Is Tryd.prog (sLoad T_p_errataref04_Disk t75) t76 w94 ∧ upK Tryd.prog (sBuildSlice T_s_uint8 5 #[(0, t82_7), (1, t85_8), (2, t89_10), (3, t92_12), (4, (.int .u8 0))]) w94 fun t93_14 w95 =>
                 Is Tryd.prog (sLoad T_int t79) t80 w95 ∧ Is Tryd.prog (sLoad T_p_errataref04_Disk t75) t76 w95 ∧ upK Tryd.prog (sConv T_s_uint8 T_string t93_14) w95 fun t94_14 w96 =>
                 Is Tryd.prog (sLoad T_int t79) t80 w96 ∧ Is Tryd.prog (sLoad T_p_errataref04_Disk t75) t76 w96 ∧ upK Tryd.prog (sCall F_errataref04_Disk_Write #[t76, t80, (.int .i64 0), t94_14]) w96 fun t95_14 w97 =>
                 J3 (t95_14, ()) w97)
                ∧ (upK Tryd.prog (sConv T_int T_uint8 t91) w92 fun t92_13 w98 =>
                 Is Tryd.prog (sLoad T_int t79) t80 w98 ∧ Is Tryd.prog (sLoad T_p_errataref04_Disk t75) t76 w98 ∧ upK Tryd.prog (sConv T_int T_uint8 y2.1) w98 fun t82_8 w99 =>
                 Is Tryd.prog (sLoad T_int t79) t80 w99 ∧ Is Tryd.prog (sLoad T_p_errataref04_Disk t75) t76 w99 ∧ upK Tryd.prog (sBuildSlice T_s_uint8 5 #[(0, t82_8), (1, t85_8), (2, t89_10), (3, t92_13), (4, (.int .u8 0))]) w99 fun t93_15 w100 =>
                 Is Tryd.prog (sLoad T_int t79) t80 w100 ∧ Is Tryd.prog (sLoad T_p_errataref04_Disk t75) t76 w100 ∧ upK Tryd.prog (sConv T_s_uint8 T_string t93_15) w100 fun t94_15 w101 =>
                 Is Tryd.prog (sLoad T_int t79) t80 w101 ∧ Is Tryd.prog (sLoad T_p_errataref04_Disk t75) t76 w101 ∧ upK Tryd.prog (sCall F_errataref04_Disk_Write #[t76, t80, (.int .i64 0), t94_15]) w101 fun t95_15 w102 =>
                 J3 (t95_15, ()) w102)))
              ∧ (upK Tryd.prog (sConv T_int T_uint8 t91) w80 fun t92_14 w103 =>
               Is Tryd.prog (sLoad T_int t79) t80 w103 ∧ Is Tryd.prog (sLoad T_p_errataref04_Disk t75) t76 w103 ∧ ((upK Tryd.prog (sConv T_int T_uint8 y2.1) w103 fun t82_9 w104 =>
                 Is Tryd.prog (sLoad T_int t79) t80 w104 ∧ Is Tryd.prog (sLoad T_p_errataref04_Disk t75) t76 w104 ∧ upK Tryd.prog (sConv T_int T_uint8 t84) w104 fun t85_9 w105 =>
                 Is Tryd.prog (sLoad T_int t79) t80 w105 ∧ Is Tryd.prog (sLoad T_p_errataref04_Disk t75) t76 w105 ∧ upK Tryd.prog (sBuildSlice T_s_uint8 5 #[(0, t82_9), (1, t85_9), (2, t89_10), (3, t92_14), (4, (.int .u8 0))]) w105 fun t93_16 w106 =>
                 Is Tryd.prog (sLoad T_int t79) t80 w106 ∧ Is Tryd.prog (sLoad T_p_errataref04_Disk t75) t76 w106 ∧ upK Tryd.prog (sConv T_s_uint8 T_string t93_16) w106 fun t94_16 w107 =>
                 Is Tryd.prog (sLoad T_int t79) t80 w107 ∧ Is Tryd.prog (sLoad T_p_errataref04_Disk t75) t76 w107 ∧ upK Tryd.prog (sCall F_errataref04_Disk_Write #[t76, t80, (.int .i64 0), t94_16]) w107 fun t95_16 w108 =>
                 J3 (t95_16, ()) w108)
                ∧ (upK Tryd.prog (sConv T_int T_uint8 t84) w103 fun t85_10 w109 =>
                 Is Tryd.prog (sLoad T_int t79) t80 w109 ∧ Is Tryd.prog (sLoad T_p_errataref04_Disk t75) t76 w109 ∧ upK Tryd.prog (sConv T_int T_uint8 y2.1) w109 fun t82_10 w110 =>
                 Is Tryd.prog (sLoad T_int t79) t80 w110 ∧ Is Tryd.prog (sLoad T_p_errataref04_Disk t75) t76 w110 ∧ upK Tryd.prog (sBuildSlice T_s_uint8 5 #[(0, t82_10), (1, t85_10), (2, t89_10), (3, t92_14), (4, (.int .u8 0))]) w110 fun t93_17 w111 =>
                 Is Tryd.prog (sLoad T_int t79) t80 w111 ∧ Is Tryd.prog (sLoad T_p_errataref04_Disk t75) t76 w111 ∧ upK Tryd.prog (sConv T_s_uint8 T_string t93_17) w111 fun t94_17 w112 =>
                 Is Tryd.prog (sLoad T_int t79) t80 w112 ∧ Is Tryd.prog (sLoad T_p_errataref04_Disk t75) t76 w112 ∧ upK Tryd.prog (sCall F_errataref04_Disk_Write #[t76, t80, (.int .i64 0), t94_17]) w112 fun t95_17 w113 =>
                 J3 (t95_17, ()) w113))))))
           ∧ (upK Tryd.prog (sConv T_int T_uint8 t91) (tick w5) fun t92_15 w114 =>
            Is Tryd.prog (sLoad T_int t79) t80 w114 ∧ Is Tryd.prog (sLoad T_p_errataref04_Disk t75) t76 w114 ∧ ((upK Tryd.prog (sConv T_int T_uint8 y2.1) w114 fun t82_11 w115 =>
              Is Tryd.prog (sLoad T_int t79) t80 w115 ∧ Is Tryd.prog (sLoad T_p_errataref04_Disk t75) t76 w115 ∧ ((upK Tryd.prog (sConv T_int T_uint8 t84) w115 fun t85_11 w116 =>
                Is Tryd.prog (sLoad T_int t79) t80 w116 ∧ Is Tryd.prog (sLoad T_p_errataref04_Disk t75) t76 w116 ∧ upK Tryd.prog (sConv T_int T_uint8 t88) w116 fun t89_11 w117 =>
                Is Tryd.prog (sLoad T_int t79) t80 w117 ∧ Is Tryd.prog (sLoad T_p_errataref04_Disk t75) t76 w117 ∧ upK Tryd.prog (sBuildSlice T_s_uint8 5 #[(0, t82_11), (1, t85_11), (2, t89_11), (3, t92_15), (4, (.int .u8 0))]) w117 fun t93_18 w118 =>
                Is Tryd.prog (sLoad T_int t79) t80 w118 ∧ Is Tryd.prog (sLoad T_p_errataref04_Disk t75) t76 w118 ∧ upK Tryd.prog (sConv T_s_uint8 T_string t93_18) w118 fun t94_18 w119 =>
                Is Tryd.prog (sLoad T_int t79) t80 w119 ∧ Is Tryd.prog (sLoad T_p_errataref04_Disk t75) t76 w119 ∧ upK Tryd.prog (sCall F_errataref04_Disk_Write #[t76, t80, (.int .i64 0), t94_18]) w119 fun t95_18 w120 =>
                J3 (t95_18, ()) w120)
               ∧ (upK Tryd.prog (sConv T_int T_uint8 t88) w115 fun t89_12 w121 =>
                Is Tryd.prog (sLoad T_int t79) t80 w121 ∧ Is Tryd.prog (sLoad T_p_errataref04_Disk t75) t76 w121 ∧ upK Tryd.prog (sConv T_int T_uint8 t84) w121 fun t85_12 w122 =>
                Is Tryd.prog (sLoad T_int t79) t80 w122 ∧ Is Tryd.prog (sLoad T_p_errataref04_Disk t75) t76 w122 ∧ upK Tryd.prog (sBuildSlice T_s_uint8 5 #[(0, t82_11), (1, t85_12), (2, t89_12), (3, t92_15), (4, (.int .u8 0))]) w122 fun t93_19 w123 =>
                Is Tryd.prog (sLoad T_int t79) t80 w123 ∧ Is Tryd.prog (sLoad T_p_errataref04_Disk t75) t76 w123 ∧ upK Tryd.prog (sConv T_s_uint8 T_string t93_19) w123 fun t94_19 w124 =>
                Is Tryd.prog (sLoad T_int t79) t80 w124 ∧ Is Tryd.prog (sLoad T_p_errataref04_Disk t75) t76 w124 ∧ upK Tryd.prog (sCall F_errataref04_Disk_Write #[t76, t80, (.int .i64 0), t94_19]) w124 fun t95_19 w125 =>
                J3 (t95_19, ()) w125)))
             ∧ ((upK Tryd.prog (sConv T_int T_uint8 t84) w114 fun t85_13 w126 =>
               Is Tryd.prog (sLoad T_int t79) t80 w126 ∧ Is Tryd.prog (sLoad T_p_errataref04_Disk t75) t76 w126 ∧ ((upK Tryd.prog (sConv T_int T_uint8 y2.1) w126 fun t82_12 w127 =>
                 Is Tryd.prog (sLoad T_int t79) t80 w127 ∧ Is Tryd.prog (sLoad T_p_errataref04_Disk t75) t76 w127 ∧ upK Tryd.prog (sConv T_int T_uint8 t88) w127 fun t89_13 w128 =>
                 Is Tryd.prog (sLoad T_int t79) t80 w128 ∧ Is Tryd.prog (sLoad T_p_errataref04_Disk t75) t76 w128 ∧ upK Tryd.prog (sBuildSlice T_s_uint8 5 #[(0, t82_12), (1, t85_13), (2, t89_13), (3, t92_15), (4, (.int .u8 0))]) w128 fun t93_20 w129 =>
                 Is Tryd.prog (sLoad T_int t79) t80 w129 ∧ Is Tryd.prog (sLoad T_p_errataref04_Disk t75) t76 w129 ∧ upK Tryd.prog (sConv T_s_uint8 T_string t93_20) w129 fun t94_20 w130 =>
                 Is Tryd.prog (sLoad T_int t79) t80 w130 ∧ Is Tryd.prog (sLoad T_p_errataref04_Disk t75) t76 w130 ∧ upK Tryd.prog (sCall F_errataref04_Disk_Write #[t76, t80, (.int .i64 0), t94_20]) w130 fun t95_20 w131 =>
                 J3 (t95_20, ()) w131)
                ∧ (upK Tryd.prog (sConv T_int T_uint8 t88) w126 fun t89_14 w132 =>
                 Is Tryd.prog (sLoad T_int t79) t80 w132 ∧ Is Tryd.prog (sLoad T_p_errataref04_Disk t75) t76 w132 ∧ upK Tryd.prog (sConv T_int T_uint8 y2.1) w132 fun t82_13 w133 =>
                 Is Tryd.prog (sLoad T_int t79) t80 w133 ∧ Is Tryd.prog (sLoad T_p_errataref04_Disk t75) t76 w133 ∧ upK Tryd.prog (sBuildSlice T_s_uint8 5 #[(0, t82_13), (1, t85_13), (2, t89_14), (3, t92_15), (4, (.int .u8 0))]) w133 fun t93_21 w134 =>
                 Is Tryd.prog (sLoad T_int t79) t80 w134 ∧ Is Tryd.prog (sLoad T_p_errataref04_Disk t75) t76 w134 ∧ upK Tryd.prog (sConv T_s_uint8 T_string t93_21) w134 fun t94_21 w135 =>
                 Is Tryd.prog (sLoad T_int t79) t80 w135 ∧ Is Tryd.prog (sLoad T_p_errataref04_Disk t75) t76 w135 ∧ upK Tryd.prog (sCall F_errataref04_Disk_Write #[t76, t80, (.int .i64 0), t94_21]) w135 fun t95_21 w136 =>
                 J3 (t95_21, ()) w136)))
              ∧ (upK Tryd.prog (sConv T_int T_uint8 t88) w114 fun t89_15 w137 =>
               Is Tryd.prog (sLoad T_int t79) t80 w137 ∧ Is Tryd.prog (sLoad T_p_errataref04_Disk t75) t76 w137 ∧ ((upK Tryd.prog (sConv T_int T_uint8 y2.1) w137 fun t82_14 w138 =>
                 Is Tryd.prog (sLoad T_int t79) t80 w138 ∧ Is Tryd.prog (sLoad T_p_errataref04_Disk t75) t76 w138 ∧ upK Tryd.prog (sConv T_int T_uint8 t84) w138 fun t85_14 w139 =>
                 Is Tryd.prog (sLoad T_int t79) t80 w139 ∧ Is Tryd.prog (sLoad T_p_errataref04_Disk t75) t76 w139 ∧ upK Tryd.prog (sBuildSlice T_s_uint8 5 #[(0, t82_14), (1, t85_14), (2, t89_15), (3, t92_15), (4, (.int .u8 0))]) w139 fun t93_22 w140 =>
                 Is Tryd.prog (sLoad T_int t79) t80 w140 ∧ Is Tryd.prog (sLoad T_p_errataref04_Disk t75) t76 w140 ∧ upK Tryd.prog (sConv T_s_uint8 T_string t93_22) w140 fun t94_22 w141 =>
                 Is Tryd.prog (sLoad T_int t79) t80 w141 ∧ Is Tryd.prog (sLoad T_p_errataref04_Disk t75) t76 w141 ∧ upK Tryd.prog (sCall F_errataref04_Disk_Write #[t76, t80, (.int .i64 0), t94_22]) w141 fun t95_22 w142 =>
                 J3 (t95_22, ()) w142)
                ∧ (upK Tryd.prog (sConv T_int T_uint8 t84) w137 fun t85_15 w143 =>
                 Is Tryd.prog (sLoad T_int t79) t80 w143 ∧ Is Tryd.prog (sLoad T_p_errataref04_Disk t75) t76 w143 ∧ upK Tryd.prog (sConv T_int T_uint8 y2.1) w143 fun t82_15 w144 =>
                 Is Tryd.prog (sLoad T_int t79) t80 w144 ∧ Is Tryd.prog (sLoad T_p_errataref04_Disk t75) t76 w144 ∧ upK Tryd.prog (sBuildSlice T_s_uint8 5 #[(0, t82_15), (1, t85_15), (2, t89_15), (3, t92_15), (4, (.int .u8 0))]) w144 fun t93_23 w145 =>
                 Is Tryd.prog (sLoad T_int t79) t80 w145 ∧ Is Tryd.prog (sLoad T_p_errataref04_Disk t75) t76 w145 ∧ upK Tryd.prog (sConv T_s_uint8 T_string t93_23) w145 fun t94_23 w146 =>
                 Is Tryd.prog (sLoad T_int t79) t80 w146 ∧ Is Tryd.prog (sLoad T_p_errataref04_Disk t75) t76 w146 ∧ upK Tryd.prog (sCall F_errataref04_Disk_Write #[t76, t80, (.int .i64 0), t94_23]) w146 fun t95_23 w147 =>
                 J3 (t95_23, ()) w147)))))))))))))
    (fun J2 =>
     pureK Tryd.prog (sNil c0) fun t40 =>
     pureK Tryd.prog (sFieldAddr T_errataref05_Cell t40 2) fun t41 =>
     readK Tryd.prog (sLoad T_int t41) w1 fun t42 =>
     pureK Tryd.prog (sBin .eql T_int (.tmp 42) (.const (.int .i64 1)) t42 (.int .i64 1)) fun t43 =>
     ifB t43
     (J2 ((.int .i64 2), ()) w1)
     (J2 ((.int .i64 1), ()) w1)))
   (fun J1 =>
    pureK Tryd.prog (sNil c0) fun t13 =>
    pureK Tryd.prog (sFieldAddr T_errataref05_Cell t13 4) fun t14 =>
    readK Tryd.prog (sLoad T_bool t14) w fun t15 =>
    pureK Tryd.prog (sUn .not t15) fun t16 =>
    ifB t16
    (pureK Tryd.prog (sNil c0) fun t19 =>
     pureK Tryd.prog (sFieldAddr T_errataref05_Cell t19 2) fun t20 =>
     readK Tryd.prog (sLoad T_int t20) w fun t21 =>
     pureK Tryd.prog (sBin .neq T_int (.tmp 21) (.const (.int .i64 0)) t21 (.int .i64 0)) fun t22 =>
     ifB t22
     (pureK Tryd.prog (sNil c0) fun t25 =>
      pureK Tryd.prog (sFieldAddr T_errataref05_Cell t25 0) fun t26 =>
      readK Tryd.prog (sLoad T_p_errataref04_Disk t26) (tick w) fun t27 =>
      pureK Tryd.prog (sNil c0) fun t29 =>
      pureK Tryd.prog (sFieldAddr T_errataref05_Cell t29 1) fun t30 =>
      readK Tryd.prog (sLoad T_int t30) (tick w) fun t31 =>
      upK Tryd.prog (sCall F_errataref04_Disk_Sync #[t27, t31]) (tick w) fun t32 w148 =>
      pureK Tryd.prog (sBin .neq T_api_Errno (.tmp 33) (.const (.int .i64 0)) t32 (.int .i64 0)) fun t34 =>
      ifB t34
      (K t32 w148)
      (pureK Tryd.prog (sNil c0) fun t37 =>
       pureK Tryd.prog (sFieldAddr T_errataref05_Cell t37 4) fun t38 =>
       upK Tryd.prog (sStore T_bool t38 (.bool true)) w148 fun tu_4 w149 =>
       J1 (()) w149))
     (J1 (()) w))
    (J1 (()) w)))
theorem errataref05_Cell_Set.pt_eq : errataref05_Cell_Set.pt = fun c0 s1 w K => FN Tryd.prog Tryd.f25 (bodyOf Tryd.f25) [4] (.node none .leaf (.node none .leaf (.node (some []) .leaf (.node none .leaf (.node (some [6]) .leaf (.node none .leaf (.node none .leaf (.node none .leaf (.node none .leaf (.node none .leaf (.node (some [7]) .leaf .leaf))))))))))) [c0, s1] w K := by kernel_rfl
theorem errataref05_Cell_Set.call {c0 s1 : Value} {w : World} {K : Value → World → Prop} (h : errataref05_Cell_Set.pt c0 s1 w K) : Calls Tryd.prog F_errataref05_Cell_Set #[c0, s1] w (retK K) :=
  calls_FN (args := [c0, s1]) Tryd.func25 (by kernel_rfl) (by rw [errataref05_Cell_Set.pt_eq] at h; exact h)
theorem errataref05_Cell_Set.up {c0 s1 : Value} {w : World} {K : Value → World → Prop} (h : Calls Tryd.prog F_errataref05_Cell_Set #[c0, s1] w (retK K)) : upK Tryd.prog (sCall F_errataref05_Cell_Set #[c0, s1]) w K :=
  up_call (fn := Tryd.f25) Tryd.func25 (by kernel_rfl) (by kernel_rfl) h

/-- (*errata/errataref04.Disk).Lose -/
def errataref04_Disk_Lose.pt (d0 n1 : Value) (w : World) (K : Value → World → Prop) : Prop :=
  pureK Tryd.prog (sBlt .max #[T_int, T_int] T_int #[false, true] #[n1, (.int .i64 0)]) fun t6 =>
  pureK Tryd.prog (sNil d0) fun t7 =>
  pureK Tryd.prog (sFieldAddr T_errataref04_Disk t7 2) fun t8 =>
  upK Tryd.prog (sStore T_int t8 t6) w fun tu w1 =>
  K (.tuple #[]) w1
theorem errataref04_Disk_Lose.pt_eq : errataref04_Disk_Lose.pt = fun d0 n1 w K => FN Tryd.prog Tryd.f26 (bodyOf Tryd.f26) [] .leaf [d0, n1] w K := by kernel_rfl
theorem errataref04_Disk_Lose.call {d0 n1 : Value} {w : World} {K : Value → World → Prop} (h : errataref04_Disk_Lose.pt d0 n1 w K) : Calls Tryd.prog F_errataref04_Disk_Lose #[d0, n1] w (retK K) :=
  calls_FN (args := [d0, n1]) Tryd.func26 (by kernel_rfl) (by rw [errataref04_Disk_Lose.pt_eq] at h; exact h)
theorem errataref04_Disk_Lose.up {d0 n1 : Value} {w : World} {K : Value → World → Prop} (h : Calls Tryd.prog F_errataref04_Disk_Lose #[d0, n1] w (retK K)) : upK Tryd.prog (sCall F_errataref04_Disk_Lose #[d0, n1]) w K :=
  up_call (fn := Tryd.f26) Tryd.func26 (by kernel_rfl) (by kernel_rfl) h

/-- (*errata/errataref04.Disk).Arm -/
def errataref04_Disk_Arm.pt (d0 n1 keep2 : Value) (w : World) (K : Value → World → Prop) : Prop :=
  pureK Tryd.prog (sBlt .max #[T_int, T_int] T_int #[false, true] #[n1, (.int .i64 0)]) fun t8 =>
  pureK Tryd.prog (sNil d0) fun t9 =>
  pureK Tryd.prog (sFieldAddr T_errataref04_Disk t9 4) fun t10 =>
  upK Tryd.prog (sStore T_int t10 t8) w fun tu w1 =>
  upK Tryd.prog (sBuildSlice T_s_int 0 #[]) w1 fun t12 w2 =>
  upK Tryd.prog (sBlt .append #[T_s_int, T_s_int] T_s_int #[false, false] #[t12, keep2]) w2 fun t14 w3 =>
  pureK Tryd.prog (sNil d0) fun t15 =>
  pureK Tryd.prog (sFieldAddr T_errataref04_Disk t15 5) fun t16 =>
  upK Tryd.prog (sStore T_s_int t16 t14) w3 fun tu_1 w4 =>
  K (.tuple #[]) w4
theorem errataref04_Disk_Arm.pt_eq : errataref04_Disk_Arm.pt = fun d0 n1 keep2 w K => FN Tryd.prog Tryd.f27 (bodyOf Tryd.f27) [] .leaf [d0, n1, keep2] w K := by kernel_rfl
theorem errataref04_Disk_Arm.call {d0 n1 keep2 : Value} {w : World} {K : Value → World → Prop} (h : errataref04_Disk_Arm.pt d0 n1 keep2 w K) : Calls Tryd.prog F_errataref04_Disk_Arm #[d0, n1, keep2] w (retK K) :=
  calls_FN (args := [d0, n1, keep2]) Tryd.func27 (by kernel_rfl) (by rw [errataref04_Disk_Arm.pt_eq] at h; exact h)
theorem errataref04_Disk_Arm.up {d0 n1 keep2 : Value} {w : World} {K : Value → World → Prop} (h : Calls Tryd.prog F_errataref04_Disk_Arm #[d0, n1, keep2] w (retK K)) : upK Tryd.prog (sCall F_errataref04_Disk_Arm #[d0, n1, keep2]) w K :=
  up_call (fn := Tryd.f27) Tryd.func27 (by kernel_rfl) (by kernel_rfl) h

/-- (*errata/errataref04.Disk).Crash -/
def errataref04_Disk_Crash.pt (d0 keep1 : Value) (w : World) (K : Value → World → Prop) : Prop :=
  pureK Tryd.prog (sNil d0) fun t8 =>
  pureK Tryd.prog (sFieldAddr T_errataref04_Disk t8 3) fun t9 =>
  readK Tryd.prog (sLoad T_bool t9) w fun t10 =>
  ifB t10
  (K (.tuple #[]) w)
  (pureK Tryd.prog (sNil d0) fun t12 =>
   pureK Tryd.prog (sFieldAddr T_errataref04_Disk t12 3) fun t13 =>
   upK Tryd.prog (sStore T_bool t13 (.bool true)) w fun tu w1 =>
   pureK Tryd.prog (sNil d0) fun t15 =>
   pureK Tryd.prog (sFieldAddr T_errataref04_Disk t15 4) fun t16 =>
   upK Tryd.prog (sStore T_int t16 (.int .i64 0)) w1 fun tu_1 w2 =>
   LETJ (X := Unit) (fun y1 w3 =>
    LOOP (X := Value × Value × Unit) (fun x4 w4 next4 =>
     pureK Tryd.prog (sNil d0) fun t51 =>
     pureK Tryd.prog (sFieldAddr T_errataref04_Disk t51 0) fun t52 =>
     readK Tryd.prog (sLoad T_s_errataref04_File t52) w4 fun t53 =>
     readK Tryd.prog (sBlt .len #[T_s_errataref04_File] T_int #[false] #[t53]) w4 fun t54 =>
     pureK Tryd.prog (sBin .lss T_int (.tmp 49) (.tmp 54) x4.2.1 t54) fun t55 =>
     ifB t55
     (pureK Tryd.prog (sNil d0) fun t60 =>
      pureK Tryd.prog (sFieldAddr T_errataref04_Disk t60 0) fun t61 =>
      readK Tryd.prog (sLoad T_s_errataref04_File t61) (tick w4) fun t62 =>
      pureK Tryd.prog (sIdxAddr T_s_errataref04_File t62 x4.2.1) fun t64 =>
      pureK Tryd.prog (sFieldAddr T_errataref04_File t64 0) fun t65 =>
      readK Tryd.prog (sLoad T_int t65) (tick w4) fun t66 =>
      pureK Tryd.prog (sNil d0) fun t68 =>
      pureK Tryd.prog (sFieldAddr T_errataref04_Disk t68 0) fun t69 =>
      readK Tryd.prog (sLoad T_s_errataref04_File t69) (tick w4) fun t70 =>
      pureK Tryd.prog (sIdxAddr T_s_errataref04_File t70 x4.2.1) fun t72 =>
      pureK Tryd.prog (sFieldAddr T_errataref04_File t72 2) fun t73 =>
      readK Tryd.prog (sLoad T_string t73) (tick w4) fun t74 =>
      pureK Tryd.prog (sNil d0) fun t76 =>
      pureK Tryd.prog (sFieldAddr T_errataref04_Disk t76 0) fun t77 =>
      readK Tryd.prog (sLoad T_s_errataref04_File t77) (tick w4) fun t78 =>
      pureK Tryd.prog (sIdxAddr T_s_errataref04_File t78 x4.2.1) fun t80 =>
      pureK Tryd.prog (sFieldAddr T_errataref04_File t80 2) fun t81 =>
      readK Tryd.prog (sLoad T_string t81) (tick w4) fun t82 =>
      pureK Tryd.prog (sBuild T_errataref04_File #[(0, t66), (1, t74), (2, t82)]) fun t83 =>
      upK Tryd.prog (sBuildSlice T_s_errataref04_File 1 #[(0, t83)]) (tick w4) fun t84 w5 =>
      upK Tryd.prog (sBlt .append #[T_s_errataref04_File, T_s_errataref04_File] T_s_errataref04_File #[false, false] #[x4.1, t84]) w5 fun t85 w6 =>
      pureK Tryd.prog (sBin .add T_int (.tmp 56) (.const (.int .i64 1)) x4.2.1 (.int .i64 1)) fun t57 =>
      next4 (t85, t57, ()) w6)
     (pureK Tryd.prog (sNil d0) fun t88 =>
      pureK Tryd.prog (sFieldAddr T_errataref04_Disk t88 0) fun t89 =>
      upK Tryd.prog (sStore T_s_errataref04_File t89 x4.1) w4 fun tu_2 w7 =>
      pureK Tryd.prog (sNil d0) fun t91 =>
      pureK Tryd.prog (sFieldAddr T_errataref04_Disk t91 1) fun t92 =>
      upK Tryd.prog (sStore T_s_errataref04_Sector t92 (.slice none 0 0)) w7 fun tu_3 w8 =>
      K (.tuple #[]) w8))
    ((.slice none 0 0), (.int .i64 0), ()) w3)
   (fun J1 =>
    LOOP (X := Value × Unit) (fun x9 w9 next9 =>
     pureK Tryd.prog (sNil d0) fun t19 =>
     pureK Tryd.prog (sFieldAddr T_errataref04_Disk t19 1) fun t20 =>
     readK Tryd.prog (sLoad T_s_errataref04_Sector t20) w9 fun t21 =>
     readK Tryd.prog (sBlt .len #[T_s_errataref04_Sector] T_int #[false] #[t21]) w9 fun t22 =>
     pureK Tryd.prog (sBin .lss T_int (.tmp 17) (.tmp 22) x9.1 t22) fun t23 =>
     ifB t23
     (readK Tryd.prog (sBlt .len #[T_s_int] T_int #[false] #[keep1]) w9 fun t26 =>
      pureK Tryd.prog (sBin .gtr T_int (.tmp 26) (.const (.int .i64 0)) t26 (.int .i64 0)) fun t27 =>
      ifB t27
      (LETJ (X := Unit) (fun y2 w10 =>
        pureK Tryd.prog (sBin .add T_int (.tmp 29) (.const (.int .i64 1)) x9.1 (.int .i64 1)) fun t30 =>
        next9 (t30, ()) w10)
       (fun J2 =>
        readK Tryd.prog (sBlt .len #[T_s_int] T_int #[false] #[keep1]) w9 fun t34 =>
        pureK Tryd.prog (sBin .rem T_int (.tmp 32) (.tmp 34) x9.1 t34) fun t35 =>
        pureK Tryd.prog (sIdxAddr T_s_int keep1 t35) fun t36 =>
        readK Tryd.prog (sLoad T_int t36) w9 fun t37 =>
        pureK Tryd.prog (sBin .and T_int (.tmp 37) (.const (.int .i64 1)) t37 (.int .i64 1)) fun t38 =>
        pureK Tryd.prog (sBin .eql T_int (.tmp 38) (.const (.int .i64 1)) t38 (.int .i64 1)) fun t39 =>
        ifB t39
        (pureK Tryd.prog (sNil d0) fun t42 =>
         pureK Tryd.prog (sFieldAddr T_errataref04_Disk t42 1) fun t43 =>
         readK Tryd.prog (sLoad T_s_errataref04_Sector t43) w9 fun t44 =>
         pureK Tryd.prog (sIdxAddr T_s_errataref04_Sector t44 x9.1) fun t46 =>
         readK Tryd.prog (sLoad T_errataref04_Sector t46) w9 fun t47 =>
         upK Tryd.prog (sCall F_errataref04_Disk_survive #[d0, t47]) w9 fun t48 w11 =>
         J2 (()) w11)
        (J2 (()) w9)))
      (J1 (()) w9))
     (J1 (()) w9))
    ((.int .i64 0), ()) w2))
theorem errataref04_Disk_Crash.pt_eq : errataref04_Disk_Crash.pt = fun d0 keep1 w K => FN Tryd.prog Tryd.f28 (bodyOf Tryd.f28) [] (.node none .leaf (.node none .leaf (.node none .leaf (.node (some []) (.node none .leaf (.node none (.node none (.node none .leaf (.node (some []) .leaf .leaf)) .leaf) .leaf)) .leaf)))) [d0, keep1] w K := by kernel_rfl
theorem errataref04_Disk_Crash.call {d0 keep1 : Value} {w : World} {K : Value → World → Prop} (h : errataref04_Disk_Crash.pt d0 keep1 w K) : Calls Tryd.prog F_errataref04_Disk_Crash #[d0, keep1] w (retK K) :=
  calls_FN (args := [d0, keep1]) Tryd.func28 (by kernel_rfl) (by rw [errataref04_Disk_Crash.pt_eq] at h; exact h)
theorem errataref04_Disk_Crash.up {d0 keep1 : Value} {w : World} {K : Value → World → Prop} (h : Calls Tryd.prog F_errataref04_Disk_Crash #[d0, keep1] w (retK K)) : upK Tryd.prog (sCall F_errataref04_Disk_Crash #[d0, keep1]) w K :=
  up_call (fn := Tryd.f28) Tryd.func28 (by kernel_rfl) (by kernel_rfl) h

/-- (*errata/errataref04.Disk).Start -/
def errataref04_Disk_Start.pt (d0 : Value) (w : World) (K : Value → World → Prop) : Prop :=
  pureK Tryd.prog (sNil d0) fun t3 =>
  pureK Tryd.prog (sFieldAddr T_errataref04_Disk t3 3) fun t4 =>
  upK Tryd.prog (sStore T_bool t4 (.bool false)) w fun tu w1 =>
  K (.tuple #[]) w1
theorem errataref04_Disk_Start.pt_eq : errataref04_Disk_Start.pt = fun d0 w K => FN Tryd.prog Tryd.f29 (bodyOf Tryd.f29) [] .leaf [d0] w K := by kernel_rfl
theorem errataref04_Disk_Start.call {d0 : Value} {w : World} {K : Value → World → Prop} (h : errataref04_Disk_Start.pt d0 w K) : Calls Tryd.prog F_errataref04_Disk_Start #[d0] w (retK K) :=
  calls_FN (args := [d0]) Tryd.func29 (by kernel_rfl) (by rw [errataref04_Disk_Start.pt_eq] at h; exact h)
theorem errataref04_Disk_Start.up {d0 : Value} {w : World} {K : Value → World → Prop} (h : Calls Tryd.prog F_errataref04_Disk_Start #[d0] w (retK K)) : upK Tryd.prog (sCall F_errataref04_Disk_Start #[d0]) w K :=
  up_call (fn := Tryd.f29) Tryd.func29 (by kernel_rfl) (by kernel_rfl) h

/-- (*errata/disk.Disk).Size -/
def disk_Disk_Size.pt (d0 f1 : Value) (w : World) (K : Value → World → Prop) : Prop :=
  pureK Tryd.prog (sNil d0) fun t6 =>
  pureK Tryd.prog (sFieldAddr T_disk_Disk t6 0) fun t7 =>
  readK Tryd.prog (sLoad T_map_int_disk_file t7) w fun t8 =>
  readK Tryd.prog (sLookup T_map_int_disk_file t8 f1 false) w fun t10 =>
  pureK Tryd.prog (sField T_disk_file t10 0) fun t11 =>
  readK Tryd.prog (sBlt .len #[T_string] T_int #[false] #[t11]) w fun t12 =>
  K t12 w
theorem disk_Disk_Size.pt_eq : disk_Disk_Size.pt = fun d0 f1 w K => FN Tryd.prog Tryd.f30 (bodyOf Tryd.f30) [4] .leaf [d0, f1] w K := by kernel_rfl
theorem disk_Disk_Size.call {d0 f1 : Value} {w : World} {K : Value → World → Prop} (h : disk_Disk_Size.pt d0 f1 w K) : Calls Tryd.prog F_disk_Disk_Size #[d0, f1] w (retK K) :=
  calls_FN (args := [d0, f1]) Tryd.func30 (by kernel_rfl) (by rw [disk_Disk_Size.pt_eq] at h; exact h)
theorem disk_Disk_Size.up {d0 f1 : Value} {w : World} {K : Value → World → Prop} (h : Calls Tryd.prog F_disk_Disk_Size #[d0, f1] w (retK K)) : upK Tryd.prog (sCall F_disk_Disk_Size #[d0, f1]) w K :=
  up_call (fn := Tryd.f30) Tryd.func30 (by kernel_rfl) (by kernel_rfl) h

/-- (*errata/disk.Disk).Read -/
def disk_Disk_Read.pt (d0 f1 at2 size3 : Value) (w : World) (K : Value → World → Prop) : Prop :=
  upK Tryd.prog (sCall F_disk_Disk_may #[d0, f1]) w fun t14 w1 =>
  pureK Tryd.prog (sBin .neq T_api_Errno (.tmp 15) (.const (.int .i64 0)) t14 (.int .i64 0)) fun t16 =>
  ifB t16
  (K (.tuple #[(.string ⟨#[]⟩), t14]) w1)
  (pureK Tryd.prog (sBin .lss T_int (.tmp 18) (.const (.int .i64 0)) at2 (.int .i64 0)) fun t19 =>
   ifB t19
   (K (.tuple #[(.string ⟨#[]⟩), (.int .i64 1)]) w1)
   (pureK Tryd.prog (sBin .lss T_int (.tmp 21) (.const (.int .i64 0)) size3 (.int .i64 0)) fun t22 =>
    ifB t22
    (K (.tuple #[(.string ⟨#[]⟩), (.int .i64 1)]) w1)
    (pureK Tryd.prog (sNil d0) fun t25 =>
     pureK Tryd.prog (sFieldAddr T_disk_Disk t25 0) fun t26 =>
     readK Tryd.prog (sLoad T_map_int_disk_file t26) w1 fun t27 =>
     readK Tryd.prog (sLookup T_map_int_disk_file t27 f1 false) w1 fun t29 =>
     pureK Tryd.prog (sField T_disk_file t29 0) fun t30 =>
     readK Tryd.prog (sBlt .len #[T_string] T_int #[false] #[t30]) w1 fun t34 =>
     pureK Tryd.prog (sBlt .min #[T_int, T_int] T_int #[false, false] #[at2, t34]) fun t35 =>
     pureK Tryd.prog (sSlice T_string t30 (some t35) none none) fun t36 =>
     readK Tryd.prog (sBlt .len #[T_string] T_int #[false] #[t36]) w1 fun t40 =>
     pureK Tryd.prog (sBlt .min #[T_int, T_int] T_int #[false, false] #[size3, t40]) fun t41 =>
     pureK Tryd.prog (sSlice T_string t36 none (some t41) none) fun t42 =>
     K (.tuple #[t42, (.int .i64 0)]) w1)))
theorem disk_Disk_Read.pt_eq : disk_Disk_Read.pt = fun d0 f1 at2 size3 w K => FN Tryd.prog Tryd.f31 (bodyOf Tryd.f31) [8, 9] .leaf [d0, f1, at2, size3] w K := by kernel_rfl
theorem disk_Disk_Read.call {d0 f1 at2 size3 : Value} {w : World} {K : Value → World → Prop} (h : disk_Disk_Read.pt d0 f1 at2 size3 w K) : Calls Tryd.prog F_disk_Disk_Read #[d0, f1, at2, size3] w (retK K) :=
  calls_FN (args := [d0, f1, at2, size3]) Tryd.func31 (by kernel_rfl) (by rw [disk_Disk_Read.pt_eq] at h; exact h)
theorem disk_Disk_Read.up {d0 f1 at2 size3 : Value} {w : World} {K : Value → World → Prop} (h : Calls Tryd.prog F_disk_Disk_Read #[d0, f1, at2, size3] w (retK K)) : upK Tryd.prog (sCall F_disk_Disk_Read #[d0, f1, at2, size3]) w K :=
  up_call (fn := Tryd.f31) Tryd.func31 (by kernel_rfl) (by kernel_rfl) h

end Go.Proofs.YtmkigdkhpdeaeaaDoor
