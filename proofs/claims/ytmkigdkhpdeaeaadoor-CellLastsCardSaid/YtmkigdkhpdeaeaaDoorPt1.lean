/-
  The reckoned conditions of the functions that this seat's statements reach, printed by program, each held against the translation by the kernel. No condition.
-/
import Derived.Test.YtmkigdkhpdeaeaaDoorNames
namespace Go.Proofs.YtmkigdkhpdeaeaaDoor
set_option linter.unusedVariables false

/-- (*errata/errataref04.Disk).Read -/
def errataref04_Disk_Read.pt (d0 f1 at2 size3 : Value) (w : World) (K : Value → World → Prop) : Prop :=
  upK Tryd.prog (sCall F_errataref04_Disk_may #[d0, f1]) w fun t14 w1 =>
  pureK Tryd.prog (sBin .neq T_api_Errno (.tmp 15) (.const (.int .i64 0)) t14 (.int .i64 0)) fun t16 =>
  ifB t16
  (K (.tuple #[(.string ⟨#[]⟩), t14]) w1)
  (pureK Tryd.prog (sBin .lss T_int (.tmp 18) (.const (.int .i64 0)) at2 (.int .i64 0)) fun t19 =>
   ifB t19
   (K (.tuple #[(.string ⟨#[]⟩), (.int .i64 1)]) w1)
   (pureK Tryd.prog (sBin .lss T_int (.tmp 21) (.const (.int .i64 0)) size3 (.int .i64 0)) fun t22 =>
    ifB t22
    (K (.tuple #[(.string ⟨#[]⟩), (.int .i64 1)]) w1)
    (upK Tryd.prog (sCall F_errataref04_Disk_get #[d0, f1]) w1 fun t26 w2 =>
     pureK Tryd.prog (sField T_errataref04_File t26 1) fun t27 =>
     readK Tryd.prog (sBlt .len #[T_string] T_int #[false] #[t27]) w2 fun t30 =>
     pureK Tryd.prog (sBin .geq T_int (.tmp 28) (.tmp 30) at2 t30) fun t31 =>
     ifB t31
     (K (.tuple #[(.string ⟨#[]⟩), (.int .i64 0)]) w2)
     (readK Tryd.prog (sBlt .len #[T_string] T_int #[false] #[t27]) w2 fun t37 =>
      pureK Tryd.prog (sBin .sub T_int (.tmp 37) (.tmp 38) t37 at2) fun t39 =>
      pureK Tryd.prog (sBlt .min #[T_int, T_int] T_int #[false, false] #[size3, t39]) fun t40 =>
      pureK Tryd.prog (sBin .add T_int (.tmp 34) (.tmp 40) at2 t40) fun t41 =>
      pureK Tryd.prog (sSlice T_string t27 (some at2) (some t41) none) fun t42 =>
      K (.tuple #[t42, (.int .i64 0)]) w2))))
theorem errataref04_Disk_Read.pt_eq : errataref04_Disk_Read.pt = fun d0 f1 at2 size3 w K => FN Tryd.prog Tryd.f32 (bodyOf Tryd.f32) [8, 9] .leaf [d0, f1, at2, size3] w K := by kernel_rfl
theorem errataref04_Disk_Read.call {d0 f1 at2 size3 : Value} {w : World} {K : Value → World → Prop} (h : errataref04_Disk_Read.pt d0 f1 at2 size3 w K) : Calls Tryd.prog F_errataref04_Disk_Read #[d0, f1, at2, size3] w (retK K) :=
  calls_FN (args := [d0, f1, at2, size3]) Tryd.func32 (by kernel_rfl) (by rw [errataref04_Disk_Read.pt_eq] at h; exact h)
theorem errataref04_Disk_Read.up {d0 f1 at2 size3 : Value} {w : World} {K : Value → World → Prop} (h : Calls Tryd.prog F_errataref04_Disk_Read #[d0, f1, at2, size3] w (retK K)) : upK Tryd.prog (sCall F_errataref04_Disk_Read #[d0, f1, at2, size3]) w K :=
  up_call (fn := Tryd.f32) Tryd.func32 (by kernel_rfl) (by kernel_rfl) h

/-- (*errata/errataref04.Disk).Size -/
def errataref04_Disk_Size.pt (d0 f1 : Value) (w : World) (K : Value → World → Prop) : Prop :=
  upK Tryd.prog (sCall F_errataref04_Disk_get #[d0, f1]) w fun t7 w1 =>
  pureK Tryd.prog (sField T_errataref04_File t7 1) fun t8 =>
  readK Tryd.prog (sBlt .len #[T_string] T_int #[false] #[t8]) w1 fun t9 =>
  K t9 w1
theorem errataref04_Disk_Size.pt_eq : errataref04_Disk_Size.pt = fun d0 f1 w K => FN Tryd.prog Tryd.f33 (bodyOf Tryd.f33) [4] .leaf [d0, f1] w K := by kernel_rfl
theorem errataref04_Disk_Size.call {d0 f1 : Value} {w : World} {K : Value → World → Prop} (h : errataref04_Disk_Size.pt d0 f1 w K) : Calls Tryd.prog F_errataref04_Disk_Size #[d0, f1] w (retK K) :=
  calls_FN (args := [d0, f1]) Tryd.func33 (by kernel_rfl) (by rw [errataref04_Disk_Size.pt_eq] at h; exact h)
theorem errataref04_Disk_Size.up {d0 f1 : Value} {w : World} {K : Value → World → Prop} (h : Calls Tryd.prog F_errataref04_Disk_Size #[d0, f1] w (retK K)) : upK Tryd.prog (sCall F_errataref04_Disk_Size #[d0, f1]) w K :=
  up_call (fn := Tryd.f33) Tryd.func33 (by kernel_rfl) (by kernel_rfl) h

/-- (*errata/disk.Disk).ends -/
def disk_Disk_ends.pt (d0 : Value) (w : World) (K : Value → World → Prop) : Prop :=
  pureK Tryd.prog (sNil d0) fun t4 =>
  pureK Tryd.prog (sFieldAddr T_disk_Disk t4 4) fun t5 =>
  readK Tryd.prog (sLoad T_bool t5) w fun t6 =>
  ifB t6
  (K (.bool false) w)
  (pureK Tryd.prog (sNil d0) fun t9 =>
   pureK Tryd.prog (sFieldAddr T_disk_Disk t9 5) fun t10 =>
   readK Tryd.prog (sLoad T_int t10) w fun t11 =>
   pureK Tryd.prog (sBin .eql T_int (.tmp 11) (.const (.int .i64 0)) t11 (.int .i64 0)) fun t12 =>
   ifB t12
   (K (.bool false) w)
   (pureK Tryd.prog (sNil d0) fun t15 =>
    pureK Tryd.prog (sFieldAddr T_disk_Disk t15 5) fun t16 =>
    readK Tryd.prog (sLoad T_int t16) w fun t17 =>
    pureK Tryd.prog (sBin .sub T_int (.tmp 17) (.const (.int .i64 1)) t17 (.int .i64 1)) fun t18 =>
    pureK Tryd.prog (sNil d0) fun t19 =>
    pureK Tryd.prog (sFieldAddr T_disk_Disk t19 5) fun t20 =>
    upK Tryd.prog (sStore T_int t20 t18) w fun tu w1 =>
    pureK Tryd.prog (sNil d0) fun t22 =>
    pureK Tryd.prog (sFieldAddr T_disk_Disk t22 5) fun t23 =>
    readK Tryd.prog (sLoad T_int t23) w1 fun t24 =>
    pureK Tryd.prog (sBin .eql T_int (.tmp 24) (.const (.int .i64 0)) t24 (.int .i64 0)) fun t25 =>
    K t25 w1))
theorem disk_Disk_ends.pt_eq : disk_Disk_ends.pt = fun d0 w K => FN Tryd.prog Tryd.f34 (bodyOf Tryd.f34) [2] .leaf [d0] w K := by kernel_rfl
theorem disk_Disk_ends.call {d0 : Value} {w : World} {K : Value → World → Prop} (h : disk_Disk_ends.pt d0 w K) : Calls Tryd.prog F_disk_Disk_ends #[d0] w (retK K) :=
  calls_FN (args := [d0]) Tryd.func34 (by kernel_rfl) (by rw [disk_Disk_ends.pt_eq] at h; exact h)
theorem disk_Disk_ends.up {d0 : Value} {w : World} {K : Value → World → Prop} (h : Calls Tryd.prog F_disk_Disk_ends #[d0] w (retK K)) : upK Tryd.prog (sCall F_disk_Disk_ends #[d0]) w K :=
  up_call (fn := Tryd.f34) Tryd.func34 (by kernel_rfl) (by kernel_rfl) h

/-- (*errata/disk.Disk).write -/
def disk_Disk_write.pt (d0 f1 at2 s3 : Value) (w : World) (K : Value → World → Prop) : Prop :=
  upK Tryd.prog (sCall F_disk_Disk_may #[d0, f1]) w fun t15 w1 =>
  pureK Tryd.prog (sBin .neq T_api_Errno (.tmp 16) (.const (.int .i64 0)) t15 (.int .i64 0)) fun t17 =>
  ifB t17
  (K t15 w1)
  (pureK Tryd.prog (sBin .lss T_int (.tmp 20) (.const (.int .i64 0)) at2 (.int .i64 0)) fun t21 =>
   ifB t21
   (K (.int .i64 1) w1)
   (pureK Tryd.prog (sBin .gtr T_int (.tmp 23) (.const (.int .i64 16777216)) at2 (.int .i64 16777216)) fun t24 =>
    ifB t24
    (K (.int .i64 6) w1)
    (readK Tryd.prog (sBlt .len #[T_string] T_int #[false] #[s3]) w1 fun t27 =>
     pureK Tryd.prog (sBin .sub T_int (.const (.int .i64 16777216)) (.tmp 28) (.int .i64 16777216) at2) fun t29 =>
     pureK Tryd.prog (sBin .gtr T_int (.tmp 27) (.tmp 29) t27 t29) fun t30 =>
     ifB t30
     (K (.int .i64 6) w1)
     (pureK Tryd.prog (sBin .eql T_string (.tmp 33) (.const (.string ⟨#[]⟩)) s3 (.string ⟨#[]⟩)) fun t34 =>
      ifB t34
      (K (.int .i64 0) w1)
      (pureK Tryd.prog (sNil d0) fun t36 =>
       pureK Tryd.prog (sFieldAddr T_disk_Disk t36 0) fun t37 =>
       readK Tryd.prog (sLoad T_map_int_disk_file t37) w1 fun t38 =>
       readK Tryd.prog (sLookup T_map_int_disk_file t38 f1 false) w1 fun t40 =>
       upK Tryd.prog (sAlloc T_disk_file) w1 fun x10 w2 =>
       upK Tryd.prog (sStore T_disk_file x10 t40) w2 fun tu w3 =>
       pureK Tryd.prog (sFieldAddr T_disk_file x10 0) fun t41 =>
       readK Tryd.prog (sLoad T_string t41) w3 fun t42 =>
       upK Tryd.prog (sCall F_disk_put #[t42, at2, s3]) w3 fun t45 w4 =>
       pureK Tryd.prog (sFieldAddr T_disk_file x10 0) fun t46 =>
       upK Tryd.prog (sStore T_string t46 t45) w4 fun tu_1 w5 =>
       pureK Tryd.prog (sNil d0) fun t48 =>
       pureK Tryd.prog (sFieldAddr T_disk_Disk t48 0) fun t49 =>
       readK Tryd.prog (sLoad T_map_int_disk_file t49) (tick w5) fun t50 =>
       readK Tryd.prog (sLoad T_disk_file x10) (tick w5) fun t52 =>
       upK Tryd.prog (sMapUpd T_map_int_disk_file t50 f1 t52) (tick w5) fun tu_2 w6 =>
       pureK Tryd.prog (sBin .quo T_int (.tmp 53) (.const (.int .i64 64)) at2 (.int .i64 64)) fun t54 =>
       LOOP (X := Value × Unit) (fun x7 w7 next7 =>
        readK Tryd.prog (sBlt .len #[T_string] T_int #[false] #[s3]) w7 fun t58 =>
        pureK Tryd.prog (sBin .add T_int (.tmp 56) (.tmp 58) at2 t58) fun t59 =>
        pureK Tryd.prog (sBin .sub T_int (.tmp 59) (.const (.int .i64 1)) t59 (.int .i64 1)) fun t60 =>
        pureK Tryd.prog (sBin .quo T_int (.tmp 60) (.const (.int .i64 64)) t60 (.int .i64 64)) fun t61 =>
        pureK Tryd.prog (sBin .leq T_int (.tmp 55) (.tmp 61) x7.1 t61) fun t62 =>
        ifB t62
        (LETJ (X := Unit) (fun y1 w8 =>
          pureK Tryd.prog (sBin .add T_int (.tmp 63) (.const (.int .i64 1)) x7.1 (.int .i64 1)) fun t64 =>
          next7 (t64, ()) w8)
         (fun J1 =>
          pureK Tryd.prog (sBuild T_disk_sector #[(0, f1), (1, x7.1)]) fun t67 =>
          upK Tryd.prog (sAlloc T_disk_sector) w7 fun p12 w9 =>
          upK Tryd.prog (sStore T_disk_sector p12 t67) w9 fun tu_3 w10 =>
          pureK Tryd.prog (sNil d0) fun t69 =>
          pureK Tryd.prog (sFieldAddr T_disk_Disk t69 2) fun t70 =>
          readK Tryd.prog (sLoad T_map_disk_sector_bool t70) (tick w10) fun t71 =>
          readK Tryd.prog (sLoad T_disk_sector p12) (tick w10) fun t72 =>
          readK Tryd.prog (sLookup T_map_disk_sector_bool t71 t72 false) (tick w10) fun t73 =>
          pureK Tryd.prog (sUn .not t73) fun t74 =>
          ifB t74
          (pureK Tryd.prog (sNil d0) fun t77 =>
           pureK Tryd.prog (sFieldAddr T_disk_Disk t77 2) fun t78 =>
           readK Tryd.prog (sLoad T_map_disk_sector_bool t78) (tick (tick w10)) fun t79 =>
           readK Tryd.prog (sLoad T_disk_sector p12) (tick (tick w10)) fun t80 =>
           pureK Tryd.prog (sNil d0) fun t82 =>
           pureK Tryd.prog (sFieldAddr T_disk_Disk t82 1) fun t83 =>
           readK Tryd.prog (sLoad T_s_disk_sector t83) (tick (tick w10)) fun t84 =>
           readK Tryd.prog (sLoad T_disk_sector p12) (tick (tick w10)) fun t85 =>
           upK Tryd.prog (sBuildSlice T_s_disk_sector 1 #[(0, t85)]) (tick (tick w10)) fun t86 w11 =>
           Is Tryd.prog (sLoad T_s_disk_sector t83) t84 w11 ∧ Is Tryd.prog (sLoad T_disk_sector p12) t80 w11 ∧ Is Tryd.prog (sLoad T_map_disk_sector_bool t78) t79 w11 ∧ upK Tryd.prog (sBlt .append #[T_s_disk_sector, T_s_disk_sector] T_s_disk_sector #[false, false] #[t84, t86]) w11 fun t87 w12 =>
           Is Tryd.prog (sLoad T_disk_sector p12) t80 w12 ∧ Is Tryd.prog (sLoad T_map_disk_sector_bool t78) t79 w12 ∧ pureK Tryd.prog (sNil d0) fun t88 =>
           pureK Tryd.prog (sFieldAddr T_disk_Disk t88 1) fun t89 =>
           upK Tryd.prog (sStore T_s_disk_sector t89 t87) w12 fun tu_4 w13 =>
           Is Tryd.prog (sLoad T_disk_sector p12) t80 w13 ∧ upK Tryd.prog (sMapEntry T_map_disk_sector_bool t79 t80) w13 fun t90 w14 =>
           pureK Tryd.prog (sExtract t90 1) fun t91 =>
           upK Tryd.prog (sEntryStore T_map_disk_sector_bool t79 t91 (.bool true)) w14 fun tu_5 w15 =>
           J1 (()) w15)
          (J1 (()) (tick w10))))
        (K (.int .i64 0) w7))
       (t54, ()) w6)))))
theorem disk_Disk_write.pt_eq : disk_Disk_write.pt = fun d0 f1 at2 s3 w K => FN Tryd.prog Tryd.f35 (bodyOf Tryd.f35) [8] (.node none .leaf (.node none .leaf (.node none .leaf (.node none .leaf (.node none .leaf (.node none .leaf (.node none (.node none .leaf (.node none (.node none (.node none .leaf (.node (some []) .leaf .leaf)) .leaf) .leaf)) .leaf))))))) [d0, f1, at2, s3] w K := by kernel_rfl
theorem disk_Disk_write.call {d0 f1 at2 s3 : Value} {w : World} {K : Value → World → Prop} (h : disk_Disk_write.pt d0 f1 at2 s3 w K) : Calls Tryd.prog F_disk_Disk_write #[d0, f1, at2, s3] w (retK K) :=
  calls_FN (args := [d0, f1, at2, s3]) Tryd.func35 (by kernel_rfl) (by rw [disk_Disk_write.pt_eq] at h; exact h)
theorem disk_Disk_write.up {d0 f1 at2 s3 : Value} {w : World} {K : Value → World → Prop} (h : Calls Tryd.prog F_disk_Disk_write #[d0, f1, at2, s3] w (retK K)) : upK Tryd.prog (sCall F_disk_Disk_write #[d0, f1, at2, s3]) w K :=
  up_call (fn := Tryd.f35) Tryd.func35 (by kernel_rfl) (by kernel_rfl) h

/-- (*errata/errataref04.Disk).comes -/
def errataref04_Disk_comes.pt (d0 f1 at2 s3 : Value) (w : World) (K : Value → World → Prop) : Prop :=
  pureK Tryd.prog (sNil d0) fun t9 =>
  pureK Tryd.prog (sFieldAddr T_errataref04_Disk t9 3) fun t10 =>
  readK Tryd.prog (sLoad T_bool t10) w fun t11 =>
  ifB t11
  (K (.tuple #[]) w)
  (pureK Tryd.prog (sNil d0) fun t14 =>
   pureK Tryd.prog (sFieldAddr T_errataref04_Disk t14 4) fun t15 =>
   readK Tryd.prog (sLoad T_int t15) w fun t16 =>
   pureK Tryd.prog (sBin .eql T_int (.tmp 16) (.const (.int .i64 0)) t16 (.int .i64 0)) fun t17 =>
   ifB t17
   (K (.tuple #[]) w)
   (pureK Tryd.prog (sNil d0) fun t20 =>
    pureK Tryd.prog (sFieldAddr T_errataref04_Disk t20 4) fun t21 =>
    readK Tryd.prog (sLoad T_int t21) w fun t22 =>
    pureK Tryd.prog (sBin .sub T_int (.tmp 22) (.const (.int .i64 1)) t22 (.int .i64 1)) fun t23 =>
    pureK Tryd.prog (sNil d0) fun t24 =>
    pureK Tryd.prog (sFieldAddr T_errataref04_Disk t24 4) fun t25 =>
    upK Tryd.prog (sStore T_int t25 t23) w fun tu w1 =>
    pureK Tryd.prog (sNil d0) fun t27 =>
    pureK Tryd.prog (sFieldAddr T_errataref04_Disk t27 4) fun t28 =>
    readK Tryd.prog (sLoad T_int t28) w1 fun t29 =>
    pureK Tryd.prog (sBin .gtr T_int (.tmp 29) (.const (.int .i64 0)) t29 (.int .i64 0)) fun t30 =>
    ifB t30
    (K (.tuple #[]) w1)
    (LETJ (X := Unit) (fun y1 w2 =>
      pureK Tryd.prog (sNil d0) fun t49 =>
      pureK Tryd.prog (sFieldAddr T_errataref04_Disk t49 5) fun t50 =>
      readK Tryd.prog (sLoad T_s_int t50) w2 fun t51 =>
      upK Tryd.prog (sCall F_errataref04_Disk_Crash #[d0, t51]) w2 fun t52 w3 =>
      K (.tuple #[]) w3)
     (fun J1 =>
      pureK Tryd.prog (sBin .geq T_int (.tmp 31) (.const (.int .i64 0)) f1 (.int .i64 0)) fun t32 =>
      ifB t32
      (pureK Tryd.prog (sBin .leq T_int (.tmp 34) (.const (.int .i64 15)) f1 (.int .i64 15)) fun t35 =>
       ifB t35
       (upK Tryd.prog (sCall F_errataref04_fits #[at2, s3]) w1 fun t40 w4 =>
        ifB t40
        (upK Tryd.prog (sCall F_errataref04_Disk_add #[d0, f1, at2, s3]) w4 fun t46 w5 =>
         J1 (()) w5)
        (J1 (()) w4))
       (J1 (()) w1))
      (J1 (()) w1)))))
theorem errataref04_Disk_comes.pt_eq : errataref04_Disk_comes.pt = fun d0 f1 at2 s3 w K => FN Tryd.prog Tryd.f36 (bodyOf Tryd.f36) [] (.node none .leaf (.node none .leaf (.node none .leaf (.node (some []) .leaf .leaf)))) [d0, f1, at2, s3] w K := by kernel_rfl
theorem errataref04_Disk_comes.call {d0 f1 at2 s3 : Value} {w : World} {K : Value → World → Prop} (h : errataref04_Disk_comes.pt d0 f1 at2 s3 w K) : Calls Tryd.prog F_errataref04_Disk_comes #[d0, f1, at2, s3] w (retK K) :=
  calls_FN (args := [d0, f1, at2, s3]) Tryd.func36 (by kernel_rfl) (by rw [errataref04_Disk_comes.pt_eq] at h; exact h)
theorem errataref04_Disk_comes.up {d0 f1 at2 s3 : Value} {w : World} {K : Value → World → Prop} (h : Calls Tryd.prog F_errataref04_Disk_comes #[d0, f1, at2, s3] w (retK K)) : upK Tryd.prog (sCall F_errataref04_Disk_comes #[d0, f1, at2, s3]) w K :=
  up_call (fn := Tryd.f36) Tryd.func36 (by kernel_rfl) (by kernel_rfl) h

/-- (*errata/errataref04.Disk).may -/
def errataref04_Disk_may.pt (d0 f1 : Value) (w : World) (K : Value → World → Prop) : Prop :=
  pureK Tryd.prog (sNil d0) fun t6 =>
  pureK Tryd.prog (sFieldAddr T_errataref04_Disk t6 3) fun t7 =>
  readK Tryd.prog (sLoad T_bool t7) w fun t8 =>
  ifB t8
  (K (.int .i64 9) w)
  (pureK Tryd.prog (sBin .lss T_int (.tmp 9) (.const (.int .i64 0)) f1 (.int .i64 0)) fun t10 =>
   ifB t10
   (K (.int .i64 1) w)
   (pureK Tryd.prog (sBin .gtr T_int (.tmp 12) (.const (.int .i64 15)) f1 (.int .i64 15)) fun t13 =>
    ifB t13
    (K (.int .i64 1) w)
    (K (.int .i64 0) w)))
theorem errataref04_Disk_may.pt_eq : errataref04_Disk_may.pt = fun d0 f1 w K => FN Tryd.prog Tryd.f37 (bodyOf Tryd.f37) [4] .leaf [d0, f1] w K := by kernel_rfl
theorem errataref04_Disk_may.call {d0 f1 : Value} {w : World} {K : Value → World → Prop} (h : errataref04_Disk_may.pt d0 f1 w K) : Calls Tryd.prog F_errataref04_Disk_may #[d0, f1] w (retK K) :=
  calls_FN (args := [d0, f1]) Tryd.func37 (by kernel_rfl) (by rw [errataref04_Disk_may.pt_eq] at h; exact h)
theorem errataref04_Disk_may.up {d0 f1 : Value} {w : World} {K : Value → World → Prop} (h : Calls Tryd.prog F_errataref04_Disk_may #[d0, f1] w (retK K)) : upK Tryd.prog (sCall F_errataref04_Disk_may #[d0, f1]) w K :=
  up_call (fn := Tryd.f37) Tryd.func37 (by kernel_rfl) (by kernel_rfl) h

/-- errata/errataref04.fits -/
def errataref04_fits.pt (at0 s1 : Value) (w : World) (K : Value → World → Prop) : Prop :=
  pureK Tryd.prog (sBin .geq T_int (.tmp 5) (.const (.int .i64 0)) at0 (.int .i64 0)) fun t6 =>
  ifB t6
  (pureK Tryd.prog (sBin .leq T_int (.tmp 8) (.const (.int .i64 16777216)) at0 (.int .i64 16777216)) fun t9 =>
   ifB t9
   (readK Tryd.prog (sBlt .len #[T_string] T_int #[false] #[s1]) w fun t14 =>
    pureK Tryd.prog (sBin .add T_int (.tmp 12) (.tmp 14) at0 t14) fun t15 =>
    pureK Tryd.prog (sBin .leq T_int (.tmp 15) (.const (.int .i64 16777216)) t15 (.int .i64 16777216)) fun t16 =>
    K t16 w)
   (K (.bool false) w))
  (K (.bool false) w)
theorem errataref04_fits.pt_eq : errataref04_fits.pt = fun at0 s1 w K => FN Tryd.prog Tryd.f38 (bodyOf Tryd.f38) [4] .leaf [at0, s1] w K := by kernel_rfl
theorem errataref04_fits.call {at0 s1 : Value} {w : World} {K : Value → World → Prop} (h : errataref04_fits.pt at0 s1 w K) : Calls Tryd.prog F_errataref04_fits #[at0, s1] w (retK K) :=
  calls_FN (args := [at0, s1]) Tryd.func38 (by kernel_rfl) (by rw [errataref04_fits.pt_eq] at h; exact h)
theorem errataref04_fits.up {at0 s1 : Value} {w : World} {K : Value → World → Prop} (h : Calls Tryd.prog F_errataref04_fits #[at0, s1] w (retK K)) : upK Tryd.prog (sCall F_errataref04_fits #[at0, s1]) w K :=
  up_call (fn := Tryd.f38) Tryd.func38 (by kernel_rfl) (by kernel_rfl) h

/-- (*errata/errataref04.Disk).add -/
def errataref04_Disk_add.pt (d0 f1 at2 s3 : Value) (w : World) (K : Value → World → Prop) : Prop :=
  pureK Tryd.prog (sBin .eql T_string (.tmp 10) (.const (.string ⟨#[]⟩)) s3 (.string ⟨#[]⟩)) fun t11 =>
  ifB t11
  (K (.tuple #[]) w)
  (upK Tryd.prog (sCall F_errataref04_Disk_get #[d0, f1]) w fun t14 w1 =>
   upK Tryd.prog (sAlloc T_errataref04_File) w1 fun x8 w2 =>
   upK Tryd.prog (sStore T_errataref04_File x8 t14) w2 fun tu w3 =>
   pureK Tryd.prog (sFieldAddr T_errataref04_File x8 1) fun t15 =>
   readK Tryd.prog (sLoad T_string t15) w3 fun t16 =>
   upK Tryd.prog (sCall F_errataref04_Put #[t16, at2, s3]) w3 fun t19 w4 =>
   pureK Tryd.prog (sFieldAddr T_errataref04_File x8 1) fun t20 =>
   upK Tryd.prog (sStore T_string t20 t19) w4 fun tu_1 w5 =>
   readK Tryd.prog (sLoad T_errataref04_File x8) w5 fun t22 =>
   upK Tryd.prog (sCall F_errataref04_Disk_set #[d0, t22]) w5 fun t23 w6 =>
   pureK Tryd.prog (sBin .quo T_int (.tmp 24) (.const (.int .i64 64)) at2 (.int .i64 64)) fun t25 =>
   LOOP (X := Value × Unit) (fun x7 w7 next7 =>
    readK Tryd.prog (sBlt .len #[T_string] T_int #[false] #[s3]) w7 fun t29 =>
    pureK Tryd.prog (sBin .add T_int (.tmp 27) (.tmp 29) at2 t29) fun t30 =>
    pureK Tryd.prog (sBin .sub T_int (.tmp 30) (.const (.int .i64 1)) t30 (.int .i64 1)) fun t31 =>
    pureK Tryd.prog (sBin .quo T_int (.tmp 31) (.const (.int .i64 64)) t31 (.int .i64 64)) fun t32 =>
    pureK Tryd.prog (sBin .leq T_int (.tmp 26) (.tmp 32) x7.1 t32) fun t33 =>
    ifB t33
    (LETJ (X := Unit) (fun y1 w8 =>
      pureK Tryd.prog (sBin .add T_int (.tmp 34) (.const (.int .i64 1)) x7.1 (.int .i64 1)) fun t35 =>
      next7 (t35, ()) w8)
     (fun J1 =>
      upK Tryd.prog (sCall F_errataref04_Disk_pending #[d0, f1, x7.1]) w7 fun t39 w9 =>
      pureK Tryd.prog (sUn .not t39) fun t40 =>
      ifB t40
      (pureK Tryd.prog (sNil d0) fun t43 =>
       pureK Tryd.prog (sFieldAddr T_errataref04_Disk t43 1) fun t44 =>
       readK Tryd.prog (sLoad T_s_errataref04_Sector t44) w9 fun t45 =>
       pureK Tryd.prog (sBuild T_errataref04_Sector #[(0, f1), (1, x7.1)]) fun t48 =>
       upK Tryd.prog (sBuildSlice T_s_errataref04_Sector 1 #[(0, t48)]) w9 fun t49 w10 =>
       upK Tryd.prog (sBlt .append #[T_s_errataref04_Sector, T_s_errataref04_Sector] T_s_errataref04_Sector #[false, false] #[t45, t49]) w10 fun t50 w11 =>
       pureK Tryd.prog (sNil d0) fun t51 =>
       pureK Tryd.prog (sFieldAddr T_errataref04_Disk t51 1) fun t52 =>
       upK Tryd.prog (sStore T_s_errataref04_Sector t52 t50) w11 fun tu_2 w12 =>
       J1 (()) w12)
      (J1 (()) w9)))
    (K (.tuple #[]) w7))
   (t25, ()) w6)
theorem errataref04_Disk_add.pt_eq : errataref04_Disk_add.pt = fun d0 f1 at2 s3 w K => FN Tryd.prog Tryd.f39 (bodyOf Tryd.f39) [] (.node none .leaf (.node none .leaf (.node none .leaf (.node none .leaf (.node none .leaf (.node none (.node none (.node none .leaf (.node (some []) .leaf .leaf)) .leaf) .leaf)))))) [d0, f1, at2, s3] w K := by kernel_rfl
theorem errataref04_Disk_add.call {d0 f1 at2 s3 : Value} {w : World} {K : Value → World → Prop} (h : errataref04_Disk_add.pt d0 f1 at2 s3 w K) : Calls Tryd.prog F_errataref04_Disk_add #[d0, f1, at2, s3] w (retK K) :=
  calls_FN (args := [d0, f1, at2, s3]) Tryd.func39 (by kernel_rfl) (by rw [errataref04_Disk_add.pt_eq] at h; exact h)
theorem errataref04_Disk_add.up {d0 f1 at2 s3 : Value} {w : World} {K : Value → World → Prop} (h : Calls Tryd.prog F_errataref04_Disk_add #[d0, f1, at2, s3] w (retK K)) : upK Tryd.prog (sCall F_errataref04_Disk_add #[d0, f1, at2, s3]) w K :=
  up_call (fn := Tryd.f39) Tryd.func39 (by kernel_rfl) (by kernel_rfl) h

/-- errata/errataref05.begin -/
def errataref05_begin.pt (slot0 : Value) (w : World) (K : Value → World → Prop) : Prop :=
  pureK Tryd.prog (sBin .eql T_int (.tmp 3) (.const (.int .i64 2)) slot0 (.int .i64 2)) fun t4 =>
  ifB t4
  (K (.int .i64 131072) w)
  (K (.int .i64 64) w)
theorem errataref05_begin.pt_eq : errataref05_begin.pt = fun slot0 w K => FN Tryd.prog Tryd.f40 (bodyOf Tryd.f40) [2] .leaf [slot0] w K := by kernel_rfl
theorem errataref05_begin.call {slot0 : Value} {w : World} {K : Value → World → Prop} (h : errataref05_begin.pt slot0 w K) : Calls Tryd.prog F_errataref05_begin #[slot0] w (retK K) :=
  calls_FN (args := [slot0]) Tryd.func40 (by kernel_rfl) (by rw [errataref05_begin.pt_eq] at h; exact h)
theorem errataref05_begin.up {slot0 : Value} {w : World} {K : Value → World → Prop} (h : Calls Tryd.prog F_errataref05_begin #[slot0] w (retK K)) : upK Tryd.prog (sCall F_errataref05_begin #[slot0]) w K :=
  up_call (fn := Tryd.f40) Tryd.func40 (by kernel_rfl) (by kernel_rfl) h

/-- (*errata/disk.Disk).Sync -/
def disk_Disk_Sync.pt (d0 f1 : Value) (w : World) (K : Value → World → Prop) : Prop :=
  LETJ (X := Unit) (fun y1 w1 =>
   upK Tryd.prog (sCall F_disk_Disk_may #[d0, f1]) w1 fun t16 w2 =>
   pureK Tryd.prog (sBin .neq T_api_Errno (.tmp 17) (.const (.int .i64 0)) t16 (.int .i64 0)) fun t18 =>
   ifB t18
   (K t16 w2)
   (pureK Tryd.prog (sNil d0) fun t21 =>
    pureK Tryd.prog (sFieldAddr T_disk_Disk t21 3) fun t22 =>
    readK Tryd.prog (sLoad T_int t22) w2 fun t23 =>
    pureK Tryd.prog (sBin .gtr T_int (.tmp 23) (.const (.int .i64 0)) t23 (.int .i64 0)) fun t24 =>
    ifB t24
    (pureK Tryd.prog (sNil d0) fun t26 =>
     pureK Tryd.prog (sFieldAddr T_disk_Disk t26 3) fun t27 =>
     readK Tryd.prog (sLoad T_int t27) w2 fun t28 =>
     pureK Tryd.prog (sBin .sub T_int (.tmp 28) (.const (.int .i64 1)) t28 (.int .i64 1)) fun t29 =>
     pureK Tryd.prog (sNil d0) fun t30 =>
     pureK Tryd.prog (sFieldAddr T_disk_Disk t30 3) fun t31 =>
     upK Tryd.prog (sStore T_int t31 t29) w2 fun tu w3 =>
     K (.int .i64 10) w3)
    (pureK Tryd.prog (sNil d0) fun t35 =>
     pureK Tryd.prog (sFieldAddr T_disk_Disk t35 0) fun t36 =>
     readK Tryd.prog (sLoad T_map_int_disk_file t36) w2 fun t37 =>
     readK Tryd.prog (sLookup T_map_int_disk_file t37 f1 false) w2 fun t39 =>
     pureK Tryd.prog (sField T_disk_file t39 0) fun t40 =>
     upK Tryd.prog (sCall F_disk_Disk_settle #[d0, f1, t40]) w2 fun t41 w4 =>
     K (.int .i64 0) w4)))
  (fun J1 =>
   upK Tryd.prog (sCall F_disk_Disk_ends #[d0]) w fun t7 w5 =>
   ifB t7
   (pureK Tryd.prog (sNil d0) fun t10 =>
    pureK Tryd.prog (sFieldAddr T_disk_Disk t10 6) fun t11 =>
    readK Tryd.prog (sLoad T_s_int t11) w5 fun t12 =>
    upK Tryd.prog (sCall F_disk_Disk_Crash #[d0, t12]) w5 fun t13 w6 =>
    J1 (()) w6)
   (J1 (()) w5))
theorem disk_Disk_Sync.pt_eq : disk_Disk_Sync.pt = fun d0 f1 w K => FN Tryd.prog Tryd.f41 (bodyOf Tryd.f41) [4] (.node none .leaf (.node (some []) .leaf .leaf)) [d0, f1] w K := by kernel_rfl
theorem disk_Disk_Sync.call {d0 f1 : Value} {w : World} {K : Value → World → Prop} (h : disk_Disk_Sync.pt d0 f1 w K) : Calls Tryd.prog F_disk_Disk_Sync #[d0, f1] w (retK K) :=
  calls_FN (args := [d0, f1]) Tryd.func41 (by kernel_rfl) (by rw [disk_Disk_Sync.pt_eq] at h; exact h)
theorem disk_Disk_Sync.up {d0 f1 : Value} {w : World} {K : Value → World → Prop} (h : Calls Tryd.prog F_disk_Disk_Sync #[d0, f1] w (retK K)) : upK Tryd.prog (sCall F_disk_Disk_Sync #[d0, f1]) w K :=
  up_call (fn := Tryd.f41) Tryd.func41 (by kernel_rfl) (by kernel_rfl) h

/-- errata/cell.header -/
def cell_header.pt (slot0 s1 : Value) (w : World) (K : Value → World → Prop) : Prop :=
  upK Tryd.prog (sConv T_int T_uint8 slot0) w fun t8 w1 =>
  upK Tryd.prog (sBuildSlice T_s_uint8 1 #[(0, t8)]) w1 fun t9 w2 =>
  readK Tryd.prog (sBlt .len #[T_string] T_int #[false] #[s1]) w2 fun t11 =>
  LOOP (X := Value × Value × Unit) (fun x3 w3 next3 =>
   readK Tryd.prog (sBlt .len #[T_s_uint8] T_int #[false] #[x3.1]) w3 fun t13 =>
   pureK Tryd.prog (sBin .lss T_int (.tmp 13) (.const (.int .i64 5)) t13 (.int .i64 5)) fun t14 =>
   ifB t14
   (upK Tryd.prog (sConv T_int T_uint8 x3.2.1) w3 fun t19 w4 =>
    upK Tryd.prog (sBuildSlice T_s_uint8 1 #[(0, t19)]) w4 fun t20 w5 =>
    upK Tryd.prog (sBlt .append #[T_s_uint8, T_s_uint8] T_s_uint8 #[false, false] #[x3.1, t20]) w5 fun t21 w6 =>
    pureK Tryd.prog (sBin .shr T_int (.tmp 15) (.const (.int .u64 8)) x3.2.1 (.int .u64 8)) fun t16 =>
    next3 (t21, t16, ()) w6)
   (upK Tryd.prog (sConv T_s_uint8 T_string x3.1) w3 fun t23 w7 =>
    K t23 w7))
  (t9, t11, ()) w2
theorem cell_header.pt_eq : cell_header.pt = fun slot0 s1 w K => FN Tryd.prog Tryd.f42 (bodyOf Tryd.f42) [4] .leaf [slot0, s1] w K := by kernel_rfl
theorem cell_header.call {slot0 s1 : Value} {w : World} {K : Value → World → Prop} (h : cell_header.pt slot0 s1 w K) : Calls Tryd.prog F_cell_header #[slot0, s1] w (retK K) :=
  calls_FN (args := [slot0, s1]) Tryd.func42 (by kernel_rfl) (by rw [cell_header.pt_eq] at h; exact h)
theorem cell_header.up {slot0 s1 : Value} {w : World} {K : Value → World → Prop} (h : Calls Tryd.prog F_cell_header #[slot0, s1] w (retK K)) : upK Tryd.prog (sCall F_cell_header #[slot0, s1]) w K :=
  up_call (fn := Tryd.f42) Tryd.func42 (by kernel_rfl) (by kernel_rfl) h

/-- slices.Clone[[]int,int] -/
def slices_Clone_s_int_int.pt (s0 : Value) (w : World) (K : Value → World → Prop) : Prop :=
  pureK Tryd.prog (sBin .eql T_s_int (.tmp 3) (.const (.slice none 0 0)) s0 (.slice none 0 0)) fun t4 =>
  ifB t4
  (K (.slice none 0 0) w)
  (upK Tryd.prog (sBuildSlice T_s_int 0 #[]) w fun t5 w1 =>
   upK Tryd.prog (sBlt .append #[T_s_int, T_s_int] T_s_int #[false, false] #[t5, s0]) w1 fun t7 w2 =>
   K t7 w2)
theorem slices_Clone_s_int_int.pt_eq : slices_Clone_s_int_int.pt = fun s0 w K => FN Tryd.prog Tryd.f43 (bodyOf Tryd.f43) [2] .leaf [s0] w K := by kernel_rfl
theorem slices_Clone_s_int_int.call {s0 : Value} {w : World} {K : Value → World → Prop} (h : slices_Clone_s_int_int.pt s0 w K) : Calls Tryd.prog F_slices_Clone_s_int_int #[s0] w (retK K) :=
  calls_FN (args := [s0]) Tryd.func43 (by kernel_rfl) (by rw [slices_Clone_s_int_int.pt_eq] at h; exact h)
theorem slices_Clone_s_int_int.up {s0 : Value} {w : World} {K : Value → World → Prop} (h : Calls Tryd.prog F_slices_Clone_s_int_int #[s0] w (retK K)) : upK Tryd.prog (sCall F_slices_Clone_s_int_int #[s0]) w K :=
  up_call (fn := Tryd.f43) Tryd.func43 (by kernel_rfl) (by kernel_rfl) h

/-- errata/disk.put -/
def disk_put.pt (s0 at1 t2 : Value) (w : World) (K : Value → World → Prop) : Prop :=
  pureK Tryd.prog (sBin .eql T_string (.tmp 8) (.const (.string ⟨#[]⟩)) t2 (.string ⟨#[]⟩)) fun t9 =>
  ifB t9
  (K s0 w)
  (readK Tryd.prog (sBlt .len #[T_string] T_int #[false] #[s0]) w fun t12 =>
   readK Tryd.prog (sBlt .len #[T_string] T_int #[false] #[t2]) w fun t15 =>
   pureK Tryd.prog (sBin .add T_int (.tmp 13) (.tmp 15) at1 t15) fun t16 =>
   pureK Tryd.prog (sBlt .max #[T_int, T_int] T_int #[false, false] #[t12, t16]) fun t17 =>
   upK Tryd.prog (sMkSlice T_s_uint8 t17 t17) w fun t18 w1 =>
   upK Tryd.prog (sBlt .copy #[T_s_uint8, T_string] T_int #[false, false] #[t18, s0]) w1 fun t21 w2 =>
   pureK Tryd.prog (sSlice T_s_uint8 t18 (some at1) none none) fun t24 =>
   upK Tryd.prog (sBlt .copy #[T_s_uint8, T_string] T_int #[false, false] #[t24, t2]) w2 fun t26 w3 =>
   upK Tryd.prog (sConv T_s_uint8 T_string t18) w3 fun t28 w4 =>
   K t28 w4)
theorem disk_put.pt_eq : disk_put.pt = fun s0 at1 t2 w K => FN Tryd.prog Tryd.f44 (bodyOf Tryd.f44) [6] .leaf [s0, at1, t2] w K := by kernel_rfl
theorem disk_put.call {s0 at1 t2 : Value} {w : World} {K : Value → World → Prop} (h : disk_put.pt s0 at1 t2 w K) : Calls Tryd.prog F_disk_put #[s0, at1, t2] w (retK K) :=
  calls_FN (args := [s0, at1, t2]) Tryd.func44 (by kernel_rfl) (by rw [disk_put.pt_eq] at h; exact h)
theorem disk_put.up {s0 at1 t2 : Value} {w : World} {K : Value → World → Prop} (h : Calls Tryd.prog F_disk_put #[s0, at1, t2] w (retK K)) : upK Tryd.prog (sCall F_disk_put #[s0, at1, t2]) w K :=
  up_call (fn := Tryd.f44) Tryd.func44 (by kernel_rfl) (by kernel_rfl) h

/-- (*errata/errataref04.Disk).Sync -/
def errataref04_Disk_Sync.pt (d0 f1 : Value) (w : World) (K : Value → World → Prop) : Prop :=
  upK Tryd.prog (sCall F_errataref04_Disk_comes #[d0, (.int .i64 0), (.int .i64 0), (.string ⟨#[]⟩)]) w fun t7 w1 =>
  upK Tryd.prog (sCall F_errataref04_Disk_may #[d0, f1]) w1 fun t10 w2 =>
  pureK Tryd.prog (sBin .neq T_api_Errno (.tmp 11) (.const (.int .i64 0)) t10 (.int .i64 0)) fun t12 =>
  ifB t12
  (K t10 w2)
  (pureK Tryd.prog (sNil d0) fun t15 =>
   pureK Tryd.prog (sFieldAddr T_errataref04_Disk t15 2) fun t16 =>
   readK Tryd.prog (sLoad T_int t16) w2 fun t17 =>
   pureK Tryd.prog (sBin .gtr T_int (.tmp 17) (.const (.int .i64 0)) t17 (.int .i64 0)) fun t18 =>
   ifB t18
   (pureK Tryd.prog (sNil d0) fun t20 =>
    pureK Tryd.prog (sFieldAddr T_errataref04_Disk t20 2) fun t21 =>
    readK Tryd.prog (sLoad T_int t21) w2 fun t22 =>
    pureK Tryd.prog (sBin .sub T_int (.tmp 22) (.const (.int .i64 1)) t22 (.int .i64 1)) fun t23 =>
    pureK Tryd.prog (sNil d0) fun t24 =>
    pureK Tryd.prog (sFieldAddr T_errataref04_Disk t24 2) fun t25 =>
    upK Tryd.prog (sStore T_int t25 t23) w2 fun tu w3 =>
    K (.int .i64 10) w3)
   (upK Tryd.prog (sCall F_errataref04_Disk_get #[d0, f1]) w2 fun t30 w4 =>
    pureK Tryd.prog (sField T_errataref04_File t30 1) fun t31 =>
    upK Tryd.prog (sCall F_errataref04_Disk_settle #[d0, f1, t31]) w4 fun t32 w5 =>
    K (.int .i64 0) w5))
theorem errataref04_Disk_Sync.pt_eq : errataref04_Disk_Sync.pt = fun d0 f1 w K => FN Tryd.prog Tryd.f45 (bodyOf Tryd.f45) [4] .leaf [d0, f1] w K := by kernel_rfl
theorem errataref04_Disk_Sync.call {d0 f1 : Value} {w : World} {K : Value → World → Prop} (h : errataref04_Disk_Sync.pt d0 f1 w K) : Calls Tryd.prog F_errataref04_Disk_Sync #[d0, f1] w (retK K) :=
  calls_FN (args := [d0, f1]) Tryd.func45 (by kernel_rfl) (by rw [errataref04_Disk_Sync.pt_eq] at h; exact h)
theorem errataref04_Disk_Sync.up {d0 f1 : Value} {w : World} {K : Value → World → Prop} (h : Calls Tryd.prog F_errataref04_Disk_Sync #[d0, f1] w (retK K)) : upK Tryd.prog (sCall F_errataref04_Disk_Sync #[d0, f1]) w K :=
  up_call (fn := Tryd.f45) Tryd.func45 (by kernel_rfl) (by kernel_rfl) h

/-- (*errata/errataref04.Disk).survive -/
def errataref04_Disk_survive.pt (d0 x1 : Value) (w : World) (K : Value → World → Prop) : Prop :=
  upK Tryd.prog (sBox T_errataref04_Sector x1) w fun x3 w1 =>
  pureK Tryd.prog (sFieldAddr T_errataref04_Sector x3 0) fun t6 =>
  readK Tryd.prog (sLoad T_int t6) w1 fun t7 =>
  upK Tryd.prog (sCall F_errataref04_Disk_get #[d0, t7]) w1 fun t8 w2 =>
  upK Tryd.prog (sAlloc T_errataref04_File) w2 fun f4 w3 =>
  upK Tryd.prog (sStore T_errataref04_File f4 t8) w3 fun tu w4 =>
  LETJ (X := Unit) (fun y1 w5 =>
   readK Tryd.prog (sLoad T_errataref04_File f4) w5 fun t38 =>
   upK Tryd.prog (sCall F_errataref04_Disk_set #[d0, t38]) w5 fun t39 w6 =>
   K (.tuple #[]) w6)
  (fun J1 =>
   pureK Tryd.prog (sFieldAddr T_errataref04_Sector x3 1) fun t9 =>
   readK Tryd.prog (sLoad T_int t9) w4 fun t10 =>
   pureK Tryd.prog (sBin .mul T_int (.const (.int .i64 64)) (.tmp 10) (.int .i64 64) t10) fun t11 =>
   pureK Tryd.prog (sFieldAddr T_errataref04_File f4 1) fun t12 =>
   readK Tryd.prog (sLoad T_string t12) w4 fun t13 =>
   readK Tryd.prog (sBlt .len #[T_string] T_int #[false] #[t13]) w4 fun t14 =>
   pureK Tryd.prog (sBin .lss T_int (.tmp 11) (.tmp 14) t11 t14) fun t15 =>
   ifB t15
   (pureK Tryd.prog (sFieldAddr T_errataref04_File f4 2) fun t16 =>
    readK Tryd.prog (sLoad T_string t16) (tick w4) fun t17 =>
    pureK Tryd.prog (sFieldAddr T_errataref04_Sector x3 1) fun t18 =>
    readK Tryd.prog (sLoad T_int t18) (tick w4) fun t19 =>
    pureK Tryd.prog (sBin .mul T_int (.const (.int .i64 64)) (.tmp 19) (.int .i64 64) t19) fun t20 =>
    pureK Tryd.prog (sFieldAddr T_errataref04_File f4 1) fun t21 =>
    readK Tryd.prog (sLoad T_string t21) (tick w4) fun t22 =>
    pureK Tryd.prog (sFieldAddr T_errataref04_Sector x3 1) fun t23 =>
    readK Tryd.prog (sLoad T_int t23) (tick w4) fun t24 =>
    pureK Tryd.prog (sBin .mul T_int (.const (.int .i64 64)) (.tmp 24) (.int .i64 64) t24) fun t25 =>
    pureK Tryd.prog (sFieldAddr T_errataref04_Sector x3 1) fun t26 =>
    readK Tryd.prog (sLoad T_int t26) (tick w4) fun t27 =>
    pureK Tryd.prog (sBin .mul T_int (.const (.int .i64 64)) (.tmp 27) (.int .i64 64) t27) fun t28 =>
    pureK Tryd.prog (sBin .add T_int (.tmp 28) (.const (.int .i64 64)) t28 (.int .i64 64)) fun t29 =>
    pureK Tryd.prog (sFieldAddr T_errataref04_File f4 1) fun t30 =>
    readK Tryd.prog (sLoad T_string t30) (tick w4) fun t31 =>
    readK Tryd.prog (sBlt .len #[T_string] T_int #[false] #[t31]) (tick w4) fun t32 =>
    pureK Tryd.prog (sBlt .min #[T_int, T_int] T_int #[false, false] #[t29, t32]) fun t33 =>
    pureK Tryd.prog (sSlice T_string t22 (some t25) (some t33) none) fun t34 =>
    upK Tryd.prog (sCall F_errataref04_Put #[t17, t20, t34]) (tick w4) fun t35 w7 =>
    pureK Tryd.prog (sFieldAddr T_errataref04_File f4 2) fun t36 =>
    upK Tryd.prog (sStore T_string t36 t35) w7 fun tu_1 w8 =>
    J1 (()) w8)
   (J1 (()) w4))
theorem errataref04_Disk_survive.pt_eq : errataref04_Disk_survive.pt = fun d0 x1 w K => FN Tryd.prog Tryd.f46 (bodyOf Tryd.f46) [] (.node none .leaf (.node none .leaf (.node (some []) .leaf .leaf))) [d0, x1] w K := by kernel_rfl
theorem errataref04_Disk_survive.call {d0 x1 : Value} {w : World} {K : Value → World → Prop} (h : errataref04_Disk_survive.pt d0 x1 w K) : Calls Tryd.prog F_errataref04_Disk_survive #[d0, x1] w (retK K) :=
  calls_FN (args := [d0, x1]) Tryd.func46 (by kernel_rfl) (by rw [errataref04_Disk_survive.pt_eq] at h; exact h)
theorem errataref04_Disk_survive.up {d0 x1 : Value} {w : World} {K : Value → World → Prop} (h : Calls Tryd.prog F_errataref04_Disk_survive #[d0, x1] w (retK K)) : upK Tryd.prog (sCall F_errataref04_Disk_survive #[d0, x1]) w K :=
  up_call (fn := Tryd.f46) Tryd.func46 (by kernel_rfl) (by kernel_rfl) h

/-- (*errata/disk.Disk).may -/
def disk_Disk_may.pt (d0 f1 : Value) (w : World) (K : Value → World → Prop) : Prop :=
  pureK Tryd.prog (sNil d0) fun t7 =>
  pureK Tryd.prog (sFieldAddr T_disk_Disk t7 4) fun t8 =>
  readK Tryd.prog (sLoad T_bool t8) w fun t9 =>
  ifB t9
  (K (.int .i64 9) w)
  (pureK Tryd.prog (sBin .lss T_int (.tmp 11) (.const (.int .i64 0)) f1 (.int .i64 0)) fun t12 =>
   ifB t12
   (K (.int .i64 1) w)
   (pureK Tryd.prog (sBin .geq T_int (.tmp 14) (.const (.int .i64 16)) f1 (.int .i64 16)) fun t15 =>
    ifB t15
    (K (.int .i64 1) w)
    (K (.int .i64 0) w)))
theorem disk_Disk_may.pt_eq : disk_Disk_may.pt = fun d0 f1 w K => FN Tryd.prog Tryd.f47 (bodyOf Tryd.f47) [4] .leaf [d0, f1] w K := by kernel_rfl
theorem disk_Disk_may.call {d0 f1 : Value} {w : World} {K : Value → World → Prop} (h : disk_Disk_may.pt d0 f1 w K) : Calls Tryd.prog F_disk_Disk_may #[d0, f1] w (retK K) :=
  calls_FN (args := [d0, f1]) Tryd.func47 (by kernel_rfl) (by rw [disk_Disk_may.pt_eq] at h; exact h)
theorem disk_Disk_may.up {d0 f1 : Value} {w : World} {K : Value → World → Prop} (h : Calls Tryd.prog F_disk_Disk_may #[d0, f1] w (retK K)) : upK Tryd.prog (sCall F_disk_Disk_may #[d0, f1]) w K :=
  up_call (fn := Tryd.f47) Tryd.func47 (by kernel_rfl) (by kernel_rfl) h

/-- (*errata/errataref04.Disk).get -/
def errataref04_Disk_get.pt (d0 f1 : Value) (w : World) (K : Value → World → Prop) : Prop :=
  upK Tryd.prog (sAlloc T_errataref04_File) w fun t4 w1 =>
  LOOP (X := Value × Unit) (fun x2 w2 next2 =>
   pureK Tryd.prog (sNil d0) fun t8 =>
   pureK Tryd.prog (sFieldAddr T_errataref04_Disk t8 0) fun t9 =>
   readK Tryd.prog (sLoad T_s_errataref04_File t9) w2 fun t10 =>
   readK Tryd.prog (sBlt .len #[T_s_errataref04_File] T_int #[false] #[t10]) w2 fun t11 =>
   pureK Tryd.prog (sBin .lss T_int (.tmp 6) (.tmp 11) x2.1 t11) fun t12 =>
   ifB t12
   (pureK Tryd.prog (sNil d0) fun t16 =>
    pureK Tryd.prog (sFieldAddr T_errataref04_Disk t16 0) fun t17 =>
    readK Tryd.prog (sLoad T_s_errataref04_File t17) w2 fun t18 =>
    pureK Tryd.prog (sIdxAddr T_s_errataref04_File t18 x2.1) fun t20 =>
    pureK Tryd.prog (sFieldAddr T_errataref04_File t20 0) fun t21 =>
    readK Tryd.prog (sLoad T_int t21) w2 fun t22 =>
    pureK Tryd.prog (sBin .eql T_int (.tmp 22) (.tmp 23) t22 f1) fun t24 =>
    ifB t24
    (pureK Tryd.prog (sNil d0) fun t26 =>
     pureK Tryd.prog (sFieldAddr T_errataref04_Disk t26 0) fun t27 =>
     readK Tryd.prog (sLoad T_s_errataref04_File t27) w2 fun t28 =>
     pureK Tryd.prog (sIdxAddr T_s_errataref04_File t28 x2.1) fun t30 =>
     readK Tryd.prog (sLoad T_errataref04_File t30) w2 fun t31 =>
     upK Tryd.prog (sStore T_errataref04_File t4 t31) w2 fun tu w3 =>
     readV Tryd.prog (do loadVar T_errataref04_File (← asAddr t4)) w3 fun t4_1 =>
     K t4_1 w3)
    (pureK Tryd.prog (sBin .add T_int (.tmp 13) (.const (.int .i64 1)) x2.1 (.int .i64 1)) fun t14 =>
     next2 (t14, ()) w2))
   (pureK Tryd.prog (sBuild T_errataref04_File #[(0, f1)]) fun t33 =>
    upK Tryd.prog (sStore T_errataref04_File t4 t33) w2 fun tu_1 w4 =>
    readV Tryd.prog (do loadVar T_errataref04_File (← asAddr t4)) w4 fun t4_2 =>
    K t4_2 w4))
  ((.int .i64 0), ()) w1
theorem errataref04_Disk_get.pt_eq : errataref04_Disk_get.pt = fun d0 f1 w K => FN Tryd.prog Tryd.f48 (bodyOf Tryd.f48) [] .leaf [d0, f1] w K := by kernel_rfl
theorem errataref04_Disk_get.call {d0 f1 : Value} {w : World} {K : Value → World → Prop} (h : errataref04_Disk_get.pt d0 f1 w K) : Calls Tryd.prog F_errataref04_Disk_get #[d0, f1] w (retK K) :=
  calls_FN (args := [d0, f1]) Tryd.func48 (by kernel_rfl) (by rw [errataref04_Disk_get.pt_eq] at h; exact h)
theorem errataref04_Disk_get.up {d0 f1 : Value} {w : World} {K : Value → World → Prop} (h : Calls Tryd.prog F_errataref04_Disk_get #[d0, f1] w (retK K)) : upK Tryd.prog (sCall F_errataref04_Disk_get #[d0, f1]) w K :=
  up_call (fn := Tryd.f48) Tryd.func48 (by kernel_rfl) (by kernel_rfl) h

/-- errata/errataref04.Put -/
def errataref04_Put.pt (s0 at1 t2 : Value) (w : World) (K : Value → World → Prop) : Prop :=
  pureK Tryd.prog (sBin .eql T_string (.tmp 9) (.const (.string ⟨#[]⟩)) t2 (.string ⟨#[]⟩)) fun t10 =>
  ifB t10
  (K s0 w)
  (upK Tryd.prog (sConv T_string T_s_uint8 s0) w fun t13 w1 =>
   LETJ (X := Value × Unit) (fun y1 w2 =>
    LOOP (X := Value × Unit) (fun x3 w3 next3 =>
     readK Tryd.prog (sBlt .len #[T_string] T_int #[false] #[t2]) w3 fun t26 =>
     pureK Tryd.prog (sBin .lss T_int (.tmp 24) (.tmp 26) x3.1 t26) fun t27 =>
     ifB t27
     (pureK Tryd.prog (sBin .add T_int (.tmp 31) (.tmp 32) at1 x3.1) fun t33 =>
      pureK Tryd.prog (sIdx T_string t2 x3.1) fun t36 =>
      pureK Tryd.prog (sIdxAddr T_s_uint8 y1.1 t33) fun t37 =>
      upK Tryd.prog (sStore T_uint8 t37 t36) w3 fun tu w4 =>
      pureK Tryd.prog (sBin .add T_int (.tmp 28) (.const (.int .i64 1)) x3.1 (.int .i64 1)) fun t29 =>
      next3 (t29, ()) w4)
     (upK Tryd.prog (sConv T_s_uint8 T_string y1.1) w3 fun t39 w5 =>
      K t39 w5))
    ((.int .i64 0), ()) w2)
   (fun J1 =>
    LOOP (X := Value × Unit) (fun x6 w6 next6 =>
     readK Tryd.prog (sBlt .len #[T_s_uint8] T_int #[false] #[x6.1]) w6 fun t15 =>
     readK Tryd.prog (sBlt .len #[T_string] T_int #[false] #[t2]) w6 fun t18 =>
     pureK Tryd.prog (sBin .add T_int (.tmp 16) (.tmp 18) at1 t18) fun t19 =>
     pureK Tryd.prog (sBin .lss T_int (.tmp 15) (.tmp 19) t15 t19) fun t20 =>
     ifB t20
     (upK Tryd.prog (sBuildSlice T_s_uint8 1 #[(0, (.int .u8 0))]) w6 fun t22 w7 =>
      upK Tryd.prog (sBlt .append #[T_s_uint8, T_s_uint8] T_s_uint8 #[false, false] #[x6.1, t22]) w7 fun t23 w8 =>
      next6 (t23, ()) w8)
     (J1 (x6.1, ()) w6))
    (t13, ()) w1))
theorem errataref04_Put.pt_eq : errataref04_Put.pt = fun s0 at1 t2 w K => FN Tryd.prog Tryd.f49 (bodyOf Tryd.f49) [6] (.node none .leaf (.node none .leaf (.node none .leaf (.node (some [7]) .leaf .leaf)))) [s0, at1, t2] w K := by kernel_rfl
theorem errataref04_Put.call {s0 at1 t2 : Value} {w : World} {K : Value → World → Prop} (h : errataref04_Put.pt s0 at1 t2 w K) : Calls Tryd.prog F_errataref04_Put #[s0, at1, t2] w (retK K) :=
  calls_FN (args := [s0, at1, t2]) Tryd.func49 (by kernel_rfl) (by rw [errataref04_Put.pt_eq] at h; exact h)
theorem errataref04_Put.up {s0 at1 t2 : Value} {w : World} {K : Value → World → Prop} (h : Calls Tryd.prog F_errataref04_Put #[s0, at1, t2] w (retK K)) : upK Tryd.prog (sCall F_errataref04_Put #[s0, at1, t2]) w K :=
  up_call (fn := Tryd.f49) Tryd.func49 (by kernel_rfl) (by kernel_rfl) h

/-- (*errata/errataref04.Disk).set -/
def errataref04_Disk_set.pt (d0 x1 : Value) (w : World) (K : Value → World → Prop) : Prop :=
  upK Tryd.prog (sBox T_errataref04_File x1) w fun x3 w1 =>
  LOOP (X := Value × Value × Unit) (fun x2 w2 next2 =>
   pureK Tryd.prog (sNil d0) fun t8 =>
   pureK Tryd.prog (sFieldAddr T_errataref04_Disk t8 0) fun t9 =>
   readK Tryd.prog (sLoad T_s_errataref04_File t9) w2 fun t10 =>
   readK Tryd.prog (sBlt .len #[T_s_errataref04_File] T_int #[false] #[t10]) w2 fun t11 =>
   pureK Tryd.prog (sBin .lss T_int (.tmp 6) (.tmp 11) x2.2.1 t11) fun t12 =>
   ifB t12
   (LETJ (X := Value × Unit) (fun y1 w3 =>
     pureK Tryd.prog (sBin .add T_int (.tmp 13) (.const (.int .i64 1)) x2.2.1 (.int .i64 1)) fun t14 =>
     next2 (y1.1, t14, ()) w3)
    (fun J1 =>
     pureK Tryd.prog (sNil d0) fun t16 =>
     pureK Tryd.prog (sFieldAddr T_errataref04_Disk t16 0) fun t17 =>
     readK Tryd.prog (sLoad T_s_errataref04_File t17) (tick w2) fun t18 =>
     pureK Tryd.prog (sIdxAddr T_s_errataref04_File t18 x2.2.1) fun t20 =>
     pureK Tryd.prog (sFieldAddr T_errataref04_File t20 0) fun t21 =>
     readK Tryd.prog (sLoad T_int t21) (tick w2) fun t22 =>
     pureK Tryd.prog (sFieldAddr T_errataref04_File x3 0) fun t23 =>
     readK Tryd.prog (sLoad T_int t23) (tick w2) fun t24 =>
     pureK Tryd.prog (sBin .neq T_int (.tmp 22) (.tmp 24) t22 t24) fun t25 =>
     ifB t25
     (pureK Tryd.prog (sNil d0) fun t28 =>
      pureK Tryd.prog (sFieldAddr T_errataref04_Disk t28 0) fun t29 =>
      readK Tryd.prog (sLoad T_s_errataref04_File t29) (tick w2) fun t30 =>
      pureK Tryd.prog (sIdxAddr T_s_errataref04_File t30 x2.2.1) fun t32 =>
      readK Tryd.prog (sLoad T_errataref04_File t32) (tick w2) fun t33 =>
      upK Tryd.prog (sBuildSlice T_s_errataref04_File 1 #[(0, t33)]) (tick w2) fun t34 w4 =>
      upK Tryd.prog (sBlt .append #[T_s_errataref04_File, T_s_errataref04_File] T_s_errataref04_File #[false, false] #[x2.1, t34]) w4 fun t35 w5 =>
      J1 (t35, ()) w5)
     (J1 (x2.1, ()) (tick w2))))
   (readK Tryd.prog (sLoad T_errataref04_File x3) w2 fun t38 =>
    upK Tryd.prog (sBuildSlice T_s_errataref04_File 1 #[(0, t38)]) w2 fun t39 w6 =>
    upK Tryd.prog (sBlt .append #[T_s_errataref04_File, T_s_errataref04_File] T_s_errataref04_File #[false, false] #[x2.1, t39]) w6 fun t40 w7 =>
    pureK Tryd.prog (sNil d0) fun t41 =>
    pureK Tryd.prog (sFieldAddr T_errataref04_Disk t41 0) fun t42 =>
    upK Tryd.prog (sStore T_s_errataref04_File t42 t40) w7 fun tu w8 =>
    K (.tuple #[]) w8))
  ((.slice none 0 0), (.int .i64 0), ()) w1
theorem errataref04_Disk_set.pt_eq : errataref04_Disk_set.pt = fun d0 x1 w K => FN Tryd.prog Tryd.f50 (bodyOf Tryd.f50) [] (.node none .leaf (.node none .leaf (.node none (.node none .leaf (.node none (.node none (.node none .leaf (.node (some [4]) .leaf .leaf)) .leaf) .leaf)) .leaf))) [d0, x1] w K := by kernel_rfl
theorem errataref04_Disk_set.call {d0 x1 : Value} {w : World} {K : Value → World → Prop} (h : errataref04_Disk_set.pt d0 x1 w K) : Calls Tryd.prog F_errataref04_Disk_set #[d0, x1] w (retK K) :=
  calls_FN (args := [d0, x1]) Tryd.func50 (by kernel_rfl) (by rw [errataref04_Disk_set.pt_eq] at h; exact h)
theorem errataref04_Disk_set.up {d0 x1 : Value} {w : World} {K : Value → World → Prop} (h : Calls Tryd.prog F_errataref04_Disk_set #[d0, x1] w (retK K)) : upK Tryd.prog (sCall F_errataref04_Disk_set #[d0, x1]) w K :=
  up_call (fn := Tryd.f50) Tryd.func50 (by kernel_rfl) (by kernel_rfl) h

/-- (*errata/errataref04.Disk).pending -/
def errataref04_Disk_pending.pt (d0 f1 n2 : Value) (w : World) (K : Value → World → Prop) : Prop :=
  LOOP (X := Value × Unit) (fun x1 w1 next1 =>
   pureK Tryd.prog (sNil d0) fun t10 =>
   pureK Tryd.prog (sFieldAddr T_errataref04_Disk t10 1) fun t11 =>
   readK Tryd.prog (sLoad T_s_errataref04_Sector t11) w1 fun t12 =>
   readK Tryd.prog (sBlt .len #[T_s_errataref04_Sector] T_int #[false] #[t12]) w1 fun t13 =>
   pureK Tryd.prog (sBin .lss T_int (.tmp 8) (.tmp 13) x1.1 t13) fun t14 =>
   ifB t14
   (LETJ (X := Unit) (fun y1 w2 =>
     pureK Tryd.prog (sBin .add T_int (.tmp 15) (.const (.int .i64 1)) x1.1 (.int .i64 1)) fun t16 =>
     next1 (t16, ()) w2)
    (fun J1 =>
     pureK Tryd.prog (sNil d0) fun t18 =>
     pureK Tryd.prog (sFieldAddr T_errataref04_Disk t18 1) fun t19 =>
     readK Tryd.prog (sLoad T_s_errataref04_Sector t19) w1 fun t20 =>
     pureK Tryd.prog (sIdxAddr T_s_errataref04_Sector t20 x1.1) fun t22 =>
     pureK Tryd.prog (sFieldAddr T_errataref04_Sector t22 0) fun t23 =>
     readK Tryd.prog (sLoad T_int t23) w1 fun t24 =>
     pureK Tryd.prog (sBin .eql T_int (.tmp 24) (.tmp 25) t24 f1) fun t26 =>
     ifB t26
     (pureK Tryd.prog (sNil d0) fun t29 =>
      pureK Tryd.prog (sFieldAddr T_errataref04_Disk t29 1) fun t30 =>
      readK Tryd.prog (sLoad T_s_errataref04_Sector t30) w1 fun t31 =>
      pureK Tryd.prog (sIdxAddr T_s_errataref04_Sector t31 x1.1) fun t33 =>
      pureK Tryd.prog (sFieldAddr T_errataref04_Sector t33 1) fun t34 =>
      readK Tryd.prog (sLoad T_int t34) w1 fun t35 =>
      pureK Tryd.prog (sBin .eql T_int (.tmp 35) (.tmp 36) t35 n2) fun t37 =>
      ifB t37
      (K (.bool true) w1)
      (J1 (()) w1))
     (J1 (()) w1)))
   (K (.bool false) w1))
  ((.int .i64 0), ()) w
theorem errataref04_Disk_pending.pt_eq : errataref04_Disk_pending.pt = fun d0 f1 n2 w K => FN Tryd.prog Tryd.f51 (bodyOf Tryd.f51) [6] (.node none .leaf (.node none (.node none .leaf (.node none (.node none (.node none .leaf (.node (some []) .leaf .leaf)) .leaf) .leaf)) .leaf)) [d0, f1, n2] w K := by kernel_rfl
theorem errataref04_Disk_pending.call {d0 f1 n2 : Value} {w : World} {K : Value → World → Prop} (h : errataref04_Disk_pending.pt d0 f1 n2 w K) : Calls Tryd.prog F_errataref04_Disk_pending #[d0, f1, n2] w (retK K) :=
  calls_FN (args := [d0, f1, n2]) Tryd.func51 (by kernel_rfl) (by rw [errataref04_Disk_pending.pt_eq] at h; exact h)
theorem errataref04_Disk_pending.up {d0 f1 n2 : Value} {w : World} {K : Value → World → Prop} (h : Calls Tryd.prog F_errataref04_Disk_pending #[d0, f1, n2] w (retK K)) : upK Tryd.prog (sCall F_errataref04_Disk_pending #[d0, f1, n2]) w K :=
  up_call (fn := Tryd.f51) Tryd.func51 (by kernel_rfl) (by kernel_rfl) h

/-- (*errata/disk.Disk).settle -/
def disk_Disk_settle.pt (d0 f1 s2 : Value) (w : World) (K : Value → World → Prop) : Prop :=
  upK Tryd.prog (sBox T_int f1) w fun f4 w1 =>
  pureK Tryd.prog (sNil d0) fun t7 =>
  pureK Tryd.prog (sFieldAddr T_disk_Disk t7 0) fun t8 =>
  readK Tryd.prog (sLoad T_map_int_disk_file t8) (tick w1) fun t9 =>
  readK Tryd.prog (sLoad T_int f4) (tick w1) fun t10 =>
  pureK Tryd.prog (sBuild T_disk_file #[(0, s2), (1, s2)]) fun t13 =>
  upK Tryd.prog (sMapUpd T_map_int_disk_file t9 t10 t13) (tick w1) fun tu w2 =>
  pureK Tryd.prog (sNil d0) fun t16 =>
  pureK Tryd.prog (sFieldAddr T_disk_Disk t16 1) fun t17 =>
  readK Tryd.prog (sLoad T_s_disk_sector t17) w2 fun t18 =>
  pureK Tryd.prog (sMkFunc (.func F_disk_Disk_settle_1) #[] #[f4]) fun t19 =>
  upK Tryd.prog (sCall F_slices_DeleteFunc_s_disk_sector_disk_sector #[t18, t19]) w2 fun t20 w3 =>
  pureK Tryd.prog (sNil d0) fun t21 =>
  pureK Tryd.prog (sFieldAddr T_disk_Disk t21 1) fun t22 =>
  upK Tryd.prog (sStore T_s_disk_sector t22 t20) w3 fun tu_1 w4 =>
  pureK Tryd.prog (sNil d0) fun t24 =>
  pureK Tryd.prog (sFieldAddr T_disk_Disk t24 2) fun t25 =>
  readK Tryd.prog (sLoad T_map_disk_sector_bool t25) w4 fun t26 =>
  pureK Tryd.prog (sMkFunc (.func F_disk_Disk_settle_2) #[] #[f4]) fun t27 =>
  upK Tryd.prog (sCall F_maps_DeleteFunc_map_disk_sector_bool_disk_sector_bool #[t26, t27]) w4 fun t28 w5 =>
  K (.tuple #[]) w5
theorem disk_Disk_settle.pt_eq : disk_Disk_settle.pt = fun d0 f1 s2 w K => FN Tryd.prog Tryd.f52 (bodyOf Tryd.f52) [] .leaf [d0, f1, s2] w K := by kernel_rfl
theorem disk_Disk_settle.call {d0 f1 s2 : Value} {w : World} {K : Value → World → Prop} (h : disk_Disk_settle.pt d0 f1 s2 w K) : Calls Tryd.prog F_disk_Disk_settle #[d0, f1, s2] w (retK K) :=
  calls_FN (args := [d0, f1, s2]) Tryd.func52 (by kernel_rfl) (by rw [disk_Disk_settle.pt_eq] at h; exact h)
theorem disk_Disk_settle.up {d0 f1 s2 : Value} {w : World} {K : Value → World → Prop} (h : Calls Tryd.prog F_disk_Disk_settle #[d0, f1, s2] w (retK K)) : upK Tryd.prog (sCall F_disk_Disk_settle #[d0, f1, s2]) w K :=
  up_call (fn := Tryd.f52) Tryd.func52 (by kernel_rfl) (by kernel_rfl) h

/-- (*errata/errataref04.Disk).settle -/
def errataref04_Disk_settle.pt (d0 f1 s2 : Value) (w : World) (K : Value → World → Prop) : Prop :=
  pureK Tryd.prog (sBuild T_errataref04_File #[(0, f1), (1, s2), (2, s2)]) fun t12 =>
  upK Tryd.prog (sCall F_errataref04_Disk_set #[d0, t12]) w fun t13 w1 =>
  LOOP (X := Value × Value × Unit) (fun x2 w2 next2 =>
   pureK Tryd.prog (sNil d0) fun t16 =>
   pureK Tryd.prog (sFieldAddr T_errataref04_Disk t16 1) fun t17 =>
   readK Tryd.prog (sLoad T_s_errataref04_Sector t17) w2 fun t18 =>
   readK Tryd.prog (sBlt .len #[T_s_errataref04_Sector] T_int #[false] #[t18]) w2 fun t19 =>
   pureK Tryd.prog (sBin .lss T_int (.tmp 14) (.tmp 19) x2.2.1 t19) fun t20 =>
   ifB t20
   (LETJ (X := Value × Unit) (fun y1 w3 =>
     pureK Tryd.prog (sBin .add T_int (.tmp 21) (.const (.int .i64 1)) x2.2.1 (.int .i64 1)) fun t22 =>
     next2 (y1.1, t22, ()) w3)
    (fun J1 =>
     pureK Tryd.prog (sNil d0) fun t24 =>
     pureK Tryd.prog (sFieldAddr T_errataref04_Disk t24 1) fun t25 =>
     readK Tryd.prog (sLoad T_s_errataref04_Sector t25) w2 fun t26 =>
     pureK Tryd.prog (sIdxAddr T_s_errataref04_Sector t26 x2.2.1) fun t28 =>
     pureK Tryd.prog (sFieldAddr T_errataref04_Sector t28 0) fun t29 =>
     readK Tryd.prog (sLoad T_int t29) w2 fun t30 =>
     pureK Tryd.prog (sBin .neq T_int (.tmp 30) (.tmp 31) t30 f1) fun t32 =>
     ifB t32
     (pureK Tryd.prog (sNil d0) fun t35 =>
      pureK Tryd.prog (sFieldAddr T_errataref04_Disk t35 1) fun t36 =>
      readK Tryd.prog (sLoad T_s_errataref04_Sector t36) w2 fun t37 =>
      pureK Tryd.prog (sIdxAddr T_s_errataref04_Sector t37 x2.2.1) fun t39 =>
      readK Tryd.prog (sLoad T_errataref04_Sector t39) w2 fun t40 =>
      upK Tryd.prog (sBuildSlice T_s_errataref04_Sector 1 #[(0, t40)]) w2 fun t41 w4 =>
      upK Tryd.prog (sBlt .append #[T_s_errataref04_Sector, T_s_errataref04_Sector] T_s_errataref04_Sector #[false, false] #[x2.1, t41]) w4 fun t42 w5 =>
      J1 (t42, ()) w5)
     (J1 (x2.1, ()) w2)))
   (pureK Tryd.prog (sNil d0) fun t45 =>
    pureK Tryd.prog (sFieldAddr T_errataref04_Disk t45 1) fun t46 =>
    upK Tryd.prog (sStore T_s_errataref04_Sector t46 x2.1) w2 fun tu w6 =>
    K (.tuple #[]) w6))
  ((.slice none 0 0), (.int .i64 0), ()) w1
theorem errataref04_Disk_settle.pt_eq : errataref04_Disk_settle.pt = fun d0 f1 s2 w K => FN Tryd.prog Tryd.f53 (bodyOf Tryd.f53) [] (.node none .leaf (.node none .leaf (.node none (.node none .leaf (.node none (.node none (.node none .leaf (.node (some [6]) .leaf .leaf)) .leaf) .leaf)) .leaf))) [d0, f1, s2] w K := by kernel_rfl
theorem errataref04_Disk_settle.call {d0 f1 s2 : Value} {w : World} {K : Value → World → Prop} (h : errataref04_Disk_settle.pt d0 f1 s2 w K) : Calls Tryd.prog F_errataref04_Disk_settle #[d0, f1, s2] w (retK K) :=
  calls_FN (args := [d0, f1, s2]) Tryd.func53 (by kernel_rfl) (by rw [errataref04_Disk_settle.pt_eq] at h; exact h)
theorem errataref04_Disk_settle.up {d0 f1 s2 : Value} {w : World} {K : Value → World → Prop} (h : Calls Tryd.prog F_errataref04_Disk_settle #[d0, f1, s2] w (retK K)) : upK Tryd.prog (sCall F_errataref04_Disk_settle #[d0, f1, s2]) w K :=
  up_call (fn := Tryd.f53) Tryd.func53 (by kernel_rfl) (by kernel_rfl) h

/-- slices.DeleteFunc[[]errata/disk.sector,errata/disk.sector] -/
def slices_DeleteFunc_s_disk_sector_disk_sector.pt (s0 del1 : Value) (w : World) (K : Value → World → Prop) : Prop :=
  upK Tryd.prog (sCall F_slices_IndexFunc_s_disk_sector_disk_sector #[s0, del1]) w fun t10 w1 =>
  pureK Tryd.prog (sBin .eql T_int (.tmp 11) (.const (.int .i64 (-1))) t10 (.int .i64 (-1))) fun t12 =>
  ifB t12
  (K s0 w1)
  (pureK Tryd.prog (sBin .add T_int (.tmp 14) (.const (.int .i64 1)) t10 (.int .i64 1)) fun t15 =>
   LOOP (X := Value × Value × Unit) (fun x2 w2 next2 =>
    readK Tryd.prog (sBlt .len #[T_s_disk_sector] T_int #[false] #[s0]) w2 fun t18 =>
    pureK Tryd.prog (sBin .lss T_int (.tmp 16) (.tmp 18) x2.2.1 t18) fun t19 =>
    ifB t19
    (LETJ (X := Value × Unit) (fun y1 w3 =>
      pureK Tryd.prog (sBin .add T_int (.tmp 20) (.const (.int .i64 1)) x2.2.1 (.int .i64 1)) fun t21 =>
      next2 (y1.1, t21, ()) w3)
     (fun J1 =>
      pureK Tryd.prog (sIdxAddr T_s_disk_sector s0 x2.2.1) fun t24 =>
      readK Tryd.prog (sLoad T_disk_sector t24) w2 fun t25 =>
      upK Tryd.prog (sAlloc T_disk_sector) w2 fun v7 w4 =>
      upK Tryd.prog (sStore T_disk_sector v7 t25) w4 fun tu w5 =>
      readK Tryd.prog (sLoad T_disk_sector v7) w5 fun t27 =>
      upK Tryd.prog (sCallV del1 #[t27]) w5 fun t28 w6 =>
      pureK Tryd.prog (sUn .not t28) fun t29 =>
      ifB t29
      (readK Tryd.prog (sLoad T_disk_sector v7) w6 fun t32 =>
       pureK Tryd.prog (sIdxAddr T_s_disk_sector s0 x2.1) fun t33 =>
       upK Tryd.prog (sStore T_disk_sector t33 t32) w6 fun tu_1 w7 =>
       pureK Tryd.prog (sBin .add T_int (.tmp 34) (.const (.int .i64 1)) x2.1 (.int .i64 1)) fun t35 =>
       J1 (t35, ()) w7)
      (J1 (x2.1, ()) w6)))
    (pureK Tryd.prog (sSlice T_s_disk_sector s0 (some x2.1) none none) fun t38 =>
     upK Tryd.prog (sBlt .clear #[T_s_disk_sector] T_ #[false] #[t38]) w2 fun tu_2 w8 =>
     pureK Tryd.prog (sSlice T_s_disk_sector s0 none (some x2.1) none) fun t41 =>
     K t41 w8))
   (t10, t15, ()) w1)
theorem slices_DeleteFunc_s_disk_sector_disk_sector.pt_eq : slices_DeleteFunc_s_disk_sector_disk_sector.pt = fun s0 del1 w K => FN Tryd.prog Tryd.f54 (bodyOf Tryd.f54) [4] (.node none .leaf (.node none .leaf (.node none .leaf (.node none (.node none .leaf (.node none (.node none (.node none .leaf (.node (some [5]) .leaf .leaf)) .leaf) .leaf)) .leaf)))) [s0, del1] w K := by kernel_rfl
theorem slices_DeleteFunc_s_disk_sector_disk_sector.call {s0 del1 : Value} {w : World} {K : Value → World → Prop} (h : slices_DeleteFunc_s_disk_sector_disk_sector.pt s0 del1 w K) : Calls Tryd.prog F_slices_DeleteFunc_s_disk_sector_disk_sector #[s0, del1] w (retK K) :=
  calls_FN (args := [s0, del1]) Tryd.func54 (by kernel_rfl) (by rw [slices_DeleteFunc_s_disk_sector_disk_sector.pt_eq] at h; exact h)
theorem slices_DeleteFunc_s_disk_sector_disk_sector.up {s0 del1 : Value} {w : World} {K : Value → World → Prop} (h : Calls Tryd.prog F_slices_DeleteFunc_s_disk_sector_disk_sector #[s0, del1] w (retK K)) : upK Tryd.prog (sCall F_slices_DeleteFunc_s_disk_sector_disk_sector #[s0, del1]) w K :=
  up_call (fn := Tryd.f54) Tryd.func54 (by kernel_rfl) (by kernel_rfl) h

/-- (*errata/disk.Disk).settle$1 -/
def disk_Disk_settle_1.pt (p0 t1 : Value) (w : World) (K : Value → World → Prop) : Prop :=
  upK Tryd.prog (sBox T_disk_sector p0) w fun p2 w1 =>
  pureK Tryd.prog (sFieldAddr T_disk_sector p2 0) fun t4 =>
  readK Tryd.prog (sLoad T_int t4) w1 fun t5 =>
  readK Tryd.prog (sLoad T_int t1) w1 fun t6 =>
  pureK Tryd.prog (sBin .eql T_int (.tmp 5) (.tmp 6) t5 t6) fun t7 =>
  K t7 w1
theorem disk_Disk_settle_1.pt_eq : disk_Disk_settle_1.pt = fun p0 t1 w K => FN Tryd.prog Tryd.f55 (bodyOf Tryd.f55) [3] .leaf [p0, t1] w K := by kernel_rfl
theorem disk_Disk_settle_1.call {p0 t1 : Value} {w : World} {K : Value → World → Prop} (h : disk_Disk_settle_1.pt p0 t1 w K) : Calls Tryd.prog F_disk_Disk_settle_1 #[p0, t1] w (retK K) :=
  calls_FN (args := [p0, t1]) Tryd.func55 (by kernel_rfl) (by rw [disk_Disk_settle_1.pt_eq] at h; exact h)
theorem disk_Disk_settle_1.up {p0 t1 : Value} {w : World} {K : Value → World → Prop} (h : Calls Tryd.prog F_disk_Disk_settle_1 #[p0, t1] w (retK K)) : upK Tryd.prog (sCall F_disk_Disk_settle_1 #[p0, t1]) w K :=
  up_call (fn := Tryd.f55) Tryd.func55 (by kernel_rfl) (by kernel_rfl) h

/-- maps.DeleteFunc[map[errata/disk.sector]bool,errata/disk.sector,bool] -/
def maps_DeleteFunc_map_disk_sector_bool_disk_sector_bool.pt (m0 del1 : Value) (w : World) (K : Value → World → Prop) : Prop :=
  upK Tryd.prog (sRange T_map_disk_sector_bool m0) w fun t7 w1 =>
  LOOP (X := Unit) (fun x2 w2 next2 =>
   upK Tryd.prog (sNext t7 false T_) w2 fun t8 w3 =>
   pureK Tryd.prog (sExtract t8 0) fun t9 =>
   ifB t9
   (upK Tryd.prog (sEntry t7) w3 fun t10 w4 =>
    pureK Tryd.prog (sExtract t10 0) fun t11 =>
    pureK Tryd.prog (sExtract t10 1) fun t12 =>
    upK Tryd.prog (sAlloc T_disk_sector) w4 fun k4 w5 =>
    upK Tryd.prog (sStore T_disk_sector k4 t11) w5 fun tu w6 =>
    readK Tryd.prog (sLoad T_disk_sector k4) w6 fun t14 =>
    upK Tryd.prog (sCallV del1 #[t14, t12]) w6 fun t16 w7 =>
    ifB t16
    (readK Tryd.prog (sLoad T_disk_sector k4) w7 fun t18 =>
     upK Tryd.prog (sBlt .delete #[T_map_disk_sector_bool, T_disk_sector] T_ #[false, false] #[m0, t18]) w7 fun tu_1 w8 =>
     next2 (()) w8)
    (next2 (()) w7))
   (K (.tuple #[]) w3))
  (()) w1
theorem maps_DeleteFunc_map_disk_sector_bool_disk_sector_bool.pt_eq : maps_DeleteFunc_map_disk_sector_bool_disk_sector_bool.pt = fun m0 del1 w K => FN Tryd.prog Tryd.f56 (bodyOf Tryd.f56) [] .leaf [m0, del1] w K := by kernel_rfl
theorem maps_DeleteFunc_map_disk_sector_bool_disk_sector_bool.call {m0 del1 : Value} {w : World} {K : Value → World → Prop} (h : maps_DeleteFunc_map_disk_sector_bool_disk_sector_bool.pt m0 del1 w K) : Calls Tryd.prog F_maps_DeleteFunc_map_disk_sector_bool_disk_sector_bool #[m0, del1] w (retK K) :=
  calls_FN (args := [m0, del1]) Tryd.func56 (by kernel_rfl) (by rw [maps_DeleteFunc_map_disk_sector_bool_disk_sector_bool.pt_eq] at h; exact h)
theorem maps_DeleteFunc_map_disk_sector_bool_disk_sector_bool.up {m0 del1 : Value} {w : World} {K : Value → World → Prop} (h : Calls Tryd.prog F_maps_DeleteFunc_map_disk_sector_bool_disk_sector_bool #[m0, del1] w (retK K)) : upK Tryd.prog (sCall F_maps_DeleteFunc_map_disk_sector_bool_disk_sector_bool #[m0, del1]) w K :=
  up_call (fn := Tryd.f56) Tryd.func56 (by kernel_rfl) (by kernel_rfl) h

/-- (*errata/disk.Disk).settle$2 -/
def disk_Disk_settle_2.pt (p0 t1 t2 : Value) (w : World) (K : Value → World → Prop) : Prop :=
  upK Tryd.prog (sBox T_disk_sector p0) w fun p3 w1 =>
  pureK Tryd.prog (sFieldAddr T_disk_sector p3 0) fun t6 =>
  readK Tryd.prog (sLoad T_int t6) w1 fun t7 =>
  readK Tryd.prog (sLoad T_int t2) w1 fun t8 =>
  pureK Tryd.prog (sBin .eql T_int (.tmp 7) (.tmp 8) t7 t8) fun t9 =>
  K t9 w1
theorem disk_Disk_settle_2.pt_eq : disk_Disk_settle_2.pt = fun p0 t1 t2 w K => FN Tryd.prog Tryd.f57 (bodyOf Tryd.f57) [5] .leaf [p0, t1, t2] w K := by kernel_rfl
theorem disk_Disk_settle_2.call {p0 t1 t2 : Value} {w : World} {K : Value → World → Prop} (h : disk_Disk_settle_2.pt p0 t1 t2 w K) : Calls Tryd.prog F_disk_Disk_settle_2 #[p0, t1, t2] w (retK K) :=
  calls_FN (args := [p0, t1, t2]) Tryd.func57 (by kernel_rfl) (by rw [disk_Disk_settle_2.pt_eq] at h; exact h)
theorem disk_Disk_settle_2.up {p0 t1 t2 : Value} {w : World} {K : Value → World → Prop} (h : Calls Tryd.prog F_disk_Disk_settle_2 #[p0, t1, t2] w (retK K)) : upK Tryd.prog (sCall F_disk_Disk_settle_2 #[p0, t1, t2]) w K :=
  up_call (fn := Tryd.f57) Tryd.func57 (by kernel_rfl) (by kernel_rfl) h

/-- slices.IndexFunc[[]errata/disk.sector,errata/disk.sector] -/
def slices_IndexFunc_s_disk_sector_disk_sector.pt (s0 f1 : Value) (w : World) (K : Value → World → Prop) : Prop :=
  readK Tryd.prog (sBlt .len #[T_s_disk_sector] T_int #[false] #[s0]) w fun t7 =>
  LOOP (X := Value × Unit) (fun x1 w1 next1 =>
   pureK Tryd.prog (sBin .lss T_int (.tmp 8) (.tmp 7) x1.1 t7) fun t9 =>
   ifB t9
   (pureK Tryd.prog (sIdxAddr T_s_disk_sector s0 x1.1) fun t14 =>
    readK Tryd.prog (sLoad T_disk_sector t14) w1 fun t15 =>
    upK Tryd.prog (sCallV f1 #[t15]) w1 fun t16 w2 =>
    ifB t16
    (K x1.1 w2)
    (pureK Tryd.prog (sBin .add T_int (.tmp 8) (.const (.int .i64 1)) x1.1 (.int .i64 1)) fun t18 =>
     next1 (t18, ()) w2))
   (K (.int .i64 (-1)) w1))
  ((.int .i64 0), ()) w
theorem slices_IndexFunc_s_disk_sector_disk_sector.pt_eq : slices_IndexFunc_s_disk_sector_disk_sector.pt = fun s0 f1 w K => FN Tryd.prog Tryd.f58 (bodyOf Tryd.f58) [4] .leaf [s0, f1] w K := by kernel_rfl
theorem slices_IndexFunc_s_disk_sector_disk_sector.call {s0 f1 : Value} {w : World} {K : Value → World → Prop} (h : slices_IndexFunc_s_disk_sector_disk_sector.pt s0 f1 w K) : Calls Tryd.prog F_slices_IndexFunc_s_disk_sector_disk_sector #[s0, f1] w (retK K) :=
  calls_FN (args := [s0, f1]) Tryd.func58 (by kernel_rfl) (by rw [slices_IndexFunc_s_disk_sector_disk_sector.pt_eq] at h; exact h)
theorem slices_IndexFunc_s_disk_sector_disk_sector.up {s0 f1 : Value} {w : World} {K : Value → World → Prop} (h : Calls Tryd.prog F_slices_IndexFunc_s_disk_sector_disk_sector #[s0, f1] w (retK K)) : upK Tryd.prog (sCall F_slices_IndexFunc_s_disk_sector_disk_sector #[s0, f1]) w K :=
  up_call (fn := Tryd.f58) Tryd.func58 (by kernel_rfl) (by kernel_rfl) h

end Go.Proofs.YtmkigdkhpdeaeaaDoor
