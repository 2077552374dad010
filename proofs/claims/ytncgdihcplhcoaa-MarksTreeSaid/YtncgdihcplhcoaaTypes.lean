/-
  What the proofs of this seat know of its types, printed by program: each fact is held by the kernel. No condition.
-/
import Derived.Test.YtncgdihcplhcoaaHeap
import Derived.Test.YtncgdihcplhcoaaNames
namespace Go.Proofs.Ytncgdihcplhcoaa
open Go.RowKit


theorem sc_int : scB Try.prog T_int = true := by kernel_rfl
theorem U_int : Try.prog.underlying T_int = some (.int .i64) := by kernel_rfl
theorem z_int : (Try.prog.info? T_int).bind (·.zero) = some (.int .i64 0) := by kernel_rfl
theorem sc_bool : scB Try.prog T_bool = true := by kernel_rfl
theorem U_bool : Try.prog.underlying T_bool = some .bool := by kernel_rfl
theorem z_bool : (Try.prog.info? T_bool).bind (·.zero) = some (.bool false) := by kernel_rfl
theorem sc_string : scB Try.prog T_string = true := by kernel_rfl
theorem U_string : Try.prog.underlying T_string = some .string := by kernel_rfl
theorem z_string : (Try.prog.info? T_string).bind (·.zero) = some (.string ⟨#[]⟩) := by kernel_rfl
theorem sc_s_int : scB Try.prog T_s_int = true := by kernel_rfl
theorem U_s_int : Try.prog.underlying T_s_int = some (.slice T_int) := by kernel_rfl
theorem sl_s_int : sliceB Try.prog T_s_int T_int 1 8 = true := by kernel_rfl
theorem z_s_int : (Try.prog.info? T_s_int).bind (·.zero) = some (.slice none 0 0) := by kernel_rfl
theorem sc_s_erratalaw35_Op : scB Try.prog T_s_erratalaw35_Op = true := by kernel_rfl
theorem U_s_erratalaw35_Op : Try.prog.underlying T_s_erratalaw35_Op = some (.slice T_erratalaw35_Op) := by kernel_rfl
theorem sl_s_erratalaw35_Op : sliceB Try.prog T_s_erratalaw35_Op T_erratalaw35_Op 3 24 = true := by kernel_rfl
theorem z_s_erratalaw35_Op : (Try.prog.info? T_s_erratalaw35_Op).bind (·.zero) = some (.slice none 0 0) := by kernel_rfl
theorem sc_s_p_marks_Marks : scB Try.prog T_s_p_marks_Marks = true := by kernel_rfl
theorem U_s_p_marks_Marks : Try.prog.underlying T_s_p_marks_Marks = some (.slice T_p_marks_Marks) := by kernel_rfl
theorem sl_s_p_marks_Marks : sliceB Try.prog T_s_p_marks_Marks T_p_marks_Marks 1 8 = true := by kernel_rfl
theorem z_s_p_marks_Marks : (Try.prog.info? T_s_p_marks_Marks).bind (·.zero) = some (.slice none 0 0) := by kernel_rfl
theorem sc_p_marks_Marks : scB Try.prog T_p_marks_Marks = true := by kernel_rfl
theorem U_p_marks_Marks : Try.prog.underlying T_p_marks_Marks = some (.pointer (Try.prog.pointee T_p_marks_Marks)) := by kernel_rfl
theorem z_p_marks_Marks : (Try.prog.info? T_p_marks_Marks).bind (·.zero) = some (.pointer none) := by kernel_rfl
theorem ag_erratalaw35_Op : agB Try.prog T_erratalaw35_Op 3 = true := by kernel_rfl
theorem f_erratalaw35_Op_0 : fieldB Try.prog T_erratalaw35_Op 0 0 = true := by kernel_rfl
theorem f_erratalaw35_Op_1 : fieldB Try.prog T_erratalaw35_Op 1 1 = true := by kernel_rfl
theorem f_erratalaw35_Op_2 : fieldB Try.prog T_erratalaw35_Op 2 2 = true := by kernel_rfl
theorem z_erratalaw35_Op : (Try.prog.info? T_erratalaw35_Op).bind (·.zero) = some (.agg #[(.int .i64 0), (.int .i64 0), (.int .i64 0)]) := by kernel_rfl
theorem sc_api_Errno : scB Try.prog T_api_Errno = true := by kernel_rfl
theorem U_api_Errno : Try.prog.underlying T_api_Errno = some (.int .i64) := by kernel_rfl
theorem z_api_Errno : (Try.prog.info? T_api_Errno).bind (·.zero) = some (.int .i64 0) := by kernel_rfl
theorem sc_s_bool : scB Try.prog T_s_bool = true := by kernel_rfl
theorem U_s_bool : Try.prog.underlying T_s_bool = some (.slice T_bool) := by kernel_rfl
theorem sl_s_bool : sliceB Try.prog T_s_bool T_bool 1 1 = true := by kernel_rfl
theorem z_s_bool : (Try.prog.info? T_s_bool).bind (·.zero) = some (.slice none 0 0) := by kernel_rfl
theorem sc_s_marks_input : scB Try.prog T_s_marks_input = true := by kernel_rfl
theorem U_s_marks_input : Try.prog.underlying T_s_marks_input = some (.slice T_marks_input) := by kernel_rfl
theorem sl_s_marks_input : sliceB Try.prog T_s_marks_input T_marks_input 2 16 = true := by kernel_rfl
theorem z_s_marks_input : (Try.prog.info? T_s_marks_input).bind (·.zero) = some (.slice none 0 0) := by kernel_rfl
theorem ag_marks_input : agB Try.prog T_marks_input 2 = true := by kernel_rfl
theorem f_marks_input_0 : fieldB Try.prog T_marks_input 0 0 = true := by kernel_rfl
theorem f_marks_input_1 : fieldB Try.prog T_marks_input 1 1 = true := by kernel_rfl
theorem z_marks_input : (Try.prog.info? T_marks_input).bind (·.zero) = some (.agg #[(.int .i64 0), (.bool false)]) := by kernel_rfl
theorem ag_marks_Marks : agB Try.prog T_marks_Marks 2 = true := by kernel_rfl
theorem f_marks_Marks_0 : fieldB Try.prog T_marks_Marks 0 0 = true := by kernel_rfl
theorem f_marks_Marks_1 : fieldB Try.prog T_marks_Marks 1 1 = true := by kernel_rfl
theorem z_marks_Marks : (Try.prog.info? T_marks_Marks).bind (·.zero) = some (.agg #[(.slice none 0 0), (.int .i64 0)]) := by kernel_rfl
theorem sc_uint : scB Try.prog T_uint = true := by kernel_rfl
theorem U_uint : Try.prog.underlying T_uint = some (.int .u64) := by kernel_rfl
theorem z_uint : (Try.prog.info? T_uint).bind (·.zero) = some (.int .u64 0) := by kernel_rfl
theorem sc_uint32 : scB Try.prog T_uint32 = true := by kernel_rfl
theorem U_uint32 : Try.prog.underlying T_uint32 = some (.int .u32) := by kernel_rfl
theorem z_uint32 : (Try.prog.info? T_uint32).bind (·.zero) = some (.int .u32 0) := by kernel_rfl
theorem sc_uint64 : scB Try.prog T_uint64 = true := by kernel_rfl
theorem U_uint64 : Try.prog.underlying T_uint64 = some (.int .u64) := by kernel_rfl
theorem z_uint64 : (Try.prog.info? T_uint64).bind (·.zero) = some (.int .u64 0) := by kernel_rfl

structure D_erratalaw35_Op where
  do_ : Int
  i : Int
  mark : Int
  deriving DecidableEq
abbrev D_erratalaw35_Op.v (p : D_erratalaw35_Op) : Value := .agg #[.int .i64 p.do_, .int .i64 p.i, .int .i64 p.mark]
abbrev D_erratalaw35_Op.cs (p : D_erratalaw35_Op) : List Value := [.int .i64 p.do_, .int .i64 p.i, .int .i64 p.mark]
instance : Enc D_erratalaw35_Op where
  sz := 3
  cells p := p.cs
  val p := p.v
  pos := by omega
  len _ := rfl
  one p v (hv : v ∈ p.cs) := by
    simp only [List.mem_cons, List.not_mem_nil, or_false] at hv
    rcases hv with rfl | rfl | rfl <;> first | rfl | exact SV.prop _
  cells_val _ := rfl
structure D_marks_input where
  mark : Int
  idle : Bool
  deriving DecidableEq
abbrev D_marks_input.v (p : D_marks_input) : Value := .agg #[.int .i64 p.mark, .bool p.idle]
abbrev D_marks_input.cs (p : D_marks_input) : List Value := [.int .i64 p.mark, .bool p.idle]
instance : Enc D_marks_input where
  sz := 2
  cells p := p.cs
  val p := p.v
  pos := by omega
  len _ := rfl
  one p v (hv : v ∈ p.cs) := by
    simp only [List.mem_cons, List.not_mem_nil, or_false] at hv
    rcases hv with rfl | rfl <;> first | rfl | exact SV.prop _
  cells_val _ := rfl
structure D_marks_Marks where
  inputs : SV
  common : Int
abbrev D_marks_Marks.v (p : D_marks_Marks) : Value := .agg #[p.inputs.1, .int .i64 p.common]
abbrev D_marks_Marks.cs (p : D_marks_Marks) : List Value := [p.inputs.1, .int .i64 p.common]
instance : Enc D_marks_Marks where
  sz := 2
  cells p := p.cs
  val p := p.v
  pos := by omega
  len _ := rfl
  one p v (hv : v ∈ p.cs) := by
    simp only [List.mem_cons, List.not_mem_nil, or_false] at hv
    rcases hv with rfl | rfl <;> first | rfl | exact SV.prop _
  cells_val _ := rfl

theorem bd_marks_input_0 {K : Value → Prop} {x0 : Int} : pureK Try.prog (sBuild T_marks_input #[(0, .int .i64 x0)]) K = K (.agg #[.int .i64 x0, (.bool false)]) := pureK_eq fun w => by kernel_rfl
theorem bd_marks_Marks_0_1 {K : Value → Prop} {x0 : Option Addr} {n0 c0 : Nat} {x1 : Int} : pureK Try.prog (sBuild T_marks_Marks #[(0, .slice x0 n0 c0), (1, .int .i64 x1)]) K = K (.agg #[.slice x0 n0 c0, .int .i64 x1]) := pureK_eq fun w => by kernel_rfl

end Go.Proofs.Ytncgdihcplhcoaa
