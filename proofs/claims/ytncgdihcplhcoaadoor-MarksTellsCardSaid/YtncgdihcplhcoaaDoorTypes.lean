/-
  What the proofs of this seat know of its types, printed by program: each fact is held by the kernel. No condition.
-/
import Derived.Test.YtncgdihcplhcoaaDoorHeap
import Derived.Test.YtncgdihcplhcoaaDoorNames
namespace Go.Proofs.YtncgdihcplhcoaaDoor
open Go.RowKit


theorem sc_int : scB Tryd.prog T_int = true := by kernel_rfl
theorem U_int : Tryd.prog.underlying T_int = some (.int .i64) := by kernel_rfl
theorem z_int : (Tryd.prog.info? T_int).bind (·.zero) = some (.int .i64 0) := by kernel_rfl
theorem sc_bool : scB Tryd.prog T_bool = true := by kernel_rfl
theorem U_bool : Tryd.prog.underlying T_bool = some .bool := by kernel_rfl
theorem z_bool : (Tryd.prog.info? T_bool).bind (·.zero) = some (.bool false) := by kernel_rfl
theorem sc_uint8 : scB Tryd.prog T_uint8 = true := by kernel_rfl
theorem U_uint8 : Tryd.prog.underlying T_uint8 = some (.int .u8) := by kernel_rfl
theorem z_uint8 : (Tryd.prog.info? T_uint8).bind (·.zero) = some (.int .u8 0) := by kernel_rfl
theorem sc_string : scB Tryd.prog T_string = true := by kernel_rfl
theorem U_string : Tryd.prog.underlying T_string = some .string := by kernel_rfl
theorem z_string : (Tryd.prog.info? T_string).bind (·.zero) = some (.string ⟨#[]⟩) := by kernel_rfl
theorem sc_s_erratalaw35_Op : scB Tryd.prog T_s_erratalaw35_Op = true := by kernel_rfl
theorem U_s_erratalaw35_Op : Tryd.prog.underlying T_s_erratalaw35_Op = some (.slice T_erratalaw35_Op) := by kernel_rfl
theorem sl_s_erratalaw35_Op : sliceB Tryd.prog T_s_erratalaw35_Op T_erratalaw35_Op 3 24 = true := by kernel_rfl
theorem z_s_erratalaw35_Op : (Tryd.prog.info? T_s_erratalaw35_Op).bind (·.zero) = some (.slice none 0 0) := by kernel_rfl
theorem sc_p_marks_Marks : scB Tryd.prog T_p_marks_Marks = true := by kernel_rfl
theorem U_p_marks_Marks : Tryd.prog.underlying T_p_marks_Marks = some (.pointer (Tryd.prog.pointee T_p_marks_Marks)) := by kernel_rfl
theorem z_p_marks_Marks : (Tryd.prog.info? T_p_marks_Marks).bind (·.zero) = some (.pointer none) := by kernel_rfl
theorem sc_api_Errno : scB Tryd.prog T_api_Errno = true := by kernel_rfl
theorem U_api_Errno : Tryd.prog.underlying T_api_Errno = some (.int .i64) := by kernel_rfl
theorem z_api_Errno : (Tryd.prog.info? T_api_Errno).bind (·.zero) = some (.int .i64 0) := by kernel_rfl
theorem ag_erratalaw35_Op : agB Tryd.prog T_erratalaw35_Op 3 = true := by kernel_rfl
theorem g_erratalaw35_Op_0 : fldB Tryd.prog T_erratalaw35_Op 0 0 = true := by kernel_rfl
theorem g_erratalaw35_Op_1 : fldB Tryd.prog T_erratalaw35_Op 1 1 = true := by kernel_rfl
theorem g_erratalaw35_Op_2 : fldB Tryd.prog T_erratalaw35_Op 2 2 = true := by kernel_rfl
theorem f_erratalaw35_Op_0 : fieldB Tryd.prog T_erratalaw35_Op 0 0 = true := by kernel_rfl
theorem f_erratalaw35_Op_1 : fieldB Tryd.prog T_erratalaw35_Op 1 1 = true := by kernel_rfl
theorem f_erratalaw35_Op_2 : fieldB Tryd.prog T_erratalaw35_Op 2 2 = true := by kernel_rfl
theorem z_erratalaw35_Op : (Tryd.prog.info? T_erratalaw35_Op).bind (·.zero) = some (.agg #[(.int .i64 0), (.int .i64 0), (.int .i64 0)]) := by kernel_rfl
theorem sc_s_int : scB Tryd.prog T_s_int = true := by kernel_rfl
theorem U_s_int : Tryd.prog.underlying T_s_int = some (.slice T_int) := by kernel_rfl
theorem sl_s_int : sliceB Tryd.prog T_s_int T_int 1 8 = true := by kernel_rfl
theorem z_s_int : (Tryd.prog.info? T_s_int).bind (·.zero) = some (.slice none 0 0) := by kernel_rfl
theorem sc_s_bool : scB Tryd.prog T_s_bool = true := by kernel_rfl
theorem U_s_bool : Tryd.prog.underlying T_s_bool = some (.slice T_bool) := by kernel_rfl
theorem sl_s_bool : sliceB Tryd.prog T_s_bool T_bool 1 1 = true := by kernel_rfl
theorem z_s_bool : (Tryd.prog.info? T_s_bool).bind (·.zero) = some (.slice none 0 0) := by kernel_rfl
theorem ag_errataref35_Marks : agB Tryd.prog T_errataref35_Marks 3 = true := by kernel_rfl
theorem g_errataref35_Marks_0 : fldB Tryd.prog T_errataref35_Marks 0 0 = true := by kernel_rfl
theorem g_errataref35_Marks_1 : fldB Tryd.prog T_errataref35_Marks 1 1 = true := by kernel_rfl
theorem g_errataref35_Marks_2 : fldB Tryd.prog T_errataref35_Marks 2 2 = true := by kernel_rfl
theorem f_errataref35_Marks_0 : fieldB Tryd.prog T_errataref35_Marks 0 0 = true := by kernel_rfl
theorem f_errataref35_Marks_1 : fieldB Tryd.prog T_errataref35_Marks 1 1 = true := by kernel_rfl
theorem f_errataref35_Marks_2 : fieldB Tryd.prog T_errataref35_Marks 2 2 = true := by kernel_rfl
theorem z_errataref35_Marks : (Tryd.prog.info? T_errataref35_Marks).bind (·.zero) = some (.agg #[(.slice none 0 0), (.slice none 0 0), (.int .i64 0)]) := by kernel_rfl
theorem sc_s_marks_input : scB Tryd.prog T_s_marks_input = true := by kernel_rfl
theorem U_s_marks_input : Tryd.prog.underlying T_s_marks_input = some (.slice T_marks_input) := by kernel_rfl
theorem sl_s_marks_input : sliceB Tryd.prog T_s_marks_input T_marks_input 2 16 = true := by kernel_rfl
theorem z_s_marks_input : (Tryd.prog.info? T_s_marks_input).bind (·.zero) = some (.slice none 0 0) := by kernel_rfl
theorem ag_marks_input : agB Tryd.prog T_marks_input 2 = true := by kernel_rfl
theorem g_marks_input_0 : fldB Tryd.prog T_marks_input 0 0 = true := by kernel_rfl
theorem g_marks_input_1 : fldB Tryd.prog T_marks_input 1 1 = true := by kernel_rfl
theorem f_marks_input_0 : fieldB Tryd.prog T_marks_input 0 0 = true := by kernel_rfl
theorem f_marks_input_1 : fieldB Tryd.prog T_marks_input 1 1 = true := by kernel_rfl
theorem z_marks_input : (Tryd.prog.info? T_marks_input).bind (·.zero) = some (.agg #[(.int .i64 0), (.bool false)]) := by kernel_rfl
theorem ag_marks_Marks : agB Tryd.prog T_marks_Marks 2 = true := by kernel_rfl
theorem g_marks_Marks_0 : fldB Tryd.prog T_marks_Marks 0 0 = true := by kernel_rfl
theorem g_marks_Marks_1 : fldB Tryd.prog T_marks_Marks 1 1 = true := by kernel_rfl
theorem f_marks_Marks_0 : fieldB Tryd.prog T_marks_Marks 0 0 = true := by kernel_rfl
theorem f_marks_Marks_1 : fieldB Tryd.prog T_marks_Marks 1 1 = true := by kernel_rfl
theorem z_marks_Marks : (Tryd.prog.info? T_marks_Marks).bind (·.zero) = some (.agg #[(.slice none 0 0), (.int .i64 0)]) := by kernel_rfl
theorem sc_p_strings_Builder : scB Tryd.prog T_p_strings_Builder = true := by kernel_rfl
theorem U_p_strings_Builder : Tryd.prog.underlying T_p_strings_Builder = some (.pointer (Tryd.prog.pointee T_p_strings_Builder)) := by kernel_rfl
theorem z_p_strings_Builder : (Tryd.prog.info? T_p_strings_Builder).bind (·.zero) = some (.pointer none) := by kernel_rfl
theorem sc_s_uint8 : scB Tryd.prog T_s_uint8 = true := by kernel_rfl
theorem U_s_uint8 : Tryd.prog.underlying T_s_uint8 = some (.slice T_uint8) := by kernel_rfl
theorem sl_s_uint8 : sliceB Tryd.prog T_s_uint8 T_uint8 1 1 = true := by kernel_rfl
theorem z_s_uint8 : (Tryd.prog.info? T_s_uint8).bind (·.zero) = some (.slice none 0 0) := by kernel_rfl
theorem ag_strings_Builder : agB Tryd.prog T_strings_Builder 2 = true := by kernel_rfl
theorem g_strings_Builder_0 : fldB Tryd.prog T_strings_Builder 0 0 = true := by kernel_rfl
theorem g_strings_Builder_1 : fldB Tryd.prog T_strings_Builder 1 1 = true := by kernel_rfl
theorem f_strings_Builder_0 : fieldB Tryd.prog T_strings_Builder 0 0 = true := by kernel_rfl
theorem f_strings_Builder_1 : fieldB Tryd.prog T_strings_Builder 1 1 = true := by kernel_rfl
theorem z_strings_Builder : (Tryd.prog.info? T_strings_Builder).bind (·.zero) = some (.agg #[(.pointer none), (.slice none 0 0)]) := by kernel_rfl
theorem sc_error : scB Tryd.prog T_error = true := by kernel_rfl
theorem z_error : (Tryd.prog.info? T_error).bind (·.zero) = some .nilIface := by kernel_rfl
theorem sc_uint : scB Tryd.prog T_uint = true := by kernel_rfl
theorem U_uint : Tryd.prog.underlying T_uint = some (.int .u64) := by kernel_rfl
theorem z_uint : (Tryd.prog.info? T_uint).bind (·.zero) = some (.int .u64 0) := by kernel_rfl
theorem ag_wire_Reader : agB Tryd.prog T_wire_Reader 2 = true := by kernel_rfl
theorem g_wire_Reader_0 : fldB Tryd.prog T_wire_Reader 0 0 = true := by kernel_rfl
theorem g_wire_Reader_1 : fldB Tryd.prog T_wire_Reader 1 1 = true := by kernel_rfl
theorem f_wire_Reader_0 : fieldB Tryd.prog T_wire_Reader 0 0 = true := by kernel_rfl
theorem f_wire_Reader_1 : fieldB Tryd.prog T_wire_Reader 1 1 = true := by kernel_rfl
theorem z_wire_Reader : (Tryd.prog.info? T_wire_Reader).bind (·.zero) = some (.agg #[(.string ⟨#[]⟩), (.bool false)]) := by kernel_rfl
theorem ag_errataref01_Reader : agB Tryd.prog T_errataref01_Reader 2 = true := by kernel_rfl
theorem g_errataref01_Reader_0 : fldB Tryd.prog T_errataref01_Reader 0 0 = true := by kernel_rfl
theorem g_errataref01_Reader_1 : fldB Tryd.prog T_errataref01_Reader 1 1 = true := by kernel_rfl
theorem f_errataref01_Reader_0 : fieldB Tryd.prog T_errataref01_Reader 0 0 = true := by kernel_rfl
theorem f_errataref01_Reader_1 : fieldB Tryd.prog T_errataref01_Reader 1 1 = true := by kernel_rfl
theorem z_errataref01_Reader : (Tryd.prog.info? T_errataref01_Reader).bind (·.zero) = some (.agg #[(.string ⟨#[]⟩), (.bool false)]) := by kernel_rfl
theorem z_unsafe_Pointer : (Tryd.prog.info? T_unsafe_Pointer).bind (·.zero) = some (.pointer none) := by kernel_rfl

structure D_erratalaw35_Op where
  do_ : Int
  i : Int
  mark : Int
  deriving DecidableEq
abbrev D_erratalaw35_Op.v (p : D_erratalaw35_Op) : Value := .agg #[.int .i64 p.do_, .int .i64 p.i, .int .i64 p.mark]
abbrev D_erratalaw35_Op.cs (p : D_erratalaw35_Op) : List Value := [.int .i64 p.do_, .int .i64 p.i, .int .i64 p.mark]
instance : Enc D_erratalaw35_Op where
  sz := 3
  cells p := p.cs
  val p := p.v
  pos := by omega
  len _ := rfl
  one p v (hv : v ∈ p.cs) := by
    simp only [List.mem_cons, List.not_mem_nil, or_false] at hv
    rcases hv with rfl | rfl | rfl <;> first | rfl | exact SV.prop _
  cells_val _ := rfl
structure D_errataref35_Marks where
  l : SV
  off : SV
  common : Int
abbrev D_errataref35_Marks.v (p : D_errataref35_Marks) : Value := .agg #[p.l.1, p.off.1, .int .i64 p.common]
abbrev D_errataref35_Marks.cs (p : D_errataref35_Marks) : List Value := [p.l.1, p.off.1, .int .i64 p.common]
instance : Enc D_errataref35_Marks where
  sz := 3
  cells p := p.cs
  val p := p.v
  pos := by omega
  len _ := rfl
  one p v (hv : v ∈ p.cs) := by
    simp only [List.mem_cons, List.not_mem_nil, or_false] at hv
    rcases hv with rfl | rfl | rfl <;> first | rfl | exact SV.prop _
  cells_val _ := rfl
structure D_marks_input where
  mark : Int
  idle : Bool
  deriving DecidableEq
abbrev D_marks_input.v (p : D_marks_input) : Value := .agg #[.int .i64 p.mark, .bool p.idle]
abbrev D_marks_input.cs (p : D_marks_input) : List Value := [.int .i64 p.mark, .bool p.idle]
instance : Enc D_marks_input where
  sz := 2
  cells p := p.cs
  val p := p.v
  pos := by omega
  len _ := rfl
  one p v (hv : v ∈ p.cs) := by
    simp only [List.mem_cons, List.not_mem_nil, or_false] at hv
    rcases hv with rfl | rfl <;> first | rfl | exact SV.prop _
  cells_val _ := rfl
structure D_marks_Marks where
  inputs : SV
  common : Int
abbrev D_marks_Marks.v (p : D_marks_Marks) : Value := .agg #[p.inputs.1, .int .i64 p.common]
abbrev D_marks_Marks.cs (p : D_marks_Marks) : List Value := [p.inputs.1, .int .i64 p.common]
instance : Enc D_marks_Marks where
  sz := 2
  cells p := p.cs
  val p := p.v
  pos := by omega
  len _ := rfl
  one p v (hv : v ∈ p.cs) := by
    simp only [List.mem_cons, List.not_mem_nil, or_false] at hv
    rcases hv with rfl | rfl <;> first | rfl | exact SV.prop _
  cells_val _ := rfl
structure D_strings_Builder where
  addr : SV
  buf : SV
abbrev D_strings_Builder.v (p : D_strings_Builder) : Value := .agg #[p.addr.1, p.buf.1]
abbrev D_strings_Builder.cs (p : D_strings_Builder) : List Value := [p.addr.1, p.buf.1]
instance : Enc D_strings_Builder where
  sz := 2
  cells p := p.cs
  val p := p.v
  pos := by omega
  len _ := rfl
  one p v (hv : v ∈ p.cs) := by
    simp only [List.mem_cons, List.not_mem_nil, or_false] at hv
    rcases hv with rfl | rfl <;> first | rfl | exact SV.prop _
  cells_val _ := rfl
structure D_wire_Reader where
  rest_ : ByteArray
  bad : Bool
  deriving DecidableEq
abbrev D_wire_Reader.v (p : D_wire_Reader) : Value := .agg #[.string p.rest_, .bool p.bad]
abbrev D_wire_Reader.cs (p : D_wire_Reader) : List Value := [.string p.rest_, .bool p.bad]
instance : Enc D_wire_Reader where
  sz := 2
  cells p := p.cs
  val p := p.v
  pos := by omega
  len _ := rfl
  one p v (hv : v ∈ p.cs) := by
    simp only [List.mem_cons, List.not_mem_nil, or_false] at hv
    rcases hv with rfl | rfl <;> first | rfl | exact SV.prop _
  cells_val _ := rfl
structure D_errataref01_Reader where
  rest_ : ByteArray
  bad : Bool
  deriving DecidableEq
abbrev D_errataref01_Reader.v (p : D_errataref01_Reader) : Value := .agg #[.string p.rest_, .bool p.bad]
abbrev D_errataref01_Reader.cs (p : D_errataref01_Reader) : List Value := [.string p.rest_, .bool p.bad]
instance : Enc D_errataref01_Reader where
  sz := 2
  cells p := p.cs
  val p := p.v
  pos := by omega
  len _ := rfl
  one p v (hv : v ∈ p.cs) := by
    simp only [List.mem_cons, List.not_mem_nil, or_false] at hv
    rcases hv with rfl | rfl <;> first | rfl | exact SV.prop _
  cells_val _ := rfl

theorem bd_marks_input_0 {K : Value → Prop} {x0 : Int} : pureK Tryd.prog (sBuild T_marks_input #[(0, .int .i64 x0)]) K = K (.agg #[.int .i64 x0, (.bool false)]) := pureK_eq fun w => by kernel_rfl
theorem bd_marks_Marks_0_1 {K : Value → Prop} {x0 : Option Addr} {n0 c0 : Nat} {x1 : Int} : pureK Tryd.prog (sBuild T_marks_Marks #[(0, .slice x0 n0 c0), (1, .int .i64 x1)]) K = K (.agg #[.slice x0 n0 c0, .int .i64 x1]) := pureK_eq fun w => by kernel_rfl
theorem bd_marks_Marks_1 {K : Value → Prop} {x1 : Int} : pureK Tryd.prog (sBuild T_marks_Marks #[(1, .int .i64 x1)]) K = K (.agg #[(.slice none 0 0), .int .i64 x1]) := pureK_eq fun w => by kernel_rfl
theorem bd_errataref35_Marks_2 {K : Value → Prop} {x2 : Int} : pureK Tryd.prog (sBuild T_errataref35_Marks #[(2, .int .i64 x2)]) K = K (.agg #[(.slice none 0 0), (.slice none 0 0), .int .i64 x2]) := pureK_eq fun w => by kernel_rfl
theorem bd_errataref35_Marks_0_1_2 {K : Value → Prop} {x0 : Option Addr} {n0 c0 : Nat} {x1 : Option Addr} {n1 c1 : Nat} {x2 : Int} : pureK Tryd.prog (sBuild T_errataref35_Marks #[(0, .slice x0 n0 c0), (1, .slice x1 n1 c1), (2, .int .i64 x2)]) K = K (.agg #[.slice x0 n0 c0, .slice x1 n1 c1, .int .i64 x2]) := pureK_eq fun w => by kernel_rfl
theorem bd_wire_Reader_0 {K : Value → Prop} {x0 : ByteArray} : pureK Tryd.prog (sBuild T_wire_Reader #[(0, .string x0)]) K = K (.agg #[.string x0, (.bool false)]) := pureK_eq fun w => by kernel_rfl
theorem bd_errataref01_Reader_0 {K : Value → Prop} {x0 : ByteArray} : pureK Tryd.prog (sBuild T_errataref01_Reader #[(0, .string x0)]) K = K (.agg #[.string x0, (.bool false)]) := pureK_eq fun w => by kernel_rfl



end Go.Proofs.YtncgdihcplhcoaaDoor
