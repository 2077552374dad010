/-
  What the proofs of this seat know of its types, printed by program: each fact is held by the kernel. No condition.
-/
import Derived.Test.YtkcjcbmbddfjnaaDoorHeap
import Derived.Test.YtkcjcbmbddfjnaaDoorNames
namespace Go.Proofs.YtkcjcbmbddfjnaaDoor
open Go.RowKit


theorem sc_int : scB Tryd.prog T_int = true := by kernel_rfl
theorem U_int : Tryd.prog.underlying T_int = some (.int .i64) := by kernel_rfl
theorem z_int : (Tryd.prog.info? T_int).bind (·.zero) = some (.int .i64 0) := by kernel_rfl
theorem sc_bool : scB Tryd.prog T_bool = true := by kernel_rfl
theorem U_bool : Tryd.prog.underlying T_bool = some .bool := by kernel_rfl
theorem z_bool : (Tryd.prog.info? T_bool).bind (·.zero) = some (.bool false) := by kernel_rfl
theorem sc_uint8 : scB Tryd.prog T_uint8 = true := by kernel_rfl
theorem U_uint8 : Tryd.prog.underlying T_uint8 = some (.int .u8) := by kernel_rfl
theorem z_uint8 : (Tryd.prog.info? T_uint8).bind (·.zero) = some (.int .u8 0) := by kernel_rfl
theorem sc_string : scB Tryd.prog T_string = true := by kernel_rfl
theorem U_string : Tryd.prog.underlying T_string = some .string := by kernel_rfl
theorem z_string : (Tryd.prog.info? T_string).bind (·.zero) = some (.string ⟨#[]⟩) := by kernel_rfl
theorem sc_s_int : scB Tryd.prog T_s_int = true := by kernel_rfl
theorem U_s_int : Tryd.prog.underlying T_s_int = some (.slice T_int) := by kernel_rfl
theorem sl_s_int : sliceB Tryd.prog T_s_int T_int 1 8 = true := by kernel_rfl
theorem z_s_int : (Tryd.prog.info? T_s_int).bind (·.zero) = some (.slice none 0 0) := by kernel_rfl
theorem sc_s_string : scB Tryd.prog T_s_string = true := by kernel_rfl
theorem U_s_string : Tryd.prog.underlying T_s_string = some (.slice T_string) := by kernel_rfl
theorem sl_s_string : sliceB Tryd.prog T_s_string T_string 1 16 = true := by kernel_rfl
theorem z_s_string : (Tryd.prog.info? T_s_string).bind (·.zero) = some (.slice none 0 0) := by kernel_rfl
theorem ag_erratalaw01_Value : agB Tryd.prog T_erratalaw01_Value 5 = true := by kernel_rfl
theorem g_erratalaw01_Value_0 : fldB Tryd.prog T_erratalaw01_Value 0 0 = true := by kernel_rfl
theorem g_erratalaw01_Value_1 : fldB Tryd.prog T_erratalaw01_Value 1 1 = true := by kernel_rfl
theorem g_erratalaw01_Value_2 : fldB Tryd.prog T_erratalaw01_Value 2 2 = true := by kernel_rfl
theorem g_erratalaw01_Value_3 : fldB Tryd.prog T_erratalaw01_Value 3 3 = true := by kernel_rfl
theorem g_erratalaw01_Value_4 : fldB Tryd.prog T_erratalaw01_Value 4 4 = true := by kernel_rfl
theorem f_erratalaw01_Value_0 : fieldB Tryd.prog T_erratalaw01_Value 0 0 = true := by kernel_rfl
theorem f_erratalaw01_Value_1 : fieldB Tryd.prog T_erratalaw01_Value 1 1 = true := by kernel_rfl
theorem f_erratalaw01_Value_2 : fieldB Tryd.prog T_erratalaw01_Value 2 2 = true := by kernel_rfl
theorem f_erratalaw01_Value_3 : fieldB Tryd.prog T_erratalaw01_Value 3 3 = true := by kernel_rfl
theorem f_erratalaw01_Value_4 : fieldB Tryd.prog T_erratalaw01_Value 4 4 = true := by kernel_rfl
theorem z_erratalaw01_Value : (Tryd.prog.info? T_erratalaw01_Value).bind (·.zero) = some (.agg #[(.int .i64 0), (.int .i64 0), (.string ⟨#[]⟩), (.slice none 0 0), (.slice none 0 0)]) := by kernel_rfl
theorem sc_s_erratalaw01_Value : scB Tryd.prog T_s_erratalaw01_Value = true := by kernel_rfl
theorem U_s_erratalaw01_Value : Tryd.prog.underlying T_s_erratalaw01_Value = some (.slice T_erratalaw01_Value) := by kernel_rfl
theorem sl_s_erratalaw01_Value : sliceB Tryd.prog T_s_erratalaw01_Value T_erratalaw01_Value 5 80 = true := by kernel_rfl
theorem z_s_erratalaw01_Value : (Tryd.prog.info? T_s_erratalaw01_Value).bind (·.zero) = some (.slice none 0 0) := by kernel_rfl
theorem sc_p_wire_Reader : scB Tryd.prog T_p_wire_Reader = true := by kernel_rfl
theorem U_p_wire_Reader : Tryd.prog.underlying T_p_wire_Reader = some (.pointer (Tryd.prog.pointee T_p_wire_Reader)) := by kernel_rfl
theorem z_p_wire_Reader : (Tryd.prog.info? T_p_wire_Reader).bind (·.zero) = some (.pointer none) := by kernel_rfl
theorem ag_wire_Reader : agB Tryd.prog T_wire_Reader 2 = true := by kernel_rfl
theorem g_wire_Reader_0 : fldB Tryd.prog T_wire_Reader 0 0 = true := by kernel_rfl
theorem g_wire_Reader_1 : fldB Tryd.prog T_wire_Reader 1 1 = true := by kernel_rfl
theorem f_wire_Reader_0 : fieldB Tryd.prog T_wire_Reader 0 0 = true := by kernel_rfl
theorem f_wire_Reader_1 : fieldB Tryd.prog T_wire_Reader 1 1 = true := by kernel_rfl
theorem z_wire_Reader : (Tryd.prog.info? T_wire_Reader).bind (·.zero) = some (.agg #[(.string ⟨#[]⟩), (.bool false)]) := by kernel_rfl
theorem ag_errataref01_Reader : agB Tryd.prog T_errataref01_Reader 2 = true := by kernel_rfl
theorem g_errataref01_Reader_0 : fldB Tryd.prog T_errataref01_Reader 0 0 = true := by kernel_rfl
theorem g_errataref01_Reader_1 : fldB Tryd.prog T_errataref01_Reader 1 1 = true := by kernel_rfl
theorem f_errataref01_Reader_0 : fieldB Tryd.prog T_errataref01_Reader 0 0 = true := by kernel_rfl
theorem f_errataref01_Reader_1 : fieldB Tryd.prog T_errataref01_Reader 1 1 = true := by kernel_rfl
theorem z_errataref01_Reader : (Tryd.prog.info? T_errataref01_Reader).bind (·.zero) = some (.agg #[(.string ⟨#[]⟩), (.bool false)]) := by kernel_rfl
theorem sc_s_uint8 : scB Tryd.prog T_s_uint8 = true := by kernel_rfl
theorem U_s_uint8 : Tryd.prog.underlying T_s_uint8 = some (.slice T_uint8) := by kernel_rfl
theorem sl_s_uint8 : sliceB Tryd.prog T_s_uint8 T_uint8 1 1 = true := by kernel_rfl
theorem z_s_uint8 : (Tryd.prog.info? T_s_uint8).bind (·.zero) = some (.slice none 0 0) := by kernel_rfl
theorem sc_p_strings_Builder : scB Tryd.prog T_p_strings_Builder = true := by kernel_rfl
theorem U_p_strings_Builder : Tryd.prog.underlying T_p_strings_Builder = some (.pointer (Tryd.prog.pointee T_p_strings_Builder)) := by kernel_rfl
theorem z_p_strings_Builder : (Tryd.prog.info? T_p_strings_Builder).bind (·.zero) = some (.pointer none) := by kernel_rfl
theorem ag_strings_Builder : agB Tryd.prog T_strings_Builder 2 = true := by kernel_rfl
theorem g_strings_Builder_0 : fldB Tryd.prog T_strings_Builder 0 0 = true := by kernel_rfl
theorem g_strings_Builder_1 : fldB Tryd.prog T_strings_Builder 1 1 = true := by kernel_rfl
theorem f_strings_Builder_0 : fieldB Tryd.prog T_strings_Builder 0 0 = true := by kernel_rfl
theorem f_strings_Builder_1 : fieldB Tryd.prog T_strings_Builder 1 1 = true := by kernel_rfl
theorem z_strings_Builder : (Tryd.prog.info? T_strings_Builder).bind (·.zero) = some (.agg #[(.pointer none), (.slice none 0 0)]) := by kernel_rfl
theorem sc_error : scB Tryd.prog T_error = true := by kernel_rfl
theorem z_error : (Tryd.prog.info? T_error).bind (·.zero) = some .nilIface := by kernel_rfl
theorem z_unsafe_Pointer : (Tryd.prog.info? T_unsafe_Pointer).bind (·.zero) = some (.pointer none) := by kernel_rfl

structure D_erratalaw01_Value where
  kind : Int
  n : Int
  s : ByteArray
  l : SV
  t : SV
abbrev D_erratalaw01_Value.v (p : D_erratalaw01_Value) : Value := .agg #[.int .i64 p.kind, .int .i64 p.n, .string p.s, p.l.1, p.t.1]
abbrev D_erratalaw01_Value.cs (p : D_erratalaw01_Value) : List Value := [.int .i64 p.kind, .int .i64 p.n, .string p.s, p.l.1, p.t.1]
instance : Enc D_erratalaw01_Value where
  sz := 5
  cells p := p.cs
  val p := p.v
  pos := by omega
  len _ := rfl
  one p v (hv : v ∈ p.cs) := by
    simp only [List.mem_cons, List.not_mem_nil, or_false] at hv
    rcases hv with rfl | rfl | rfl | rfl | rfl <;> first | rfl | exact SV.prop _
  cells_val _ := rfl
structure D_wire_Reader where
  rest_ : ByteArray
  bad : Bool
  deriving DecidableEq
abbrev D_wire_Reader.v (p : D_wire_Reader) : Value := .agg #[.string p.rest_, .bool p.bad]
abbrev D_wire_Reader.cs (p : D_wire_Reader) : List Value := [.string p.rest_, .bool p.bad]
instance : Enc D_wire_Reader where
  sz := 2
  cells p := p.cs
  val p := p.v
  pos := by omega
  len _ := rfl
  one p v (hv : v ∈ p.cs) := by
    simp only [List.mem_cons, List.not_mem_nil, or_false] at hv
    rcases hv with rfl | rfl <;> first | rfl | exact SV.prop _
  cells_val _ := rfl
structure D_errataref01_Reader where
  rest_ : ByteArray
  bad : Bool
  deriving DecidableEq
abbrev D_errataref01_Reader.v (p : D_errataref01_Reader) : Value := .agg #[.string p.rest_, .bool p.bad]
abbrev D_errataref01_Reader.cs (p : D_errataref01_Reader) : List Value := [.string p.rest_, .bool p.bad]
instance : Enc D_errataref01_Reader where
  sz := 2
  cells p := p.cs
  val p := p.v
  pos := by omega
  len _ := rfl
  one p v (hv : v ∈ p.cs) := by
    simp only [List.mem_cons, List.not_mem_nil, or_false] at hv
    rcases hv with rfl | rfl <;> first | rfl | exact SV.prop _
  cells_val _ := rfl
structure D_strings_Builder where
  addr : SV
  buf : SV
abbrev D_strings_Builder.v (p : D_strings_Builder) : Value := .agg #[p.addr.1, p.buf.1]
abbrev D_strings_Builder.cs (p : D_strings_Builder) : List Value := [p.addr.1, p.buf.1]
instance : Enc D_strings_Builder where
  sz := 2
  cells p := p.cs
  val p := p.v
  pos := by omega
  len _ := rfl
  one p v (hv : v ∈ p.cs) := by
    simp only [List.mem_cons, List.not_mem_nil, or_false] at hv
    rcases hv with rfl | rfl <;> first | rfl | exact SV.prop _
  cells_val _ := rfl

theorem bd_erratalaw01_Value_0 {K : Value → Prop} {x0 : Int} : pureK Tryd.prog (sBuild T_erratalaw01_Value #[(0, .int .i64 x0)]) K = K (.agg #[.int .i64 x0, (.int .i64 0), (.string ⟨#[]⟩), (.slice none 0 0), (.slice none 0 0)]) := pureK_eq fun w => by kernel_rfl
theorem bd_wire_Reader_0 {K : Value → Prop} {x0 : ByteArray} : pureK Tryd.prog (sBuild T_wire_Reader #[(0, .string x0)]) K = K (.agg #[.string x0, (.bool false)]) := pureK_eq fun w => by kernel_rfl
theorem bd_errataref01_Reader_0 {K : Value → Prop} {x0 : ByteArray} : pureK Tryd.prog (sBuild T_errataref01_Reader #[(0, .string x0)]) K = K (.agg #[.string x0, (.bool false)]) := pureK_eq fun w => by kernel_rfl



end Go.Proofs.YtkcjcbmbddfjnaaDoor
