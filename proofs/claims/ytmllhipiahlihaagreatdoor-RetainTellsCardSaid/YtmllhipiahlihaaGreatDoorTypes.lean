/-
  What the proofs of this seat know of its types, printed by program: each fact is held by the kernel. No condition.
-/
import Derived.Test.YtmllhipiahlihaaGreatDoorHeap
import Derived.Test.YtmllhipiahlihaaGreatDoorNames
namespace Go.Proofs.YtmllhipiahlihaaGreatDoor
open Go.RowKit


theorem sc_int : scB Tryz.prog T_int = true := by kernel_rfl
theorem U_int : Tryz.prog.underlying T_int = some (.int .i64) := by kernel_rfl
theorem z_int : (Tryz.prog.info? T_int).bind (·.zero) = some (.int .i64 0) := by kernel_rfl
theorem sc_bool : scB Tryz.prog T_bool = true := by kernel_rfl
theorem U_bool : Tryz.prog.underlying T_bool = some .bool := by kernel_rfl
theorem z_bool : (Tryz.prog.info? T_bool).bind (·.zero) = some (.bool false) := by kernel_rfl
theorem sc_uint8 : scB Tryz.prog T_uint8 = true := by kernel_rfl
theorem U_uint8 : Tryz.prog.underlying T_uint8 = some (.int .u8) := by kernel_rfl
theorem z_uint8 : (Tryz.prog.info? T_uint8).bind (·.zero) = some (.int .u8 0) := by kernel_rfl
theorem sc_string : scB Tryz.prog T_string = true := by kernel_rfl
theorem U_string : Tryz.prog.underlying T_string = some .string := by kernel_rfl
theorem z_string : (Tryz.prog.info? T_string).bind (·.zero) = some (.string ⟨#[]⟩) := by kernel_rfl
theorem sc_s_erratalaw12_Op : scB Tryz.prog T_s_erratalaw12_Op = true := by kernel_rfl
theorem U_s_erratalaw12_Op : Tryz.prog.underlying T_s_erratalaw12_Op = some (.slice T_erratalaw12_Op) := by kernel_rfl
theorem sl_s_erratalaw12_Op : sliceB Tryz.prog T_s_erratalaw12_Op T_erratalaw12_Op 9 96 = true := by kernel_rfl
theorem z_s_erratalaw12_Op : (Tryz.prog.info? T_s_erratalaw12_Op).bind (·.zero) = some (.slice none 0 0) := by kernel_rfl
theorem sc_p_retain_Store : scB Tryz.prog T_p_retain_Store = true := by kernel_rfl
theorem U_p_retain_Store : Tryz.prog.underlying T_p_retain_Store = some (.pointer (Tryz.prog.pointee T_p_retain_Store)) := by kernel_rfl
theorem z_p_retain_Store : (Tryz.prog.info? T_p_retain_Store).bind (·.zero) = some (.pointer none) := by kernel_rfl
theorem sc_p_errataref12_Store : scB Tryz.prog T_p_errataref12_Store = true := by kernel_rfl
theorem U_p_errataref12_Store : Tryz.prog.underlying T_p_errataref12_Store = some (.pointer (Tryz.prog.pointee T_p_errataref12_Store)) := by kernel_rfl
theorem z_p_errataref12_Store : (Tryz.prog.info? T_p_errataref12_Store).bind (·.zero) = some (.pointer none) := by kernel_rfl
theorem sc_s_api_Value : scB Tryz.prog T_s_api_Value = true := by kernel_rfl
theorem U_s_api_Value : Tryz.prog.underlying T_s_api_Value = some (.slice T_api_Value) := by kernel_rfl
theorem sl_s_api_Value : sliceB Tryz.prog T_s_api_Value T_api_Value 3 32 = true := by kernel_rfl
theorem z_s_api_Value : (Tryz.prog.info? T_s_api_Value).bind (·.zero) = some (.slice none 0 0) := by kernel_rfl
theorem ag_api_Event : agB Tryz.prog T_api_Event 6 = true := by kernel_rfl
theorem g_api_Event_0 : fldB Tryz.prog T_api_Event 0 0 = true := by kernel_rfl
theorem g_api_Event_1 : fldB Tryz.prog T_api_Event 1 1 = true := by kernel_rfl
theorem g_api_Event_2 : fldB Tryz.prog T_api_Event 2 2 = true := by kernel_rfl
theorem g_api_Event_3 : fldB Tryz.prog T_api_Event 3 3 = true := by kernel_rfl
theorem g_api_Event_4 : fldB Tryz.prog T_api_Event 4 4 = true := by kernel_rfl
theorem g_api_Event_5 : fldB Tryz.prog T_api_Event 5 5 = true := by kernel_rfl
theorem f_api_Event_0 : fieldB Tryz.prog T_api_Event 0 0 = true := by kernel_rfl
theorem f_api_Event_1 : fieldB Tryz.prog T_api_Event 1 1 = true := by kernel_rfl
theorem f_api_Event_2 : fieldB Tryz.prog T_api_Event 2 2 = true := by kernel_rfl
theorem f_api_Event_3 : fieldB Tryz.prog T_api_Event 3 3 = true := by kernel_rfl
theorem f_api_Event_4 : fieldB Tryz.prog T_api_Event 4 4 = true := by kernel_rfl
theorem f_api_Event_5 : fieldB Tryz.prog T_api_Event 5 5 = true := by kernel_rfl
theorem z_api_Event : (Tryz.prog.info? T_api_Event).bind (·.zero) = some (.agg #[(.int .i64 0), (.int .i64 0), (.string ⟨#[]⟩), (.int .i64 0), (.int .i64 0), (.slice none 0 0)]) := by kernel_rfl
theorem ag_erratalaw12_Op : agB Tryz.prog T_erratalaw12_Op 9 = true := by kernel_rfl
theorem g_erratalaw12_Op_0 : fldB Tryz.prog T_erratalaw12_Op 0 0 = true := by kernel_rfl
theorem g_erratalaw12_Op_2 : fldB Tryz.prog T_erratalaw12_Op 2 7 = true := by kernel_rfl
theorem g_erratalaw12_Op_3 : fldB Tryz.prog T_erratalaw12_Op 3 8 = true := by kernel_rfl
theorem f_erratalaw12_Op_0 : fieldB Tryz.prog T_erratalaw12_Op 0 0 = true := by kernel_rfl
theorem f_erratalaw12_Op_1 : fieldB Tryz.prog T_erratalaw12_Op 1 1 = true := by kernel_rfl
theorem f_erratalaw12_Op_2 : fieldB Tryz.prog T_erratalaw12_Op 2 7 = true := by kernel_rfl
theorem f_erratalaw12_Op_3 : fieldB Tryz.prog T_erratalaw12_Op 3 8 = true := by kernel_rfl
theorem z_erratalaw12_Op : (Tryz.prog.info? T_erratalaw12_Op).bind (·.zero) = some (.agg #[(.int .i64 0), (.int .i64 0), (.int .i64 0), (.string ⟨#[]⟩), (.int .i64 0), (.int .i64 0), (.slice none 0 0), (.bool false), (.int .i64 0)]) := by kernel_rfl
theorem sc_api_Errno : scB Tryz.prog T_api_Errno = true := by kernel_rfl
theorem U_api_Errno : Tryz.prog.underlying T_api_Errno = some (.int .i64) := by kernel_rfl
theorem z_api_Errno : (Tryz.prog.info? T_api_Errno).bind (·.zero) = some (.int .i64 0) := by kernel_rfl
theorem sc_s_api_Event : scB Tryz.prog T_s_api_Event = true := by kernel_rfl
theorem U_s_api_Event : Tryz.prog.underlying T_s_api_Event = some (.slice T_api_Event) := by kernel_rfl
theorem sl_s_api_Event : sliceB Tryz.prog T_s_api_Event T_api_Event 6 72 = true := by kernel_rfl
theorem z_s_api_Event : (Tryz.prog.info? T_s_api_Event).bind (·.zero) = some (.slice none 0 0) := by kernel_rfl
theorem ag_errataref12_Store : agB Tryz.prog T_errataref12_Store 5 = true := by kernel_rfl
theorem g_errataref12_Store_0 : fldB Tryz.prog T_errataref12_Store 0 0 = true := by kernel_rfl
theorem g_errataref12_Store_1 : fldB Tryz.prog T_errataref12_Store 1 1 = true := by kernel_rfl
theorem g_errataref12_Store_2 : fldB Tryz.prog T_errataref12_Store 2 2 = true := by kernel_rfl
theorem g_errataref12_Store_3 : fldB Tryz.prog T_errataref12_Store 3 3 = true := by kernel_rfl
theorem g_errataref12_Store_4 : fldB Tryz.prog T_errataref12_Store 4 4 = true := by kernel_rfl
theorem f_errataref12_Store_0 : fieldB Tryz.prog T_errataref12_Store 0 0 = true := by kernel_rfl
theorem f_errataref12_Store_1 : fieldB Tryz.prog T_errataref12_Store 1 1 = true := by kernel_rfl
theorem f_errataref12_Store_2 : fieldB Tryz.prog T_errataref12_Store 2 2 = true := by kernel_rfl
theorem f_errataref12_Store_3 : fieldB Tryz.prog T_errataref12_Store 3 3 = true := by kernel_rfl
theorem f_errataref12_Store_4 : fieldB Tryz.prog T_errataref12_Store 4 4 = true := by kernel_rfl
theorem z_errataref12_Store : (Tryz.prog.info? T_errataref12_Store).bind (·.zero) = some (.agg #[(.int .i64 0), (.slice none 0 0), (.int .i64 0), (.int .i64 0), (.int .i64 0)]) := by kernel_rfl
theorem sc_s_int : scB Tryz.prog T_s_int = true := by kernel_rfl
theorem U_s_int : Tryz.prog.underlying T_s_int = some (.slice T_int) := by kernel_rfl
theorem sl_s_int : sliceB Tryz.prog T_s_int T_int 1 8 = true := by kernel_rfl
theorem z_s_int : (Tryz.prog.info? T_s_int).bind (·.zero) = some (.slice none 0 0) := by kernel_rfl
theorem ag_retain_Store : agB Tryz.prog T_retain_Store 4 = true := by kernel_rfl
theorem g_retain_Store_0 : fldB Tryz.prog T_retain_Store 0 0 = true := by kernel_rfl
theorem g_retain_Store_1 : fldB Tryz.prog T_retain_Store 1 1 = true := by kernel_rfl
theorem g_retain_Store_2 : fldB Tryz.prog T_retain_Store 2 2 = true := by kernel_rfl
theorem g_retain_Store_3 : fldB Tryz.prog T_retain_Store 3 3 = true := by kernel_rfl
theorem f_retain_Store_0 : fieldB Tryz.prog T_retain_Store 0 0 = true := by kernel_rfl
theorem f_retain_Store_1 : fieldB Tryz.prog T_retain_Store 1 1 = true := by kernel_rfl
theorem f_retain_Store_2 : fieldB Tryz.prog T_retain_Store 2 2 = true := by kernel_rfl
theorem f_retain_Store_3 : fieldB Tryz.prog T_retain_Store 3 3 = true := by kernel_rfl
theorem z_retain_Store : (Tryz.prog.info? T_retain_Store).bind (·.zero) = some (.agg #[(.int .i64 0), (.int .i64 0), (.int .i64 0), (.slice none 0 0)]) := by kernel_rfl
theorem sc_p_strings_Builder : scB Tryz.prog T_p_strings_Builder = true := by kernel_rfl
theorem U_p_strings_Builder : Tryz.prog.underlying T_p_strings_Builder = some (.pointer (Tryz.prog.pointee T_p_strings_Builder)) := by kernel_rfl
theorem z_p_strings_Builder : (Tryz.prog.info? T_p_strings_Builder).bind (·.zero) = some (.pointer none) := by kernel_rfl
theorem sc_s_uint8 : scB Tryz.prog T_s_uint8 = true := by kernel_rfl
theorem U_s_uint8 : Tryz.prog.underlying T_s_uint8 = some (.slice T_uint8) := by kernel_rfl
theorem sl_s_uint8 : sliceB Tryz.prog T_s_uint8 T_uint8 1 1 = true := by kernel_rfl
theorem z_s_uint8 : (Tryz.prog.info? T_s_uint8).bind (·.zero) = some (.slice none 0 0) := by kernel_rfl
theorem ag_strings_Builder : agB Tryz.prog T_strings_Builder 2 = true := by kernel_rfl
theorem g_strings_Builder_0 : fldB Tryz.prog T_strings_Builder 0 0 = true := by kernel_rfl
theorem g_strings_Builder_1 : fldB Tryz.prog T_strings_Builder 1 1 = true := by kernel_rfl
theorem f_strings_Builder_0 : fieldB Tryz.prog T_strings_Builder 0 0 = true := by kernel_rfl
theorem f_strings_Builder_1 : fieldB Tryz.prog T_strings_Builder 1 1 = true := by kernel_rfl
theorem z_strings_Builder : (Tryz.prog.info? T_strings_Builder).bind (·.zero) = some (.agg #[(.pointer none), (.slice none 0 0)]) := by kernel_rfl
theorem sc_error : scB Tryz.prog T_error = true := by kernel_rfl
theorem z_error : (Tryz.prog.info? T_error).bind (·.zero) = some .nilIface := by kernel_rfl
theorem ag_api_Value : agB Tryz.prog T_api_Value 3 = true := by kernel_rfl
theorem g_api_Value_0 : fldB Tryz.prog T_api_Value 0 0 = true := by kernel_rfl
theorem g_api_Value_1 : fldB Tryz.prog T_api_Value 1 1 = true := by kernel_rfl
theorem g_api_Value_2 : fldB Tryz.prog T_api_Value 2 2 = true := by kernel_rfl
theorem f_api_Value_0 : fieldB Tryz.prog T_api_Value 0 0 = true := by kernel_rfl
theorem f_api_Value_1 : fieldB Tryz.prog T_api_Value 1 1 = true := by kernel_rfl
theorem f_api_Value_2 : fieldB Tryz.prog T_api_Value 2 2 = true := by kernel_rfl
theorem z_api_Value : (Tryz.prog.info? T_api_Value).bind (·.zero) = some (.agg #[(.int .i64 0), (.int .i64 0), (.string ⟨#[]⟩)]) := by kernel_rfl
theorem ag_wire_Reader : agB Tryz.prog T_wire_Reader 2 = true := by kernel_rfl
theorem g_wire_Reader_0 : fldB Tryz.prog T_wire_Reader 0 0 = true := by kernel_rfl
theorem g_wire_Reader_1 : fldB Tryz.prog T_wire_Reader 1 1 = true := by kernel_rfl
theorem f_wire_Reader_0 : fieldB Tryz.prog T_wire_Reader 0 0 = true := by kernel_rfl
theorem f_wire_Reader_1 : fieldB Tryz.prog T_wire_Reader 1 1 = true := by kernel_rfl
theorem z_wire_Reader : (Tryz.prog.info? T_wire_Reader).bind (·.zero) = some (.agg #[(.string ⟨#[]⟩), (.bool false)]) := by kernel_rfl
theorem ag_errataref01_Reader : agB Tryz.prog T_errataref01_Reader 2 = true := by kernel_rfl
theorem g_errataref01_Reader_0 : fldB Tryz.prog T_errataref01_Reader 0 0 = true := by kernel_rfl
theorem g_errataref01_Reader_1 : fldB Tryz.prog T_errataref01_Reader 1 1 = true := by kernel_rfl
theorem f_errataref01_Reader_0 : fieldB Tryz.prog T_errataref01_Reader 0 0 = true := by kernel_rfl
theorem f_errataref01_Reader_1 : fieldB Tryz.prog T_errataref01_Reader 1 1 = true := by kernel_rfl
theorem z_errataref01_Reader : (Tryz.prog.info? T_errataref01_Reader).bind (·.zero) = some (.agg #[(.string ⟨#[]⟩), (.bool false)]) := by kernel_rfl
theorem z_unsafe_Pointer : (Tryz.prog.info? T_unsafe_Pointer).bind (·.zero) = some (.pointer none) := by kernel_rfl

structure D_api_Event where
  part : Int
  pos_ : Int
  source : ByteArray
  schema : Int
  time : Int
  row : SV
abbrev D_api_Event.v (p : D_api_Event) : Value := .agg #[.int .i64 p.part, .int .i64 p.pos_, .string p.source, .int .i64 p.schema, .int .i64 p.time, p.row.1]
abbrev D_api_Event.cs (p : D_api_Event) : List Value := [.int .i64 p.part, .int .i64 p.pos_, .string p.source, .int .i64 p.schema, .int .i64 p.time, p.row.1]
instance : Enc D_api_Event where
  sz := 6
  cells p := p.cs
  val p := p.v
  pos := by omega
  len _ := rfl
  one p v (hv : v ∈ p.cs) := by
    simp only [List.mem_cons, List.not_mem_nil, or_false] at hv
    rcases hv with rfl | rfl | rfl | rfl | rfl | rfl <;> first | rfl | exact SV.prop _
  cells_val _ := rfl
structure D_erratalaw12_Op where
  do_ : Int
  e : D_api_Event
  next : Bool
  n : Int
abbrev D_erratalaw12_Op.v (p : D_erratalaw12_Op) : Value := .agg #[.int .i64 p.do_, .int .i64 p.e.part, .int .i64 p.e.pos_, .string p.e.source, .int .i64 p.e.schema, .int .i64 p.e.time, p.e.row.1, .bool p.next, .int .i64 p.n]
abbrev D_erratalaw12_Op.cs (p : D_erratalaw12_Op) : List Value := [.int .i64 p.do_, .int .i64 p.e.part, .int .i64 p.e.pos_, .string p.e.source, .int .i64 p.e.schema, .int .i64 p.e.time, p.e.row.1, .bool p.next, .int .i64 p.n]
instance : Enc D_erratalaw12_Op where
  sz := 9
  cells p := p.cs
  val p := p.v
  pos := by omega
  len _ := rfl
  one p v (hv : v ∈ p.cs) := by
    simp only [List.mem_cons, List.not_mem_nil, or_false] at hv
    rcases hv with rfl | rfl | rfl | rfl | rfl | rfl | rfl | rfl | rfl <;> first | rfl | exact SV.prop _
  cells_val _ := rfl
structure D_errataref12_Store where
  part : Int
  all : SV
  base : Int
  first : Int
  horizon : Int
abbrev D_errataref12_Store.v (p : D_errataref12_Store) : Value := .agg #[.int .i64 p.part, p.all.1, .int .i64 p.base, .int .i64 p.first, .int .i64 p.horizon]
abbrev D_errataref12_Store.cs (p : D_errataref12_Store) : List Value := [.int .i64 p.part, p.all.1, .int .i64 p.base, .int .i64 p.first, .int .i64 p.horizon]
instance : Enc D_errataref12_Store where
  sz := 5
  cells p := p.cs
  val p := p.v
  pos := by omega
  len _ := rfl
  one p v (hv : v ∈ p.cs) := by
    simp only [List.mem_cons, List.not_mem_nil, or_false] at hv
    rcases hv with rfl | rfl | rfl | rfl | rfl <;> first | rfl | exact SV.prop _
  cells_val _ := rfl
structure D_retain_Store where
  part : Int
  first : Int
  horizon : Int
  events : SV
abbrev D_retain_Store.v (p : D_retain_Store) : Value := .agg #[.int .i64 p.part, .int .i64 p.first, .int .i64 p.horizon, p.events.1]
abbrev D_retain_Store.cs (p : D_retain_Store) : List Value := [.int .i64 p.part, .int .i64 p.first, .int .i64 p.horizon, p.events.1]
instance : Enc D_retain_Store where
  sz := 4
  cells p := p.cs
  val p := p.v
  pos := by omega
  len _ := rfl
  one p v (hv : v ∈ p.cs) := by
    simp only [List.mem_cons, List.not_mem_nil, or_false] at hv
    rcases hv with rfl | rfl | rfl | rfl <;> first | rfl | exact SV.prop _
  cells_val _ := rfl
structure D_strings_Builder where
  addr : SV
  buf : SV
abbrev D_strings_Builder.v (p : D_strings_Builder) : Value := .agg #[p.addr.1, p.buf.1]
abbrev D_strings_Builder.cs (p : D_strings_Builder) : List Value := [p.addr.1, p.buf.1]
instance : Enc D_strings_Builder where
  sz := 2
  cells p := p.cs
  val p := p.v
  pos := by omega
  len _ := rfl
  one p v (hv : v ∈ p.cs) := by
    simp only [List.mem_cons, List.not_mem_nil, or_false] at hv
    rcases hv with rfl | rfl <;> first | rfl | exact SV.prop _
  cells_val _ := rfl
structure D_api_Value where
  kind : Int
  n : Int
  s : ByteArray
  deriving DecidableEq
abbrev D_api_Value.v (p : D_api_Value) : Value := .agg #[.int .i64 p.kind, .int .i64 p.n, .string p.s]
abbrev D_api_Value.cs (p : D_api_Value) : List Value := [.int .i64 p.kind, .int .i64 p.n, .string p.s]
instance : Enc D_api_Value where
  sz := 3
  cells p := p.cs
  val p := p.v
  pos := by omega
  len _ := rfl
  one p v (hv : v ∈ p.cs) := by
    simp only [List.mem_cons, List.not_mem_nil, or_false] at hv
    rcases hv with rfl | rfl | rfl <;> first | rfl | exact SV.prop _
  cells_val _ := rfl
structure D_wire_Reader where
  rest_ : ByteArray
  bad : Bool
  deriving DecidableEq
abbrev D_wire_Reader.v (p : D_wire_Reader) : Value := .agg #[.string p.rest_, .bool p.bad]
abbrev D_wire_Reader.cs (p : D_wire_Reader) : List Value := [.string p.rest_, .bool p.bad]
instance : Enc D_wire_Reader where
  sz := 2
  cells p := p.cs
  val p := p.v
  pos := by omega
  len _ := rfl
  one p v (hv : v ∈ p.cs) := by
    simp only [List.mem_cons, List.not_mem_nil, or_false] at hv
    rcases hv with rfl | rfl <;> first | rfl | exact SV.prop _
  cells_val _ := rfl
structure D_errataref01_Reader where
  rest_ : ByteArray
  bad : Bool
  deriving DecidableEq
abbrev D_errataref01_Reader.v (p : D_errataref01_Reader) : Value := .agg #[.string p.rest_, .bool p.bad]
abbrev D_errataref01_Reader.cs (p : D_errataref01_Reader) : List Value := [.string p.rest_, .bool p.bad]
instance : Enc D_errataref01_Reader where
  sz := 2
  cells p := p.cs
  val p := p.v
  pos := by omega
  len _ := rfl
  one p v (hv : v ∈ p.cs) := by
    simp only [List.mem_cons, List.not_mem_nil, or_false] at hv
    rcases hv with rfl | rfl <;> first | rfl | exact SV.prop _
  cells_val _ := rfl

theorem bd_api_Event_0_1_2_4 {K : Value → Prop} {x0 : Int} {x1 : Int} {x2 : ByteArray} {x4 : Int} : pureK Tryz.prog (sBuild T_api_Event #[(0, .int .i64 x0), (1, .int .i64 x1), (2, .string x2), (4, .int .i64 x4)]) K = K (.agg #[.int .i64 x0, .int .i64 x1, .string x2, (.int .i64 0), .int .i64 x4, (.slice none 0 0)]) := pureK_eq fun w => by kernel_rfl
theorem bd_retain_Store_0 {K : Value → Prop} {x0 : Int} : pureK Tryz.prog (sBuild T_retain_Store #[(0, .int .i64 x0)]) K = K (.agg #[.int .i64 x0, (.int .i64 0), (.int .i64 0), (.slice none 0 0)]) := pureK_eq fun w => by kernel_rfl
theorem bd_errataref12_Store_0 {K : Value → Prop} {x0 : Int} : pureK Tryz.prog (sBuild T_errataref12_Store #[(0, .int .i64 x0)]) K = K (.agg #[.int .i64 x0, (.slice none 0 0), (.int .i64 0), (.int .i64 0), (.int .i64 0)]) := pureK_eq fun w => by kernel_rfl
theorem bd_api_Event_0_1_2_3_4 {K : Value → Prop} {x0 : Int} {x1 : Int} {x2 : ByteArray} {x3 : Int} {x4 : Int} : pureK Tryz.prog (sBuild T_api_Event #[(0, .int .i64 x0), (1, .int .i64 x1), (2, .string x2), (3, .int .i64 x3), (4, .int .i64 x4)]) K = K (.agg #[.int .i64 x0, .int .i64 x1, .string x2, .int .i64 x3, .int .i64 x4, (.slice none 0 0)]) := pureK_eq fun w => by kernel_rfl
theorem bd_api_Event_0_1 {K : Value → Prop} {x0 : Int} {x1 : Int} : pureK Tryz.prog (sBuild T_api_Event #[(0, .int .i64 x0), (1, .int .i64 x1)]) K = K (.agg #[.int .i64 x0, .int .i64 x1, (.string ⟨#[]⟩), (.int .i64 0), (.int .i64 0), (.slice none 0 0)]) := pureK_eq fun w => by kernel_rfl
theorem bd_wire_Reader_0 {K : Value → Prop} {x0 : ByteArray} : pureK Tryz.prog (sBuild T_wire_Reader #[(0, .string x0)]) K = K (.agg #[.string x0, (.bool false)]) := pureK_eq fun w => by kernel_rfl
theorem bd_errataref01_Reader_0 {K : Value → Prop} {x0 : ByteArray} : pureK Tryz.prog (sBuild T_errataref01_Reader #[(0, .string x0)]) K = K (.agg #[.string x0, (.bool false)]) := pureK_eq fun w => by kernel_rfl
theorem bd_api_Value_ {K : Value → Prop}  : pureK Tryz.prog (sBuild T_api_Value #[]) K = K (.agg #[(.int .i64 0), (.int .i64 0), (.string ⟨#[]⟩)]) := pureK_eq fun w => by kernel_rfl
theorem bd_api_Value_0_1 {K : Value → Prop} {x0 : Int} {x1 : Int} : pureK Tryz.prog (sBuild T_api_Value #[(0, .int .i64 x0), (1, .int .i64 x1)]) K = K (.agg #[.int .i64 x0, .int .i64 x1, (.string ⟨#[]⟩)]) := pureK_eq fun w => by kernel_rfl
theorem bd_api_Value_0_2 {K : Value → Prop} {x0 : Int} {x2 : ByteArray} : pureK Tryz.prog (sBuild T_api_Value #[(0, .int .i64 x0), (2, .string x2)]) K = K (.agg #[.int .i64 x0, (.int .i64 0), .string x2]) := pureK_eq fun w => by kernel_rfl
theorem bd_api_Value_0 {K : Value → Prop} {x0 : Int} : pureK Tryz.prog (sBuild T_api_Value #[(0, .int .i64 x0)]) K = K (.agg #[.int .i64 x0, (.int .i64 0), (.string ⟨#[]⟩)]) := pureK_eq fun w => by kernel_rfl

theorem fl_api_Value : (Tryz.prog.fieldsOf T_api_Value).toList = [{ name := "Kind", type := T_int, offset := 0, embedded := false, tag := "", pkgPath := "", byteOffset := 0 }, { name := "N", type := T_int, offset := 1, embedded := false, tag := "", pkgPath := "", byteOffset := 8 }, { name := "S", type := T_string, offset := 2, embedded := false, tag := "", pkgPath := "", byteOffset := 16 }] := by kernel_rfl
theorem run_eq_api_Value (p q : D_api_Value) (w : World) : (Op.equalIn 10000 T_api_Value p.v q.v).run Tryz.prog w = .ok (decide (p = q)) w := by
  obtain ⟨a0, a1, a2⟩ := p
  obtain ⟨b0, b1, b2⟩ := q
  show (Op.equalIn 10000 T_api_Value (.agg #[.int .i64 a0, .int .i64 a1, .string a2]) (.agg #[.int .i64 b0, .int .i64 b1, .string b2])).run Tryz.prog w = _
  rw [show (10000 : Nat) = 9999 + 1 from rfl, run_equalIn_agg w 9999 T_api_Value _ _ (by kernel_rfl) (by kernel_rfl), fl_api_Value]
  rw [show (9999 : Nat) = 9998 + 1 from rfl]
  have e : decide ((⟨a0, a1, a2⟩ : D_api_Value) = ⟨b0, b1, b2⟩) = (decide (a0 = b0) && (decide (a1 = b1) && (decide (a2 = b2) && true))) := by
    rw [Bool.eq_iff_iff]; simp
  rw [e]
  have h0 := run_equalIn_int (P := Tryz.prog) w 9998 T_int .i64 .i64 a0 b0 (by kernel_rfl)
  have h1 := run_equalIn_int (P := Tryz.prog) w 9998 T_int .i64 .i64 a1 b1 (by kernel_rfl)
  have h2 := run_equalIn_string (P := Tryz.prog) w 9998 T_string a2 b2 (by kernel_rfl)
  rw [toList_beq] at h2
  exact eqF_cons (by decide) (part_sc (by kernel_rfl) rfl) (part_sc (by kernel_rfl) rfl) h0 <| eqF_cons (by decide) (part_sc (by kernel_rfl) rfl) (part_sc (by kernel_rfl) rfl) h1 <| eqF_cons (by decide) (part_sc (by kernel_rfl) rfl) (part_sc (by kernel_rfl) rfl) h2 <| eqF_nil
theorem eq_api_Value {K : Value → Prop} {xo yo : Operand} (p q : D_api_Value) : pureK Tryz.prog (sBin .eql T_api_Value xo yo p.v q.v) K = K (.bool (decide (p = q))) := pureK_eq fun w => by
  refine sBin_eq (run_eqGuard_agg w .eql _ _ _ _ _ (by kernel_rfl)) ?_
  show (binOp .eql T_api_Value (.agg _) (.agg _)).run _ _ = _
  rw [run_eql_struct]
  have := run_eq_api_Value p q w
  rw [show (p.v : Value) = .agg _ from rfl, show (q.v : Value) = .agg _ from rfl] at this
  rw [this]
  rfl
theorem neq_api_Value {K : Value → Prop} {xo yo : Operand} (p q : D_api_Value) : pureK Tryz.prog (sBin .neq T_api_Value xo yo p.v q.v) K = K (.bool (!decide (p = q))) := pureK_eq fun w => by
  refine sBin_eq (run_eqGuard_agg w .neq _ _ _ _ _ (by kernel_rfl)) ?_
  show (binOp .neq T_api_Value (.agg _) (.agg _)).run _ _ = _
  rw [run_neq_struct]
  have := run_eq_api_Value p q w
  rw [show (p.v : Value) = .agg _ from rfl, show (q.v : Value) = .agg _ from rfl] at this
  rw [this]
  rfl

end Go.Proofs.YtmllhipiahlihaaGreatDoor
