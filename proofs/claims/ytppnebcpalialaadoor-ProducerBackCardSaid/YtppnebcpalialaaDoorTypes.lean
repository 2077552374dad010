/-
  What the proofs of this seat know of its types, printed by program: each fact is held by the kernel. No condition.
-/
import Derived.Test.YtppnebcpalialaaDoorHeap
import Derived.Test.YtppnebcpalialaaDoorNames
namespace Go.Proofs.YtppnebcpalialaaDoor
open Go.RowKit

abbrev T_uint8 : TypeId := 5
theorem sc_int : scB Tryd.prog T_int = true := by kernel_rfl
theorem U_int : Tryd.prog.underlying T_int = some (.int .i64) := by kernel_rfl
theorem z_int : (Tryd.prog.info? T_int).bind (·.zero) = some (.int .i64 0) := by kernel_rfl
theorem sc_bool : scB Tryd.prog T_bool = true := by kernel_rfl
theorem U_bool : Tryd.prog.underlying T_bool = some .bool := by kernel_rfl
theorem z_bool : (Tryd.prog.info? T_bool).bind (·.zero) = some (.bool false) := by kernel_rfl
theorem sc_string : scB Tryd.prog T_string = true := by kernel_rfl
theorem U_string : Tryd.prog.underlying T_string = some .string := by kernel_rfl
theorem z_string : (Tryd.prog.info? T_string).bind (·.zero) = some (.string ⟨#[]⟩) := by kernel_rfl
theorem sc_s_api_Producer : scB Tryd.prog T_s_api_Producer = true := by kernel_rfl
theorem U_s_api_Producer : Tryd.prog.underlying T_s_api_Producer = some (.slice T_api_Producer) := by kernel_rfl
theorem sl_s_api_Producer : sliceB Tryd.prog T_s_api_Producer T_api_Producer 4 48 = true := by kernel_rfl
theorem z_s_api_Producer : (Tryd.prog.info? T_s_api_Producer).bind (·.zero) = some (.slice none 0 0) := by kernel_rfl
theorem ag_api_Entry : agB Tryd.prog T_api_Entry 8 = true := by kernel_rfl
theorem g_api_Entry_0 : fldB Tryd.prog T_api_Entry 0 0 = true := by kernel_rfl
theorem g_api_Entry_1 : fldB Tryd.prog T_api_Entry 1 1 = true := by kernel_rfl
theorem g_api_Entry_2 : fldB Tryd.prog T_api_Entry 2 2 = true := by kernel_rfl
theorem g_api_Entry_3 : fldB Tryd.prog T_api_Entry 3 3 = true := by kernel_rfl
theorem g_api_Entry_4 : fldB Tryd.prog T_api_Entry 4 4 = true := by kernel_rfl
theorem g_api_Entry_5 : fldB Tryd.prog T_api_Entry 5 5 = true := by kernel_rfl
theorem g_api_Entry_6 : fldB Tryd.prog T_api_Entry 6 6 = true := by kernel_rfl
theorem g_api_Entry_7 : fldB Tryd.prog T_api_Entry 7 7 = true := by kernel_rfl
theorem f_api_Entry_0 : fieldB Tryd.prog T_api_Entry 0 0 = true := by kernel_rfl
theorem f_api_Entry_1 : fieldB Tryd.prog T_api_Entry 1 1 = true := by kernel_rfl
theorem f_api_Entry_2 : fieldB Tryd.prog T_api_Entry 2 2 = true := by kernel_rfl
theorem f_api_Entry_3 : fieldB Tryd.prog T_api_Entry 3 3 = true := by kernel_rfl
theorem f_api_Entry_4 : fieldB Tryd.prog T_api_Entry 4 4 = true := by kernel_rfl
theorem f_api_Entry_5 : fieldB Tryd.prog T_api_Entry 5 5 = true := by kernel_rfl
theorem f_api_Entry_6 : fieldB Tryd.prog T_api_Entry 6 6 = true := by kernel_rfl
theorem f_api_Entry_7 : fieldB Tryd.prog T_api_Entry 7 7 = true := by kernel_rfl
theorem z_api_Entry : (Tryd.prog.info? T_api_Entry).bind (·.zero) = some (.agg #[(.int .i64 0), (.int .i64 0), (.int .i64 0), (.int .i64 0), (.string ⟨#[]⟩), (.int .i64 0), (.int .i64 0), (.slice none 0 0)]) := by kernel_rfl
theorem sc_api_Errno : scB Tryd.prog T_api_Errno = true := by kernel_rfl
theorem U_api_Errno : Tryd.prog.underlying T_api_Errno = some (.int .i64) := by kernel_rfl
theorem z_api_Errno : (Tryd.prog.info? T_api_Errno).bind (·.zero) = some (.int .i64 0) := by kernel_rfl
theorem sc_s_int : scB Tryd.prog T_s_int = true := by kernel_rfl
theorem U_s_int : Tryd.prog.underlying T_s_int = some (.slice T_int) := by kernel_rfl
theorem sl_s_int : sliceB Tryd.prog T_s_int T_int 1 8 = true := by kernel_rfl
theorem z_s_int : (Tryd.prog.info? T_s_int).bind (·.zero) = some (.slice none 0 0) := by kernel_rfl
theorem ag_api_Producer : agB Tryd.prog T_api_Producer 4 = true := by kernel_rfl
theorem g_api_Producer_0 : fldB Tryd.prog T_api_Producer 0 0 = true := by kernel_rfl
theorem g_api_Producer_1 : fldB Tryd.prog T_api_Producer 1 1 = true := by kernel_rfl
theorem g_api_Producer_2 : fldB Tryd.prog T_api_Producer 2 2 = true := by kernel_rfl
theorem g_api_Producer_3 : fldB Tryd.prog T_api_Producer 3 3 = true := by kernel_rfl
theorem f_api_Producer_0 : fieldB Tryd.prog T_api_Producer 0 0 = true := by kernel_rfl
theorem f_api_Producer_1 : fieldB Tryd.prog T_api_Producer 1 1 = true := by kernel_rfl
theorem f_api_Producer_2 : fieldB Tryd.prog T_api_Producer 2 2 = true := by kernel_rfl
theorem f_api_Producer_3 : fieldB Tryd.prog T_api_Producer 3 3 = true := by kernel_rfl
theorem z_api_Producer : (Tryd.prog.info? T_api_Producer).bind (·.zero) = some (.agg #[(.int .i64 0), (.int .i64 0), (.int .i64 0), (.slice none 0 0)]) := by kernel_rfl
theorem sc_p_strings_Builder : scB Tryd.prog T_p_strings_Builder = true := by kernel_rfl
theorem U_p_strings_Builder : Tryd.prog.underlying T_p_strings_Builder = some (.pointer (Tryd.prog.pointee T_p_strings_Builder)) := by kernel_rfl
theorem z_p_strings_Builder : (Tryd.prog.info? T_p_strings_Builder).bind (·.zero) = some (.pointer none) := by kernel_rfl
theorem sc_s_uint8 : scB Tryd.prog T_s_uint8 = true := by kernel_rfl
theorem U_s_uint8 : Tryd.prog.underlying T_s_uint8 = some (.slice T_uint8) := by kernel_rfl
theorem sl_s_uint8 : sliceB Tryd.prog T_s_uint8 T_uint8 1 1 = true := by kernel_rfl
theorem z_s_uint8 : (Tryd.prog.info? T_s_uint8).bind (·.zero) = some (.slice none 0 0) := by kernel_rfl
theorem ag_strings_Builder : agB Tryd.prog T_strings_Builder 2 = true := by kernel_rfl
theorem g_strings_Builder_0 : fldB Tryd.prog T_strings_Builder 0 0 = true := by kernel_rfl
theorem g_strings_Builder_1 : fldB Tryd.prog T_strings_Builder 1 1 = true := by kernel_rfl
theorem f_strings_Builder_0 : fieldB Tryd.prog T_strings_Builder 0 0 = true := by kernel_rfl
theorem f_strings_Builder_1 : fieldB Tryd.prog T_strings_Builder 1 1 = true := by kernel_rfl
theorem z_strings_Builder : (Tryd.prog.info? T_strings_Builder).bind (·.zero) = some (.agg #[(.pointer none), (.slice none 0 0)]) := by kernel_rfl
theorem sc_error : scB Tryd.prog T_error = true := by kernel_rfl
theorem z_error : (Tryd.prog.info? T_error).bind (·.zero) = some .nilIface := by kernel_rfl
theorem ag_wire_Reader : agB Tryd.prog T_wire_Reader 2 = true := by kernel_rfl
theorem g_wire_Reader_0 : fldB Tryd.prog T_wire_Reader 0 0 = true := by kernel_rfl
theorem g_wire_Reader_1 : fldB Tryd.prog T_wire_Reader 1 1 = true := by kernel_rfl
theorem f_wire_Reader_0 : fieldB Tryd.prog T_wire_Reader 0 0 = true := by kernel_rfl
theorem f_wire_Reader_1 : fieldB Tryd.prog T_wire_Reader 1 1 = true := by kernel_rfl
theorem z_wire_Reader : (Tryd.prog.info? T_wire_Reader).bind (·.zero) = some (.agg #[(.string ⟨#[]⟩), (.bool false)]) := by kernel_rfl
theorem z_unsafe_Pointer : (Tryd.prog.info? T_unsafe_Pointer).bind (·.zero) = some (.pointer none) := by kernel_rfl
theorem sc_uint : scB Tryd.prog T_uint = true := by kernel_rfl
theorem U_uint : Tryd.prog.underlying T_uint = some (.int .u64) := by kernel_rfl
theorem z_uint : (Tryd.prog.info? T_uint).bind (·.zero) = some (.int .u64 0) := by kernel_rfl

structure D_api_Entry where
  kind : Int
  producer : Int
  epoch : Int
  seq : Int
  source : ByteArray
  schema : Int
  time : Int
  row : SV
abbrev D_api_Entry.v (p : D_api_Entry) : Value := .agg #[.int .i64 p.kind, .int .i64 p.producer, .int .i64 p.epoch, .int .i64 p.seq, .string p.source, .int .i64 p.schema, .int .i64 p.time, p.row.1]
abbrev D_api_Entry.cs (p : D_api_Entry) : List Value := [.int .i64 p.kind, .int .i64 p.producer, .int .i64 p.epoch, .int .i64 p.seq, .string p.source, .int .i64 p.schema, .int .i64 p.time, p.row.1]
instance : Enc D_api_Entry where
  sz := 8
  cells p := p.cs
  val p := p.v
  pos := by omega
  len _ := rfl
  one p v (hv : v ∈ p.cs) := by
    simp only [List.mem_cons, List.not_mem_nil, or_false] at hv
    rcases hv with rfl | rfl | rfl | rfl | rfl | rfl | rfl | rfl <;> first | rfl | exact SV.prop _
  cells_val _ := rfl
structure D_api_Producer where
  id : Int
  epoch : Int
  next : Int
  last : SV
abbrev D_api_Producer.v (p : D_api_Producer) : Value := .agg #[.int .i64 p.id, .int .i64 p.epoch, .int .i64 p.next, p.last.1]
abbrev D_api_Producer.cs (p : D_api_Producer) : List Value := [.int .i64 p.id, .int .i64 p.epoch, .int .i64 p.next, p.last.1]
instance : Enc D_api_Producer where
  sz := 4
  cells p := p.cs
  val p := p.v
  pos := by omega
  len _ := rfl
  one p v (hv : v ∈ p.cs) := by
    simp only [List.mem_cons, List.not_mem_nil, or_false] at hv
    rcases hv with rfl | rfl | rfl | rfl <;> first | rfl | exact SV.prop _
  cells_val _ := rfl
structure D_strings_Builder where
  addr : SV
  buf : SV
abbrev D_strings_Builder.v (p : D_strings_Builder) : Value := .agg #[p.addr.1, p.buf.1]
abbrev D_strings_Builder.cs (p : D_strings_Builder) : List Value := [p.addr.1, p.buf.1]
instance : Enc D_strings_Builder where
  sz := 2
  cells p := p.cs
  val p := p.v
  pos := by omega
  len _ := rfl
  one p v (hv : v ∈ p.cs) := by
    simp only [List.mem_cons, List.not_mem_nil, or_false] at hv
    rcases hv with rfl | rfl <;> first | rfl | exact SV.prop _
  cells_val _ := rfl
structure D_wire_Reader where
  rest_ : ByteArray
  bad : Bool
  deriving DecidableEq
abbrev D_wire_Reader.v (p : D_wire_Reader) : Value := .agg #[.string p.rest_, .bool p.bad]
abbrev D_wire_Reader.cs (p : D_wire_Reader) : List Value := [.string p.rest_, .bool p.bad]
instance : Enc D_wire_Reader where
  sz := 2
  cells p := p.cs
  val p := p.v
  pos := by omega
  len _ := rfl
  one p v (hv : v ∈ p.cs) := by
    simp only [List.mem_cons, List.not_mem_nil, or_false] at hv
    rcases hv with rfl | rfl <;> first | rfl | exact SV.prop _
  cells_val _ := rfl

theorem bd_api_Producer_0_1_2_3 {K : Value → Prop} {x0 : Int} {x1 : Int} {x2 : Int} {x3 : Option Addr} {n3 c3 : Nat} : pureK Tryd.prog (sBuild T_api_Producer #[(0, .int .i64 x0), (1, .int .i64 x1), (2, .int .i64 x2), (3, .slice x3 n3 c3)]) K = K (.agg #[.int .i64 x0, .int .i64 x1, .int .i64 x2, .slice x3 n3 c3]) := pureK_eq fun w => by kernel_rfl
theorem bd_api_Entry_0_1_2_3 {K : Value → Prop} {x0 : Int} {x1 : Int} {x2 : Int} {x3 : Int} : pureK Tryd.prog (sBuild T_api_Entry #[(0, .int .i64 x0), (1, .int .i64 x1), (2, .int .i64 x2), (3, .int .i64 x3)]) K = K (.agg #[.int .i64 x0, .int .i64 x1, .int .i64 x2, .int .i64 x3, (.string ⟨#[]⟩), (.int .i64 0), (.int .i64 0), (.slice none 0 0)]) := pureK_eq fun w => by kernel_rfl
theorem bd_api_Producer_0_1 {K : Value → Prop} {x0 : Int} {x1 : Int} : pureK Tryd.prog (sBuild T_api_Producer #[(0, .int .i64 x0), (1, .int .i64 x1)]) K = K (.agg #[.int .i64 x0, .int .i64 x1, (.int .i64 0), (.slice none 0 0)]) := pureK_eq fun w => by kernel_rfl
theorem bd_wire_Reader_0 {K : Value → Prop} {x0 : ByteArray} : pureK Tryd.prog (sBuild T_wire_Reader #[(0, .string x0)]) K = K (.agg #[.string x0, (.bool false)]) := pureK_eq fun w => by kernel_rfl
theorem bd_api_Producer_0 {K : Value → Prop} {x0 : Int} : pureK Tryd.prog (sBuild T_api_Producer #[(0, .int .i64 x0)]) K = K (.agg #[.int .i64 x0, (.int .i64 0), (.int .i64 0), (.slice none 0 0)]) := pureK_eq fun w => by kernel_rfl



end Go.Proofs.YtppnebcpalialaaDoor
