/-
  What the proofs of this seat know of its types, printed by program: each fact is held by the kernel. No condition.
-/
import Derived.Test.YtdecfgbdppfmcaaGreatDoorHeap
import Derived.Test.YtdecfgbdppfmcaaGreatDoorNames
namespace Go.Proofs.YtdecfgbdppfmcaaGreatDoor
open Go.RowKit


theorem sc_int : scB Tryz.prog T_int = true := by kernel_rfl
theorem U_int : Tryz.prog.underlying T_int = some (.int .i64) := by kernel_rfl
theorem z_int : (Tryz.prog.info? T_int).bind (·.zero) = some (.int .i64 0) := by kernel_rfl
theorem sc_bool : scB Tryz.prog T_bool = true := by kernel_rfl
theorem U_bool : Tryz.prog.underlying T_bool = some .bool := by kernel_rfl
theorem z_bool : (Tryz.prog.info? T_bool).bind (·.zero) = some (.bool false) := by kernel_rfl
theorem sc_uint8 : scB Tryz.prog T_uint8 = true := by kernel_rfl
theorem U_uint8 : Tryz.prog.underlying T_uint8 = some (.int .u8) := by kernel_rfl
theorem z_uint8 : (Tryz.prog.info? T_uint8).bind (·.zero) = some (.int .u8 0) := by kernel_rfl
theorem sc_string : scB Tryz.prog T_string = true := by kernel_rfl
theorem U_string : Tryz.prog.underlying T_string = some .string := by kernel_rfl
theorem z_string : (Tryz.prog.info? T_string).bind (·.zero) = some (.string ⟨#[]⟩) := by kernel_rfl
theorem sc_s_api_Replacement : scB Tryz.prog T_s_api_Replacement = true := by kernel_rfl
theorem U_s_api_Replacement : Tryz.prog.underlying T_s_api_Replacement = some (.slice T_api_Replacement) := by kernel_rfl
theorem sl_s_api_Replacement : sliceB Tryz.prog T_s_api_Replacement T_api_Replacement 6 48 = true := by kernel_rfl
theorem z_s_api_Replacement : (Tryz.prog.info? T_s_api_Replacement).bind (·.zero) = some (.slice none 0 0) := by kernel_rfl
theorem ag_api_Budget : agB Tryz.prog T_api_Budget 3 = true := by kernel_rfl
theorem g_api_Budget_0 : fldB Tryz.prog T_api_Budget 0 0 = true := by kernel_rfl
theorem g_api_Budget_1 : fldB Tryz.prog T_api_Budget 1 1 = true := by kernel_rfl
theorem g_api_Budget_2 : fldB Tryz.prog T_api_Budget 2 2 = true := by kernel_rfl
theorem f_api_Budget_0 : fieldB Tryz.prog T_api_Budget 0 0 = true := by kernel_rfl
theorem f_api_Budget_1 : fieldB Tryz.prog T_api_Budget 1 1 = true := by kernel_rfl
theorem f_api_Budget_2 : fieldB Tryz.prog T_api_Budget 2 2 = true := by kernel_rfl
theorem z_api_Budget : (Tryz.prog.info? T_api_Budget).bind (·.zero) = some (.agg #[(.int .i64 0), (.int .i64 0), (.int .i64 0)]) := by kernel_rfl
theorem sc_s_erratalaw47_Op : scB Tryz.prog T_s_erratalaw47_Op = true := by kernel_rfl
theorem U_s_erratalaw47_Op : Tryz.prog.underlying T_s_erratalaw47_Op = some (.slice T_erratalaw47_Op) := by kernel_rfl
theorem sl_s_erratalaw47_Op : sliceB Tryz.prog T_s_erratalaw47_Op T_erratalaw47_Op 7 56 = true := by kernel_rfl
theorem z_s_erratalaw47_Op : (Tryz.prog.info? T_s_erratalaw47_Op).bind (·.zero) = some (.slice none 0 0) := by kernel_rfl
theorem ag_api_Seg : agB Tryz.prog T_api_Seg 2 = true := by kernel_rfl
theorem g_api_Seg_0 : fldB Tryz.prog T_api_Seg 0 0 = true := by kernel_rfl
theorem g_api_Seg_1 : fldB Tryz.prog T_api_Seg 1 1 = true := by kernel_rfl
theorem f_api_Seg_0 : fieldB Tryz.prog T_api_Seg 0 0 = true := by kernel_rfl
theorem f_api_Seg_1 : fieldB Tryz.prog T_api_Seg 1 1 = true := by kernel_rfl
theorem z_api_Seg : (Tryz.prog.info? T_api_Seg).bind (·.zero) = some (.agg #[(.int .i64 0), (.int .i64 0)]) := by kernel_rfl
theorem sc_s_api_Seg : scB Tryz.prog T_s_api_Seg = true := by kernel_rfl
theorem U_s_api_Seg : Tryz.prog.underlying T_s_api_Seg = some (.slice T_api_Seg) := by kernel_rfl
theorem sl_s_api_Seg : sliceB Tryz.prog T_s_api_Seg T_api_Seg 2 16 = true := by kernel_rfl
theorem z_s_api_Seg : (Tryz.prog.info? T_s_api_Seg).bind (·.zero) = some (.slice none 0 0) := by kernel_rfl
theorem ag_erratalaw47_state : agB Tryz.prog T_erratalaw47_state 2 = true := by kernel_rfl
theorem g_erratalaw47_state_0 : fldB Tryz.prog T_erratalaw47_state 0 0 = true := by kernel_rfl
theorem g_erratalaw47_state_1 : fldB Tryz.prog T_erratalaw47_state 1 1 = true := by kernel_rfl
theorem f_erratalaw47_state_0 : fieldB Tryz.prog T_erratalaw47_state 0 0 = true := by kernel_rfl
theorem f_erratalaw47_state_1 : fieldB Tryz.prog T_erratalaw47_state 1 1 = true := by kernel_rfl
theorem z_erratalaw47_state : (Tryz.prog.info? T_erratalaw47_state).bind (·.zero) = some (.agg #[(.slice none 0 0), (.slice none 0 0)]) := by kernel_rfl
theorem sc_api_Errno : scB Tryz.prog T_api_Errno = true := by kernel_rfl
theorem U_api_Errno : Tryz.prog.underlying T_api_Errno = some (.int .i64) := by kernel_rfl
theorem z_api_Errno : (Tryz.prog.info? T_api_Errno).bind (·.zero) = some (.int .i64 0) := by kernel_rfl
theorem ag_erratalaw47_Op : agB Tryz.prog T_erratalaw47_Op 7 = true := by kernel_rfl
theorem g_erratalaw47_Op_0 : fldB Tryz.prog T_erratalaw47_Op 0 0 = true := by kernel_rfl
theorem g_erratalaw47_Op_1 : fldB Tryz.prog T_erratalaw47_Op 1 1 = true := by kernel_rfl
theorem g_erratalaw47_Op_2 : fldB Tryz.prog T_erratalaw47_Op 2 2 = true := by kernel_rfl
theorem g_erratalaw47_Op_3 : fldB Tryz.prog T_erratalaw47_Op 3 3 = true := by kernel_rfl
theorem g_erratalaw47_Op_4 : fldB Tryz.prog T_erratalaw47_Op 4 4 = true := by kernel_rfl
theorem g_erratalaw47_Op_5 : fldB Tryz.prog T_erratalaw47_Op 5 5 = true := by kernel_rfl
theorem g_erratalaw47_Op_6 : fldB Tryz.prog T_erratalaw47_Op 6 6 = true := by kernel_rfl
theorem f_erratalaw47_Op_0 : fieldB Tryz.prog T_erratalaw47_Op 0 0 = true := by kernel_rfl
theorem f_erratalaw47_Op_1 : fieldB Tryz.prog T_erratalaw47_Op 1 1 = true := by kernel_rfl
theorem f_erratalaw47_Op_2 : fieldB Tryz.prog T_erratalaw47_Op 2 2 = true := by kernel_rfl
theorem f_erratalaw47_Op_3 : fieldB Tryz.prog T_erratalaw47_Op 3 3 = true := by kernel_rfl
theorem f_erratalaw47_Op_4 : fieldB Tryz.prog T_erratalaw47_Op 4 4 = true := by kernel_rfl
theorem f_erratalaw47_Op_5 : fieldB Tryz.prog T_erratalaw47_Op 5 5 = true := by kernel_rfl
theorem f_erratalaw47_Op_6 : fieldB Tryz.prog T_erratalaw47_Op 6 6 = true := by kernel_rfl
theorem z_erratalaw47_Op : (Tryz.prog.info? T_erratalaw47_Op).bind (·.zero) = some (.agg #[(.int .i64 0), (.int .i64 0), (.int .i64 0), (.int .i64 0), (.int .i64 0), (.int .i64 0), (.bool false)]) := by kernel_rfl
theorem sc_s_int : scB Tryz.prog T_s_int = true := by kernel_rfl
theorem U_s_int : Tryz.prog.underlying T_s_int = some (.slice T_int) := by kernel_rfl
theorem sl_s_int : sliceB Tryz.prog T_s_int T_int 1 8 = true := by kernel_rfl
theorem z_s_int : (Tryz.prog.info? T_s_int).bind (·.zero) = some (.slice none 0 0) := by kernel_rfl
theorem ag_api_Replacement : agB Tryz.prog T_api_Replacement 6 = true := by kernel_rfl
theorem g_api_Replacement_0 : fldB Tryz.prog T_api_Replacement 0 0 = true := by kernel_rfl
theorem g_api_Replacement_1 : fldB Tryz.prog T_api_Replacement 1 1 = true := by kernel_rfl
theorem g_api_Replacement_2 : fldB Tryz.prog T_api_Replacement 2 2 = true := by kernel_rfl
theorem g_api_Replacement_3 : fldB Tryz.prog T_api_Replacement 3 3 = true := by kernel_rfl
theorem g_api_Replacement_4 : fldB Tryz.prog T_api_Replacement 4 4 = true := by kernel_rfl
theorem g_api_Replacement_5 : fldB Tryz.prog T_api_Replacement 5 5 = true := by kernel_rfl
theorem f_api_Replacement_0 : fieldB Tryz.prog T_api_Replacement 0 0 = true := by kernel_rfl
theorem f_api_Replacement_1 : fieldB Tryz.prog T_api_Replacement 1 1 = true := by kernel_rfl
theorem f_api_Replacement_2 : fieldB Tryz.prog T_api_Replacement 2 2 = true := by kernel_rfl
theorem f_api_Replacement_3 : fieldB Tryz.prog T_api_Replacement 3 3 = true := by kernel_rfl
theorem f_api_Replacement_4 : fieldB Tryz.prog T_api_Replacement 4 4 = true := by kernel_rfl
theorem f_api_Replacement_5 : fieldB Tryz.prog T_api_Replacement 5 5 = true := by kernel_rfl
theorem z_api_Replacement : (Tryz.prog.info? T_api_Replacement).bind (·.zero) = some (.agg #[(.int .i64 0), (.int .i64 0), (.int .i64 0), (.int .i64 0), (.int .i64 0), (.int .i64 0)]) := by kernel_rfl
theorem sc_p_strings_Builder : scB Tryz.prog T_p_strings_Builder = true := by kernel_rfl
theorem U_p_strings_Builder : Tryz.prog.underlying T_p_strings_Builder = some (.pointer (Tryz.prog.pointee T_p_strings_Builder)) := by kernel_rfl
theorem z_p_strings_Builder : (Tryz.prog.info? T_p_strings_Builder).bind (·.zero) = some (.pointer none) := by kernel_rfl
theorem sc_s_uint8 : scB Tryz.prog T_s_uint8 = true := by kernel_rfl
theorem U_s_uint8 : Tryz.prog.underlying T_s_uint8 = some (.slice T_uint8) := by kernel_rfl
theorem sl_s_uint8 : sliceB Tryz.prog T_s_uint8 T_uint8 1 1 = true := by kernel_rfl
theorem z_s_uint8 : (Tryz.prog.info? T_s_uint8).bind (·.zero) = some (.slice none 0 0) := by kernel_rfl
theorem ag_strings_Builder : agB Tryz.prog T_strings_Builder 2 = true := by kernel_rfl
theorem g_strings_Builder_0 : fldB Tryz.prog T_strings_Builder 0 0 = true := by kernel_rfl
theorem g_strings_Builder_1 : fldB Tryz.prog T_strings_Builder 1 1 = true := by kernel_rfl
theorem f_strings_Builder_0 : fieldB Tryz.prog T_strings_Builder 0 0 = true := by kernel_rfl
theorem f_strings_Builder_1 : fieldB Tryz.prog T_strings_Builder 1 1 = true := by kernel_rfl
theorem z_strings_Builder : (Tryz.prog.info? T_strings_Builder).bind (·.zero) = some (.agg #[(.pointer none), (.slice none 0 0)]) := by kernel_rfl
theorem sc_error : scB Tryz.prog T_error = true := by kernel_rfl
theorem z_error : (Tryz.prog.info? T_error).bind (·.zero) = some .nilIface := by kernel_rfl
theorem ag_wire_Reader : agB Tryz.prog T_wire_Reader 2 = true := by kernel_rfl
theorem g_wire_Reader_0 : fldB Tryz.prog T_wire_Reader 0 0 = true := by kernel_rfl
theorem g_wire_Reader_1 : fldB Tryz.prog T_wire_Reader 1 1 = true := by kernel_rfl
theorem f_wire_Reader_0 : fieldB Tryz.prog T_wire_Reader 0 0 = true := by kernel_rfl
theorem f_wire_Reader_1 : fieldB Tryz.prog T_wire_Reader 1 1 = true := by kernel_rfl
theorem z_wire_Reader : (Tryz.prog.info? T_wire_Reader).bind (·.zero) = some (.agg #[(.string ⟨#[]⟩), (.bool false)]) := by kernel_rfl
theorem ag_errataref01_Reader : agB Tryz.prog T_errataref01_Reader 2 = true := by kernel_rfl
theorem g_errataref01_Reader_0 : fldB Tryz.prog T_errataref01_Reader 0 0 = true := by kernel_rfl
theorem g_errataref01_Reader_1 : fldB Tryz.prog T_errataref01_Reader 1 1 = true := by kernel_rfl
theorem f_errataref01_Reader_0 : fieldB Tryz.prog T_errataref01_Reader 0 0 = true := by kernel_rfl
theorem f_errataref01_Reader_1 : fieldB Tryz.prog T_errataref01_Reader 1 1 = true := by kernel_rfl
theorem z_errataref01_Reader : (Tryz.prog.info? T_errataref01_Reader).bind (·.zero) = some (.agg #[(.string ⟨#[]⟩), (.bool false)]) := by kernel_rfl
theorem sc_uint : scB Tryz.prog T_uint = true := by kernel_rfl
theorem U_uint : Tryz.prog.underlying T_uint = some (.int .u64) := by kernel_rfl
theorem z_uint : (Tryz.prog.info? T_uint).bind (·.zero) = some (.int .u64 0) := by kernel_rfl
theorem sc_slices_sortedHint : scB Tryz.prog T_slices_sortedHint = true := by kernel_rfl
theorem U_slices_sortedHint : Tryz.prog.underlying T_slices_sortedHint = some (.int .i64) := by kernel_rfl
theorem z_slices_sortedHint : (Tryz.prog.info? T_slices_sortedHint).bind (·.zero) = some (.int .i64 0) := by kernel_rfl
theorem z_unsafe_Pointer : (Tryz.prog.info? T_unsafe_Pointer).bind (·.zero) = some (.pointer none) := by kernel_rfl
theorem sc_slices_xorshift : scB Tryz.prog T_slices_xorshift = true := by kernel_rfl
theorem U_slices_xorshift : Tryz.prog.underlying T_slices_xorshift = some (.int .u64) := by kernel_rfl
theorem z_slices_xorshift : (Tryz.prog.info? T_slices_xorshift).bind (·.zero) = some (.int .u64 0) := by kernel_rfl

structure D_api_Budget where
  rate : Int
  most : Int
  saved : Int
  deriving DecidableEq
abbrev D_api_Budget.v (p : D_api_Budget) : Value := .agg #[.int .i64 p.rate, .int .i64 p.most, .int .i64 p.saved]
abbrev D_api_Budget.cs (p : D_api_Budget) : List Value := [.int .i64 p.rate, .int .i64 p.most, .int .i64 p.saved]
instance : Enc D_api_Budget where
  sz := 3
  cells p := p.cs
  val p := p.v
  pos := by omega
  len _ := rfl
  one p v (hv : v ∈ p.cs) := by
    simp only [List.mem_cons, List.not_mem_nil, or_false] at hv
    rcases hv with rfl | rfl | rfl <;> first | rfl | exact SV.prop _
  cells_val _ := rfl
structure D_api_Seg where
  from_ : Int
  version : Int
  deriving DecidableEq
abbrev D_api_Seg.v (p : D_api_Seg) : Value := .agg #[.int .i64 p.from_, .int .i64 p.version]
abbrev D_api_Seg.cs (p : D_api_Seg) : List Value := [.int .i64 p.from_, .int .i64 p.version]
instance : Enc D_api_Seg where
  sz := 2
  cells p := p.cs
  val p := p.v
  pos := by omega
  len _ := rfl
  one p v (hv : v ∈ p.cs) := by
    simp only [List.mem_cons, List.not_mem_nil, or_false] at hv
    rcases hv with rfl | rfl <;> first | rfl | exact SV.prop _
  cells_val _ := rfl
structure D_erratalaw47_state where
  l : SV
  t : SV
abbrev D_erratalaw47_state.v (p : D_erratalaw47_state) : Value := .agg #[p.l.1, p.t.1]
abbrev D_erratalaw47_state.cs (p : D_erratalaw47_state) : List Value := [p.l.1, p.t.1]
instance : Enc D_erratalaw47_state where
  sz := 2
  cells p := p.cs
  val p := p.v
  pos := by omega
  len _ := rfl
  one p v (hv : v ∈ p.cs) := by
    simp only [List.mem_cons, List.not_mem_nil, or_false] at hv
    rcases hv with rfl | rfl <;> first | rfl | exact SV.prop _
  cells_val _ := rfl
structure D_erratalaw47_Op where
  do_ : Int
  no : Int
  from_ : Int
  version : Int
  back : Int
  horizon : Int
  raise : Bool
  deriving DecidableEq
abbrev D_erratalaw47_Op.v (p : D_erratalaw47_Op) : Value := .agg #[.int .i64 p.do_, .int .i64 p.no, .int .i64 p.from_, .int .i64 p.version, .int .i64 p.back, .int .i64 p.horizon, .bool p.raise]
abbrev D_erratalaw47_Op.cs (p : D_erratalaw47_Op) : List Value := [.int .i64 p.do_, .int .i64 p.no, .int .i64 p.from_, .int .i64 p.version, .int .i64 p.back, .int .i64 p.horizon, .bool p.raise]
instance : Enc D_erratalaw47_Op where
  sz := 7
  cells p := p.cs
  val p := p.v
  pos := by omega
  len _ := rfl
  one p v (hv : v ∈ p.cs) := by
    simp only [List.mem_cons, List.not_mem_nil, or_false] at hv
    rcases hv with rfl | rfl | rfl | rfl | rfl | rfl | rfl <;> first | rfl | exact SV.prop _
  cells_val _ := rfl
structure D_api_Replacement where
  no : Int
  from_ : Int
  version : Int
  start : Int
  state : Int
  cut : Int
  deriving DecidableEq
abbrev D_api_Replacement.v (p : D_api_Replacement) : Value := .agg #[.int .i64 p.no, .int .i64 p.from_, .int .i64 p.version, .int .i64 p.start, .int .i64 p.state, .int .i64 p.cut]
abbrev D_api_Replacement.cs (p : D_api_Replacement) : List Value := [.int .i64 p.no, .int .i64 p.from_, .int .i64 p.version, .int .i64 p.start, .int .i64 p.state, .int .i64 p.cut]
instance : Enc D_api_Replacement where
  sz := 6
  cells p := p.cs
  val p := p.v
  pos := by omega
  len _ := rfl
  one p v (hv : v ∈ p.cs) := by
    simp only [List.mem_cons, List.not_mem_nil, or_false] at hv
    rcases hv with rfl | rfl | rfl | rfl | rfl | rfl <;> first | rfl | exact SV.prop _
  cells_val _ := rfl
structure D_strings_Builder where
  addr : SV
  buf : SV
abbrev D_strings_Builder.v (p : D_strings_Builder) : Value := .agg #[p.addr.1, p.buf.1]
abbrev D_strings_Builder.cs (p : D_strings_Builder) : List Value := [p.addr.1, p.buf.1]
instance : Enc D_strings_Builder where
  sz := 2
  cells p := p.cs
  val p := p.v
  pos := by omega
  len _ := rfl
  one p v (hv : v ∈ p.cs) := by
    simp only [List.mem_cons, List.not_mem_nil, or_false] at hv
    rcases hv with rfl | rfl <;> first | rfl | exact SV.prop _
  cells_val _ := rfl
structure D_wire_Reader where
  rest_ : ByteArray
  bad : Bool
  deriving DecidableEq
abbrev D_wire_Reader.v (p : D_wire_Reader) : Value := .agg #[.string p.rest_, .bool p.bad]
abbrev D_wire_Reader.cs (p : D_wire_Reader) : List Value := [.string p.rest_, .bool p.bad]
instance : Enc D_wire_Reader where
  sz := 2
  cells p := p.cs
  val p := p.v
  pos := by omega
  len _ := rfl
  one p v (hv : v ∈ p.cs) := by
    simp only [List.mem_cons, List.not_mem_nil, or_false] at hv
    rcases hv with rfl | rfl <;> first | rfl | exact SV.prop _
  cells_val _ := rfl
structure D_errataref01_Reader where
  rest_ : ByteArray
  bad : Bool
  deriving DecidableEq
abbrev D_errataref01_Reader.v (p : D_errataref01_Reader) : Value := .agg #[.string p.rest_, .bool p.bad]
abbrev D_errataref01_Reader.cs (p : D_errataref01_Reader) : List Value := [.string p.rest_, .bool p.bad]
instance : Enc D_errataref01_Reader where
  sz := 2
  cells p := p.cs
  val p := p.v
  pos := by omega
  len _ := rfl
  one p v (hv : v ∈ p.cs) := by
    simp only [List.mem_cons, List.not_mem_nil, or_false] at hv
    rcases hv with rfl | rfl <;> first | rfl | exact SV.prop _
  cells_val _ := rfl

theorem bd_api_Seg_1 {K : Value → Prop} {x1 : Int} : pureK Tryz.prog (sBuild T_api_Seg #[(1, .int .i64 x1)]) K = K (.agg #[(.int .i64 0), .int .i64 x1]) := pureK_eq fun w => by kernel_rfl
theorem bd_erratalaw47_state_1 {K : Value → Prop} {x1 : Option Addr} {n1 c1 : Nat} : pureK Tryz.prog (sBuild T_erratalaw47_state #[(1, .slice x1 n1 c1)]) K = K (.agg #[(.slice none 0 0), .slice x1 n1 c1]) := pureK_eq fun w => by kernel_rfl
theorem bd_api_Replacement_0_1_2_3_4_5 {K : Value → Prop} {x0 : Int} {x1 : Int} {x2 : Int} {x3 : Int} {x4 : Int} {x5 : Int} : pureK Tryz.prog (sBuild T_api_Replacement #[(0, .int .i64 x0), (1, .int .i64 x1), (2, .int .i64 x2), (3, .int .i64 x3), (4, .int .i64 x4), (5, .int .i64 x5)]) K = K (.agg #[.int .i64 x0, .int .i64 x1, .int .i64 x2, .int .i64 x3, .int .i64 x4, .int .i64 x5]) := pureK_eq fun w => by kernel_rfl
theorem bd_api_Replacement_0_1 {K : Value → Prop} {x0 : Int} {x1 : Int} : pureK Tryz.prog (sBuild T_api_Replacement #[(0, .int .i64 x0), (1, .int .i64 x1)]) K = K (.agg #[.int .i64 x0, .int .i64 x1, (.int .i64 0), (.int .i64 0), (.int .i64 0), (.int .i64 0)]) := pureK_eq fun w => by kernel_rfl
theorem bd_api_Replacement_0_1_2_3 {K : Value → Prop} {x0 : Int} {x1 : Int} {x2 : Int} {x3 : Int} : pureK Tryz.prog (sBuild T_api_Replacement #[(0, .int .i64 x0), (1, .int .i64 x1), (2, .int .i64 x2), (3, .int .i64 x3)]) K = K (.agg #[.int .i64 x0, .int .i64 x1, .int .i64 x2, .int .i64 x3, (.int .i64 0), (.int .i64 0)]) := pureK_eq fun w => by kernel_rfl
theorem bd_wire_Reader_0 {K : Value → Prop} {x0 : ByteArray} : pureK Tryz.prog (sBuild T_wire_Reader #[(0, .string x0)]) K = K (.agg #[.string x0, (.bool false)]) := pureK_eq fun w => by kernel_rfl
theorem bd_errataref01_Reader_0 {K : Value → Prop} {x0 : ByteArray} : pureK Tryz.prog (sBuild T_errataref01_Reader #[(0, .string x0)]) K = K (.agg #[.string x0, (.bool false)]) := pureK_eq fun w => by kernel_rfl
theorem bd_api_Replacement_ {K : Value → Prop}  : pureK Tryz.prog (sBuild T_api_Replacement #[]) K = K (.agg #[(.int .i64 0), (.int .i64 0), (.int .i64 0), (.int .i64 0), (.int .i64 0), (.int .i64 0)]) := pureK_eq fun w => by kernel_rfl
theorem bd_api_Seg_0_1 {K : Value → Prop} {x0 : Int} {x1 : Int} : pureK Tryz.prog (sBuild T_api_Seg #[(0, .int .i64 x0), (1, .int .i64 x1)]) K = K (.agg #[.int .i64 x0, .int .i64 x1]) := pureK_eq fun w => by kernel_rfl

theorem fl_api_Budget : (Tryz.prog.fieldsOf T_api_Budget).toList = [{ name := "Rate", type := T_int, offset := 0, embedded := false, tag := "", pkgPath := "", byteOffset := 0 }, { name := "Most", type := T_int, offset := 1, embedded := false, tag := "", pkgPath := "", byteOffset := 8 }, { name := "Saved", type := T_int, offset := 2, embedded := false, tag := "", pkgPath := "", byteOffset := 16 }] := by kernel_rfl
theorem run_eq_api_Budget (p q : D_api_Budget) (w : World) : (Op.equalIn 10000 T_api_Budget p.v q.v).run Tryz.prog w = .ok (decide (p = q)) w := by
  obtain ⟨a0, a1, a2⟩ := p
  obtain ⟨b0, b1, b2⟩ := q
  show (Op.equalIn 10000 T_api_Budget (.agg #[.int .i64 a0, .int .i64 a1, .int .i64 a2]) (.agg #[.int .i64 b0, .int .i64 b1, .int .i64 b2])).run Tryz.prog w = _
  rw [show (10000 : Nat) = 9999 + 1 from rfl, run_equalIn_agg w 9999 T_api_Budget _ _ (by kernel_rfl) (by kernel_rfl), fl_api_Budget]
  rw [show (9999 : Nat) = 9998 + 1 from rfl]
  have e : decide ((⟨a0, a1, a2⟩ : D_api_Budget) = ⟨b0, b1, b2⟩) = (decide (a0 = b0) && (decide (a1 = b1) && (decide (a2 = b2) && true))) := by
    rw [Bool.eq_iff_iff]; simp
  rw [e]
  have h0 := run_equalIn_int (P := Tryz.prog) w 9998 T_int .i64 .i64 a0 b0 (by kernel_rfl)
  have h1 := run_equalIn_int (P := Tryz.prog) w 9998 T_int .i64 .i64 a1 b1 (by kernel_rfl)
  have h2 := run_equalIn_int (P := Tryz.prog) w 9998 T_int .i64 .i64 a2 b2 (by kernel_rfl)
  exact eqF_cons (by decide) (part_sc (by kernel_rfl) rfl) (part_sc (by kernel_rfl) rfl) h0 <| eqF_cons (by decide) (part_sc (by kernel_rfl) rfl) (part_sc (by kernel_rfl) rfl) h1 <| eqF_cons (by decide) (part_sc (by kernel_rfl) rfl) (part_sc (by kernel_rfl) rfl) h2 <| eqF_nil
theorem eq_api_Budget {K : Value → Prop} {xo yo : Operand} (p q : D_api_Budget) : pureK Tryz.prog (sBin .eql T_api_Budget xo yo p.v q.v) K = K (.bool (decide (p = q))) := pureK_eq fun w => by
  refine sBin_eq (run_eqGuard_agg w .eql _ _ _ _ _ (by kernel_rfl)) ?_
  show (binOp .eql T_api_Budget (.agg _) (.agg _)).run _ _ = _
  rw [run_eql_struct]
  have := run_eq_api_Budget p q w
  rw [show (p.v : Value) = .agg _ from rfl, show (q.v : Value) = .agg _ from rfl] at this
  rw [this]
  rfl
theorem neq_api_Budget {K : Value → Prop} {xo yo : Operand} (p q : D_api_Budget) : pureK Tryz.prog (sBin .neq T_api_Budget xo yo p.v q.v) K = K (.bool (!decide (p = q))) := pureK_eq fun w => by
  refine sBin_eq (run_eqGuard_agg w .neq _ _ _ _ _ (by kernel_rfl)) ?_
  show (binOp .neq T_api_Budget (.agg _) (.agg _)).run _ _ = _
  rw [run_neq_struct]
  have := run_eq_api_Budget p q w
  rw [show (p.v : Value) = .agg _ from rfl, show (q.v : Value) = .agg _ from rfl] at this
  rw [this]
  rfl
theorem fl_api_Replacement : (Tryz.prog.fieldsOf T_api_Replacement).toList = [{ name := "No", type := T_int, offset := 0, embedded := false, tag := "", pkgPath := "", byteOffset := 0 }, { name := "From", type := T_int, offset := 1, embedded := false, tag := "", pkgPath := "", byteOffset := 8 }, { name := "Version", type := T_int, offset := 2, embedded := false, tag := "", pkgPath := "", byteOffset := 16 }, { name := "Start", type := T_int, offset := 3, embedded := false, tag := "", pkgPath := "", byteOffset := 24 }, { name := "State", type := T_int, offset := 4, embedded := false, tag := "", pkgPath := "", byteOffset := 32 }, { name := "Cut", type := T_int, offset := 5, embedded := false, tag := "", pkgPath := "", byteOffset := 40 }] := by kernel_rfl
theorem run_eq_api_Replacement (p q : D_api_Replacement) (w : World) : (Op.equalIn 10000 T_api_Replacement p.v q.v).run Tryz.prog w = .ok (decide (p = q)) w := by
  obtain ⟨a0, a1, a2, a3, a4, a5⟩ := p
  obtain ⟨b0, b1, b2, b3, b4, b5⟩ := q
  show (Op.equalIn 10000 T_api_Replacement (.agg #[.int .i64 a0, .int .i64 a1, .int .i64 a2, .int .i64 a3, .int .i64 a4, .int .i64 a5]) (.agg #[.int .i64 b0, .int .i64 b1, .int .i64 b2, .int .i64 b3, .int .i64 b4, .int .i64 b5])).run Tryz.prog w = _
  rw [show (10000 : Nat) = 9999 + 1 from rfl, run_equalIn_agg w 9999 T_api_Replacement _ _ (by kernel_rfl) (by kernel_rfl), fl_api_Replacement]
  rw [show (9999 : Nat) = 9998 + 1 from rfl]
  have e : decide ((⟨a0, a1, a2, a3, a4, a5⟩ : D_api_Replacement) = ⟨b0, b1, b2, b3, b4, b5⟩) = (decide (a0 = b0) && (decide (a1 = b1) && (decide (a2 = b2) && (decide (a3 = b3) && (decide (a4 = b4) && (decide (a5 = b5) && true)))))) := by
    rw [Bool.eq_iff_iff]; simp
  rw [e]
  have h0 := run_equalIn_int (P := Tryz.prog) w 9998 T_int .i64 .i64 a0 b0 (by kernel_rfl)
  have h1 := run_equalIn_int (P := Tryz.prog) w 9998 T_int .i64 .i64 a1 b1 (by kernel_rfl)
  have h2 := run_equalIn_int (P := Tryz.prog) w 9998 T_int .i64 .i64 a2 b2 (by kernel_rfl)
  have h3 := run_equalIn_int (P := Tryz.prog) w 9998 T_int .i64 .i64 a3 b3 (by kernel_rfl)
  have h4 := run_equalIn_int (P := Tryz.prog) w 9998 T_int .i64 .i64 a4 b4 (by kernel_rfl)
  have h5 := run_equalIn_int (P := Tryz.prog) w 9998 T_int .i64 .i64 a5 b5 (by kernel_rfl)
  exact eqF_cons (by decide) (part_sc (by kernel_rfl) rfl) (part_sc (by kernel_rfl) rfl) h0 <| eqF_cons (by decide) (part_sc (by kernel_rfl) rfl) (part_sc (by kernel_rfl) rfl) h1 <| eqF_cons (by decide) (part_sc (by kernel_rfl) rfl) (part_sc (by kernel_rfl) rfl) h2 <| eqF_cons (by decide) (part_sc (by kernel_rfl) rfl) (part_sc (by kernel_rfl) rfl) h3 <| eqF_cons (by decide) (part_sc (by kernel_rfl) rfl) (part_sc (by kernel_rfl) rfl) h4 <| eqF_cons (by decide) (part_sc (by kernel_rfl) rfl) (part_sc (by kernel_rfl) rfl) h5 <| eqF_nil
theorem eq_api_Replacement {K : Value → Prop} {xo yo : Operand} (p q : D_api_Replacement) : pureK Tryz.prog (sBin .eql T_api_Replacement xo yo p.v q.v) K = K (.bool (decide (p = q))) := pureK_eq fun w => by
  refine sBin_eq (run_eqGuard_agg w .eql _ _ _ _ _ (by kernel_rfl)) ?_
  show (binOp .eql T_api_Replacement (.agg _) (.agg _)).run _ _ = _
  rw [run_eql_struct]
  have := run_eq_api_Replacement p q w
  rw [show (p.v : Value) = .agg _ from rfl, show (q.v : Value) = .agg _ from rfl] at this
  rw [this]
  rfl
theorem neq_api_Replacement {K : Value → Prop} {xo yo : Operand} (p q : D_api_Replacement) : pureK Tryz.prog (sBin .neq T_api_Replacement xo yo p.v q.v) K = K (.bool (!decide (p = q))) := pureK_eq fun w => by
  refine sBin_eq (run_eqGuard_agg w .neq _ _ _ _ _ (by kernel_rfl)) ?_
  show (binOp .neq T_api_Replacement (.agg _) (.agg _)).run _ _ = _
  rw [run_neq_struct]
  have := run_eq_api_Replacement p q w
  rw [show (p.v : Value) = .agg _ from rfl, show (q.v : Value) = .agg _ from rfl] at this
  rw [this]
  rfl
theorem fl_api_Seg : (Tryz.prog.fieldsOf T_api_Seg).toList = [{ name := "From", type := T_int, offset := 0, embedded := false, tag := "", pkgPath := "", byteOffset := 0 }, { name := "Version", type := T_int, offset := 1, embedded := false, tag := "", pkgPath := "", byteOffset := 8 }] := by kernel_rfl
theorem run_eq_api_Seg (p q : D_api_Seg) (w : World) : (Op.equalIn 10000 T_api_Seg p.v q.v).run Tryz.prog w = .ok (decide (p = q)) w := by
  obtain ⟨a0, a1⟩ := p
  obtain ⟨b0, b1⟩ := q
  show (Op.equalIn 10000 T_api_Seg (.agg #[.int .i64 a0, .int .i64 a1]) (.agg #[.int .i64 b0, .int .i64 b1])).run Tryz.prog w = _
  rw [show (10000 : Nat) = 9999 + 1 from rfl, run_equalIn_agg w 9999 T_api_Seg _ _ (by kernel_rfl) (by kernel_rfl), fl_api_Seg]
  rw [show (9999 : Nat) = 9998 + 1 from rfl]
  have e : decide ((⟨a0, a1⟩ : D_api_Seg) = ⟨b0, b1⟩) = (decide (a0 = b0) && (decide (a1 = b1) && true)) := by
    rw [Bool.eq_iff_iff]; simp
  rw [e]
  have h0 := run_equalIn_int (P := Tryz.prog) w 9998 T_int .i64 .i64 a0 b0 (by kernel_rfl)
  have h1 := run_equalIn_int (P := Tryz.prog) w 9998 T_int .i64 .i64 a1 b1 (by kernel_rfl)
  exact eqF_cons (by decide) (part_sc (by kernel_rfl) rfl) (part_sc (by kernel_rfl) rfl) h0 <| eqF_cons (by decide) (part_sc (by kernel_rfl) rfl) (part_sc (by kernel_rfl) rfl) h1 <| eqF_nil
theorem eq_api_Seg {K : Value → Prop} {xo yo : Operand} (p q : D_api_Seg) : pureK Tryz.prog (sBin .eql T_api_Seg xo yo p.v q.v) K = K (.bool (decide (p = q))) := pureK_eq fun w => by
  refine sBin_eq (run_eqGuard_agg w .eql _ _ _ _ _ (by kernel_rfl)) ?_
  show (binOp .eql T_api_Seg (.agg _) (.agg _)).run _ _ = _
  rw [run_eql_struct]
  have := run_eq_api_Seg p q w
  rw [show (p.v : Value) = .agg _ from rfl, show (q.v : Value) = .agg _ from rfl] at this
  rw [this]
  rfl
theorem neq_api_Seg {K : Value → Prop} {xo yo : Operand} (p q : D_api_Seg) : pureK Tryz.prog (sBin .neq T_api_Seg xo yo p.v q.v) K = K (.bool (!decide (p = q))) := pureK_eq fun w => by
  refine sBin_eq (run_eqGuard_agg w .neq _ _ _ _ _ (by kernel_rfl)) ?_
  show (binOp .neq T_api_Seg (.agg _) (.agg _)).run _ _ = _
  rw [run_neq_struct]
  have := run_eq_api_Seg p q w
  rw [show (p.v : Value) = .agg _ from rfl, show (q.v : Value) = .agg _ from rfl] at this
  rw [this]
  rfl

end Go.Proofs.YtdecfgbdppfmcaaGreatDoor
