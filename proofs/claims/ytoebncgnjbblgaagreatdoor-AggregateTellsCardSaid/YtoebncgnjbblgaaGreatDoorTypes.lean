/-
  What the proofs of this seat know of its types, printed by program: each fact is held by the kernel. No condition.
-/
import Derived.Test.YtoebncgnjbblgaaGreatDoorHeap
import Derived.Test.YtoebncgnjbblgaaGreatDoorNames
namespace Go.Proofs.YtoebncgnjbblgaaGreatDoor
open Go.RowKit


theorem sc_int : scB Tryz.prog T_int = true := by kernel_rfl
theorem U_int : Tryz.prog.underlying T_int = some (.int .i64) := by kernel_rfl
theorem z_int : (Tryz.prog.info? T_int).bind (·.zero) = some (.int .i64 0) := by kernel_rfl
theorem sc_bool : scB Tryz.prog T_bool = true := by kernel_rfl
theorem U_bool : Tryz.prog.underlying T_bool = some .bool := by kernel_rfl
theorem z_bool : (Tryz.prog.info? T_bool).bind (·.zero) = some (.bool false) := by kernel_rfl
theorem sc_uint8 : scB Tryz.prog T_uint8 = true := by kernel_rfl
theorem U_uint8 : Tryz.prog.underlying T_uint8 = some (.int .u8) := by kernel_rfl
theorem z_uint8 : (Tryz.prog.info? T_uint8).bind (·.zero) = some (.int .u8 0) := by kernel_rfl
theorem sc_string : scB Tryz.prog T_string = true := by kernel_rfl
theorem U_string : Tryz.prog.underlying T_string = some .string := by kernel_rfl
theorem z_string : (Tryz.prog.info? T_string).bind (·.zero) = some (.string ⟨#[]⟩) := by kernel_rfl
theorem sc_interface : scB Tryz.prog T_interface = true := by kernel_rfl
theorem z_interface : (Tryz.prog.info? T_interface).bind (·.zero) = some .nilIface := by kernel_rfl
theorem sc_s_api_Agg : scB Tryz.prog T_s_api_Agg = true := by kernel_rfl
theorem U_s_api_Agg : Tryz.prog.underlying T_s_api_Agg = some (.slice T_api_Agg) := by kernel_rfl
theorem sl_s_api_Agg : sliceB Tryz.prog T_s_api_Agg T_api_Agg 3 32 = true := by kernel_rfl
theorem z_s_api_Agg : (Tryz.prog.info? T_s_api_Agg).bind (·.zero) = some (.slice none 0 0) := by kernel_rfl
theorem sc_s_erratalaw30_Change : scB Tryz.prog T_s_erratalaw30_Change = true := by kernel_rfl
theorem U_s_erratalaw30_Change : Tryz.prog.underlying T_s_erratalaw30_Change = some (.slice T_erratalaw30_Change) := by kernel_rfl
theorem sl_s_erratalaw30_Change : sliceB Tryz.prog T_s_erratalaw30_Change T_erratalaw30_Change 2 32 = true := by kernel_rfl
theorem z_s_erratalaw30_Change : (Tryz.prog.info? T_s_erratalaw30_Change).bind (·.zero) = some (.slice none 0 0) := by kernel_rfl
theorem sc_p_aggregate_Acc : scB Tryz.prog T_p_aggregate_Acc = true := by kernel_rfl
theorem U_p_aggregate_Acc : Tryz.prog.underlying T_p_aggregate_Acc = some (.pointer (Tryz.prog.pointee T_p_aggregate_Acc)) := by kernel_rfl
theorem z_p_aggregate_Acc : (Tryz.prog.info? T_p_aggregate_Acc).bind (·.zero) = some (.pointer none) := by kernel_rfl
theorem sc_s_api_Value : scB Tryz.prog T_s_api_Value = true := by kernel_rfl
theorem U_s_api_Value : Tryz.prog.underlying T_s_api_Value = some (.slice T_api_Value) := by kernel_rfl
theorem sl_s_api_Value : sliceB Tryz.prog T_s_api_Value T_api_Value 3 32 = true := by kernel_rfl
theorem z_s_api_Value : (Tryz.prog.info? T_s_api_Value).bind (·.zero) = some (.slice none 0 0) := by kernel_rfl
theorem ag_erratalaw30_Change : agB Tryz.prog T_erratalaw30_Change 2 = true := by kernel_rfl
theorem g_erratalaw30_Change_0 : fldB Tryz.prog T_erratalaw30_Change 0 0 = true := by kernel_rfl
theorem g_erratalaw30_Change_1 : fldB Tryz.prog T_erratalaw30_Change 1 1 = true := by kernel_rfl
theorem f_erratalaw30_Change_0 : fieldB Tryz.prog T_erratalaw30_Change 0 0 = true := by kernel_rfl
theorem f_erratalaw30_Change_1 : fieldB Tryz.prog T_erratalaw30_Change 1 1 = true := by kernel_rfl
theorem z_erratalaw30_Change : (Tryz.prog.info? T_erratalaw30_Change).bind (·.zero) = some (.agg #[(.slice none 0 0), (.int .i64 0)]) := by kernel_rfl
theorem sc_s_api_Col : scB Tryz.prog T_s_api_Col = true := by kernel_rfl
theorem U_s_api_Col : Tryz.prog.underlying T_s_api_Col = some (.slice T_api_Col) := by kernel_rfl
theorem sl_s_api_Col : sliceB Tryz.prog T_s_api_Col T_api_Col 3 40 = true := by kernel_rfl
theorem z_s_api_Col : (Tryz.prog.info? T_s_api_Col).bind (·.zero) = some (.slice none 0 0) := by kernel_rfl
theorem sc_p_errataref30_Acc : scB Tryz.prog T_p_errataref30_Acc = true := by kernel_rfl
theorem U_p_errataref30_Acc : Tryz.prog.underlying T_p_errataref30_Acc = some (.pointer (Tryz.prog.pointee T_p_errataref30_Acc)) := by kernel_rfl
theorem z_p_errataref30_Acc : (Tryz.prog.info? T_p_errataref30_Acc).bind (·.zero) = some (.pointer none) := by kernel_rfl
theorem sc_s_int : scB Tryz.prog T_s_int = true := by kernel_rfl
theorem U_s_int : Tryz.prog.underlying T_s_int = some (.slice T_int) := by kernel_rfl
theorem sl_s_int : sliceB Tryz.prog T_s_int T_int 1 8 = true := by kernel_rfl
theorem z_s_int : (Tryz.prog.info? T_s_int).bind (·.zero) = some (.slice none 0 0) := by kernel_rfl
theorem sc_s_s_errataref30_Counted : scB Tryz.prog T_s_s_errataref30_Counted = true := by kernel_rfl
theorem U_s_s_errataref30_Counted : Tryz.prog.underlying T_s_s_errataref30_Counted = some (.slice T_s_errataref30_Counted) := by kernel_rfl
theorem sl_s_s_errataref30_Counted : sliceB Tryz.prog T_s_s_errataref30_Counted T_s_errataref30_Counted 1 24 = true := by kernel_rfl
theorem z_s_s_errataref30_Counted : (Tryz.prog.info? T_s_s_errataref30_Counted).bind (·.zero) = some (.slice none 0 0) := by kernel_rfl
theorem ag_errataref30_Acc : agB Tryz.prog T_errataref30_Acc 4 = true := by kernel_rfl
theorem g_errataref30_Acc_0 : fldB Tryz.prog T_errataref30_Acc 0 0 = true := by kernel_rfl
theorem g_errataref30_Acc_1 : fldB Tryz.prog T_errataref30_Acc 1 1 = true := by kernel_rfl
theorem g_errataref30_Acc_2 : fldB Tryz.prog T_errataref30_Acc 2 2 = true := by kernel_rfl
theorem g_errataref30_Acc_3 : fldB Tryz.prog T_errataref30_Acc 3 3 = true := by kernel_rfl
theorem f_errataref30_Acc_0 : fieldB Tryz.prog T_errataref30_Acc 0 0 = true := by kernel_rfl
theorem f_errataref30_Acc_1 : fieldB Tryz.prog T_errataref30_Acc 1 1 = true := by kernel_rfl
theorem f_errataref30_Acc_2 : fieldB Tryz.prog T_errataref30_Acc 2 2 = true := by kernel_rfl
theorem f_errataref30_Acc_3 : fieldB Tryz.prog T_errataref30_Acc 3 3 = true := by kernel_rfl
theorem z_errataref30_Acc : (Tryz.prog.info? T_errataref30_Acc).bind (·.zero) = some (.agg #[(.slice none 0 0), (.int .i64 0), (.slice none 0 0), (.slice none 0 0)]) := by kernel_rfl
theorem sc_api_Errno : scB Tryz.prog T_api_Errno = true := by kernel_rfl
theorem U_api_Errno : Tryz.prog.underlying T_api_Errno = some (.int .i64) := by kernel_rfl
theorem z_api_Errno : (Tryz.prog.info? T_api_Errno).bind (·.zero) = some (.int .i64 0) := by kernel_rfl
theorem ag_api_Agg : agB Tryz.prog T_api_Agg 3 = true := by kernel_rfl
theorem g_api_Agg_0 : fldB Tryz.prog T_api_Agg 0 0 = true := by kernel_rfl
theorem g_api_Agg_1 : fldB Tryz.prog T_api_Agg 1 1 = true := by kernel_rfl
theorem g_api_Agg_2 : fldB Tryz.prog T_api_Agg 2 2 = true := by kernel_rfl
theorem f_api_Agg_0 : fieldB Tryz.prog T_api_Agg 0 0 = true := by kernel_rfl
theorem f_api_Agg_1 : fieldB Tryz.prog T_api_Agg 1 1 = true := by kernel_rfl
theorem f_api_Agg_2 : fieldB Tryz.prog T_api_Agg 2 2 = true := by kernel_rfl
theorem z_api_Agg : (Tryz.prog.info? T_api_Agg).bind (·.zero) = some (.agg #[(.int .i64 0), (.int .i64 0), (.string ⟨#[]⟩)]) := by kernel_rfl
theorem ag_api_Value : agB Tryz.prog T_api_Value 3 = true := by kernel_rfl
theorem g_api_Value_0 : fldB Tryz.prog T_api_Value 0 0 = true := by kernel_rfl
theorem g_api_Value_1 : fldB Tryz.prog T_api_Value 1 1 = true := by kernel_rfl
theorem g_api_Value_2 : fldB Tryz.prog T_api_Value 2 2 = true := by kernel_rfl
theorem f_api_Value_0 : fieldB Tryz.prog T_api_Value 0 0 = true := by kernel_rfl
theorem f_api_Value_1 : fieldB Tryz.prog T_api_Value 1 1 = true := by kernel_rfl
theorem f_api_Value_2 : fieldB Tryz.prog T_api_Value 2 2 = true := by kernel_rfl
theorem z_api_Value : (Tryz.prog.info? T_api_Value).bind (·.zero) = some (.agg #[(.int .i64 0), (.int .i64 0), (.string ⟨#[]⟩)]) := by kernel_rfl
theorem sc_s_map_api_Value_int : scB Tryz.prog T_s_map_api_Value_int = true := by kernel_rfl
theorem U_s_map_api_Value_int : Tryz.prog.underlying T_s_map_api_Value_int = some (.slice T_map_api_Value_int) := by kernel_rfl
theorem sl_s_map_api_Value_int : sliceB Tryz.prog T_s_map_api_Value_int T_map_api_Value_int 1 8 = true := by kernel_rfl
theorem z_s_map_api_Value_int : (Tryz.prog.info? T_s_map_api_Value_int).bind (·.zero) = some (.slice none 0 0) := by kernel_rfl
theorem ag_aggregate_Acc : agB Tryz.prog T_aggregate_Acc 4 = true := by kernel_rfl
theorem g_aggregate_Acc_0 : fldB Tryz.prog T_aggregate_Acc 0 0 = true := by kernel_rfl
theorem g_aggregate_Acc_1 : fldB Tryz.prog T_aggregate_Acc 1 1 = true := by kernel_rfl
theorem g_aggregate_Acc_2 : fldB Tryz.prog T_aggregate_Acc 2 2 = true := by kernel_rfl
theorem g_aggregate_Acc_3 : fldB Tryz.prog T_aggregate_Acc 3 3 = true := by kernel_rfl
theorem f_aggregate_Acc_0 : fieldB Tryz.prog T_aggregate_Acc 0 0 = true := by kernel_rfl
theorem f_aggregate_Acc_1 : fieldB Tryz.prog T_aggregate_Acc 1 1 = true := by kernel_rfl
theorem f_aggregate_Acc_2 : fieldB Tryz.prog T_aggregate_Acc 2 2 = true := by kernel_rfl
theorem f_aggregate_Acc_3 : fieldB Tryz.prog T_aggregate_Acc 3 3 = true := by kernel_rfl
theorem z_aggregate_Acc : (Tryz.prog.info? T_aggregate_Acc).bind (·.zero) = some (.agg #[(.slice none 0 0), (.int .i64 0), (.slice none 0 0), (.slice none 0 0)]) := by kernel_rfl
theorem sc_map_api_Value_int : scB Tryz.prog T_map_api_Value_int = true := by kernel_rfl
theorem U_map_api_Value_int : Tryz.prog.underlying T_map_api_Value_int = some (.map T_api_Value T_int) := by kernel_rfl
theorem z_map_api_Value_int : (Tryz.prog.info? T_map_api_Value_int).bind (·.zero) = some (.map none) := by kernel_rfl
theorem sc_p_strings_Builder : scB Tryz.prog T_p_strings_Builder = true := by kernel_rfl
theorem U_p_strings_Builder : Tryz.prog.underlying T_p_strings_Builder = some (.pointer (Tryz.prog.pointee T_p_strings_Builder)) := by kernel_rfl
theorem z_p_strings_Builder : (Tryz.prog.info? T_p_strings_Builder).bind (·.zero) = some (.pointer none) := by kernel_rfl
theorem sc_s_uint8 : scB Tryz.prog T_s_uint8 = true := by kernel_rfl
theorem U_s_uint8 : Tryz.prog.underlying T_s_uint8 = some (.slice T_uint8) := by kernel_rfl
theorem sl_s_uint8 : sliceB Tryz.prog T_s_uint8 T_uint8 1 1 = true := by kernel_rfl
theorem z_s_uint8 : (Tryz.prog.info? T_s_uint8).bind (·.zero) = some (.slice none 0 0) := by kernel_rfl
theorem ag_strings_Builder : agB Tryz.prog T_strings_Builder 2 = true := by kernel_rfl
theorem g_strings_Builder_0 : fldB Tryz.prog T_strings_Builder 0 0 = true := by kernel_rfl
theorem g_strings_Builder_1 : fldB Tryz.prog T_strings_Builder 1 1 = true := by kernel_rfl
theorem f_strings_Builder_0 : fieldB Tryz.prog T_strings_Builder 0 0 = true := by kernel_rfl
theorem f_strings_Builder_1 : fieldB Tryz.prog T_strings_Builder 1 1 = true := by kernel_rfl
theorem z_strings_Builder : (Tryz.prog.info? T_strings_Builder).bind (·.zero) = some (.agg #[(.pointer none), (.slice none 0 0)]) := by kernel_rfl
theorem sc_error : scB Tryz.prog T_error = true := by kernel_rfl
theorem z_error : (Tryz.prog.info? T_error).bind (·.zero) = some .nilIface := by kernel_rfl
theorem sc_s_errataref30_Counted : scB Tryz.prog T_s_errataref30_Counted = true := by kernel_rfl
theorem U_s_errataref30_Counted : Tryz.prog.underlying T_s_errataref30_Counted = some (.slice T_errataref30_Counted) := by kernel_rfl
theorem sl_s_errataref30_Counted : sliceB Tryz.prog T_s_errataref30_Counted T_errataref30_Counted 4 40 = true := by kernel_rfl
theorem z_s_errataref30_Counted : (Tryz.prog.info? T_s_errataref30_Counted).bind (·.zero) = some (.slice none 0 0) := by kernel_rfl
theorem ag_errataref30_Counted : agB Tryz.prog T_errataref30_Counted 4 = true := by kernel_rfl
theorem g_errataref30_Counted_1 : fldB Tryz.prog T_errataref30_Counted 1 3 = true := by kernel_rfl
theorem f_errataref30_Counted_0 : fieldB Tryz.prog T_errataref30_Counted 0 0 = true := by kernel_rfl
theorem f_errataref30_Counted_1 : fieldB Tryz.prog T_errataref30_Counted 1 3 = true := by kernel_rfl
theorem z_errataref30_Counted : (Tryz.prog.info? T_errataref30_Counted).bind (·.zero) = some (.agg #[(.int .i64 0), (.int .i64 0), (.string ⟨#[]⟩), (.int .i64 0)]) := by kernel_rfl
theorem ag_api_Col : agB Tryz.prog T_api_Col 3 = true := by kernel_rfl
theorem g_api_Col_0 : fldB Tryz.prog T_api_Col 0 0 = true := by kernel_rfl
theorem g_api_Col_1 : fldB Tryz.prog T_api_Col 1 1 = true := by kernel_rfl
theorem g_api_Col_2 : fldB Tryz.prog T_api_Col 2 2 = true := by kernel_rfl
theorem f_api_Col_0 : fieldB Tryz.prog T_api_Col 0 0 = true := by kernel_rfl
theorem f_api_Col_1 : fieldB Tryz.prog T_api_Col 1 1 = true := by kernel_rfl
theorem f_api_Col_2 : fieldB Tryz.prog T_api_Col 2 2 = true := by kernel_rfl
theorem z_api_Col : (Tryz.prog.info? T_api_Col).bind (·.zero) = some (.agg #[(.string ⟨#[]⟩), (.int .i64 0), (.string ⟨#[]⟩)]) := by kernel_rfl
theorem ag_wire_Reader : agB Tryz.prog T_wire_Reader 2 = true := by kernel_rfl
theorem g_wire_Reader_0 : fldB Tryz.prog T_wire_Reader 0 0 = true := by kernel_rfl
theorem g_wire_Reader_1 : fldB Tryz.prog T_wire_Reader 1 1 = true := by kernel_rfl
theorem f_wire_Reader_0 : fieldB Tryz.prog T_wire_Reader 0 0 = true := by kernel_rfl
theorem f_wire_Reader_1 : fieldB Tryz.prog T_wire_Reader 1 1 = true := by kernel_rfl
theorem z_wire_Reader : (Tryz.prog.info? T_wire_Reader).bind (·.zero) = some (.agg #[(.string ⟨#[]⟩), (.bool false)]) := by kernel_rfl
theorem ag_errataref01_Reader : agB Tryz.prog T_errataref01_Reader 2 = true := by kernel_rfl
theorem g_errataref01_Reader_0 : fldB Tryz.prog T_errataref01_Reader 0 0 = true := by kernel_rfl
theorem g_errataref01_Reader_1 : fldB Tryz.prog T_errataref01_Reader 1 1 = true := by kernel_rfl
theorem f_errataref01_Reader_0 : fieldB Tryz.prog T_errataref01_Reader 0 0 = true := by kernel_rfl
theorem f_errataref01_Reader_1 : fieldB Tryz.prog T_errataref01_Reader 1 1 = true := by kernel_rfl
theorem z_errataref01_Reader : (Tryz.prog.info? T_errataref01_Reader).bind (·.zero) = some (.agg #[(.string ⟨#[]⟩), (.bool false)]) := by kernel_rfl
theorem z_unsafe_Pointer : (Tryz.prog.info? T_unsafe_Pointer).bind (·.zero) = some (.pointer none) := by kernel_rfl
theorem sc_uint : scB Tryz.prog T_uint = true := by kernel_rfl
theorem U_uint : Tryz.prog.underlying T_uint = some (.int .u64) := by kernel_rfl
theorem z_uint : (Tryz.prog.info? T_uint).bind (·.zero) = some (.int .u64 0) := by kernel_rfl
theorem sc_slices_sortedHint : scB Tryz.prog T_slices_sortedHint = true := by kernel_rfl
theorem U_slices_sortedHint : Tryz.prog.underlying T_slices_sortedHint = some (.int .i64) := by kernel_rfl
theorem z_slices_sortedHint : (Tryz.prog.info? T_slices_sortedHint).bind (·.zero) = some (.int .i64 0) := by kernel_rfl
theorem sc_slices_xorshift : scB Tryz.prog T_slices_xorshift = true := by kernel_rfl
theorem U_slices_xorshift : Tryz.prog.underlying T_slices_xorshift = some (.int .u64) := by kernel_rfl
theorem z_slices_xorshift : (Tryz.prog.info? T_slices_xorshift).bind (·.zero) = some (.int .u64 0) := by kernel_rfl

structure D_erratalaw30_Change where
  row : SV
  n : Int
abbrev D_erratalaw30_Change.v (p : D_erratalaw30_Change) : Value := .agg #[p.row.1, .int .i64 p.n]
abbrev D_erratalaw30_Change.cs (p : D_erratalaw30_Change) : List Value := [p.row.1, .int .i64 p.n]
instance : Enc D_erratalaw30_Change where
  sz := 2
  cells p := p.cs
  val p := p.v
  pos := by omega
  len _ := rfl
  one p v (hv : v ∈ p.cs) := by
    simp only [List.mem_cons, List.not_mem_nil, or_false] at hv
    rcases hv with rfl | rfl <;> first | rfl | exact SV.prop _
  cells_val _ := rfl
structure D_errataref30_Acc where
  aggs : SV
  n : Int
  sums : SV
  bags : SV
abbrev D_errataref30_Acc.v (p : D_errataref30_Acc) : Value := .agg #[p.aggs.1, .int .i64 p.n, p.sums.1, p.bags.1]
abbrev D_errataref30_Acc.cs (p : D_errataref30_Acc) : List Value := [p.aggs.1, .int .i64 p.n, p.sums.1, p.bags.1]
instance : Enc D_errataref30_Acc where
  sz := 4
  cells p := p.cs
  val p := p.v
  pos := by omega
  len _ := rfl
  one p v (hv : v ∈ p.cs) := by
    simp only [List.mem_cons, List.not_mem_nil, or_false] at hv
    rcases hv with rfl | rfl | rfl | rfl <;> first | rfl | exact SV.prop _
  cells_val _ := rfl
structure D_api_Agg where
  kind : Int
  col : Int
  name : ByteArray
  deriving DecidableEq
abbrev D_api_Agg.v (p : D_api_Agg) : Value := .agg #[.int .i64 p.kind, .int .i64 p.col, .string p.name]
abbrev D_api_Agg.cs (p : D_api_Agg) : List Value := [.int .i64 p.kind, .int .i64 p.col, .string p.name]
instance : Enc D_api_Agg where
  sz := 3
  cells p := p.cs
  val p := p.v
  pos := by omega
  len _ := rfl
  one p v (hv : v ∈ p.cs) := by
    simp only [List.mem_cons, List.not_mem_nil, or_false] at hv
    rcases hv with rfl | rfl | rfl <;> first | rfl | exact SV.prop _
  cells_val _ := rfl
structure D_api_Value where
  kind : Int
  n : Int
  s : ByteArray
  deriving DecidableEq
abbrev D_api_Value.v (p : D_api_Value) : Value := .agg #[.int .i64 p.kind, .int .i64 p.n, .string p.s]
abbrev D_api_Value.cs (p : D_api_Value) : List Value := [.int .i64 p.kind, .int .i64 p.n, .string p.s]
instance : Enc D_api_Value where
  sz := 3
  cells p := p.cs
  val p := p.v
  pos := by omega
  len _ := rfl
  one p v (hv : v ∈ p.cs) := by
    simp only [List.mem_cons, List.not_mem_nil, or_false] at hv
    rcases hv with rfl | rfl | rfl <;> first | rfl | exact SV.prop _
  cells_val _ := rfl
structure D_aggregate_Acc where
  aggs : SV
  count : Int
  sums : SV
  bags : SV
abbrev D_aggregate_Acc.v (p : D_aggregate_Acc) : Value := .agg #[p.aggs.1, .int .i64 p.count, p.sums.1, p.bags.1]
abbrev D_aggregate_Acc.cs (p : D_aggregate_Acc) : List Value := [p.aggs.1, .int .i64 p.count, p.sums.1, p.bags.1]
instance : Enc D_aggregate_Acc where
  sz := 4
  cells p := p.cs
  val p := p.v
  pos := by omega
  len _ := rfl
  one p v (hv : v ∈ p.cs) := by
    simp only [List.mem_cons, List.not_mem_nil, or_false] at hv
    rcases hv with rfl | rfl | rfl | rfl <;> first | rfl | exact SV.prop _
  cells_val _ := rfl
structure D_strings_Builder where
  addr : SV
  buf : SV
abbrev D_strings_Builder.v (p : D_strings_Builder) : Value := .agg #[p.addr.1, p.buf.1]
abbrev D_strings_Builder.cs (p : D_strings_Builder) : List Value := [p.addr.1, p.buf.1]
instance : Enc D_strings_Builder where
  sz := 2
  cells p := p.cs
  val p := p.v
  pos := by omega
  len _ := rfl
  one p v (hv : v ∈ p.cs) := by
    simp only [List.mem_cons, List.not_mem_nil, or_false] at hv
    rcases hv with rfl | rfl <;> first | rfl | exact SV.prop _
  cells_val _ := rfl
structure D_errataref30_Counted where
  v_ : D_api_Value
  n : Int
  deriving DecidableEq
abbrev D_errataref30_Counted.v (p : D_errataref30_Counted) : Value := .agg #[.int .i64 p.v_.kind, .int .i64 p.v_.n, .string p.v_.s, .int .i64 p.n]
abbrev D_errataref30_Counted.cs (p : D_errataref30_Counted) : List Value := [.int .i64 p.v_.kind, .int .i64 p.v_.n, .string p.v_.s, .int .i64 p.n]
instance : Enc D_errataref30_Counted where
  sz := 4
  cells p := p.cs
  val p := p.v
  pos := by omega
  len _ := rfl
  one p v (hv : v ∈ p.cs) := by
    simp only [List.mem_cons, List.not_mem_nil, or_false] at hv
    rcases hv with rfl | rfl | rfl | rfl <;> first | rfl | exact SV.prop _
  cells_val _ := rfl
structure D_api_Col where
  name : ByteArray
  type_ : Int
  unit_ : ByteArray
  deriving DecidableEq
abbrev D_api_Col.v (p : D_api_Col) : Value := .agg #[.string p.name, .int .i64 p.type_, .string p.unit_]
abbrev D_api_Col.cs (p : D_api_Col) : List Value := [.string p.name, .int .i64 p.type_, .string p.unit_]
instance : Enc D_api_Col where
  sz := 3
  cells p := p.cs
  val p := p.v
  pos := by omega
  len _ := rfl
  one p v (hv : v ∈ p.cs) := by
    simp only [List.mem_cons, List.not_mem_nil, or_false] at hv
    rcases hv with rfl | rfl | rfl <;> first | rfl | exact SV.prop _
  cells_val _ := rfl
structure D_wire_Reader where
  rest_ : ByteArray
  bad : Bool
  deriving DecidableEq
abbrev D_wire_Reader.v (p : D_wire_Reader) : Value := .agg #[.string p.rest_, .bool p.bad]
abbrev D_wire_Reader.cs (p : D_wire_Reader) : List Value := [.string p.rest_, .bool p.bad]
instance : Enc D_wire_Reader where
  sz := 2
  cells p := p.cs
  val p := p.v
  pos := by omega
  len _ := rfl
  one p v (hv : v ∈ p.cs) := by
    simp only [List.mem_cons, List.not_mem_nil, or_false] at hv
    rcases hv with rfl | rfl <;> first | rfl | exact SV.prop _
  cells_val _ := rfl
structure D_errataref01_Reader where
  rest_ : ByteArray
  bad : Bool
  deriving DecidableEq
abbrev D_errataref01_Reader.v (p : D_errataref01_Reader) : Value := .agg #[.string p.rest_, .bool p.bad]
abbrev D_errataref01_Reader.cs (p : D_errataref01_Reader) : List Value := [.string p.rest_, .bool p.bad]
instance : Enc D_errataref01_Reader where
  sz := 2
  cells p := p.cs
  val p := p.v
  pos := by omega
  len _ := rfl
  one p v (hv : v ∈ p.cs) := by
    simp only [List.mem_cons, List.not_mem_nil, or_false] at hv
    rcases hv with rfl | rfl <;> first | rfl | exact SV.prop _
  cells_val _ := rfl

theorem bd_api_Agg_0 {K : Value → Prop} {x0 : Int} : pureK Tryz.prog (sBuild T_api_Agg #[(0, .int .i64 x0)]) K = K (.agg #[.int .i64 x0, (.int .i64 0), (.string ⟨#[]⟩)]) := pureK_eq fun w => by kernel_rfl
theorem bd_api_Value_1 {K : Value → Prop} {x1 : Int} : pureK Tryz.prog (sBuild T_api_Value #[(1, .int .i64 x1)]) K = K (.agg #[(.int .i64 0), .int .i64 x1, (.string ⟨#[]⟩)]) := pureK_eq fun w => by kernel_rfl
theorem bd_api_Value_ {K : Value → Prop}  : pureK Tryz.prog (sBuild T_api_Value #[]) K = K (.agg #[(.int .i64 0), (.int .i64 0), (.string ⟨#[]⟩)]) := pureK_eq fun w => by kernel_rfl
theorem bd_aggregate_Acc_0_2_3 {K : Value → Prop} {x0 : Option Addr} {n0 c0 : Nat} {x2 : Option Addr} {n2 c2 : Nat} {x3 : Option Addr} {n3 c3 : Nat} : pureK Tryz.prog (sBuild T_aggregate_Acc #[(0, .slice x0 n0 c0), (2, .slice x2 n2 c2), (3, .slice x3 n3 c3)]) K = K (.agg #[.slice x0 n0 c0, (.int .i64 0), .slice x2 n2 c2, .slice x3 n3 c3]) := pureK_eq fun w => by kernel_rfl
theorem bd_aggregate_Acc_0_1_2 {K : Value → Prop} {x0 : Option Addr} {n0 c0 : Nat} {x1 : Int} {x2 : Option Addr} {n2 c2 : Nat} : pureK Tryz.prog (sBuild T_aggregate_Acc #[(0, .slice x0 n0 c0), (1, .int .i64 x1), (2, .slice x2 n2 c2)]) K = K (.agg #[.slice x0 n0 c0, .int .i64 x1, .slice x2 n2 c2, (.slice none 0 0)]) := pureK_eq fun w => by kernel_rfl
theorem bd_errataref30_Acc_0_2_3 {K : Value → Prop} {x0 : Option Addr} {n0 c0 : Nat} {x2 : Option Addr} {n2 c2 : Nat} {x3 : Option Addr} {n3 c3 : Nat} : pureK Tryz.prog (sBuild T_errataref30_Acc #[(0, .slice x0 n0 c0), (2, .slice x2 n2 c2), (3, .slice x3 n3 c3)]) K = K (.agg #[.slice x0 n0 c0, (.int .i64 0), .slice x2 n2 c2, .slice x3 n3 c3]) := pureK_eq fun w => by kernel_rfl
-- no build rule for T_errataref30_Counted [0, 1]: field struct
theorem bd_api_Col_0_1 {K : Value → Prop} {x0 : ByteArray} {x1 : Int} : pureK Tryz.prog (sBuild T_api_Col #[(0, .string x0), (1, .int .i64 x1)]) K = K (.agg #[.string x0, .int .i64 x1, (.string ⟨#[]⟩)]) := pureK_eq fun w => by kernel_rfl
theorem bd_wire_Reader_0 {K : Value → Prop} {x0 : ByteArray} : pureK Tryz.prog (sBuild T_wire_Reader #[(0, .string x0)]) K = K (.agg #[.string x0, (.bool false)]) := pureK_eq fun w => by kernel_rfl
theorem bd_api_Value_0_1 {K : Value → Prop} {x0 : Int} {x1 : Int} : pureK Tryz.prog (sBuild T_api_Value #[(0, .int .i64 x0), (1, .int .i64 x1)]) K = K (.agg #[.int .i64 x0, .int .i64 x1, (.string ⟨#[]⟩)]) := pureK_eq fun w => by kernel_rfl
theorem bd_errataref01_Reader_0 {K : Value → Prop} {x0 : ByteArray} : pureK Tryz.prog (sBuild T_errataref01_Reader #[(0, .string x0)]) K = K (.agg #[.string x0, (.bool false)]) := pureK_eq fun w => by kernel_rfl
theorem bd_api_Value_0_2 {K : Value → Prop} {x0 : Int} {x2 : ByteArray} : pureK Tryz.prog (sBuild T_api_Value #[(0, .int .i64 x0), (2, .string x2)]) K = K (.agg #[.int .i64 x0, (.int .i64 0), .string x2]) := pureK_eq fun w => by kernel_rfl
theorem bd_api_Value_0 {K : Value → Prop} {x0 : Int} : pureK Tryz.prog (sBuild T_api_Value #[(0, .int .i64 x0)]) K = K (.agg #[.int .i64 x0, (.int .i64 0), (.string ⟨#[]⟩)]) := pureK_eq fun w => by kernel_rfl

theorem fl_api_Col : (Tryz.prog.fieldsOf T_api_Col).toList = [{ name := "Name", type := T_string, offset := 0, embedded := false, tag := "", pkgPath := "", byteOffset := 0 }, { name := "Type", type := T_int, offset := 1, embedded := false, tag := "", pkgPath := "", byteOffset := 16 }, { name := "Unit", type := T_string, offset := 2, embedded := false, tag := "", pkgPath := "", byteOffset := 24 }] := by kernel_rfl
theorem run_eq_api_Col (p q : D_api_Col) (w : World) : (Op.equalIn 10000 T_api_Col p.v q.v).run Tryz.prog w = .ok (decide (p = q)) w := by
  obtain ⟨a0, a1, a2⟩ := p
  obtain ⟨b0, b1, b2⟩ := q
  show (Op.equalIn 10000 T_api_Col (.agg #[.string a0, .int .i64 a1, .string a2]) (.agg #[.string b0, .int .i64 b1, .string b2])).run Tryz.prog w = _
  rw [show (10000 : Nat) = 9999 + 1 from rfl, run_equalIn_agg w 9999 T_api_Col _ _ (by kernel_rfl) (by kernel_rfl), fl_api_Col]
  rw [show (9999 : Nat) = 9998 + 1 from rfl]
  have e : decide ((⟨a0, a1, a2⟩ : D_api_Col) = ⟨b0, b1, b2⟩) = (decide (a0 = b0) && (decide (a1 = b1) && (decide (a2 = b2) && true))) := by
    rw [Bool.eq_iff_iff]; simp
  rw [e]
  have h0 := run_equalIn_string (P := Tryz.prog) w 9998 T_string a0 b0 (by kernel_rfl)
  rw [toList_beq] at h0
  have h1 := run_equalIn_int (P := Tryz.prog) w 9998 T_int .i64 .i64 a1 b1 (by kernel_rfl)
  have h2 := run_equalIn_string (P := Tryz.prog) w 9998 T_string a2 b2 (by kernel_rfl)
  rw [toList_beq] at h2
  exact eqF_cons (by decide) (part_sc (by kernel_rfl) rfl) (part_sc (by kernel_rfl) rfl) h0 <| eqF_cons (by decide) (part_sc (by kernel_rfl) rfl) (part_sc (by kernel_rfl) rfl) h1 <| eqF_cons (by decide) (part_sc (by kernel_rfl) rfl) (part_sc (by kernel_rfl) rfl) h2 <| eqF_nil
theorem eq_api_Col {K : Value → Prop} {xo yo : Operand} (p q : D_api_Col) : pureK Tryz.prog (sBin .eql T_api_Col xo yo p.v q.v) K = K (.bool (decide (p = q))) := pureK_eq fun w => by
  refine sBin_eq (run_eqGuard_agg w .eql _ _ _ _ _ (by kernel_rfl)) ?_
  show (binOp .eql T_api_Col (.agg _) (.agg _)).run _ _ = _
  rw [run_eql_struct]
  have := run_eq_api_Col p q w
  rw [show (p.v : Value) = .agg _ from rfl, show (q.v : Value) = .agg _ from rfl] at this
  rw [this]
  rfl
theorem neq_api_Col {K : Value → Prop} {xo yo : Operand} (p q : D_api_Col) : pureK Tryz.prog (sBin .neq T_api_Col xo yo p.v q.v) K = K (.bool (!decide (p = q))) := pureK_eq fun w => by
  refine sBin_eq (run_eqGuard_agg w .neq _ _ _ _ _ (by kernel_rfl)) ?_
  show (binOp .neq T_api_Col (.agg _) (.agg _)).run _ _ = _
  rw [run_neq_struct]
  have := run_eq_api_Col p q w
  rw [show (p.v : Value) = .agg _ from rfl, show (q.v : Value) = .agg _ from rfl] at this
  rw [this]
  rfl
theorem fl_api_Value : (Tryz.prog.fieldsOf T_api_Value).toList = [{ name := "Kind", type := T_int, offset := 0, embedded := false, tag := "", pkgPath := "", byteOffset := 0 }, { name := "N", type := T_int, offset := 1, embedded := false, tag := "", pkgPath := "", byteOffset := 8 }, { name := "S", type := T_string, offset := 2, embedded := false, tag := "", pkgPath := "", byteOffset := 16 }] := by kernel_rfl
theorem run_eq_api_Value (p q : D_api_Value) (w : World) : (Op.equalIn 10000 T_api_Value p.v q.v).run Tryz.prog w = .ok (decide (p = q)) w := by
  obtain ⟨a0, a1, a2⟩ := p
  obtain ⟨b0, b1, b2⟩ := q
  show (Op.equalIn 10000 T_api_Value (.agg #[.int .i64 a0, .int .i64 a1, .string a2]) (.agg #[.int .i64 b0, .int .i64 b1, .string b2])).run Tryz.prog w = _
  rw [show (10000 : Nat) = 9999 + 1 from rfl, run_equalIn_agg w 9999 T_api_Value _ _ (by kernel_rfl) (by kernel_rfl), fl_api_Value]
  rw [show (9999 : Nat) = 9998 + 1 from rfl]
  have e : decide ((⟨a0, a1, a2⟩ : D_api_Value) = ⟨b0, b1, b2⟩) = (decide (a0 = b0) && (decide (a1 = b1) && (decide (a2 = b2) && true))) := by
    rw [Bool.eq_iff_iff]; simp
  rw [e]
  have h0 := run_equalIn_int (P := Tryz.prog) w 9998 T_int .i64 .i64 a0 b0 (by kernel_rfl)
  have h1 := run_equalIn_int (P := Tryz.prog) w 9998 T_int .i64 .i64 a1 b1 (by kernel_rfl)
  have h2 := run_equalIn_string (P := Tryz.prog) w 9998 T_string a2 b2 (by kernel_rfl)
  rw [toList_beq] at h2
  exact eqF_cons (by decide) (part_sc (by kernel_rfl) rfl) (part_sc (by kernel_rfl) rfl) h0 <| eqF_cons (by decide) (part_sc (by kernel_rfl) rfl) (part_sc (by kernel_rfl) rfl) h1 <| eqF_cons (by decide) (part_sc (by kernel_rfl) rfl) (part_sc (by kernel_rfl) rfl) h2 <| eqF_nil
theorem eq_api_Value {K : Value → Prop} {xo yo : Operand} (p q : D_api_Value) : pureK Tryz.prog (sBin .eql T_api_Value xo yo p.v q.v) K = K (.bool (decide (p = q))) := pureK_eq fun w => by
  refine sBin_eq (run_eqGuard_agg w .eql _ _ _ _ _ (by kernel_rfl)) ?_
  show (binOp .eql T_api_Value (.agg _) (.agg _)).run _ _ = _
  rw [run_eql_struct]
  have := run_eq_api_Value p q w
  rw [show (p.v : Value) = .agg _ from rfl, show (q.v : Value) = .agg _ from rfl] at this
  rw [this]
  rfl
theorem neq_api_Value {K : Value → Prop} {xo yo : Operand} (p q : D_api_Value) : pureK Tryz.prog (sBin .neq T_api_Value xo yo p.v q.v) K = K (.bool (!decide (p = q))) := pureK_eq fun w => by
  refine sBin_eq (run_eqGuard_agg w .neq _ _ _ _ _ (by kernel_rfl)) ?_
  show (binOp .neq T_api_Value (.agg _) (.agg _)).run _ _ = _
  rw [run_neq_struct]
  have := run_eq_api_Value p q w
  rw [show (p.v : Value) = .agg _ from rfl, show (q.v : Value) = .agg _ from rfl] at this
  rw [this]
  rfl

end Go.Proofs.YtoebncgnjbblgaaGreatDoor
