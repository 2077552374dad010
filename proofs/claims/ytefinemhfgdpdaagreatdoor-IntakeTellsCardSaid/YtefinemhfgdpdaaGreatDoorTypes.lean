/-
  What the proofs of this seat know of its types, printed by program: each fact is held by the kernel. No condition.
-/
import Derived.Test.YtefinemhfgdpdaaGreatDoorHeap
import Derived.Test.YtefinemhfgdpdaaGreatDoorNames
namespace Go.Proofs.YtefinemhfgdpdaaGreatDoor
open Go.RowKit


theorem sc_int : scB Tryz.prog T_int = true := by kernel_rfl
theorem U_int : Tryz.prog.underlying T_int = some (.int .i64) := by kernel_rfl
theorem z_int : (Tryz.prog.info? T_int).bind (·.zero) = some (.int .i64 0) := by kernel_rfl
theorem sc_bool : scB Tryz.prog T_bool = true := by kernel_rfl
theorem U_bool : Tryz.prog.underlying T_bool = some .bool := by kernel_rfl
theorem z_bool : (Tryz.prog.info? T_bool).bind (·.zero) = some (.bool false) := by kernel_rfl
theorem sc_uint8 : scB Tryz.prog T_uint8 = true := by kernel_rfl
theorem U_uint8 : Tryz.prog.underlying T_uint8 = some (.int .u8) := by kernel_rfl
theorem z_uint8 : (Tryz.prog.info? T_uint8).bind (·.zero) = some (.int .u8 0) := by kernel_rfl
theorem sc_string : scB Tryz.prog T_string = true := by kernel_rfl
theorem U_string : Tryz.prog.underlying T_string = some .string := by kernel_rfl
theorem z_string : (Tryz.prog.info? T_string).bind (·.zero) = some (.string ⟨#[]⟩) := by kernel_rfl
theorem sc_interface : scB Tryz.prog T_interface = true := by kernel_rfl
theorem z_interface : (Tryz.prog.info? T_interface).bind (·.zero) = some .nilIface := by kernel_rfl
theorem ag_api_Config : agB Tryz.prog T_api_Config 6 = true := by kernel_rfl
theorem g_api_Config_0 : fldB Tryz.prog T_api_Config 0 0 = true := by kernel_rfl
theorem g_api_Config_1 : fldB Tryz.prog T_api_Config 1 1 = true := by kernel_rfl
theorem g_api_Config_2 : fldB Tryz.prog T_api_Config 2 2 = true := by kernel_rfl
theorem g_api_Config_3 : fldB Tryz.prog T_api_Config 3 3 = true := by kernel_rfl
theorem g_api_Config_4 : fldB Tryz.prog T_api_Config 4 4 = true := by kernel_rfl
theorem g_api_Config_5 : fldB Tryz.prog T_api_Config 5 5 = true := by kernel_rfl
theorem f_api_Config_0 : fieldB Tryz.prog T_api_Config 0 0 = true := by kernel_rfl
theorem f_api_Config_1 : fieldB Tryz.prog T_api_Config 1 1 = true := by kernel_rfl
theorem f_api_Config_2 : fieldB Tryz.prog T_api_Config 2 2 = true := by kernel_rfl
theorem f_api_Config_3 : fieldB Tryz.prog T_api_Config 3 3 = true := by kernel_rfl
theorem f_api_Config_4 : fieldB Tryz.prog T_api_Config 4 4 = true := by kernel_rfl
theorem f_api_Config_5 : fieldB Tryz.prog T_api_Config 5 5 = true := by kernel_rfl
theorem z_api_Config : (Tryz.prog.info? T_api_Config).bind (·.zero) = some (.agg #[(.int .i64 0), (.int .i64 0), (.int .i64 0), (.int .i64 0), (.int .i64 0), (.int .i64 0)]) := by kernel_rfl
theorem sc_s_api_Entry : scB Tryz.prog T_s_api_Entry = true := by kernel_rfl
theorem U_s_api_Entry : Tryz.prog.underlying T_s_api_Entry = some (.slice T_api_Entry) := by kernel_rfl
theorem sl_s_api_Entry : sliceB Tryz.prog T_s_api_Entry T_api_Entry 8 88 = true := by kernel_rfl
theorem z_s_api_Entry : (Tryz.prog.info? T_s_api_Entry).bind (·.zero) = some (.slice none 0 0) := by kernel_rfl
theorem sc_p_intake_Intake : scB Tryz.prog T_p_intake_Intake = true := by kernel_rfl
theorem U_p_intake_Intake : Tryz.prog.underlying T_p_intake_Intake = some (.pointer (Tryz.prog.pointee T_p_intake_Intake)) := by kernel_rfl
theorem z_p_intake_Intake : (Tryz.prog.info? T_p_intake_Intake).bind (·.zero) = some (.pointer none) := by kernel_rfl
theorem sc_s_api_Known : scB Tryz.prog T_s_api_Known = true := by kernel_rfl
theorem U_s_api_Known : Tryz.prog.underlying T_s_api_Known = some (.slice T_api_Known) := by kernel_rfl
theorem sl_s_api_Known : sliceB Tryz.prog T_s_api_Known T_api_Known 3 48 = true := by kernel_rfl
theorem z_s_api_Known : (Tryz.prog.info? T_s_api_Known).bind (·.zero) = some (.slice none 0 0) := by kernel_rfl
theorem sc_p_errataref11_Intake : scB Tryz.prog T_p_errataref11_Intake = true := by kernel_rfl
theorem U_p_errataref11_Intake : Tryz.prog.underlying T_p_errataref11_Intake = some (.pointer (Tryz.prog.pointee T_p_errataref11_Intake)) := by kernel_rfl
theorem z_p_errataref11_Intake : (Tryz.prog.info? T_p_errataref11_Intake).bind (·.zero) = some (.pointer none) := by kernel_rfl
theorem sc_s_api_Producer : scB Tryz.prog T_s_api_Producer = true := by kernel_rfl
theorem U_s_api_Producer : Tryz.prog.underlying T_s_api_Producer = some (.slice T_api_Producer) := by kernel_rfl
theorem sl_s_api_Producer : sliceB Tryz.prog T_s_api_Producer T_api_Producer 4 48 = true := by kernel_rfl
theorem z_s_api_Producer : (Tryz.prog.info? T_s_api_Producer).bind (·.zero) = some (.slice none 0 0) := by kernel_rfl
theorem sc_s_errataref11_Count : scB Tryz.prog T_s_errataref11_Count = true := by kernel_rfl
theorem U_s_errataref11_Count : Tryz.prog.underlying T_s_errataref11_Count = some (.slice T_errataref11_Count) := by kernel_rfl
theorem sl_s_errataref11_Count : sliceB Tryz.prog T_s_errataref11_Count T_errataref11_Count 2 16 = true := by kernel_rfl
theorem z_s_errataref11_Count : (Tryz.prog.info? T_s_errataref11_Count).bind (·.zero) = some (.slice none 0 0) := by kernel_rfl
theorem ag_errataref11_Intake : agB Tryz.prog T_errataref11_Intake 13 = true := by kernel_rfl
theorem g_errataref11_Intake_1 : fldB Tryz.prog T_errataref11_Intake 1 6 = true := by kernel_rfl
theorem g_errataref11_Intake_2 : fldB Tryz.prog T_errataref11_Intake 2 7 = true := by kernel_rfl
theorem g_errataref11_Intake_3 : fldB Tryz.prog T_errataref11_Intake 3 8 = true := by kernel_rfl
theorem g_errataref11_Intake_4 : fldB Tryz.prog T_errataref11_Intake 4 9 = true := by kernel_rfl
theorem g_errataref11_Intake_5 : fldB Tryz.prog T_errataref11_Intake 5 10 = true := by kernel_rfl
theorem g_errataref11_Intake_6 : fldB Tryz.prog T_errataref11_Intake 6 11 = true := by kernel_rfl
theorem g_errataref11_Intake_7 : fldB Tryz.prog T_errataref11_Intake 7 12 = true := by kernel_rfl
theorem f_errataref11_Intake_0 : fieldB Tryz.prog T_errataref11_Intake 0 0 = true := by kernel_rfl
theorem f_errataref11_Intake_1 : fieldB Tryz.prog T_errataref11_Intake 1 6 = true := by kernel_rfl
theorem f_errataref11_Intake_2 : fieldB Tryz.prog T_errataref11_Intake 2 7 = true := by kernel_rfl
theorem f_errataref11_Intake_3 : fieldB Tryz.prog T_errataref11_Intake 3 8 = true := by kernel_rfl
theorem f_errataref11_Intake_4 : fieldB Tryz.prog T_errataref11_Intake 4 9 = true := by kernel_rfl
theorem f_errataref11_Intake_5 : fieldB Tryz.prog T_errataref11_Intake 5 10 = true := by kernel_rfl
theorem f_errataref11_Intake_6 : fieldB Tryz.prog T_errataref11_Intake 6 11 = true := by kernel_rfl
theorem f_errataref11_Intake_7 : fieldB Tryz.prog T_errataref11_Intake 7 12 = true := by kernel_rfl
theorem z_errataref11_Intake : (Tryz.prog.info? T_errataref11_Intake).bind (·.zero) = some (.agg #[(.int .i64 0), (.int .i64 0), (.int .i64 0), (.int .i64 0), (.int .i64 0), (.int .i64 0), (.slice none 0 0), (.int .i64 0), (.int .i64 0), (.int .i64 0), (.int .i64 0), (.slice none 0 0), (.slice none 0 0)]) := by kernel_rfl
theorem sc_api_Errno : scB Tryz.prog T_api_Errno = true := by kernel_rfl
theorem U_api_Errno : Tryz.prog.underlying T_api_Errno = some (.int .i64) := by kernel_rfl
theorem z_api_Errno : (Tryz.prog.info? T_api_Errno).bind (·.zero) = some (.int .i64 0) := by kernel_rfl
theorem sc_s_api_Value : scB Tryz.prog T_s_api_Value = true := by kernel_rfl
theorem U_s_api_Value : Tryz.prog.underlying T_s_api_Value = some (.slice T_api_Value) := by kernel_rfl
theorem sl_s_api_Value : sliceB Tryz.prog T_s_api_Value T_api_Value 3 32 = true := by kernel_rfl
theorem z_s_api_Value : (Tryz.prog.info? T_s_api_Value).bind (·.zero) = some (.slice none 0 0) := by kernel_rfl
theorem ag_api_Entry : agB Tryz.prog T_api_Entry 8 = true := by kernel_rfl
theorem g_api_Entry_0 : fldB Tryz.prog T_api_Entry 0 0 = true := by kernel_rfl
theorem g_api_Entry_1 : fldB Tryz.prog T_api_Entry 1 1 = true := by kernel_rfl
theorem g_api_Entry_2 : fldB Tryz.prog T_api_Entry 2 2 = true := by kernel_rfl
theorem g_api_Entry_3 : fldB Tryz.prog T_api_Entry 3 3 = true := by kernel_rfl
theorem g_api_Entry_4 : fldB Tryz.prog T_api_Entry 4 4 = true := by kernel_rfl
theorem g_api_Entry_5 : fldB Tryz.prog T_api_Entry 5 5 = true := by kernel_rfl
theorem g_api_Entry_6 : fldB Tryz.prog T_api_Entry 6 6 = true := by kernel_rfl
theorem g_api_Entry_7 : fldB Tryz.prog T_api_Entry 7 7 = true := by kernel_rfl
theorem f_api_Entry_0 : fieldB Tryz.prog T_api_Entry 0 0 = true := by kernel_rfl
theorem f_api_Entry_1 : fieldB Tryz.prog T_api_Entry 1 1 = true := by kernel_rfl
theorem f_api_Entry_2 : fieldB Tryz.prog T_api_Entry 2 2 = true := by kernel_rfl
theorem f_api_Entry_3 : fieldB Tryz.prog T_api_Entry 3 3 = true := by kernel_rfl
theorem f_api_Entry_4 : fieldB Tryz.prog T_api_Entry 4 4 = true := by kernel_rfl
theorem f_api_Entry_5 : fieldB Tryz.prog T_api_Entry 5 5 = true := by kernel_rfl
theorem f_api_Entry_6 : fieldB Tryz.prog T_api_Entry 6 6 = true := by kernel_rfl
theorem f_api_Entry_7 : fieldB Tryz.prog T_api_Entry 7 7 = true := by kernel_rfl
theorem z_api_Entry : (Tryz.prog.info? T_api_Entry).bind (·.zero) = some (.agg #[(.int .i64 0), (.int .i64 0), (.int .i64 0), (.int .i64 0), (.string ⟨#[]⟩), (.int .i64 0), (.int .i64 0), (.slice none 0 0)]) := by kernel_rfl
theorem ag_api_Value : agB Tryz.prog T_api_Value 3 = true := by kernel_rfl
theorem g_api_Value_0 : fldB Tryz.prog T_api_Value 0 0 = true := by kernel_rfl
theorem g_api_Value_1 : fldB Tryz.prog T_api_Value 1 1 = true := by kernel_rfl
theorem g_api_Value_2 : fldB Tryz.prog T_api_Value 2 2 = true := by kernel_rfl
theorem f_api_Value_0 : fieldB Tryz.prog T_api_Value 0 0 = true := by kernel_rfl
theorem f_api_Value_1 : fieldB Tryz.prog T_api_Value 1 1 = true := by kernel_rfl
theorem f_api_Value_2 : fieldB Tryz.prog T_api_Value 2 2 = true := by kernel_rfl
theorem z_api_Value : (Tryz.prog.info? T_api_Value).bind (·.zero) = some (.agg #[(.int .i64 0), (.int .i64 0), (.string ⟨#[]⟩)]) := by kernel_rfl
theorem sc_map_int_int : scB Tryz.prog T_map_int_int = true := by kernel_rfl
theorem U_map_int_int : Tryz.prog.underlying T_map_int_int = some (.map T_int T_int) := by kernel_rfl
theorem z_map_int_int : (Tryz.prog.info? T_map_int_int).bind (·.zero) = some (.map none) := by kernel_rfl
theorem ag_intake_Intake : agB Tryz.prog T_intake_Intake 13 = true := by kernel_rfl
theorem g_intake_Intake_1 : fldB Tryz.prog T_intake_Intake 1 6 = true := by kernel_rfl
theorem g_intake_Intake_2 : fldB Tryz.prog T_intake_Intake 2 7 = true := by kernel_rfl
theorem g_intake_Intake_3 : fldB Tryz.prog T_intake_Intake 3 8 = true := by kernel_rfl
theorem g_intake_Intake_4 : fldB Tryz.prog T_intake_Intake 4 9 = true := by kernel_rfl
theorem g_intake_Intake_5 : fldB Tryz.prog T_intake_Intake 5 10 = true := by kernel_rfl
theorem g_intake_Intake_6 : fldB Tryz.prog T_intake_Intake 6 11 = true := by kernel_rfl
theorem g_intake_Intake_7 : fldB Tryz.prog T_intake_Intake 7 12 = true := by kernel_rfl
theorem f_intake_Intake_0 : fieldB Tryz.prog T_intake_Intake 0 0 = true := by kernel_rfl
theorem f_intake_Intake_1 : fieldB Tryz.prog T_intake_Intake 1 6 = true := by kernel_rfl
theorem f_intake_Intake_2 : fieldB Tryz.prog T_intake_Intake 2 7 = true := by kernel_rfl
theorem f_intake_Intake_3 : fieldB Tryz.prog T_intake_Intake 3 8 = true := by kernel_rfl
theorem f_intake_Intake_4 : fieldB Tryz.prog T_intake_Intake 4 9 = true := by kernel_rfl
theorem f_intake_Intake_5 : fieldB Tryz.prog T_intake_Intake 5 10 = true := by kernel_rfl
theorem f_intake_Intake_6 : fieldB Tryz.prog T_intake_Intake 6 11 = true := by kernel_rfl
theorem f_intake_Intake_7 : fieldB Tryz.prog T_intake_Intake 7 12 = true := by kernel_rfl
theorem z_intake_Intake : (Tryz.prog.info? T_intake_Intake).bind (·.zero) = some (.agg #[(.int .i64 0), (.int .i64 0), (.int .i64 0), (.int .i64 0), (.int .i64 0), (.int .i64 0), (.slice none 0 0), (.int .i64 0), (.int .i64 0), (.int .i64 0), (.int .i64 0), (.slice none 0 0), (.map none)]) := by kernel_rfl
theorem ag_api_Col : agB Tryz.prog T_api_Col 3 = true := by kernel_rfl
theorem g_api_Col_0 : fldB Tryz.prog T_api_Col 0 0 = true := by kernel_rfl
theorem g_api_Col_1 : fldB Tryz.prog T_api_Col 1 1 = true := by kernel_rfl
theorem g_api_Col_2 : fldB Tryz.prog T_api_Col 2 2 = true := by kernel_rfl
theorem f_api_Col_0 : fieldB Tryz.prog T_api_Col 0 0 = true := by kernel_rfl
theorem f_api_Col_1 : fieldB Tryz.prog T_api_Col 1 1 = true := by kernel_rfl
theorem f_api_Col_2 : fieldB Tryz.prog T_api_Col 2 2 = true := by kernel_rfl
theorem z_api_Col : (Tryz.prog.info? T_api_Col).bind (·.zero) = some (.agg #[(.string ⟨#[]⟩), (.int .i64 0), (.string ⟨#[]⟩)]) := by kernel_rfl
theorem sc_s_api_Col : scB Tryz.prog T_s_api_Col = true := by kernel_rfl
theorem U_s_api_Col : Tryz.prog.underlying T_s_api_Col = some (.slice T_api_Col) := by kernel_rfl
theorem sl_s_api_Col : sliceB Tryz.prog T_s_api_Col T_api_Col 3 40 = true := by kernel_rfl
theorem z_s_api_Col : (Tryz.prog.info? T_s_api_Col).bind (·.zero) = some (.slice none 0 0) := by kernel_rfl
theorem ag_api_Known : agB Tryz.prog T_api_Known 3 = true := by kernel_rfl
theorem g_api_Known_0 : fldB Tryz.prog T_api_Known 0 0 = true := by kernel_rfl
theorem g_api_Known_1 : fldB Tryz.prog T_api_Known 1 1 = true := by kernel_rfl
theorem g_api_Known_2 : fldB Tryz.prog T_api_Known 2 2 = true := by kernel_rfl
theorem f_api_Known_0 : fieldB Tryz.prog T_api_Known 0 0 = true := by kernel_rfl
theorem f_api_Known_1 : fieldB Tryz.prog T_api_Known 1 1 = true := by kernel_rfl
theorem f_api_Known_2 : fieldB Tryz.prog T_api_Known 2 2 = true := by kernel_rfl
theorem z_api_Known : (Tryz.prog.info? T_api_Known).bind (·.zero) = some (.agg #[(.string ⟨#[]⟩), (.int .i64 0), (.slice none 0 0)]) := by kernel_rfl
theorem ag_errataref11_Count : agB Tryz.prog T_errataref11_Count 2 = true := by kernel_rfl
theorem g_errataref11_Count_0 : fldB Tryz.prog T_errataref11_Count 0 0 = true := by kernel_rfl
theorem g_errataref11_Count_1 : fldB Tryz.prog T_errataref11_Count 1 1 = true := by kernel_rfl
theorem f_errataref11_Count_0 : fieldB Tryz.prog T_errataref11_Count 0 0 = true := by kernel_rfl
theorem f_errataref11_Count_1 : fieldB Tryz.prog T_errataref11_Count 1 1 = true := by kernel_rfl
theorem z_errataref11_Count : (Tryz.prog.info? T_errataref11_Count).bind (·.zero) = some (.agg #[(.int .i64 0), (.int .i64 0)]) := by kernel_rfl
theorem sc_s_int : scB Tryz.prog T_s_int = true := by kernel_rfl
theorem U_s_int : Tryz.prog.underlying T_s_int = some (.slice T_int) := by kernel_rfl
theorem sl_s_int : sliceB Tryz.prog T_s_int T_int 1 8 = true := by kernel_rfl
theorem z_s_int : (Tryz.prog.info? T_s_int).bind (·.zero) = some (.slice none 0 0) := by kernel_rfl
theorem ag_api_Producer : agB Tryz.prog T_api_Producer 4 = true := by kernel_rfl
theorem g_api_Producer_0 : fldB Tryz.prog T_api_Producer 0 0 = true := by kernel_rfl
theorem g_api_Producer_1 : fldB Tryz.prog T_api_Producer 1 1 = true := by kernel_rfl
theorem g_api_Producer_2 : fldB Tryz.prog T_api_Producer 2 2 = true := by kernel_rfl
theorem g_api_Producer_3 : fldB Tryz.prog T_api_Producer 3 3 = true := by kernel_rfl
theorem f_api_Producer_0 : fieldB Tryz.prog T_api_Producer 0 0 = true := by kernel_rfl
theorem f_api_Producer_1 : fieldB Tryz.prog T_api_Producer 1 1 = true := by kernel_rfl
theorem f_api_Producer_2 : fieldB Tryz.prog T_api_Producer 2 2 = true := by kernel_rfl
theorem f_api_Producer_3 : fieldB Tryz.prog T_api_Producer 3 3 = true := by kernel_rfl
theorem z_api_Producer : (Tryz.prog.info? T_api_Producer).bind (·.zero) = some (.agg #[(.int .i64 0), (.int .i64 0), (.int .i64 0), (.slice none 0 0)]) := by kernel_rfl
theorem sc_p_strings_Builder : scB Tryz.prog T_p_strings_Builder = true := by kernel_rfl
theorem U_p_strings_Builder : Tryz.prog.underlying T_p_strings_Builder = some (.pointer (Tryz.prog.pointee T_p_strings_Builder)) := by kernel_rfl
theorem z_p_strings_Builder : (Tryz.prog.info? T_p_strings_Builder).bind (·.zero) = some (.pointer none) := by kernel_rfl
theorem sc_s_uint8 : scB Tryz.prog T_s_uint8 = true := by kernel_rfl
theorem U_s_uint8 : Tryz.prog.underlying T_s_uint8 = some (.slice T_uint8) := by kernel_rfl
theorem sl_s_uint8 : sliceB Tryz.prog T_s_uint8 T_uint8 1 1 = true := by kernel_rfl
theorem z_s_uint8 : (Tryz.prog.info? T_s_uint8).bind (·.zero) = some (.slice none 0 0) := by kernel_rfl
theorem ag_strings_Builder : agB Tryz.prog T_strings_Builder 2 = true := by kernel_rfl
theorem g_strings_Builder_0 : fldB Tryz.prog T_strings_Builder 0 0 = true := by kernel_rfl
theorem g_strings_Builder_1 : fldB Tryz.prog T_strings_Builder 1 1 = true := by kernel_rfl
theorem f_strings_Builder_0 : fieldB Tryz.prog T_strings_Builder 0 0 = true := by kernel_rfl
theorem f_strings_Builder_1 : fieldB Tryz.prog T_strings_Builder 1 1 = true := by kernel_rfl
theorem z_strings_Builder : (Tryz.prog.info? T_strings_Builder).bind (·.zero) = some (.agg #[(.pointer none), (.slice none 0 0)]) := by kernel_rfl
theorem sc_error : scB Tryz.prog T_error = true := by kernel_rfl
theorem z_error : (Tryz.prog.info? T_error).bind (·.zero) = some .nilIface := by kernel_rfl
theorem ag_wire_Reader : agB Tryz.prog T_wire_Reader 2 = true := by kernel_rfl
theorem g_wire_Reader_0 : fldB Tryz.prog T_wire_Reader 0 0 = true := by kernel_rfl
theorem g_wire_Reader_1 : fldB Tryz.prog T_wire_Reader 1 1 = true := by kernel_rfl
theorem f_wire_Reader_0 : fieldB Tryz.prog T_wire_Reader 0 0 = true := by kernel_rfl
theorem f_wire_Reader_1 : fieldB Tryz.prog T_wire_Reader 1 1 = true := by kernel_rfl
theorem z_wire_Reader : (Tryz.prog.info? T_wire_Reader).bind (·.zero) = some (.agg #[(.string ⟨#[]⟩), (.bool false)]) := by kernel_rfl
theorem ag_errataref01_Reader : agB Tryz.prog T_errataref01_Reader 2 = true := by kernel_rfl
theorem g_errataref01_Reader_0 : fldB Tryz.prog T_errataref01_Reader 0 0 = true := by kernel_rfl
theorem g_errataref01_Reader_1 : fldB Tryz.prog T_errataref01_Reader 1 1 = true := by kernel_rfl
theorem f_errataref01_Reader_0 : fieldB Tryz.prog T_errataref01_Reader 0 0 = true := by kernel_rfl
theorem f_errataref01_Reader_1 : fieldB Tryz.prog T_errataref01_Reader 1 1 = true := by kernel_rfl
theorem z_errataref01_Reader : (Tryz.prog.info? T_errataref01_Reader).bind (·.zero) = some (.agg #[(.string ⟨#[]⟩), (.bool false)]) := by kernel_rfl
theorem sc_uint : scB Tryz.prog T_uint = true := by kernel_rfl
theorem U_uint : Tryz.prog.underlying T_uint = some (.int .u64) := by kernel_rfl
theorem z_uint : (Tryz.prog.info? T_uint).bind (·.zero) = some (.int .u64 0) := by kernel_rfl
theorem z_unsafe_Pointer : (Tryz.prog.info? T_unsafe_Pointer).bind (·.zero) = some (.pointer none) := by kernel_rfl
theorem sc_slices_sortedHint : scB Tryz.prog T_slices_sortedHint = true := by kernel_rfl
theorem U_slices_sortedHint : Tryz.prog.underlying T_slices_sortedHint = some (.int .i64) := by kernel_rfl
theorem z_slices_sortedHint : (Tryz.prog.info? T_slices_sortedHint).bind (·.zero) = some (.int .i64 0) := by kernel_rfl
theorem sc_slices_xorshift : scB Tryz.prog T_slices_xorshift = true := by kernel_rfl
theorem U_slices_xorshift : Tryz.prog.underlying T_slices_xorshift = some (.int .u64) := by kernel_rfl
theorem z_slices_xorshift : (Tryz.prog.info? T_slices_xorshift).bind (·.zero) = some (.int .u64 0) := by kernel_rfl

structure D_api_Config where
  parts : Int
  delay : Int
  late : Int
  ahead : Int
  rate : Int
  span : Int
  deriving DecidableEq
abbrev D_api_Config.v (p : D_api_Config) : Value := .agg #[.int .i64 p.parts, .int .i64 p.delay, .int .i64 p.late, .int .i64 p.ahead, .int .i64 p.rate, .int .i64 p.span]
abbrev D_api_Config.cs (p : D_api_Config) : List Value := [.int .i64 p.parts, .int .i64 p.delay, .int .i64 p.late, .int .i64 p.ahead, .int .i64 p.rate, .int .i64 p.span]
instance : Enc D_api_Config where
  sz := 6
  cells p := p.cs
  val p := p.v
  pos := by omega
  len _ := rfl
  one p v (hv : v ∈ p.cs) := by
    simp only [List.mem_cons, List.not_mem_nil, or_false] at hv
    rcases hv with rfl | rfl | rfl | rfl | rfl | rfl <;> first | rfl | exact SV.prop _
  cells_val _ := rfl
structure D_errataref11_Intake where
  c : D_api_Config
  k : SV
  now : Int
  top : Int
  next : Int
  refused : Int
  p : SV
  l : SV
abbrev D_errataref11_Intake.v (p : D_errataref11_Intake) : Value := .agg #[.int .i64 p.c.parts, .int .i64 p.c.delay, .int .i64 p.c.late, .int .i64 p.c.ahead, .int .i64 p.c.rate, .int .i64 p.c.span, p.k.1, .int .i64 p.now, .int .i64 p.top, .int .i64 p.next, .int .i64 p.refused, p.p.1, p.l.1]
abbrev D_errataref11_Intake.cs (p : D_errataref11_Intake) : List Value := [.int .i64 p.c.parts, .int .i64 p.c.delay, .int .i64 p.c.late, .int .i64 p.c.ahead, .int .i64 p.c.rate, .int .i64 p.c.span, p.k.1, .int .i64 p.now, .int .i64 p.top, .int .i64 p.next, .int .i64 p.refused, p.p.1, p.l.1]
instance : Enc D_errataref11_Intake where
  sz := 13
  cells p := p.cs
  val p := p.v
  pos := by omega
  len _ := rfl
  one p v (hv : v ∈ p.cs) := by
    simp only [List.mem_cons, List.not_mem_nil, or_false] at hv
    rcases hv with rfl | rfl | rfl | rfl | rfl | rfl | rfl | rfl | rfl | rfl | rfl | rfl | rfl <;> first | rfl | exact SV.prop _
  cells_val _ := rfl
structure D_api_Entry where
  kind : Int
  producer : Int
  epoch : Int
  seq : Int
  source : ByteArray
  schema : Int
  time : Int
  row : SV
abbrev D_api_Entry.v (p : D_api_Entry) : Value := .agg #[.int .i64 p.kind, .int .i64 p.producer, .int .i64 p.epoch, .int .i64 p.seq, .string p.source, .int .i64 p.schema, .int .i64 p.time, p.row.1]
abbrev D_api_Entry.cs (p : D_api_Entry) : List Value := [.int .i64 p.kind, .int .i64 p.producer, .int .i64 p.epoch, .int .i64 p.seq, .string p.source, .int .i64 p.schema, .int .i64 p.time, p.row.1]
instance : Enc D_api_Entry where
  sz := 8
  cells p := p.cs
  val p := p.v
  pos := by omega
  len _ := rfl
  one p v (hv : v ∈ p.cs) := by
    simp only [List.mem_cons, List.not_mem_nil, or_false] at hv
    rcases hv with rfl | rfl | rfl | rfl | rfl | rfl | rfl | rfl <;> first | rfl | exact SV.prop _
  cells_val _ := rfl
structure D_api_Value where
  kind : Int
  n : Int
  s : ByteArray
  deriving DecidableEq
abbrev D_api_Value.v (p : D_api_Value) : Value := .agg #[.int .i64 p.kind, .int .i64 p.n, .string p.s]
abbrev D_api_Value.cs (p : D_api_Value) : List Value := [.int .i64 p.kind, .int .i64 p.n, .string p.s]
instance : Enc D_api_Value where
  sz := 3
  cells p := p.cs
  val p := p.v
  pos := by omega
  len _ := rfl
  one p v (hv : v ∈ p.cs) := by
    simp only [List.mem_cons, List.not_mem_nil, or_false] at hv
    rcases hv with rfl | rfl | rfl <;> first | rfl | exact SV.prop _
  cells_val _ := rfl
structure D_intake_Intake where
  config : D_api_Config
  known : SV
  now : Int
  top : Int
  next : Int
  refused : Int
  producers : SV
  counts : SV
abbrev D_intake_Intake.v (p : D_intake_Intake) : Value := .agg #[.int .i64 p.config.parts, .int .i64 p.config.delay, .int .i64 p.config.late, .int .i64 p.config.ahead, .int .i64 p.config.rate, .int .i64 p.config.span, p.known.1, .int .i64 p.now, .int .i64 p.top, .int .i64 p.next, .int .i64 p.refused, p.producers.1, p.counts.1]
abbrev D_intake_Intake.cs (p : D_intake_Intake) : List Value := [.int .i64 p.config.parts, .int .i64 p.config.delay, .int .i64 p.config.late, .int .i64 p.config.ahead, .int .i64 p.config.rate, .int .i64 p.config.span, p.known.1, .int .i64 p.now, .int .i64 p.top, .int .i64 p.next, .int .i64 p.refused, p.producers.1, p.counts.1]
instance : Enc D_intake_Intake where
  sz := 13
  cells p := p.cs
  val p := p.v
  pos := by omega
  len _ := rfl
  one p v (hv : v ∈ p.cs) := by
    simp only [List.mem_cons, List.not_mem_nil, or_false] at hv
    rcases hv with rfl | rfl | rfl | rfl | rfl | rfl | rfl | rfl | rfl | rfl | rfl | rfl | rfl <;> first | rfl | exact SV.prop _
  cells_val _ := rfl
structure D_api_Col where
  name : ByteArray
  type_ : Int
  unit_ : ByteArray
  deriving DecidableEq
abbrev D_api_Col.v (p : D_api_Col) : Value := .agg #[.string p.name, .int .i64 p.type_, .string p.unit_]
abbrev D_api_Col.cs (p : D_api_Col) : List Value := [.string p.name, .int .i64 p.type_, .string p.unit_]
instance : Enc D_api_Col where
  sz := 3
  cells p := p.cs
  val p := p.v
  pos := by omega
  len _ := rfl
  one p v (hv : v ∈ p.cs) := by
    simp only [List.mem_cons, List.not_mem_nil, or_false] at hv
    rcases hv with rfl | rfl | rfl <;> first | rfl | exact SV.prop _
  cells_val _ := rfl
structure D_api_Known where
  source : ByteArray
  schema : Int
  cols : SV
abbrev D_api_Known.v (p : D_api_Known) : Value := .agg #[.string p.source, .int .i64 p.schema, p.cols.1]
abbrev D_api_Known.cs (p : D_api_Known) : List Value := [.string p.source, .int .i64 p.schema, p.cols.1]
instance : Enc D_api_Known where
  sz := 3
  cells p := p.cs
  val p := p.v
  pos := by omega
  len _ := rfl
  one p v (hv : v ∈ p.cs) := by
    simp only [List.mem_cons, List.not_mem_nil, or_false] at hv
    rcases hv with rfl | rfl | rfl <;> first | rfl | exact SV.prop _
  cells_val _ := rfl
structure D_errataref11_Count where
  time : Int
  n : Int
  deriving DecidableEq
abbrev D_errataref11_Count.v (p : D_errataref11_Count) : Value := .agg #[.int .i64 p.time, .int .i64 p.n]
abbrev D_errataref11_Count.cs (p : D_errataref11_Count) : List Value := [.int .i64 p.time, .int .i64 p.n]
instance : Enc D_errataref11_Count where
  sz := 2
  cells p := p.cs
  val p := p.v
  pos := by omega
  len _ := rfl
  one p v (hv : v ∈ p.cs) := by
    simp only [List.mem_cons, List.not_mem_nil, or_false] at hv
    rcases hv with rfl | rfl <;> first | rfl | exact SV.prop _
  cells_val _ := rfl
structure D_api_Producer where
  id : Int
  epoch : Int
  next : Int
  last : SV
abbrev D_api_Producer.v (p : D_api_Producer) : Value := .agg #[.int .i64 p.id, .int .i64 p.epoch, .int .i64 p.next, p.last.1]
abbrev D_api_Producer.cs (p : D_api_Producer) : List Value := [.int .i64 p.id, .int .i64 p.epoch, .int .i64 p.next, p.last.1]
instance : Enc D_api_Producer where
  sz := 4
  cells p := p.cs
  val p := p.v
  pos := by omega
  len _ := rfl
  one p v (hv : v ∈ p.cs) := by
    simp only [List.mem_cons, List.not_mem_nil, or_false] at hv
    rcases hv with rfl | rfl | rfl | rfl <;> first | rfl | exact SV.prop _
  cells_val _ := rfl
structure D_strings_Builder where
  addr : SV
  buf : SV
abbrev D_strings_Builder.v (p : D_strings_Builder) : Value := .agg #[p.addr.1, p.buf.1]
abbrev D_strings_Builder.cs (p : D_strings_Builder) : List Value := [p.addr.1, p.buf.1]
instance : Enc D_strings_Builder where
  sz := 2
  cells p := p.cs
  val p := p.v
  pos := by omega
  len _ := rfl
  one p v (hv : v ∈ p.cs) := by
    simp only [List.mem_cons, List.not_mem_nil, or_false] at hv
    rcases hv with rfl | rfl <;> first | rfl | exact SV.prop _
  cells_val _ := rfl
structure D_wire_Reader where
  rest_ : ByteArray
  bad : Bool
  deriving DecidableEq
abbrev D_wire_Reader.v (p : D_wire_Reader) : Value := .agg #[.string p.rest_, .bool p.bad]
abbrev D_wire_Reader.cs (p : D_wire_Reader) : List Value := [.string p.rest_, .bool p.bad]
instance : Enc D_wire_Reader where
  sz := 2
  cells p := p.cs
  val p := p.v
  pos := by omega
  len _ := rfl
  one p v (hv : v ∈ p.cs) := by
    simp only [List.mem_cons, List.not_mem_nil, or_false] at hv
    rcases hv with rfl | rfl <;> first | rfl | exact SV.prop _
  cells_val _ := rfl
structure D_errataref01_Reader where
  rest_ : ByteArray
  bad : Bool
  deriving DecidableEq
abbrev D_errataref01_Reader.v (p : D_errataref01_Reader) : Value := .agg #[.string p.rest_, .bool p.bad]
abbrev D_errataref01_Reader.cs (p : D_errataref01_Reader) : List Value := [.string p.rest_, .bool p.bad]
instance : Enc D_errataref01_Reader where
  sz := 2
  cells p := p.cs
  val p := p.v
  pos := by omega
  len _ := rfl
  one p v (hv : v ∈ p.cs) := by
    simp only [List.mem_cons, List.not_mem_nil, or_false] at hv
    rcases hv with rfl | rfl <;> first | rfl | exact SV.prop _
  cells_val _ := rfl

theorem bd_api_Config_1_2_3_4 {K : Value → Prop} {x1 : Int} {x2 : Int} {x3 : Int} {x4 : Int} : pureK Tryz.prog (sBuild T_api_Config #[(1, .int .i64 x1), (2, .int .i64 x2), (3, .int .i64 x3), (4, .int .i64 x4)]) K = K (.agg #[(.int .i64 0), .int .i64 x1, .int .i64 x2, .int .i64 x3, .int .i64 x4, (.int .i64 0)]) := pureK_eq fun w => by kernel_rfl
-- no build rule for T_intake_Intake [0, 3, 7]: field struct
theorem bd_api_Col_0 {K : Value → Prop} {x0 : ByteArray} : pureK Tryz.prog (sBuild T_api_Col #[(0, .string x0)]) K = K (.agg #[.string x0, (.int .i64 0), (.string ⟨#[]⟩)]) := pureK_eq fun w => by kernel_rfl
theorem bd_api_Known_0_1_2 {K : Value → Prop} {x0 : ByteArray} {x1 : Int} {x2 : Option Addr} {n2 c2 : Nat} : pureK Tryz.prog (sBuild T_api_Known #[(0, .string x0), (1, .int .i64 x1), (2, .slice x2 n2 c2)]) K = K (.agg #[.string x0, .int .i64 x1, .slice x2 n2 c2]) := pureK_eq fun w => by kernel_rfl
theorem bd_api_Col_0_1 {K : Value → Prop} {x0 : ByteArray} {x1 : Int} : pureK Tryz.prog (sBuild T_api_Col #[(0, .string x0), (1, .int .i64 x1)]) K = K (.agg #[.string x0, .int .i64 x1, (.string ⟨#[]⟩)]) := pureK_eq fun w => by kernel_rfl
-- no build rule for T_errataref11_Intake [0, 1, 3]: field struct
theorem bd_errataref11_Count_0 {K : Value → Prop} {x0 : Int} : pureK Tryz.prog (sBuild T_errataref11_Count #[(0, .int .i64 x0)]) K = K (.agg #[.int .i64 x0, (.int .i64 0)]) := pureK_eq fun w => by kernel_rfl
theorem bd_api_Value_1 {K : Value → Prop} {x1 : Int} : pureK Tryz.prog (sBuild T_api_Value #[(1, .int .i64 x1)]) K = K (.agg #[(.int .i64 0), .int .i64 x1, (.string ⟨#[]⟩)]) := pureK_eq fun w => by kernel_rfl
theorem bd_api_Entry_1_3_4_5_6_7 {K : Value → Prop} {x1 : Int} {x3 : Int} {x4 : ByteArray} {x5 : Int} {x6 : Int} {x7 : Option Addr} {n7 c7 : Nat} : pureK Tryz.prog (sBuild T_api_Entry #[(1, .int .i64 x1), (3, .int .i64 x3), (4, .string x4), (5, .int .i64 x5), (6, .int .i64 x6), (7, .slice x7 n7 c7)]) K = K (.agg #[(.int .i64 0), .int .i64 x1, (.int .i64 0), .int .i64 x3, .string x4, .int .i64 x5, .int .i64 x6, .slice x7 n7 c7]) := pureK_eq fun w => by kernel_rfl
theorem bd_api_Producer_0_1 {K : Value → Prop} {x0 : Int} {x1 : Int} : pureK Tryz.prog (sBuild T_api_Producer #[(0, .int .i64 x0), (1, .int .i64 x1)]) K = K (.agg #[.int .i64 x0, .int .i64 x1, (.int .i64 0), (.slice none 0 0)]) := pureK_eq fun w => by kernel_rfl
theorem bd_errataref11_Count_0_1 {K : Value → Prop} {x0 : Int} {x1 : Int} : pureK Tryz.prog (sBuild T_errataref11_Count #[(0, .int .i64 x0), (1, .int .i64 x1)]) K = K (.agg #[.int .i64 x0, .int .i64 x1]) := pureK_eq fun w => by kernel_rfl
theorem bd_wire_Reader_0 {K : Value → Prop} {x0 : ByteArray} : pureK Tryz.prog (sBuild T_wire_Reader #[(0, .string x0)]) K = K (.agg #[.string x0, (.bool false)]) := pureK_eq fun w => by kernel_rfl
theorem bd_api_Producer_0_1_2_3 {K : Value → Prop} {x0 : Int} {x1 : Int} {x2 : Int} {x3 : Option Addr} {n3 c3 : Nat} : pureK Tryz.prog (sBuild T_api_Producer #[(0, .int .i64 x0), (1, .int .i64 x1), (2, .int .i64 x2), (3, .slice x3 n3 c3)]) K = K (.agg #[.int .i64 x0, .int .i64 x1, .int .i64 x2, .slice x3 n3 c3]) := pureK_eq fun w => by kernel_rfl
theorem bd_errataref01_Reader_0 {K : Value → Prop} {x0 : ByteArray} : pureK Tryz.prog (sBuild T_errataref01_Reader #[(0, .string x0)]) K = K (.agg #[.string x0, (.bool false)]) := pureK_eq fun w => by kernel_rfl
theorem bd_api_Producer_ {K : Value → Prop}  : pureK Tryz.prog (sBuild T_api_Producer #[]) K = K (.agg #[(.int .i64 0), (.int .i64 0), (.int .i64 0), (.slice none 0 0)]) := pureK_eq fun w => by kernel_rfl
theorem bd_api_Producer_0 {K : Value → Prop} {x0 : Int} : pureK Tryz.prog (sBuild T_api_Producer #[(0, .int .i64 x0)]) K = K (.agg #[.int .i64 x0, (.int .i64 0), (.int .i64 0), (.slice none 0 0)]) := pureK_eq fun w => by kernel_rfl
theorem bd_api_Value_0_1 {K : Value → Prop} {x0 : Int} {x1 : Int} : pureK Tryz.prog (sBuild T_api_Value #[(0, .int .i64 x0), (1, .int .i64 x1)]) K = K (.agg #[.int .i64 x0, .int .i64 x1, (.string ⟨#[]⟩)]) := pureK_eq fun w => by kernel_rfl
theorem bd_api_Value_0_2 {K : Value → Prop} {x0 : Int} {x2 : ByteArray} : pureK Tryz.prog (sBuild T_api_Value #[(0, .int .i64 x0), (2, .string x2)]) K = K (.agg #[.int .i64 x0, (.int .i64 0), .string x2]) := pureK_eq fun w => by kernel_rfl
theorem bd_api_Value_0 {K : Value → Prop} {x0 : Int} : pureK Tryz.prog (sBuild T_api_Value #[(0, .int .i64 x0)]) K = K (.agg #[.int .i64 x0, (.int .i64 0), (.string ⟨#[]⟩)]) := pureK_eq fun w => by kernel_rfl

theorem fl_api_Value : (Tryz.prog.fieldsOf T_api_Value).toList = [{ name := "Kind", type := T_int, offset := 0, embedded := false, tag := "", pkgPath := "", byteOffset := 0 }, { name := "N", type := T_int, offset := 1, embedded := false, tag := "", pkgPath := "", byteOffset := 8 }, { name := "S", type := T_string, offset := 2, embedded := false, tag := "", pkgPath := "", byteOffset := 16 }] := by kernel_rfl
theorem run_eq_api_Value (p q : D_api_Value) (w : World) : (Op.equalIn 10000 T_api_Value p.v q.v).run Tryz.prog w = .ok (decide (p = q)) w := by
  obtain ⟨a0, a1, a2⟩ := p
  obtain ⟨b0, b1, b2⟩ := q
  show (Op.equalIn 10000 T_api_Value (.agg #[.int .i64 a0, .int .i64 a1, .string a2]) (.agg #[.int .i64 b0, .int .i64 b1, .string b2])).run Tryz.prog w = _
  rw [show (10000 : Nat) = 9999 + 1 from rfl, run_equalIn_agg w 9999 T_api_Value _ _ (by kernel_rfl) (by kernel_rfl), fl_api_Value]
  rw [show (9999 : Nat) = 9998 + 1 from rfl]
  have e : decide ((⟨a0, a1, a2⟩ : D_api_Value) = ⟨b0, b1, b2⟩) = (decide (a0 = b0) && (decide (a1 = b1) && (decide (a2 = b2) && true))) := by
    rw [Bool.eq_iff_iff]; simp
  rw [e]
  have h0 := run_equalIn_int (P := Tryz.prog) w 9998 T_int .i64 .i64 a0 b0 (by kernel_rfl)
  have h1 := run_equalIn_int (P := Tryz.prog) w 9998 T_int .i64 .i64 a1 b1 (by kernel_rfl)
  have h2 := run_equalIn_string (P := Tryz.prog) w 9998 T_string a2 b2 (by kernel_rfl)
  rw [toList_beq] at h2
  exact eqF_cons (by decide) (part_sc (by kernel_rfl) rfl) (part_sc (by kernel_rfl) rfl) h0 <| eqF_cons (by decide) (part_sc (by kernel_rfl) rfl) (part_sc (by kernel_rfl) rfl) h1 <| eqF_cons (by decide) (part_sc (by kernel_rfl) rfl) (part_sc (by kernel_rfl) rfl) h2 <| eqF_nil
theorem eq_api_Value {K : Value → Prop} {xo yo : Operand} (p q : D_api_Value) : pureK Tryz.prog (sBin .eql T_api_Value xo yo p.v q.v) K = K (.bool (decide (p = q))) := pureK_eq fun w => by
  refine sBin_eq (run_eqGuard_agg w .eql _ _ _ _ _ (by kernel_rfl)) ?_
  show (binOp .eql T_api_Value (.agg _) (.agg _)).run _ _ = _
  rw [run_eql_struct]
  have := run_eq_api_Value p q w
  rw [show (p.v : Value) = .agg _ from rfl, show (q.v : Value) = .agg _ from rfl] at this
  rw [this]
  rfl
theorem neq_api_Value {K : Value → Prop} {xo yo : Operand} (p q : D_api_Value) : pureK Tryz.prog (sBin .neq T_api_Value xo yo p.v q.v) K = K (.bool (!decide (p = q))) := pureK_eq fun w => by
  refine sBin_eq (run_eqGuard_agg w .neq _ _ _ _ _ (by kernel_rfl)) ?_
  show (binOp .neq T_api_Value (.agg _) (.agg _)).run _ _ = _
  rw [run_neq_struct]
  have := run_eq_api_Value p q w
  rw [show (p.v : Value) = .agg _ from rfl, show (q.v : Value) = .agg _ from rfl] at this
  rw [this]
  rfl

end Go.Proofs.YtefinemhfgdpdaaGreatDoor
