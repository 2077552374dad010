/-
  The reckoned conditions of the functions that this seat's statements reach, printed by program, each held against the translation by the kernel. No condition.
-/
import Derived.Test.YtefinemhfgdpdaaOps
import Derived.Test.YtefinemhfgdpdaaProg
namespace Go.Proofs.Ytefinemhfgdpdaa
set_option linter.unusedVariables false

abbrev T_ : TypeId := 0
abbrev T_int : TypeId := 3
abbrev T_string : TypeId := 9
abbrev T_api_Config : TypeId := 23
abbrev T_s_api_Entry : TypeId := 24
abbrev T_s_int : TypeId := 25
abbrev T_p_intake_Intake : TypeId := 27
abbrev T_s_api_Known : TypeId := 29
abbrev T_api_Errno : TypeId := 33
abbrev T_s_api_Value : TypeId := 36
abbrev T_api_Entry : TypeId := 38
abbrev T_map_int_int : TypeId := 44
abbrev T_s_api_Producer : TypeId := 45
abbrev T_intake_Intake : TypeId := 47
abbrev T_api_Col : TypeId := 50
abbrev T_s_api_Col : TypeId := 51
abbrev T_api_Known : TypeId := 53
abbrev T_api_Value : TypeId := 55
abbrev T_api_Producer : TypeId := 64
abbrev T_uint : TypeId := 85

abbrev F_erratalaw11_IntakeOnce : FuncId := 3
abbrev F_erratalaw11_IntakeFinal : FuncId := 4
abbrev F_erratalaw11_small : FuncId := 5
abbrev F_intake_New : FuncId := 6
abbrev F_erratalaw11_known : FuncId := 7
abbrev F_erratalaw11_few : FuncId := 8
abbrev F_intake_Right : FuncId := 9
abbrev F_intake_Intake_Apply : FuncId := 10
abbrev F_intake_Intake_Next : FuncId := 11
abbrev F_intake_Intake_Closed : FuncId := 12
abbrev F_intake_Intake_Mark : FuncId := 13
abbrev F_intake_Intake_Top : FuncId := 14
abbrev F_intake_Intake_Now : FuncId := 15
abbrev F_intake_Intake_Count : FuncId := 16
abbrev F_erratalaw11_entry : FuncId := 17
abbrev F_intake_Intake_Refused : FuncId := 18
abbrev F_intake_Intake_Know : FuncId := 19
abbrev F_intake_between : FuncId := 20
abbrev F_intake_Intake_accept : FuncId := 21
abbrev F_producer_Fence : FuncId := 22
abbrev F_intake_isTime : FuncId := 23
abbrev F_intake_Intake_raise : FuncId := 24
abbrev F_slices_Clone_s_api_Col_api_Col : FuncId := 25
abbrev F_intake_Intake_put : FuncId := 26
abbrev F_producer_Put : FuncId := 27
abbrev F_producer_find : FuncId := 28
abbrev F_producer_in : FuncId := 29
abbrev F_producer_with : FuncId := 30
abbrev F_maps_DeleteFunc_map_int_int_int_int : FuncId := 31
abbrev F_intake_Intake_raise_1 : FuncId := 32
abbrev F_producer_Look : FuncId := 33
abbrev F_intake_Intake_fits : FuncId := 34
abbrev F_producer_clone : FuncId := 35
abbrev F_slices_Clone_s_int_int : FuncId := 36
abbrev F_slices_IndexFunc_s_api_Producer_api_Producer : FuncId := 37
abbrev F_producer_find_1 : FuncId := 38
abbrev F_slices_BinarySearchFunc_s_api_Producer_api_Producer_int : FuncId := 39
abbrev F_producer_with_1 : FuncId := 40
abbrev F_slices_Insert_s_api_Producer_api_Producer : FuncId := 41
abbrev F_slices_IndexFunc_s_api_Known_api_Known : FuncId := 42
abbrev F_intake_Intake_fits_1 : FuncId := 43
abbrev F_slices_EqualFunc_s_api_Value_s_api_Col_api_Value_api_Col : FuncId := 44
abbrev F_intake_Intake_fits_2 : FuncId := 45
abbrev F_value_RightRow : FuncId := 46
abbrev F_slices_overlaps_api_Producer : FuncId := 47
abbrev F_slices_rotateRight_api_Producer : FuncId := 48
abbrev F_value_all : FuncId := 49
abbrev F_slices_rotateLeft_api_Producer : FuncId := 50
abbrev F_slices_ContainsFunc_s_api_Value_api_Value : FuncId := 51
abbrev F_value_all_1 : FuncId := 52
abbrev F_value_Right : FuncId := 53
abbrev F_slices_Reverse_s_api_Producer_api_Producer : FuncId := 54
abbrev F_slices_IndexFunc_s_api_Value_api_Value : FuncId := 55
abbrev F_value_Int : FuncId := 56
abbrev F_value_Text : FuncId := 57
abbrev F_value_Bool : FuncId := 58

end Go.Proofs.Ytefinemhfgdpdaa
