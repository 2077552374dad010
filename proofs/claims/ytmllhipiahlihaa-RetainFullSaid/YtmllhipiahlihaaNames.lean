/-
  The reckoned conditions of the functions that this seat's statements reach, printed by program, each held against the translation by the kernel. No condition.
-/
import Derived.Test.YtmllhipiahlihaaOps
import Derived.Test.YtmllhipiahlihaaProg
namespace Go.Proofs.Ytmllhipiahlihaa
set_option linter.unusedVariables false

abbrev T_int : TypeId := 3
abbrev T_bool : TypeId := 4
abbrev T_string : TypeId := 9
abbrev T_s_erratalaw12_Op : TypeId := 22
abbrev T_p_retain_Store : TypeId := 25
abbrev T_s_api_Event : TypeId := 27
abbrev T_s_api_Value : TypeId := 28
abbrev T_api_Event : TypeId := 30
abbrev T_erratalaw12_Op : TypeId := 32
abbrev T_api_Errno : TypeId := 34
abbrev T_s_int : TypeId := 42
abbrev T_api_Value : TypeId := 44
abbrev T_retain_Store : TypeId := 52

abbrev F_erratalaw12_RetainHolds : FuncId := 3
abbrev F_erratalaw12_RetainDrops : FuncId := 4
abbrev F_erratalaw12_RetainFull : FuncId := 5
abbrev F_erratalaw12_small : FuncId := 6
abbrev F_erratalaw12_few : FuncId := 7
abbrev F_retain_New : FuncId := 8
abbrev F_erratalaw12_pick : FuncId := 9
abbrev F_retain_Store_Add : FuncId := 10
abbrev F_retain_Store_Drop : FuncId := 11
abbrev F_retain_Store_Trim : FuncId := 12
abbrev F_retain_Store_First : FuncId := 13
abbrev F_retain_Store_Horizon : FuncId := 14
abbrev F_retain_Store_Next : FuncId := 15
abbrev F_errataref12_Same : FuncId := 16
abbrev F_retain_Store_Slice : FuncId := 17
abbrev F_retain_Store_From : FuncId := 18
abbrev F_retain_Store_Copy : FuncId := 19
abbrev F_errataref03_Same : FuncId := 20
abbrev F_erratalaw12_after : FuncId := 21
abbrev F_retain_Store_Part : FuncId := 22
abbrev F_errataref12_Few : FuncId := 23
abbrev F_retain_Store_right : FuncId := 24
abbrev F_value_RightRow : FuncId := 25
abbrev F_retain_event : FuncId := 26
abbrev F_retain_Store_cut : FuncId := 27
abbrev F_retain_Store_place : FuncId := 28
abbrev F_slices_IndexFunc_s_api_Event_api_Event : FuncId := 29
abbrev F_retain_Store_Trim_1 : FuncId := 30
abbrev F_retain_copied_api_Event : FuncId := 31
abbrev F_errataref03_CompareRows : FuncId := 32
abbrev F_value_all : FuncId := 33
abbrev F_slices_Clone_s_api_Value_api_Value : FuncId := 34
abbrev F_slices_Clone_s_api_Event_api_Event : FuncId := 35
abbrev F_errataref03_Compare : FuncId := 36
abbrev F_slices_ContainsFunc_s_api_Value_api_Value : FuncId := 37
abbrev F_value_all_1 : FuncId := 38
abbrev F_value_Right : FuncId := 39
abbrev F_slices_IndexFunc_s_api_Value_api_Value : FuncId := 40
abbrev F_value_Int : FuncId := 41
abbrev F_value_Text : FuncId := 42
abbrev F_value_Bool : FuncId := 43

end Go.Proofs.Ytmllhipiahlihaa
