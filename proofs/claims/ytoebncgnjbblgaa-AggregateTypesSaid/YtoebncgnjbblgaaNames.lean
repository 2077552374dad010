/-
  The reckoned conditions of the functions that this seat's statements reach, printed by program, each held against the translation by the kernel. No condition.
-/
import Derived.Test.YtoebncgnjbblgaaOps
import Derived.Test.YtoebncgnjbblgaaProg
namespace Go.Proofs.Ytoebncgnjbblgaa
set_option linter.unusedVariables false

abbrev T_ : TypeId := 0
abbrev T_int : TypeId := 3
abbrev T_string : TypeId := 9
abbrev T_s_api_Agg : TypeId := 22
abbrev T_s_api_Col : TypeId := 23
abbrev T_s_s_api_Value : TypeId := 24
abbrev T_api_Errno : TypeId := 27
abbrev T_api_Agg : TypeId := 33
abbrev T_p_aggregate_Acc : TypeId := 34
abbrev T_s_api_Value : TypeId := 37
abbrev T_api_Col : TypeId := 41
abbrev T_api_Value : TypeId := 43
abbrev T_s_int : TypeId := 49
abbrev T_s_map_api_Value_int : TypeId := 50
abbrev T_aggregate_Acc : TypeId := 52
abbrev T_map_api_Value_int : TypeId := 54
abbrev T_uint : TypeId := 82
abbrev T_slices_sortedHint : TypeId := 84
abbrev T_slices_xorshift : TypeId := 95

abbrev F_erratalaw30_AggregateTypes : FuncId := 3
abbrev F_erratalaw30_small : FuncId := 4
abbrev F_erratalaw30_right : FuncId := 5
abbrev F_aggregate_Cols : FuncId := 6
abbrev F_aggregate_Type : FuncId := 7
abbrev F_aggregate_New : FuncId := 8
abbrev F_shape_Fits : FuncId := 9
abbrev F_aggregate_Acc_Add : FuncId := 10
abbrev F_aggregate_Acc_Result : FuncId := 11
abbrev F_value_Right : FuncId := 12
abbrev F_errataref03_Same : FuncId := 13
abbrev F_aggregate_Acc_Rows : FuncId := 14
abbrev F_aggregate_Acc_Empty : FuncId := 15
abbrev F_slices_Clone_s_api_Agg_api_Agg : FuncId := 16
abbrev F_aggregate_ordered : FuncId := 17
abbrev F_value_RightRow : FuncId := 18
abbrev F_aggregate_at : FuncId := 19
abbrev F_aggregate_put : FuncId := 20
abbrev F_value_Int : FuncId := 21
abbrev F_aggregate_Acc_best : FuncId := 22
abbrev F_value_Text : FuncId := 23
abbrev F_value_Bool : FuncId := 24
abbrev F_errataref03_CompareRows : FuncId := 25
abbrev F_slices_ContainsFunc_s_int_int : FuncId := 26
abbrev F_aggregate_Acc_Empty_1 : FuncId := 27
abbrev F_value_all : FuncId := 28
abbrev F_slices_DeleteFunc_s_api_Value_api_Value : FuncId := 29
abbrev F_aggregate_Acc_sorted : FuncId := 30
abbrev F_aggregate_Acc_best_1 : FuncId := 31
abbrev F_errataref03_Compare : FuncId := 32
abbrev F_slices_IndexFunc_s_int_int : FuncId := 33
abbrev F_slices_ContainsFunc_s_api_Value_api_Value : FuncId := 34
abbrev F_value_all_1 : FuncId := 35
abbrev F_slices_IndexFunc_s_api_Value_api_Value : FuncId := 36
abbrev F_slices_SortedFunc_api_Value : FuncId := 37
abbrev F_maps_Keys_map_api_Value_int_api_Value_int : FuncId := 38
abbrev F_value_Compare : FuncId := 39
abbrev F_slices_Collect_api_Value : FuncId := 40
abbrev F_slices_SortFunc_s_api_Value_api_Value : FuncId := 41
abbrev F_maps_Keys_map_api_Value_int_api_Value_int_1 : FuncId := 42
abbrev F_cmp_Or_int : FuncId := 43
abbrev F_cmp_Compare_int : FuncId := 44
abbrev F_strings_Compare : FuncId := 45
abbrev F_slices_AppendSeq_s_api_Value_api_Value : FuncId := 46
abbrev F_slices_pdqsortCmpFunc_api_Value : FuncId := 47
abbrev F_math_bits_Len : FuncId := 48
abbrev F_cmp_isNaN_int : FuncId := 49
abbrev F_internal_bytealg_CompareString : FuncId := 50
abbrev F_slices_insertionSortCmpFunc_api_Value : FuncId := 51
abbrev F_slices_heapSortCmpFunc_api_Value : FuncId := 52
abbrev F_slices_breakPatternsCmpFunc_api_Value : FuncId := 53
abbrev F_slices_choosePivotCmpFunc_api_Value : FuncId := 54
abbrev F_slices_reverseRangeCmpFunc_api_Value : FuncId := 55
abbrev F_slices_partialInsertionSortCmpFunc_api_Value : FuncId := 56
abbrev F_slices_partitionEqualCmpFunc_api_Value : FuncId := 57
abbrev F_slices_partitionCmpFunc_api_Value : FuncId := 58
abbrev F_math_bits_Len32 : FuncId := 59
abbrev F_math_bits_Len64 : FuncId := 60
abbrev F_slices_siftDownCmpFunc_api_Value : FuncId := 62
abbrev F_slices_nextPowerOfTwo : FuncId := 63
abbrev F_slices_xorshift_Next : FuncId := 64
abbrev F_slices_medianAdjacentCmpFunc_api_Value : FuncId := 65
abbrev F_slices_medianCmpFunc_api_Value : FuncId := 66
abbrev F_slices_order2CmpFunc_api_Value : FuncId := 67
abbrev G_internal_bytealg_MaxLen : Nat := 0

end Go.Proofs.Ytoebncgnjbblgaa
