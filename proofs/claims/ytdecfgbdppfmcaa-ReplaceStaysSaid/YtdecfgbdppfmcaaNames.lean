/-
  The reckoned conditions of the functions that this seat's statements reach, printed by program, each held against the translation by the kernel. No condition.
-/
import Derived.Test.YtdecfgbdppfmcaaOps
import Derived.Test.YtdecfgbdppfmcaaProg
namespace Go.Proofs.Ytdecfgbdppfmcaa
set_option linter.unusedVariables false

abbrev T_ : TypeId := 0
abbrev T_int : TypeId := 3
abbrev T_bool : TypeId := 4
abbrev T_uint8 : TypeId := 5
abbrev T_string : TypeId := 9
abbrev T_s_erratalaw47_Op : TypeId := 22
abbrev T_api_Seg : TypeId := 26
abbrev T_s_api_Seg : TypeId := 27
abbrev T_s_api_Replacement : TypeId := 28
abbrev T_erratalaw47_state : TypeId := 30
abbrev T_api_Errno : TypeId := 31
abbrev T_erratalaw47_Op : TypeId := 35
abbrev T_api_Replacement : TypeId := 39
abbrev T_s_int : TypeId := 41
abbrev T_uint : TypeId := 73
abbrev T_slices_sortedHint : TypeId := 75
abbrev T_uint32 : TypeId := 84
abbrev T_uint64 : TypeId := 86
abbrev T_slices_xorshift : TypeId := 87

abbrev F_erratalaw47_ReplaceAsks : FuncId := 3
abbrev F_erratalaw47_ReplaceSides : FuncId := 4
abbrev F_erratalaw47_ReplaceTimeline : FuncId := 5
abbrev F_erratalaw47_ReplaceStays : FuncId := 6
abbrev F_erratalaw47_small : FuncId := 7
abbrev F_erratalaw47_state_step : FuncId := 8
abbrev F_replace_Ask : FuncId := 9
abbrev F_replace_Side : FuncId := 10
abbrev F_timeline_At : FuncId := 11
abbrev F_replace_Right : FuncId := 12
abbrev F_timeline_Right : FuncId := 13
abbrev F_replace_Needed : FuncId := 14
abbrev F_replace_Caught : FuncId := 15
abbrev F_replace_Cut : FuncId := 16
abbrev F_replace_Abandon : FuncId := 17
abbrev F_replace_within : FuncId := 18
abbrev F_replace_first : FuncId := 19
abbrev F_slices_Clone_s_api_Replacement_api_Replacement : FuncId := 20
abbrev F_replace_open : FuncId := 21
abbrev F_replace_Open : FuncId := 22
abbrev F_timeline_behind : FuncId := 23
abbrev F_replace_right : FuncId := 24
abbrev F_timeline_Open : FuncId := 25
abbrev F_slices_Sort_s_int_int : FuncId := 26
abbrev F_slices_Compact_s_int_int : FuncId := 27
abbrev F_replace_set : FuncId := 28
abbrev F_slices_Clone_s_api_Seg_api_Seg : FuncId := 29
abbrev F_timeline_Replace : FuncId := 30
abbrev F_slices_IndexFunc_s_api_Replacement_api_Replacement : FuncId := 31
abbrev F_slices_DeleteFunc_s_api_Replacement_api_Replacement : FuncId := 32
abbrev F_replace_Open_1 : FuncId := 33
abbrev F_sort_Search : FuncId := 34
abbrev F_timeline_behind_1 : FuncId := 35
abbrev F_timeline_versions : FuncId := 36
abbrev F_slices_pdqsortOrdered_int : FuncId := 37
abbrev F_math_bits_Len : FuncId := 38
abbrev F_slices_insertionSortOrdered_int : FuncId := 39
abbrev F_slices_heapSortOrdered_int : FuncId := 40
abbrev F_slices_breakPatternsOrdered_int : FuncId := 41
abbrev F_slices_choosePivotOrdered_int : FuncId := 42
abbrev F_slices_reverseRangeOrdered_int : FuncId := 43
abbrev F_slices_partialInsertionSortOrdered_int : FuncId := 44
abbrev F_cmp_Less_int : FuncId := 45
abbrev F_slices_partitionEqualOrdered_int : FuncId := 46
abbrev F_slices_partitionOrdered_int : FuncId := 47
abbrev F_math_bits_Len32 : FuncId := 48
abbrev F_math_bits_Len64 : FuncId := 49
abbrev F_slices_siftDownOrdered_int : FuncId := 50
abbrev F_slices_nextPowerOfTwo : FuncId := 51
abbrev F_slices_xorshift_Next : FuncId := 52
abbrev F_slices_medianAdjacentOrdered_int : FuncId := 53
abbrev F_slices_medianOrdered_int : FuncId := 54
abbrev F_cmp_isNaN_int : FuncId := 55
abbrev F_slices_order2Ordered_int : FuncId := 56

end Go.Proofs.Ytdecfgbdppfmcaa
