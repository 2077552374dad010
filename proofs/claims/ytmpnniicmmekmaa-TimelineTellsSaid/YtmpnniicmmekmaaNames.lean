/-
  The reckoned conditions of the functions that this seat's statements reach, printed by program, each held against the translation by the kernel. No condition.
-/
import Derived.Test.YtmpnniicmmekmaaOps
import Derived.Test.YtmpnniicmmekmaaProg
namespace Go.Proofs.Ytmpnniicmmekmaa
set_option linter.unusedVariables false

abbrev T_ : TypeId := 0
abbrev T_int : TypeId := 3
abbrev T_bool : TypeId := 4
abbrev T_uint8 : TypeId := 5
abbrev T_string : TypeId := 9
abbrev T_s_erratalaw45_Change : TypeId := 22
abbrev T_s_api_Seg : TypeId := 24
abbrev T_api_Errno : TypeId := 26
abbrev T_erratalaw45_Change : TypeId := 30
abbrev T_api_Seg : TypeId := 34
abbrev T_s_int : TypeId := 36
abbrev T_s_api_Delta : TypeId := 39
abbrev T_s_api_Value : TypeId := 47
abbrev T_api_Delta : TypeId := 49
abbrev T_api_Value : TypeId := 55
abbrev T_uint : TypeId := 61
abbrev T_slices_sortedHint : TypeId := 66
abbrev T_uint32 : TypeId := 75
abbrev T_uint64 : TypeId := 77
abbrev T_slices_xorshift : TypeId := 78

abbrev F_erratalaw45_TimelineLast : FuncId := 3
abbrev F_erratalaw45_TimelineSame : FuncId := 4
abbrev F_erratalaw45_TimelineOpen : FuncId := 5
abbrev F_erratalaw45_TimelineTells : FuncId := 6
abbrev F_erratalaw45_TimelinePicks : FuncId := 7
abbrev F_erratalaw45_small : FuncId := 8
abbrev F_erratalaw45_begun : FuncId := 9
abbrev F_timeline_Replace : FuncId := 10
abbrev F_timeline_Right : FuncId := 11
abbrev F_timeline_At : FuncId := 12
abbrev F_timeline_Same : FuncId := 13
abbrev F_timeline_Open : FuncId := 14
abbrev F_erratalaw45_few : FuncId := 15
abbrev F_errataref45_Right : FuncId := 16
abbrev F_errataref45_Same : FuncId := 17
abbrev F_errataref45_Replace : FuncId := 18
abbrev F_errataref45_At : FuncId := 19
abbrev F_errataref45_SameInts : FuncId := 20
abbrev F_timeline_Versions : FuncId := 21
abbrev F_errataref45_Versions : FuncId := 22
abbrev F_timeline_Spans : FuncId := 23
abbrev F_errataref45_Spans : FuncId := 24
abbrev F_errataref45_SameDeltas : FuncId := 25
abbrev F_timeline_Pick : FuncId := 26
abbrev F_errataref45_Pick : FuncId := 27
abbrev F_slices_Clone_s_api_Seg_api_Seg : FuncId := 28
abbrev F_timeline_behind : FuncId := 29
abbrev F_slices_Equal_s_api_Seg_api_Seg : FuncId := 30
abbrev F_timeline_versions : FuncId := 31
abbrev F_errataref45_end : FuncId := 32
abbrev F_errataref03_Same : FuncId := 33
abbrev F_slices_Clone_s_api_Value_api_Value : FuncId := 34
abbrev F_sort_Search : FuncId := 35
abbrev F_timeline_behind_1 : FuncId := 36
abbrev F_slices_Sort_s_int_int : FuncId := 37
abbrev F_slices_Compact_s_int_int : FuncId := 38
abbrev F_errataref03_CompareRows : FuncId := 39
abbrev F_slices_pdqsortOrdered_int : FuncId := 40
abbrev F_math_bits_Len : FuncId := 41
abbrev F_errataref03_Compare : FuncId := 42
abbrev F_slices_insertionSortOrdered_int : FuncId := 43
abbrev F_slices_heapSortOrdered_int : FuncId := 44
abbrev F_slices_breakPatternsOrdered_int : FuncId := 45
abbrev F_slices_choosePivotOrdered_int : FuncId := 46
abbrev F_slices_reverseRangeOrdered_int : FuncId := 47
abbrev F_slices_partialInsertionSortOrdered_int : FuncId := 48
abbrev F_cmp_Less_int : FuncId := 49
abbrev F_slices_partitionEqualOrdered_int : FuncId := 50
abbrev F_slices_partitionOrdered_int : FuncId := 51
abbrev F_math_bits_Len32 : FuncId := 52
abbrev F_math_bits_Len64 : FuncId := 53
abbrev F_slices_siftDownOrdered_int : FuncId := 54
abbrev F_slices_nextPowerOfTwo : FuncId := 55
abbrev F_slices_xorshift_Next : FuncId := 56
abbrev F_slices_medianAdjacentOrdered_int : FuncId := 57
abbrev F_slices_medianOrdered_int : FuncId := 58
abbrev F_cmp_isNaN_int : FuncId := 59
abbrev F_slices_order2Ordered_int : FuncId := 60

end Go.Proofs.Ytmpnniicmmekmaa
