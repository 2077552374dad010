/-
  The reckoned conditions of the functions that this seat's statements reach, printed by program, each held against the translation by the kernel. No condition.
-/
import Derived.Test.YtppnebcpalialaaOps
import Derived.Test.YtppnebcpalialaaProg
namespace Go.Proofs.Ytppnebcpalialaa
set_option linter.unusedVariables false

abbrev T_int : TypeId := 3
abbrev T_s_erratalaw10_Op : TypeId := 22
abbrev T_s_api_Producer : TypeId := 24
abbrev T_s_erratalaw10_kept : TypeId := 25
abbrev T_s_int : TypeId := 26
abbrev T_erratalaw10_Op : TypeId := 28
abbrev T_api_Errno : TypeId := 29
abbrev T_api_Entry : TypeId := 36
abbrev T_erratalaw10_kept : TypeId := 39
abbrev T_api_Producer : TypeId := 45
abbrev T_uint : TypeId := 58

abbrev F_erratalaw10_ProducerOnce : FuncId := 3
abbrev F_erratalaw10_ProducerApart : FuncId := 4
abbrev F_erratalaw10_small : FuncId := 5
abbrev F_producer_Fence : FuncId := 6
abbrev F_producer_Look : FuncId := 7
abbrev F_erratalaw10_record : FuncId := 8
abbrev F_producer_Put : FuncId := 9
abbrev F_producer_Right : FuncId := 10
abbrev F_erratalaw10_few : FuncId := 11
abbrev F_errataref10_Right : FuncId := 12
abbrev F_producer_find : FuncId := 13
abbrev F_producer_in : FuncId := 14
abbrev F_producer_with : FuncId := 15
abbrev F_producer_clone : FuncId := 16
abbrev F_slices_Clone_s_int_int : FuncId := 17
abbrev F_producer_fine : FuncId := 18
abbrev F_errataref10_in : FuncId := 19
abbrev F_slices_IndexFunc_s_api_Producer_api_Producer : FuncId := 20
abbrev F_producer_find_1 : FuncId := 21
abbrev F_slices_BinarySearchFunc_s_api_Producer_api_Producer_int : FuncId := 22
abbrev F_producer_with_1 : FuncId := 23
abbrev F_slices_Insert_s_api_Producer_api_Producer : FuncId := 24
abbrev F_slices_overlaps_api_Producer : FuncId := 25
abbrev F_slices_rotateRight_api_Producer : FuncId := 26
abbrev F_slices_rotateLeft_api_Producer : FuncId := 27
abbrev F_slices_Reverse_s_api_Producer_api_Producer : FuncId := 28

end Go.Proofs.Ytppnebcpalialaa
