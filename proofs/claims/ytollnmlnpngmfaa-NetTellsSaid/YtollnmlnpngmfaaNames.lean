/-
  The reckoned conditions of the functions that this seat's statements reach, printed by program, each held against the translation by the kernel. No condition.
-/
import Derived.Test.YtollnmlnpngmfaaOps
import Derived.Test.YtollnmlnpngmfaaProg
namespace Go.Proofs.Ytollnmlnpngmfaa
set_option linter.unusedVariables false

abbrev T_ : TypeId := 0
abbrev T_int : TypeId := 3
abbrev T_bool : TypeId := 4
abbrev T_string : TypeId := 9
abbrev T_s_erratalaw07_Op : TypeId := 22
abbrev T_s_int : TypeId := 23
abbrev T_p_net_Net : TypeId := 25
abbrev T_s_api_Packet : TypeId := 28
abbrev T_erratalaw07_Op : TypeId := 30
abbrev T_api_Errno : TypeId := 31
abbrev T_api_Packet : TypeId := 34
abbrev T_uint : TypeId := 41
abbrev T_errataref07_Net : TypeId := 51
abbrev T_net_Net : TypeId := 56

abbrev F_erratalaw07_NetOrders : FuncId := 3
abbrev F_erratalaw07_NetSides : FuncId := 4
abbrev F_erratalaw07_NetHonest : FuncId := 5
abbrev F_erratalaw07_NetTells : FuncId := 6
abbrev F_erratalaw07_small : FuncId := 7
abbrev F_net_New : FuncId := 8
abbrev F_erratalaw07_few : FuncId := 9
abbrev F_net_Net_Send : FuncId := 10
abbrev F_net_Net_Deliver : FuncId := 11
abbrev F_errataref07_Same : FuncId := 12
abbrev F_net_Net_List : FuncId := 13
abbrev F_net_Net_Split : FuncId := 14
abbrev F_net_Net_Hear : FuncId := 15
abbrev F_net_Net_Heal : FuncId := 16
abbrev F_net_Net_Count : FuncId := 17
abbrev F_net_Net_Double : FuncId := 18
abbrev F_erratalaw07_do : FuncId := 19
abbrev F_erratalaw07_count : FuncId := 20
abbrev F_net_Net_Copy : FuncId := 21
abbrev F_errataref07_Net_Copy : FuncId := 22
abbrev F_erratalaw07_model : FuncId := 23
abbrev F_errataref07_Net_Hear : FuncId := 24
abbrev F_net_end : FuncId := 25
abbrev F_net_Net_take : FuncId := 26
abbrev F_slices_Clone_s_api_Packet_api_Packet : FuncId := 27
abbrev F_net_Net_Drop : FuncId := 28
abbrev F_errataref07_Net_Deliver : FuncId := 29
abbrev F_errataref07_Net_Drop : FuncId := 30
abbrev F_errataref07_Net_Double : FuncId := 31
abbrev F_errataref07_Net_Split : FuncId := 32
abbrev F_errataref07_Net_Send : FuncId := 33
abbrev F_errataref07_Net_side : FuncId := 34
abbrev F_slices_Delete_s_api_Packet_api_Packet : FuncId := 35
abbrev F_errataref07_Net_remove : FuncId := 36

end Go.Proofs.Ytollnmlnpngmfaa
