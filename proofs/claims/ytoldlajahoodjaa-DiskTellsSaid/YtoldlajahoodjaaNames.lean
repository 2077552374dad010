/-
  The reckoned conditions of the functions that this seat's statements reach, printed by program, each held against the translation by the kernel. No condition.
-/
import Derived.Test.YtoldlajahoodjaaOps
import Derived.Test.YtoldlajahoodjaaProg
namespace Go.Proofs.Ytoldlajahoodjaa
set_option linter.unusedVariables false

abbrev T_ : TypeId := 0
abbrev T_int : TypeId := 3
abbrev T_bool : TypeId := 4
abbrev T_uint8 : TypeId := 5
abbrev T_string : TypeId := 9
abbrev T_interface : TypeId := 20
abbrev T_s_erratalaw04_Act : TypeId := 22
abbrev T_p_disk_Disk : TypeId := 25
abbrev T_api_Errno : TypeId := 29
abbrev T_s_int : TypeId := 31
abbrev T_erratalaw04_Act : TypeId := 33
abbrev T_map_int_disk_file : TypeId := 52
abbrev T_map_disk_sector_bool : TypeId := 53
abbrev T_s_disk_sector : TypeId := 54
abbrev T_disk_Disk : TypeId := 56
abbrev T_s_errataref04_File : TypeId := 57
abbrev T_s_errataref04_Sector : TypeId := 58
abbrev T_errataref04_Disk : TypeId := 60
abbrev T_disk_file : TypeId := 63
abbrev T_errataref04_File : TypeId := 65
abbrev T_disk_sector : TypeId := 70
abbrev T_errataref04_Sector : TypeId := 78
abbrev T_s_uint8 : TypeId := 85

abbrev F_erratalaw04_DiskTells : FuncId := 3
abbrev F_erratalaw04_DiskSurvives : FuncId := 4
abbrev F_erratalaw04_DiskSynced : FuncId := 5
abbrev F_erratalaw04_DiskArms : FuncId := 6
abbrev F_erratalaw04_DiskReads : FuncId := 7
abbrev F_erratalaw04_small : FuncId := 8
abbrev F_erratalaw04_few : FuncId := 9
abbrev F_disk_New : FuncId := 10
abbrev F_errataref04_New : FuncId := 11
abbrev F_erratalaw04_do : FuncId := 12
abbrev F_erratalaw04_tell : FuncId := 13
abbrev F_disk_Disk_Down : FuncId := 14
abbrev F_errataref04_Disk_Down : FuncId := 15
abbrev F_disk_Disk_Size : FuncId := 16
abbrev F_errataref04_Disk_Size : FuncId := 17
abbrev F_disk_Disk_Copy : FuncId := 18
abbrev F_disk_Disk_Sync : FuncId := 19
abbrev F_disk_Disk_Read : FuncId := 20
abbrev F_errataref04_Disk_Read : FuncId := 21
abbrev F_erratalaw04_played : FuncId := 22
abbrev F_erratalaw04_after : FuncId := 23
abbrev F_erratalaw04_byteAt : FuncId := 24
abbrev F_disk_Disk_Crash : FuncId := 25
abbrev F_disk_Disk_Start : FuncId := 26
abbrev F_disk_Disk_Arm : FuncId := 27
abbrev F_erratalaw04_same : FuncId := 28
abbrev F_disk_Disk_Write : FuncId := 29
abbrev F_disk_Disk_Truncate : FuncId := 30
abbrev F_disk_Disk_Lose : FuncId := 31
abbrev F_errataref04_Disk_Sync : FuncId := 32
abbrev F_errataref04_Disk_Truncate : FuncId := 33
abbrev F_errataref04_Disk_Lose : FuncId := 34
abbrev F_errataref04_Disk_Arm : FuncId := 35
abbrev F_errataref04_Disk_Crash : FuncId := 36
abbrev F_errataref04_Disk_Start : FuncId := 37
abbrev F_errataref04_Disk_Write : FuncId := 38
abbrev F_errataref04_Disk_get : FuncId := 39
abbrev F_maps_Clone_map_int_disk_file_int_disk_file : FuncId := 40
abbrev F_slices_Clone_s_disk_sector_disk_sector : FuncId := 41
abbrev F_maps_Clone_map_disk_sector_bool_disk_sector_bool : FuncId := 42
abbrev F_disk_Disk_ends : FuncId := 43
abbrev F_disk_Disk_may : FuncId := 44
abbrev F_disk_Disk_settle : FuncId := 45
abbrev F_errataref04_Disk_may : FuncId := 46
abbrev F_disk_put : FuncId := 47
abbrev F_slices_Clone_s_int_int : FuncId := 48
abbrev F_disk_Disk_write : FuncId := 49
abbrev F_errataref04_Disk_comes : FuncId := 50
abbrev F_errataref04_Disk_settle : FuncId := 51
abbrev F_errataref04_Disk_survive : FuncId := 52
abbrev F_errataref04_fits : FuncId := 53
abbrev F_errataref04_Disk_add : FuncId := 54
abbrev F_maps_clone : FuncId := 55
abbrev F_slices_DeleteFunc_s_disk_sector_disk_sector : FuncId := 56
abbrev F_disk_Disk_settle_1 : FuncId := 57
abbrev F_maps_DeleteFunc_map_disk_sector_bool_disk_sector_bool : FuncId := 58
abbrev F_disk_Disk_settle_2 : FuncId := 59
abbrev F_errataref04_Disk_set : FuncId := 60
abbrev F_errataref04_Put : FuncId := 61
abbrev F_errataref04_Disk_pending : FuncId := 62
abbrev F_slices_IndexFunc_s_disk_sector_disk_sector : FuncId := 63

end Go.Proofs.Ytoldlajahoodjaa
