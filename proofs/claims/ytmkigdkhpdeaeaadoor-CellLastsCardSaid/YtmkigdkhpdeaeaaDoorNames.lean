/-
  The reckoned conditions of the functions that this seat's statements reach, printed by program, each held against the translation by the kernel. No condition.
-/
import Derived.Test.YtmkigdkhpdeaeaaDoorOps
import Derived.Test.YtmkigdkhpdeaeaaDoorProg
namespace Go.Proofs.YtmkigdkhpdeaeaaDoor
set_option linter.unusedVariables false

abbrev T_ : TypeId := 0
abbrev T_int : TypeId := 3
abbrev T_bool : TypeId := 4
abbrev T_uint8 : TypeId := 5
abbrev T_string : TypeId := 9
abbrev T_p_disk_Disk : TypeId := 23
abbrev T_p_errataref04_Disk : TypeId := 25
abbrev T_api_Errno : TypeId := 27
abbrev T_p_cell_Cell : TypeId := 29
abbrev T_p_errataref05_Cell : TypeId := 32
abbrev T_s_errataref05_Op : TypeId := 38
abbrev T_s_int : TypeId := 39
abbrev T_errataref05_Op : TypeId := 42
abbrev T_s_uint8 : TypeId := 46
abbrev T_s_string : TypeId := 51
abbrev T_map_int_disk_file : TypeId := 57
abbrev T_map_disk_sector_bool : TypeId := 58
abbrev T_s_disk_sector : TypeId := 59
abbrev T_disk_Disk : TypeId := 61
abbrev T_s_errataref04_File : TypeId := 62
abbrev T_s_errataref04_Sector : TypeId := 63
abbrev T_errataref04_Disk : TypeId := 65
abbrev T_cell_Cell : TypeId := 70
abbrev T_3_int : TypeId := 72
abbrev T_errataref05_Cell : TypeId := 74
abbrev T_disk_sector : TypeId := 78
abbrev T_disk_file : TypeId := 80
abbrev T_errataref04_Sector : TypeId := 84
abbrev T_errataref04_File : TypeId := 86

abbrev F_erratalaw05_CellReads : FuncId := 3
abbrev F_erratalaw05_CellApart : FuncId := 5
abbrev F_erratalaw05_small : FuncId := 8
abbrev F_disk_New : FuncId := 9
abbrev F_errataref04_New : FuncId := 10
abbrev F_disk_Disk_Write : FuncId := 11
abbrev F_errataref04_Disk_Write : FuncId := 12
abbrev F_cell_Open : FuncId := 13
abbrev F_errataref05_Open : FuncId := 14
abbrev F_cell_Cell_Get : FuncId := 15
abbrev F_errataref05_Cell_Get : FuncId := 16
abbrev F_erratalaw05_few : FuncId := 17
abbrev F_cell_Cell_Set : FuncId := 18
abbrev F_disk_Disk_Lose : FuncId := 19
abbrev F_erratalaw05_again : FuncId := 20
abbrev F_disk_Disk_Arm : FuncId := 21
abbrev F_disk_Disk_Crash : FuncId := 22
abbrev F_disk_Disk_Start : FuncId := 23
abbrev F_erratalaw05_has : FuncId := 24
abbrev F_errataref05_Cell_Set : FuncId := 25
abbrev F_errataref04_Disk_Lose : FuncId := 26
abbrev F_errataref04_Disk_Arm : FuncId := 27
abbrev F_errataref04_Disk_Crash : FuncId := 28
abbrev F_errataref04_Disk_Start : FuncId := 29
abbrev F_disk_Disk_Size : FuncId := 30
abbrev F_disk_Disk_Read : FuncId := 31
abbrev F_errataref04_Disk_Read : FuncId := 32
abbrev F_errataref04_Disk_Size : FuncId := 33
abbrev F_disk_Disk_ends : FuncId := 34
abbrev F_disk_Disk_write : FuncId := 35
abbrev F_errataref04_Disk_comes : FuncId := 36
abbrev F_errataref04_Disk_may : FuncId := 37
abbrev F_errataref04_fits : FuncId := 38
abbrev F_errataref04_Disk_add : FuncId := 39
abbrev F_errataref05_begin : FuncId := 40
abbrev F_disk_Disk_Sync : FuncId := 41
abbrev F_cell_header : FuncId := 42
abbrev F_slices_Clone_s_int_int : FuncId := 43
abbrev F_disk_put : FuncId := 44
abbrev F_errataref04_Disk_Sync : FuncId := 45
abbrev F_errataref04_Disk_survive : FuncId := 46
abbrev F_disk_Disk_may : FuncId := 47
abbrev F_errataref04_Disk_get : FuncId := 48
abbrev F_errataref04_Put : FuncId := 49
abbrev F_errataref04_Disk_set : FuncId := 50
abbrev F_errataref04_Disk_pending : FuncId := 51
abbrev F_disk_Disk_settle : FuncId := 52
abbrev F_errataref04_Disk_settle : FuncId := 53
abbrev F_slices_DeleteFunc_s_disk_sector_disk_sector : FuncId := 54
abbrev F_disk_Disk_settle_1 : FuncId := 55
abbrev F_maps_DeleteFunc_map_disk_sector_bool_disk_sector_bool : FuncId := 56
abbrev F_disk_Disk_settle_2 : FuncId := 57
abbrev F_slices_IndexFunc_s_disk_sector_disk_sector : FuncId := 58

end Go.Proofs.YtmkigdkhpdeaeaaDoor
