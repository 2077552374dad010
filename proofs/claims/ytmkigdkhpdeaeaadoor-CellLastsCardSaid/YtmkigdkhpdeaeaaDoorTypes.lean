/-
  What the proofs of this seat know of its types, printed by program: each fact is held by the kernel. No condition.
-/
import Derived.Test.YtmkigdkhpdeaeaaDoorHeap
import Derived.Test.YtmkigdkhpdeaeaaDoorNames
namespace Go.Proofs.YtmkigdkhpdeaeaaDoor
open Go.RowKit


theorem sc_int : scB Tryd.prog T_int = true := by kernel_rfl
theorem U_int : Tryd.prog.underlying T_int = some (.int .i64) := by kernel_rfl
theorem z_int : (Tryd.prog.info? T_int).bind (·.zero) = some (.int .i64 0) := by kernel_rfl
theorem sc_bool : scB Tryd.prog T_bool = true := by kernel_rfl
theorem U_bool : Tryd.prog.underlying T_bool = some .bool := by kernel_rfl
theorem z_bool : (Tryd.prog.info? T_bool).bind (·.zero) = some (.bool false) := by kernel_rfl
theorem sc_uint8 : scB Tryd.prog T_uint8 = true := by kernel_rfl
theorem U_uint8 : Tryd.prog.underlying T_uint8 = some (.int .u8) := by kernel_rfl
theorem z_uint8 : (Tryd.prog.info? T_uint8).bind (·.zero) = some (.int .u8 0) := by kernel_rfl
theorem sc_string : scB Tryd.prog T_string = true := by kernel_rfl
theorem U_string : Tryd.prog.underlying T_string = some .string := by kernel_rfl
theorem z_string : (Tryd.prog.info? T_string).bind (·.zero) = some (.string ⟨#[]⟩) := by kernel_rfl
theorem sc_p_disk_Disk : scB Tryd.prog T_p_disk_Disk = true := by kernel_rfl
theorem U_p_disk_Disk : Tryd.prog.underlying T_p_disk_Disk = some (.pointer (Tryd.prog.pointee T_p_disk_Disk)) := by kernel_rfl
theorem z_p_disk_Disk : (Tryd.prog.info? T_p_disk_Disk).bind (·.zero) = some (.pointer none) := by kernel_rfl
theorem sc_p_errataref04_Disk : scB Tryd.prog T_p_errataref04_Disk = true := by kernel_rfl
theorem U_p_errataref04_Disk : Tryd.prog.underlying T_p_errataref04_Disk = some (.pointer (Tryd.prog.pointee T_p_errataref04_Disk)) := by kernel_rfl
theorem z_p_errataref04_Disk : (Tryd.prog.info? T_p_errataref04_Disk).bind (·.zero) = some (.pointer none) := by kernel_rfl
theorem sc_api_Errno : scB Tryd.prog T_api_Errno = true := by kernel_rfl
theorem U_api_Errno : Tryd.prog.underlying T_api_Errno = some (.int .i64) := by kernel_rfl
theorem z_api_Errno : (Tryd.prog.info? T_api_Errno).bind (·.zero) = some (.int .i64 0) := by kernel_rfl
theorem sc_p_cell_Cell : scB Tryd.prog T_p_cell_Cell = true := by kernel_rfl
theorem U_p_cell_Cell : Tryd.prog.underlying T_p_cell_Cell = some (.pointer (Tryd.prog.pointee T_p_cell_Cell)) := by kernel_rfl
theorem z_p_cell_Cell : (Tryd.prog.info? T_p_cell_Cell).bind (·.zero) = some (.pointer none) := by kernel_rfl
theorem sc_p_errataref05_Cell : scB Tryd.prog T_p_errataref05_Cell = true := by kernel_rfl
theorem U_p_errataref05_Cell : Tryd.prog.underlying T_p_errataref05_Cell = some (.pointer (Tryd.prog.pointee T_p_errataref05_Cell)) := by kernel_rfl
theorem z_p_errataref05_Cell : (Tryd.prog.info? T_p_errataref05_Cell).bind (·.zero) = some (.pointer none) := by kernel_rfl
theorem sc_s_errataref05_Op : scB Tryd.prog T_s_errataref05_Op = true := by kernel_rfl
theorem U_s_errataref05_Op : Tryd.prog.underlying T_s_errataref05_Op = some (.slice T_errataref05_Op) := by kernel_rfl
theorem sl_s_errataref05_Op : sliceB Tryd.prog T_s_errataref05_Op T_errataref05_Op 4 56 = true := by kernel_rfl
theorem z_s_errataref05_Op : (Tryd.prog.info? T_s_errataref05_Op).bind (·.zero) = some (.slice none 0 0) := by kernel_rfl
theorem sc_s_int : scB Tryd.prog T_s_int = true := by kernel_rfl
theorem U_s_int : Tryd.prog.underlying T_s_int = some (.slice T_int) := by kernel_rfl
theorem sl_s_int : sliceB Tryd.prog T_s_int T_int 1 8 = true := by kernel_rfl
theorem z_s_int : (Tryd.prog.info? T_s_int).bind (·.zero) = some (.slice none 0 0) := by kernel_rfl
theorem ag_errataref05_Op : agB Tryd.prog T_errataref05_Op 4 = true := by kernel_rfl
theorem g_errataref05_Op_0 : fldB Tryd.prog T_errataref05_Op 0 0 = true := by kernel_rfl
theorem g_errataref05_Op_1 : fldB Tryd.prog T_errataref05_Op 1 1 = true := by kernel_rfl
theorem g_errataref05_Op_2 : fldB Tryd.prog T_errataref05_Op 2 2 = true := by kernel_rfl
theorem g_errataref05_Op_3 : fldB Tryd.prog T_errataref05_Op 3 3 = true := by kernel_rfl
theorem f_errataref05_Op_0 : fieldB Tryd.prog T_errataref05_Op 0 0 = true := by kernel_rfl
theorem f_errataref05_Op_1 : fieldB Tryd.prog T_errataref05_Op 1 1 = true := by kernel_rfl
theorem f_errataref05_Op_2 : fieldB Tryd.prog T_errataref05_Op 2 2 = true := by kernel_rfl
theorem f_errataref05_Op_3 : fieldB Tryd.prog T_errataref05_Op 3 3 = true := by kernel_rfl
theorem z_errataref05_Op : (Tryd.prog.info? T_errataref05_Op).bind (·.zero) = some (.agg #[(.int .i64 0), (.string ⟨#[]⟩), (.int .i64 0), (.slice none 0 0)]) := by kernel_rfl
theorem sc_s_uint8 : scB Tryd.prog T_s_uint8 = true := by kernel_rfl
theorem U_s_uint8 : Tryd.prog.underlying T_s_uint8 = some (.slice T_uint8) := by kernel_rfl
theorem sl_s_uint8 : sliceB Tryd.prog T_s_uint8 T_uint8 1 1 = true := by kernel_rfl
theorem z_s_uint8 : (Tryd.prog.info? T_s_uint8).bind (·.zero) = some (.slice none 0 0) := by kernel_rfl
theorem sc_s_string : scB Tryd.prog T_s_string = true := by kernel_rfl
theorem U_s_string : Tryd.prog.underlying T_s_string = some (.slice T_string) := by kernel_rfl
theorem sl_s_string : sliceB Tryd.prog T_s_string T_string 1 16 = true := by kernel_rfl
theorem z_s_string : (Tryd.prog.info? T_s_string).bind (·.zero) = some (.slice none 0 0) := by kernel_rfl
theorem sc_map_int_disk_file : scB Tryd.prog T_map_int_disk_file = true := by kernel_rfl
theorem U_map_int_disk_file : Tryd.prog.underlying T_map_int_disk_file = some (.map T_int T_disk_file) := by kernel_rfl
theorem z_map_int_disk_file : (Tryd.prog.info? T_map_int_disk_file).bind (·.zero) = some (.map none) := by kernel_rfl
theorem sc_map_disk_sector_bool : scB Tryd.prog T_map_disk_sector_bool = true := by kernel_rfl
theorem U_map_disk_sector_bool : Tryd.prog.underlying T_map_disk_sector_bool = some (.map T_disk_sector T_bool) := by kernel_rfl
theorem z_map_disk_sector_bool : (Tryd.prog.info? T_map_disk_sector_bool).bind (·.zero) = some (.map none) := by kernel_rfl
theorem sc_s_disk_sector : scB Tryd.prog T_s_disk_sector = true := by kernel_rfl
theorem U_s_disk_sector : Tryd.prog.underlying T_s_disk_sector = some (.slice T_disk_sector) := by kernel_rfl
theorem sl_s_disk_sector : sliceB Tryd.prog T_s_disk_sector T_disk_sector 2 16 = true := by kernel_rfl
theorem z_s_disk_sector : (Tryd.prog.info? T_s_disk_sector).bind (·.zero) = some (.slice none 0 0) := by kernel_rfl
theorem ag_disk_Disk : agB Tryd.prog T_disk_Disk 7 = true := by kernel_rfl
theorem g_disk_Disk_0 : fldB Tryd.prog T_disk_Disk 0 0 = true := by kernel_rfl
theorem g_disk_Disk_1 : fldB Tryd.prog T_disk_Disk 1 1 = true := by kernel_rfl
theorem g_disk_Disk_2 : fldB Tryd.prog T_disk_Disk 2 2 = true := by kernel_rfl
theorem g_disk_Disk_3 : fldB Tryd.prog T_disk_Disk 3 3 = true := by kernel_rfl
theorem g_disk_Disk_4 : fldB Tryd.prog T_disk_Disk 4 4 = true := by kernel_rfl
theorem g_disk_Disk_5 : fldB Tryd.prog T_disk_Disk 5 5 = true := by kernel_rfl
theorem g_disk_Disk_6 : fldB Tryd.prog T_disk_Disk 6 6 = true := by kernel_rfl
theorem f_disk_Disk_0 : fieldB Tryd.prog T_disk_Disk 0 0 = true := by kernel_rfl
theorem f_disk_Disk_1 : fieldB Tryd.prog T_disk_Disk 1 1 = true := by kernel_rfl
theorem f_disk_Disk_2 : fieldB Tryd.prog T_disk_Disk 2 2 = true := by kernel_rfl
theorem f_disk_Disk_3 : fieldB Tryd.prog T_disk_Disk 3 3 = true := by kernel_rfl
theorem f_disk_Disk_4 : fieldB Tryd.prog T_disk_Disk 4 4 = true := by kernel_rfl
theorem f_disk_Disk_5 : fieldB Tryd.prog T_disk_Disk 5 5 = true := by kernel_rfl
theorem f_disk_Disk_6 : fieldB Tryd.prog T_disk_Disk 6 6 = true := by kernel_rfl
theorem z_disk_Disk : (Tryd.prog.info? T_disk_Disk).bind (·.zero) = some (.agg #[(.map none), (.slice none 0 0), (.map none), (.int .i64 0), (.bool false), (.int .i64 0), (.slice none 0 0)]) := by kernel_rfl
theorem sc_s_errataref04_File : scB Tryd.prog T_s_errataref04_File = true := by kernel_rfl
theorem U_s_errataref04_File : Tryd.prog.underlying T_s_errataref04_File = some (.slice T_errataref04_File) := by kernel_rfl
theorem sl_s_errataref04_File : sliceB Tryd.prog T_s_errataref04_File T_errataref04_File 3 40 = true := by kernel_rfl
theorem z_s_errataref04_File : (Tryd.prog.info? T_s_errataref04_File).bind (·.zero) = some (.slice none 0 0) := by kernel_rfl
theorem sc_s_errataref04_Sector : scB Tryd.prog T_s_errataref04_Sector = true := by kernel_rfl
theorem U_s_errataref04_Sector : Tryd.prog.underlying T_s_errataref04_Sector = some (.slice T_errataref04_Sector) := by kernel_rfl
theorem sl_s_errataref04_Sector : sliceB Tryd.prog T_s_errataref04_Sector T_errataref04_Sector 2 16 = true := by kernel_rfl
theorem z_s_errataref04_Sector : (Tryd.prog.info? T_s_errataref04_Sector).bind (·.zero) = some (.slice none 0 0) := by kernel_rfl
theorem ag_errataref04_Disk : agB Tryd.prog T_errataref04_Disk 6 = true := by kernel_rfl
theorem g_errataref04_Disk_0 : fldB Tryd.prog T_errataref04_Disk 0 0 = true := by kernel_rfl
theorem g_errataref04_Disk_1 : fldB Tryd.prog T_errataref04_Disk 1 1 = true := by kernel_rfl
theorem g_errataref04_Disk_2 : fldB Tryd.prog T_errataref04_Disk 2 2 = true := by kernel_rfl
theorem g_errataref04_Disk_3 : fldB Tryd.prog T_errataref04_Disk 3 3 = true := by kernel_rfl
theorem g_errataref04_Disk_4 : fldB Tryd.prog T_errataref04_Disk 4 4 = true := by kernel_rfl
theorem g_errataref04_Disk_5 : fldB Tryd.prog T_errataref04_Disk 5 5 = true := by kernel_rfl
theorem f_errataref04_Disk_0 : fieldB Tryd.prog T_errataref04_Disk 0 0 = true := by kernel_rfl
theorem f_errataref04_Disk_1 : fieldB Tryd.prog T_errataref04_Disk 1 1 = true := by kernel_rfl
theorem f_errataref04_Disk_2 : fieldB Tryd.prog T_errataref04_Disk 2 2 = true := by kernel_rfl
theorem f_errataref04_Disk_3 : fieldB Tryd.prog T_errataref04_Disk 3 3 = true := by kernel_rfl
theorem f_errataref04_Disk_4 : fieldB Tryd.prog T_errataref04_Disk 4 4 = true := by kernel_rfl
theorem f_errataref04_Disk_5 : fieldB Tryd.prog T_errataref04_Disk 5 5 = true := by kernel_rfl
theorem z_errataref04_Disk : (Tryd.prog.info? T_errataref04_Disk).bind (·.zero) = some (.agg #[(.slice none 0 0), (.slice none 0 0), (.int .i64 0), (.bool false), (.int .i64 0), (.slice none 0 0)]) := by kernel_rfl
theorem ag_cell_Cell : agB Tryd.prog T_cell_Cell 5 = true := by kernel_rfl
theorem g_cell_Cell_0 : fldB Tryd.prog T_cell_Cell 0 0 = true := by kernel_rfl
theorem g_cell_Cell_1 : fldB Tryd.prog T_cell_Cell 1 1 = true := by kernel_rfl
theorem g_cell_Cell_2 : fldB Tryd.prog T_cell_Cell 2 2 = true := by kernel_rfl
theorem g_cell_Cell_3 : fldB Tryd.prog T_cell_Cell 3 3 = true := by kernel_rfl
theorem g_cell_Cell_4 : fldB Tryd.prog T_cell_Cell 4 4 = true := by kernel_rfl
theorem f_cell_Cell_0 : fieldB Tryd.prog T_cell_Cell 0 0 = true := by kernel_rfl
theorem f_cell_Cell_1 : fieldB Tryd.prog T_cell_Cell 1 1 = true := by kernel_rfl
theorem f_cell_Cell_2 : fieldB Tryd.prog T_cell_Cell 2 2 = true := by kernel_rfl
theorem f_cell_Cell_3 : fieldB Tryd.prog T_cell_Cell 3 3 = true := by kernel_rfl
theorem f_cell_Cell_4 : fieldB Tryd.prog T_cell_Cell 4 4 = true := by kernel_rfl
theorem z_cell_Cell : (Tryd.prog.info? T_cell_Cell).bind (·.zero) = some (.agg #[(.pointer none), (.int .i64 0), (.int .i64 0), (.string ⟨#[]⟩), (.bool false)]) := by kernel_rfl
theorem z_3_int : (Tryd.prog.info? T_3_int).bind (·.zero) = some (.agg #[(.int .i64 0), (.int .i64 0), (.int .i64 0)]) := by kernel_rfl
theorem ag_errataref05_Cell : agB Tryd.prog T_errataref05_Cell 5 = true := by kernel_rfl
theorem g_errataref05_Cell_0 : fldB Tryd.prog T_errataref05_Cell 0 0 = true := by kernel_rfl
theorem g_errataref05_Cell_1 : fldB Tryd.prog T_errataref05_Cell 1 1 = true := by kernel_rfl
theorem g_errataref05_Cell_2 : fldB Tryd.prog T_errataref05_Cell 2 2 = true := by kernel_rfl
theorem g_errataref05_Cell_3 : fldB Tryd.prog T_errataref05_Cell 3 3 = true := by kernel_rfl
theorem g_errataref05_Cell_4 : fldB Tryd.prog T_errataref05_Cell 4 4 = true := by kernel_rfl
theorem f_errataref05_Cell_0 : fieldB Tryd.prog T_errataref05_Cell 0 0 = true := by kernel_rfl
theorem f_errataref05_Cell_1 : fieldB Tryd.prog T_errataref05_Cell 1 1 = true := by kernel_rfl
theorem f_errataref05_Cell_2 : fieldB Tryd.prog T_errataref05_Cell 2 2 = true := by kernel_rfl
theorem f_errataref05_Cell_3 : fieldB Tryd.prog T_errataref05_Cell 3 3 = true := by kernel_rfl
theorem f_errataref05_Cell_4 : fieldB Tryd.prog T_errataref05_Cell 4 4 = true := by kernel_rfl
theorem z_errataref05_Cell : (Tryd.prog.info? T_errataref05_Cell).bind (·.zero) = some (.agg #[(.pointer none), (.int .i64 0), (.int .i64 0), (.string ⟨#[]⟩), (.bool false)]) := by kernel_rfl
theorem ag_disk_sector : agB Tryd.prog T_disk_sector 2 = true := by kernel_rfl
theorem g_disk_sector_0 : fldB Tryd.prog T_disk_sector 0 0 = true := by kernel_rfl
theorem g_disk_sector_1 : fldB Tryd.prog T_disk_sector 1 1 = true := by kernel_rfl
theorem f_disk_sector_0 : fieldB Tryd.prog T_disk_sector 0 0 = true := by kernel_rfl
theorem f_disk_sector_1 : fieldB Tryd.prog T_disk_sector 1 1 = true := by kernel_rfl
theorem z_disk_sector : (Tryd.prog.info? T_disk_sector).bind (·.zero) = some (.agg #[(.int .i64 0), (.int .i64 0)]) := by kernel_rfl
theorem ag_disk_file : agB Tryd.prog T_disk_file 2 = true := by kernel_rfl
theorem g_disk_file_0 : fldB Tryd.prog T_disk_file 0 0 = true := by kernel_rfl
theorem g_disk_file_1 : fldB Tryd.prog T_disk_file 1 1 = true := by kernel_rfl
theorem f_disk_file_0 : fieldB Tryd.prog T_disk_file 0 0 = true := by kernel_rfl
theorem f_disk_file_1 : fieldB Tryd.prog T_disk_file 1 1 = true := by kernel_rfl
theorem z_disk_file : (Tryd.prog.info? T_disk_file).bind (·.zero) = some (.agg #[(.string ⟨#[]⟩), (.string ⟨#[]⟩)]) := by kernel_rfl
theorem ag_errataref04_Sector : agB Tryd.prog T_errataref04_Sector 2 = true := by kernel_rfl
theorem g_errataref04_Sector_0 : fldB Tryd.prog T_errataref04_Sector 0 0 = true := by kernel_rfl
theorem g_errataref04_Sector_1 : fldB Tryd.prog T_errataref04_Sector 1 1 = true := by kernel_rfl
theorem f_errataref04_Sector_0 : fieldB Tryd.prog T_errataref04_Sector 0 0 = true := by kernel_rfl
theorem f_errataref04_Sector_1 : fieldB Tryd.prog T_errataref04_Sector 1 1 = true := by kernel_rfl
theorem z_errataref04_Sector : (Tryd.prog.info? T_errataref04_Sector).bind (·.zero) = some (.agg #[(.int .i64 0), (.int .i64 0)]) := by kernel_rfl
theorem ag_errataref04_File : agB Tryd.prog T_errataref04_File 3 = true := by kernel_rfl
theorem g_errataref04_File_0 : fldB Tryd.prog T_errataref04_File 0 0 = true := by kernel_rfl
theorem g_errataref04_File_1 : fldB Tryd.prog T_errataref04_File 1 1 = true := by kernel_rfl
theorem g_errataref04_File_2 : fldB Tryd.prog T_errataref04_File 2 2 = true := by kernel_rfl
theorem f_errataref04_File_0 : fieldB Tryd.prog T_errataref04_File 0 0 = true := by kernel_rfl
theorem f_errataref04_File_1 : fieldB Tryd.prog T_errataref04_File 1 1 = true := by kernel_rfl
theorem f_errataref04_File_2 : fieldB Tryd.prog T_errataref04_File 2 2 = true := by kernel_rfl
theorem z_errataref04_File : (Tryd.prog.info? T_errataref04_File).bind (·.zero) = some (.agg #[(.int .i64 0), (.string ⟨#[]⟩), (.string ⟨#[]⟩)]) := by kernel_rfl

structure D_errataref05_Op where
  kind : Int
  s : ByteArray
  n : Int
  keep : SV
abbrev D_errataref05_Op.v (p : D_errataref05_Op) : Value := .agg #[.int .i64 p.kind, .string p.s, .int .i64 p.n, p.keep.1]
abbrev D_errataref05_Op.cs (p : D_errataref05_Op) : List Value := [.int .i64 p.kind, .string p.s, .int .i64 p.n, p.keep.1]
instance : Enc D_errataref05_Op where
  sz := 4
  cells p := p.cs
  val p := p.v
  pos := by omega
  len _ := rfl
  one p v (hv : v ∈ p.cs) := by
    simp only [List.mem_cons, List.not_mem_nil, or_false] at hv
    rcases hv with rfl | rfl | rfl | rfl <;> first | rfl | exact SV.prop _
  cells_val _ := rfl
structure D_disk_Disk where
  files : SV
  queue : SV
  set_ : SV
  lost : Int
  down : Bool
  armed : Int
  keep : SV
abbrev D_disk_Disk.v (p : D_disk_Disk) : Value := .agg #[p.files.1, p.queue.1, p.set_.1, .int .i64 p.lost, .bool p.down, .int .i64 p.armed, p.keep.1]
abbrev D_disk_Disk.cs (p : D_disk_Disk) : List Value := [p.files.1, p.queue.1, p.set_.1, .int .i64 p.lost, .bool p.down, .int .i64 p.armed, p.keep.1]
instance : Enc D_disk_Disk where
  sz := 7
  cells p := p.cs
  val p := p.v
  pos := by omega
  len _ := rfl
  one p v (hv : v ∈ p.cs) := by
    simp only [List.mem_cons, List.not_mem_nil, or_false] at hv
    rcases hv with rfl | rfl | rfl | rfl | rfl | rfl | rfl <;> first | rfl | exact SV.prop _
  cells_val _ := rfl
structure D_errataref04_Disk where
  files : SV
  queue : SV
  lost : Int
  isDown : Bool
  armed : Int
  keep : SV
abbrev D_errataref04_Disk.v (p : D_errataref04_Disk) : Value := .agg #[p.files.1, p.queue.1, .int .i64 p.lost, .bool p.isDown, .int .i64 p.armed, p.keep.1]
abbrev D_errataref04_Disk.cs (p : D_errataref04_Disk) : List Value := [p.files.1, p.queue.1, .int .i64 p.lost, .bool p.isDown, .int .i64 p.armed, p.keep.1]
instance : Enc D_errataref04_Disk where
  sz := 6
  cells p := p.cs
  val p := p.v
  pos := by omega
  len _ := rfl
  one p v (hv : v ∈ p.cs) := by
    simp only [List.mem_cons, List.not_mem_nil, or_false] at hv
    rcases hv with rfl | rfl | rfl | rfl | rfl | rfl <;> first | rfl | exact SV.prop _
  cells_val _ := rfl
structure D_cell_Cell where
  disk : SV
  file : Int
  slot : Int
  value : ByteArray
  sure : Bool
abbrev D_cell_Cell.v (p : D_cell_Cell) : Value := .agg #[p.disk.1, .int .i64 p.file, .int .i64 p.slot, .string p.value, .bool p.sure]
abbrev D_cell_Cell.cs (p : D_cell_Cell) : List Value := [p.disk.1, .int .i64 p.file, .int .i64 p.slot, .string p.value, .bool p.sure]
instance : Enc D_cell_Cell where
  sz := 5
  cells p := p.cs
  val p := p.v
  pos := by omega
  len _ := rfl
  one p v (hv : v ∈ p.cs) := by
    simp only [List.mem_cons, List.not_mem_nil, or_false] at hv
    rcases hv with rfl | rfl | rfl | rfl | rfl <;> first | rfl | exact SV.prop _
  cells_val _ := rfl
structure D_errataref05_Cell where
  d : SV
  f : Int
  slot : Int
  value : ByteArray
  sure : Bool
abbrev D_errataref05_Cell.v (p : D_errataref05_Cell) : Value := .agg #[p.d.1, .int .i64 p.f, .int .i64 p.slot, .string p.value, .bool p.sure]
abbrev D_errataref05_Cell.cs (p : D_errataref05_Cell) : List Value := [p.d.1, .int .i64 p.f, .int .i64 p.slot, .string p.value, .bool p.sure]
instance : Enc D_errataref05_Cell where
  sz := 5
  cells p := p.cs
  val p := p.v
  pos := by omega
  len _ := rfl
  one p v (hv : v ∈ p.cs) := by
    simp only [List.mem_cons, List.not_mem_nil, or_false] at hv
    rcases hv with rfl | rfl | rfl | rfl | rfl <;> first | rfl | exact SV.prop _
  cells_val _ := rfl
structure D_disk_sector where
  file : Int
  number : Int
  deriving DecidableEq
abbrev D_disk_sector.v (p : D_disk_sector) : Value := .agg #[.int .i64 p.file, .int .i64 p.number]
abbrev D_disk_sector.cs (p : D_disk_sector) : List Value := [.int .i64 p.file, .int .i64 p.number]
instance : Enc D_disk_sector where
  sz := 2
  cells p := p.cs
  val p := p.v
  pos := by omega
  len _ := rfl
  one p v (hv : v ∈ p.cs) := by
    simp only [List.mem_cons, List.not_mem_nil, or_false] at hv
    rcases hv with rfl | rfl <;> first | rfl | exact SV.prop _
  cells_val _ := rfl
structure D_disk_file where
  now : ByteArray
  last : ByteArray
  deriving DecidableEq
abbrev D_disk_file.v (p : D_disk_file) : Value := .agg #[.string p.now, .string p.last]
abbrev D_disk_file.cs (p : D_disk_file) : List Value := [.string p.now, .string p.last]
instance : Enc D_disk_file where
  sz := 2
  cells p := p.cs
  val p := p.v
  pos := by omega
  len _ := rfl
  one p v (hv : v ∈ p.cs) := by
    simp only [List.mem_cons, List.not_mem_nil, or_false] at hv
    rcases hv with rfl | rfl <;> first | rfl | exact SV.prop _
  cells_val _ := rfl
structure D_errataref04_Sector where
  f : Int
  n : Int
  deriving DecidableEq
abbrev D_errataref04_Sector.v (p : D_errataref04_Sector) : Value := .agg #[.int .i64 p.f, .int .i64 p.n]
abbrev D_errataref04_Sector.cs (p : D_errataref04_Sector) : List Value := [.int .i64 p.f, .int .i64 p.n]
instance : Enc D_errataref04_Sector where
  sz := 2
  cells p := p.cs
  val p := p.v
  pos := by omega
  len _ := rfl
  one p v (hv : v ∈ p.cs) := by
    simp only [List.mem_cons, List.not_mem_nil, or_false] at hv
    rcases hv with rfl | rfl <;> first | rfl | exact SV.prop _
  cells_val _ := rfl
structure D_errataref04_File where
  number : Int
  now : ByteArray
  last : ByteArray
  deriving DecidableEq
abbrev D_errataref04_File.v (p : D_errataref04_File) : Value := .agg #[.int .i64 p.number, .string p.now, .string p.last]
abbrev D_errataref04_File.cs (p : D_errataref04_File) : List Value := [.int .i64 p.number, .string p.now, .string p.last]
instance : Enc D_errataref04_File where
  sz := 3
  cells p := p.cs
  val p := p.v
  pos := by omega
  len _ := rfl
  one p v (hv : v ∈ p.cs) := by
    simp only [List.mem_cons, List.not_mem_nil, or_false] at hv
    rcases hv with rfl | rfl | rfl <;> first | rfl | exact SV.prop _
  cells_val _ := rfl

theorem bd_disk_Disk_0_2 {K : Value → Prop} {x0 : Option Nat} {x2 : Option Nat} : pureK Tryd.prog (sBuild T_disk_Disk #[(0, .map x0), (2, .map x2)]) K = K (.agg #[.map x0, (.slice none 0 0), .map x2, (.int .i64 0), (.bool false), (.int .i64 0), (.slice none 0 0)]) := pureK_eq fun w => by kernel_rfl
theorem bd_errataref04_Disk_ {K : Value → Prop}  : pureK Tryd.prog (sBuild T_errataref04_Disk #[]) K = K (.agg #[(.slice none 0 0), (.slice none 0 0), (.int .i64 0), (.bool false), (.int .i64 0), (.slice none 0 0)]) := pureK_eq fun w => by kernel_rfl
theorem bd_cell_Cell_0_1 {K : Value → Prop} {x0 : Option Addr} {x1 : Int} : pureK Tryd.prog (sBuild T_cell_Cell #[(0, .pointer x0), (1, .int .i64 x1)]) K = K (.agg #[.pointer x0, .int .i64 x1, (.int .i64 0), (.string ⟨#[]⟩), (.bool false)]) := pureK_eq fun w => by kernel_rfl
theorem bd_errataref05_Cell_0_1 {K : Value → Prop} {x0 : Option Addr} {x1 : Int} : pureK Tryd.prog (sBuild T_errataref05_Cell #[(0, .pointer x0), (1, .int .i64 x1)]) K = K (.agg #[.pointer x0, .int .i64 x1, (.int .i64 0), (.string ⟨#[]⟩), (.bool false)]) := pureK_eq fun w => by kernel_rfl
theorem bd_disk_file_0_1 {K : Value → Prop} {x0 : ByteArray} {x1 : ByteArray} : pureK Tryd.prog (sBuild T_disk_file #[(0, .string x0), (1, .string x1)]) K = K (.agg #[.string x0, .string x1]) := pureK_eq fun w => by kernel_rfl
theorem bd_errataref04_File_0_1_2 {K : Value → Prop} {x0 : Int} {x1 : ByteArray} {x2 : ByteArray} : pureK Tryd.prog (sBuild T_errataref04_File #[(0, .int .i64 x0), (1, .string x1), (2, .string x2)]) K = K (.agg #[.int .i64 x0, .string x1, .string x2]) := pureK_eq fun w => by kernel_rfl
theorem bd_disk_sector_0_1 {K : Value → Prop} {x0 : Int} {x1 : Int} : pureK Tryd.prog (sBuild T_disk_sector #[(0, .int .i64 x0), (1, .int .i64 x1)]) K = K (.agg #[.int .i64 x0, .int .i64 x1]) := pureK_eq fun w => by kernel_rfl
theorem bd_errataref04_Sector_0_1 {K : Value → Prop} {x0 : Int} {x1 : Int} : pureK Tryd.prog (sBuild T_errataref04_Sector #[(0, .int .i64 x0), (1, .int .i64 x1)]) K = K (.agg #[.int .i64 x0, .int .i64 x1]) := pureK_eq fun w => by kernel_rfl
theorem bd_errataref04_File_0 {K : Value → Prop} {x0 : Int} : pureK Tryd.prog (sBuild T_errataref04_File #[(0, .int .i64 x0)]) K = K (.agg #[.int .i64 x0, (.string ⟨#[]⟩), (.string ⟨#[]⟩)]) := pureK_eq fun w => by kernel_rfl

theorem fl_disk_sector : (Tryd.prog.fieldsOf T_disk_sector).toList = [{ name := "file", type := T_int, offset := 0, embedded := false, tag := "", pkgPath := "errata/disk", byteOffset := 0 }, { name := "number", type := T_int, offset := 1, embedded := false, tag := "", pkgPath := "errata/disk", byteOffset := 8 }] := by kernel_rfl
theorem run_eq_disk_sector (p q : D_disk_sector) (w : World) : (Op.equalIn 10000 T_disk_sector p.v q.v).run Tryd.prog w = .ok (decide (p = q)) w := by
  obtain ⟨a0, a1⟩ := p
  obtain ⟨b0, b1⟩ := q
  show (Op.equalIn 10000 T_disk_sector (.agg #[.int .i64 a0, .int .i64 a1]) (.agg #[.int .i64 b0, .int .i64 b1])).run Tryd.prog w = _
  rw [show (10000 : Nat) = 9999 + 1 from rfl, run_equalIn_agg w 9999 T_disk_sector _ _ (by kernel_rfl) (by kernel_rfl), fl_disk_sector]
  rw [show (9999 : Nat) = 9998 + 1 from rfl]
  have e : decide ((⟨a0, a1⟩ : D_disk_sector) = ⟨b0, b1⟩) = (decide (a0 = b0) && (decide (a1 = b1) && true)) := by
    rw [Bool.eq_iff_iff]; simp
  rw [e]
  have h0 := run_equalIn_int (P := Tryd.prog) w 9998 T_int .i64 .i64 a0 b0 (by kernel_rfl)
  have h1 := run_equalIn_int (P := Tryd.prog) w 9998 T_int .i64 .i64 a1 b1 (by kernel_rfl)
  exact eqF_cons (by decide) (part_sc (by kernel_rfl) rfl) (part_sc (by kernel_rfl) rfl) h0 <| eqF_cons (by decide) (part_sc (by kernel_rfl) rfl) (part_sc (by kernel_rfl) rfl) h1 <| eqF_nil
theorem eq_disk_sector {K : Value → Prop} {xo yo : Operand} (p q : D_disk_sector) : pureK Tryd.prog (sBin .eql T_disk_sector xo yo p.v q.v) K = K (.bool (decide (p = q))) := pureK_eq fun w => by
  refine sBin_eq (run_eqGuard_agg w .eql _ _ _ _ _ (by kernel_rfl)) ?_
  show (binOp .eql T_disk_sector (.agg _) (.agg _)).run _ _ = _
  rw [run_eql_struct]
  have := run_eq_disk_sector p q w
  rw [show (p.v : Value) = .agg _ from rfl, show (q.v : Value) = .agg _ from rfl] at this
  rw [this]
  rfl
theorem neq_disk_sector {K : Value → Prop} {xo yo : Operand} (p q : D_disk_sector) : pureK Tryd.prog (sBin .neq T_disk_sector xo yo p.v q.v) K = K (.bool (!decide (p = q))) := pureK_eq fun w => by
  refine sBin_eq (run_eqGuard_agg w .neq _ _ _ _ _ (by kernel_rfl)) ?_
  show (binOp .neq T_disk_sector (.agg _) (.agg _)).run _ _ = _
  rw [run_neq_struct]
  have := run_eq_disk_sector p q w
  rw [show (p.v : Value) = .agg _ from rfl, show (q.v : Value) = .agg _ from rfl] at this
  rw [this]
  rfl

end Go.Proofs.YtmkigdkhpdeaeaaDoor
