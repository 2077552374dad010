/-
  What the proofs of this seat know of its types, printed by program: each fact is held by the kernel. No condition.
-/
import Derived.Test.YtppnebcpalialaaHeap
import Derived.Test.YtppnebcpalialaaNames
namespace Go.Proofs.Ytppnebcpalialaa
open Go.RowKit


theorem sc_int : scB Try.prog T_int = true := by kernel_rfl
theorem U_int : Try.prog.underlying T_int = some (.int .i64) := by kernel_rfl
theorem z_int : (Try.prog.info? T_int).bind (·.zero) = some (.int .i64 0) := by kernel_rfl
theorem sc_s_erratalaw10_Op : scB Try.prog T_s_erratalaw10_Op = true := by kernel_rfl
theorem U_s_erratalaw10_Op : Try.prog.underlying T_s_erratalaw10_Op = some (.slice T_erratalaw10_Op) := by kernel_rfl
theorem sl_s_erratalaw10_Op : sliceB Try.prog T_s_erratalaw10_Op T_erratalaw10_Op 5 40 = true := by kernel_rfl
theorem z_s_erratalaw10_Op : (Try.prog.info? T_s_erratalaw10_Op).bind (·.zero) = some (.slice none 0 0) := by kernel_rfl
theorem sc_s_api_Producer : scB Try.prog T_s_api_Producer = true := by kernel_rfl
theorem U_s_api_Producer : Try.prog.underlying T_s_api_Producer = some (.slice T_api_Producer) := by kernel_rfl
theorem sl_s_api_Producer : sliceB Try.prog T_s_api_Producer T_api_Producer 4 48 = true := by kernel_rfl
theorem z_s_api_Producer : (Try.prog.info? T_s_api_Producer).bind (·.zero) = some (.slice none 0 0) := by kernel_rfl
theorem sc_s_erratalaw10_kept : scB Try.prog T_s_erratalaw10_kept = true := by kernel_rfl
theorem U_s_erratalaw10_kept : Try.prog.underlying T_s_erratalaw10_kept = some (.slice T_erratalaw10_kept) := by kernel_rfl
theorem sl_s_erratalaw10_kept : sliceB Try.prog T_s_erratalaw10_kept T_erratalaw10_kept 4 32 = true := by kernel_rfl
theorem z_s_erratalaw10_kept : (Try.prog.info? T_s_erratalaw10_kept).bind (·.zero) = some (.slice none 0 0) := by kernel_rfl
theorem sc_s_int : scB Try.prog T_s_int = true := by kernel_rfl
theorem U_s_int : Try.prog.underlying T_s_int = some (.slice T_int) := by kernel_rfl
theorem sl_s_int : sliceB Try.prog T_s_int T_int 1 8 = true := by kernel_rfl
theorem z_s_int : (Try.prog.info? T_s_int).bind (·.zero) = some (.slice none 0 0) := by kernel_rfl
theorem ag_erratalaw10_Op : agB Try.prog T_erratalaw10_Op 5 = true := by kernel_rfl
theorem g_erratalaw10_Op_0 : fldB Try.prog T_erratalaw10_Op 0 0 = true := by kernel_rfl
theorem g_erratalaw10_Op_1 : fldB Try.prog T_erratalaw10_Op 1 1 = true := by kernel_rfl
theorem g_erratalaw10_Op_2 : fldB Try.prog T_erratalaw10_Op 2 2 = true := by kernel_rfl
theorem g_erratalaw10_Op_3 : fldB Try.prog T_erratalaw10_Op 3 3 = true := by kernel_rfl
theorem g_erratalaw10_Op_4 : fldB Try.prog T_erratalaw10_Op 4 4 = true := by kernel_rfl
theorem f_erratalaw10_Op_0 : fieldB Try.prog T_erratalaw10_Op 0 0 = true := by kernel_rfl
theorem f_erratalaw10_Op_1 : fieldB Try.prog T_erratalaw10_Op 1 1 = true := by kernel_rfl
theorem f_erratalaw10_Op_2 : fieldB Try.prog T_erratalaw10_Op 2 2 = true := by kernel_rfl
theorem f_erratalaw10_Op_3 : fieldB Try.prog T_erratalaw10_Op 3 3 = true := by kernel_rfl
theorem f_erratalaw10_Op_4 : fieldB Try.prog T_erratalaw10_Op 4 4 = true := by kernel_rfl
theorem z_erratalaw10_Op : (Try.prog.info? T_erratalaw10_Op).bind (·.zero) = some (.agg #[(.int .i64 0), (.int .i64 0), (.int .i64 0), (.int .i64 0), (.int .i64 0)]) := by kernel_rfl
theorem sc_api_Errno : scB Try.prog T_api_Errno = true := by kernel_rfl
theorem U_api_Errno : Try.prog.underlying T_api_Errno = some (.int .i64) := by kernel_rfl
theorem z_api_Errno : (Try.prog.info? T_api_Errno).bind (·.zero) = some (.int .i64 0) := by kernel_rfl
theorem ag_api_Entry : agB Try.prog T_api_Entry 8 = true := by kernel_rfl
theorem g_api_Entry_0 : fldB Try.prog T_api_Entry 0 0 = true := by kernel_rfl
theorem g_api_Entry_1 : fldB Try.prog T_api_Entry 1 1 = true := by kernel_rfl
theorem g_api_Entry_2 : fldB Try.prog T_api_Entry 2 2 = true := by kernel_rfl
theorem g_api_Entry_3 : fldB Try.prog T_api_Entry 3 3 = true := by kernel_rfl
theorem g_api_Entry_4 : fldB Try.prog T_api_Entry 4 4 = true := by kernel_rfl
theorem g_api_Entry_5 : fldB Try.prog T_api_Entry 5 5 = true := by kernel_rfl
theorem g_api_Entry_6 : fldB Try.prog T_api_Entry 6 6 = true := by kernel_rfl
theorem g_api_Entry_7 : fldB Try.prog T_api_Entry 7 7 = true := by kernel_rfl
theorem f_api_Entry_0 : fieldB Try.prog T_api_Entry 0 0 = true := by kernel_rfl
theorem f_api_Entry_1 : fieldB Try.prog T_api_Entry 1 1 = true := by kernel_rfl
theorem f_api_Entry_2 : fieldB Try.prog T_api_Entry 2 2 = true := by kernel_rfl
theorem f_api_Entry_3 : fieldB Try.prog T_api_Entry 3 3 = true := by kernel_rfl
theorem f_api_Entry_4 : fieldB Try.prog T_api_Entry 4 4 = true := by kernel_rfl
theorem f_api_Entry_5 : fieldB Try.prog T_api_Entry 5 5 = true := by kernel_rfl
theorem f_api_Entry_6 : fieldB Try.prog T_api_Entry 6 6 = true := by kernel_rfl
theorem f_api_Entry_7 : fieldB Try.prog T_api_Entry 7 7 = true := by kernel_rfl
theorem z_api_Entry : (Try.prog.info? T_api_Entry).bind (·.zero) = some (.agg #[(.int .i64 0), (.int .i64 0), (.int .i64 0), (.int .i64 0), (.string ⟨#[]⟩), (.int .i64 0), (.int .i64 0), (.slice none 0 0)]) := by kernel_rfl
theorem ag_erratalaw10_kept : agB Try.prog T_erratalaw10_kept 4 = true := by kernel_rfl
theorem g_erratalaw10_kept_0 : fldB Try.prog T_erratalaw10_kept 0 0 = true := by kernel_rfl
theorem g_erratalaw10_kept_1 : fldB Try.prog T_erratalaw10_kept 1 1 = true := by kernel_rfl
theorem g_erratalaw10_kept_2 : fldB Try.prog T_erratalaw10_kept 2 2 = true := by kernel_rfl
theorem g_erratalaw10_kept_3 : fldB Try.prog T_erratalaw10_kept 3 3 = true := by kernel_rfl
theorem f_erratalaw10_kept_0 : fieldB Try.prog T_erratalaw10_kept 0 0 = true := by kernel_rfl
theorem f_erratalaw10_kept_1 : fieldB Try.prog T_erratalaw10_kept 1 1 = true := by kernel_rfl
theorem f_erratalaw10_kept_2 : fieldB Try.prog T_erratalaw10_kept 2 2 = true := by kernel_rfl
theorem f_erratalaw10_kept_3 : fieldB Try.prog T_erratalaw10_kept 3 3 = true := by kernel_rfl
theorem z_erratalaw10_kept : (Try.prog.info? T_erratalaw10_kept).bind (·.zero) = some (.agg #[(.int .i64 0), (.int .i64 0), (.int .i64 0), (.int .i64 0)]) := by kernel_rfl
theorem ag_api_Producer : agB Try.prog T_api_Producer 4 = true := by kernel_rfl
theorem g_api_Producer_0 : fldB Try.prog T_api_Producer 0 0 = true := by kernel_rfl
theorem g_api_Producer_1 : fldB Try.prog T_api_Producer 1 1 = true := by kernel_rfl
theorem g_api_Producer_2 : fldB Try.prog T_api_Producer 2 2 = true := by kernel_rfl
theorem g_api_Producer_3 : fldB Try.prog T_api_Producer 3 3 = true := by kernel_rfl
theorem f_api_Producer_0 : fieldB Try.prog T_api_Producer 0 0 = true := by kernel_rfl
theorem f_api_Producer_1 : fieldB Try.prog T_api_Producer 1 1 = true := by kernel_rfl
theorem f_api_Producer_2 : fieldB Try.prog T_api_Producer 2 2 = true := by kernel_rfl
theorem f_api_Producer_3 : fieldB Try.prog T_api_Producer 3 3 = true := by kernel_rfl
theorem z_api_Producer : (Try.prog.info? T_api_Producer).bind (·.zero) = some (.agg #[(.int .i64 0), (.int .i64 0), (.int .i64 0), (.slice none 0 0)]) := by kernel_rfl
theorem sc_uint : scB Try.prog T_uint = true := by kernel_rfl
theorem U_uint : Try.prog.underlying T_uint = some (.int .u64) := by kernel_rfl
theorem z_uint : (Try.prog.info? T_uint).bind (·.zero) = some (.int .u64 0) := by kernel_rfl

structure D_erratalaw10_Op where
  do_ : Int
  id : Int
  epoch : Int
  seq : Int
  far : Int
  deriving DecidableEq
abbrev D_erratalaw10_Op.v (p : D_erratalaw10_Op) : Value := .agg #[.int .i64 p.do_, .int .i64 p.id, .int .i64 p.epoch, .int .i64 p.seq, .int .i64 p.far]
abbrev D_erratalaw10_Op.cs (p : D_erratalaw10_Op) : List Value := [.int .i64 p.do_, .int .i64 p.id, .int .i64 p.epoch, .int .i64 p.seq, .int .i64 p.far]
instance : Enc D_erratalaw10_Op where
  sz := 5
  cells p := p.cs
  val p := p.v
  pos := by omega
  len _ := rfl
  one p v (hv : v ∈ p.cs) := by
    simp only [List.mem_cons, List.not_mem_nil, or_false] at hv
    rcases hv with rfl | rfl | rfl | rfl | rfl <;> first | rfl | exact SV.prop _
  cells_val _ := rfl
structure D_api_Entry where
  kind : Int
  producer : Int
  epoch : Int
  seq : Int
  source : ByteArray
  schema : Int
  time : Int
  row : SV
abbrev D_api_Entry.v (p : D_api_Entry) : Value := .agg #[.int .i64 p.kind, .int .i64 p.producer, .int .i64 p.epoch, .int .i64 p.seq, .string p.source, .int .i64 p.schema, .int .i64 p.time, p.row.1]
abbrev D_api_Entry.cs (p : D_api_Entry) : List Value := [.int .i64 p.kind, .int .i64 p.producer, .int .i64 p.epoch, .int .i64 p.seq, .string p.source, .int .i64 p.schema, .int .i64 p.time, p.row.1]
instance : Enc D_api_Entry where
  sz := 8
  cells p := p.cs
  val p := p.v
  pos := by omega
  len _ := rfl
  one p v (hv : v ∈ p.cs) := by
    simp only [List.mem_cons, List.not_mem_nil, or_false] at hv
    rcases hv with rfl | rfl | rfl | rfl | rfl | rfl | rfl | rfl <;> first | rfl | exact SV.prop _
  cells_val _ := rfl
structure D_erratalaw10_kept where
  id : Int
  epoch : Int
  seq : Int
  pos_ : Int
  deriving DecidableEq
abbrev D_erratalaw10_kept.v (p : D_erratalaw10_kept) : Value := .agg #[.int .i64 p.id, .int .i64 p.epoch, .int .i64 p.seq, .int .i64 p.pos_]
abbrev D_erratalaw10_kept.cs (p : D_erratalaw10_kept) : List Value := [.int .i64 p.id, .int .i64 p.epoch, .int .i64 p.seq, .int .i64 p.pos_]
instance : Enc D_erratalaw10_kept where
  sz := 4
  cells p := p.cs
  val p := p.v
  pos := by omega
  len _ := rfl
  one p v (hv : v ∈ p.cs) := by
    simp only [List.mem_cons, List.not_mem_nil, or_false] at hv
    rcases hv with rfl | rfl | rfl | rfl <;> first | rfl | exact SV.prop _
  cells_val _ := rfl
structure D_api_Producer where
  id : Int
  epoch : Int
  next : Int
  last : SV
abbrev D_api_Producer.v (p : D_api_Producer) : Value := .agg #[.int .i64 p.id, .int .i64 p.epoch, .int .i64 p.next, p.last.1]
abbrev D_api_Producer.cs (p : D_api_Producer) : List Value := [.int .i64 p.id, .int .i64 p.epoch, .int .i64 p.next, p.last.1]
instance : Enc D_api_Producer where
  sz := 4
  cells p := p.cs
  val p := p.v
  pos := by omega
  len _ := rfl
  one p v (hv : v ∈ p.cs) := by
    simp only [List.mem_cons, List.not_mem_nil, or_false] at hv
    rcases hv with rfl | rfl | rfl | rfl <;> first | rfl | exact SV.prop _
  cells_val _ := rfl

theorem bd_erratalaw10_kept_0_1_2_3 {K : Value → Prop} {x0 : Int} {x1 : Int} {x2 : Int} {x3 : Int} : pureK Try.prog (sBuild T_erratalaw10_kept #[(0, .int .i64 x0), (1, .int .i64 x1), (2, .int .i64 x2), (3, .int .i64 x3)]) K = K (.agg #[.int .i64 x0, .int .i64 x1, .int .i64 x2, .int .i64 x3]) := pureK_eq fun w => by kernel_rfl
theorem bd_api_Producer_0_1 {K : Value → Prop} {x0 : Int} {x1 : Int} : pureK Try.prog (sBuild T_api_Producer #[(0, .int .i64 x0), (1, .int .i64 x1)]) K = K (.agg #[.int .i64 x0, .int .i64 x1, (.int .i64 0), (.slice none 0 0)]) := pureK_eq fun w => by kernel_rfl
theorem bd_api_Entry_0_1_2_3 {K : Value → Prop} {x0 : Int} {x1 : Int} {x2 : Int} {x3 : Int} : pureK Try.prog (sBuild T_api_Entry #[(0, .int .i64 x0), (1, .int .i64 x1), (2, .int .i64 x2), (3, .int .i64 x3)]) K = K (.agg #[.int .i64 x0, .int .i64 x1, .int .i64 x2, .int .i64 x3, (.string ⟨#[]⟩), (.int .i64 0), (.int .i64 0), (.slice none 0 0)]) := pureK_eq fun w => by kernel_rfl
theorem bd_api_Producer_0 {K : Value → Prop} {x0 : Int} : pureK Try.prog (sBuild T_api_Producer #[(0, .int .i64 x0)]) K = K (.agg #[.int .i64 x0, (.int .i64 0), (.int .i64 0), (.slice none 0 0)]) := pureK_eq fun w => by kernel_rfl



end Go.Proofs.Ytppnebcpalialaa
