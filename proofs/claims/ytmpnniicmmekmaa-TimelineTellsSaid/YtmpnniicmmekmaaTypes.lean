/-
  What the proofs of this seat know of its types, printed by program: each fact is held by the kernel. No condition.
-/
import Derived.Test.YtmpnniicmmekmaaHeap
import Derived.Test.YtmpnniicmmekmaaNames
namespace Go.Proofs.Ytmpnniicmmekmaa
open Go.RowKit


theorem sc_int : scB Try.prog T_int = true := by kernel_rfl
theorem U_int : Try.prog.underlying T_int = some (.int .i64) := by kernel_rfl
theorem z_int : (Try.prog.info? T_int).bind (·.zero) = some (.int .i64 0) := by kernel_rfl
theorem sc_bool : scB Try.prog T_bool = true := by kernel_rfl
theorem U_bool : Try.prog.underlying T_bool = some .bool := by kernel_rfl
theorem z_bool : (Try.prog.info? T_bool).bind (·.zero) = some (.bool false) := by kernel_rfl
theorem sc_uint8 : scB Try.prog T_uint8 = true := by kernel_rfl
theorem U_uint8 : Try.prog.underlying T_uint8 = some (.int .u8) := by kernel_rfl
theorem z_uint8 : (Try.prog.info? T_uint8).bind (·.zero) = some (.int .u8 0) := by kernel_rfl
theorem sc_string : scB Try.prog T_string = true := by kernel_rfl
theorem U_string : Try.prog.underlying T_string = some .string := by kernel_rfl
theorem z_string : (Try.prog.info? T_string).bind (·.zero) = some (.string ⟨#[]⟩) := by kernel_rfl
theorem sc_s_erratalaw45_Change : scB Try.prog T_s_erratalaw45_Change = true := by kernel_rfl
theorem U_s_erratalaw45_Change : Try.prog.underlying T_s_erratalaw45_Change = some (.slice T_erratalaw45_Change) := by kernel_rfl
theorem sl_s_erratalaw45_Change : sliceB Try.prog T_s_erratalaw45_Change T_erratalaw45_Change 2 16 = true := by kernel_rfl
theorem z_s_erratalaw45_Change : (Try.prog.info? T_s_erratalaw45_Change).bind (·.zero) = some (.slice none 0 0) := by kernel_rfl
theorem sc_s_api_Seg : scB Try.prog T_s_api_Seg = true := by kernel_rfl
theorem U_s_api_Seg : Try.prog.underlying T_s_api_Seg = some (.slice T_api_Seg) := by kernel_rfl
theorem sl_s_api_Seg : sliceB Try.prog T_s_api_Seg T_api_Seg 2 16 = true := by kernel_rfl
theorem z_s_api_Seg : (Try.prog.info? T_s_api_Seg).bind (·.zero) = some (.slice none 0 0) := by kernel_rfl
theorem sc_api_Errno : scB Try.prog T_api_Errno = true := by kernel_rfl
theorem U_api_Errno : Try.prog.underlying T_api_Errno = some (.int .i64) := by kernel_rfl
theorem z_api_Errno : (Try.prog.info? T_api_Errno).bind (·.zero) = some (.int .i64 0) := by kernel_rfl
theorem ag_erratalaw45_Change : agB Try.prog T_erratalaw45_Change 2 = true := by kernel_rfl
theorem f_erratalaw45_Change_0 : fieldB Try.prog T_erratalaw45_Change 0 0 = true := by kernel_rfl
theorem f_erratalaw45_Change_1 : fieldB Try.prog T_erratalaw45_Change 1 1 = true := by kernel_rfl
theorem z_erratalaw45_Change : (Try.prog.info? T_erratalaw45_Change).bind (·.zero) = some (.agg #[(.int .i64 0), (.int .i64 0)]) := by kernel_rfl
theorem ag_api_Seg : agB Try.prog T_api_Seg 2 = true := by kernel_rfl
theorem f_api_Seg_0 : fieldB Try.prog T_api_Seg 0 0 = true := by kernel_rfl
theorem f_api_Seg_1 : fieldB Try.prog T_api_Seg 1 1 = true := by kernel_rfl
theorem z_api_Seg : (Try.prog.info? T_api_Seg).bind (·.zero) = some (.agg #[(.int .i64 0), (.int .i64 0)]) := by kernel_rfl
theorem sc_s_int : scB Try.prog T_s_int = true := by kernel_rfl
theorem U_s_int : Try.prog.underlying T_s_int = some (.slice T_int) := by kernel_rfl
theorem sl_s_int : sliceB Try.prog T_s_int T_int 1 8 = true := by kernel_rfl
theorem z_s_int : (Try.prog.info? T_s_int).bind (·.zero) = some (.slice none 0 0) := by kernel_rfl
theorem sc_s_api_Delta : scB Try.prog T_s_api_Delta = true := by kernel_rfl
theorem U_s_api_Delta : Try.prog.underlying T_s_api_Delta = some (.slice T_api_Delta) := by kernel_rfl
theorem sl_s_api_Delta : sliceB Try.prog T_s_api_Delta T_api_Delta 3 40 = true := by kernel_rfl
theorem z_s_api_Delta : (Try.prog.info? T_s_api_Delta).bind (·.zero) = some (.slice none 0 0) := by kernel_rfl
theorem sc_s_api_Value : scB Try.prog T_s_api_Value = true := by kernel_rfl
theorem U_s_api_Value : Try.prog.underlying T_s_api_Value = some (.slice T_api_Value) := by kernel_rfl
theorem sl_s_api_Value : sliceB Try.prog T_s_api_Value T_api_Value 3 32 = true := by kernel_rfl
theorem z_s_api_Value : (Try.prog.info? T_s_api_Value).bind (·.zero) = some (.slice none 0 0) := by kernel_rfl
theorem ag_api_Delta : agB Try.prog T_api_Delta 3 = true := by kernel_rfl
theorem f_api_Delta_0 : fieldB Try.prog T_api_Delta 0 0 = true := by kernel_rfl
theorem f_api_Delta_1 : fieldB Try.prog T_api_Delta 1 1 = true := by kernel_rfl
theorem f_api_Delta_2 : fieldB Try.prog T_api_Delta 2 2 = true := by kernel_rfl
theorem z_api_Delta : (Try.prog.info? T_api_Delta).bind (·.zero) = some (.agg #[(.int .i64 0), (.slice none 0 0), (.int .i64 0)]) := by kernel_rfl
theorem ag_api_Value : agB Try.prog T_api_Value 3 = true := by kernel_rfl
theorem f_api_Value_0 : fieldB Try.prog T_api_Value 0 0 = true := by kernel_rfl
theorem f_api_Value_1 : fieldB Try.prog T_api_Value 1 1 = true := by kernel_rfl
theorem f_api_Value_2 : fieldB Try.prog T_api_Value 2 2 = true := by kernel_rfl
theorem z_api_Value : (Try.prog.info? T_api_Value).bind (·.zero) = some (.agg #[(.int .i64 0), (.int .i64 0), (.string ⟨#[]⟩)]) := by kernel_rfl
theorem sc_uint : scB Try.prog T_uint = true := by kernel_rfl
theorem U_uint : Try.prog.underlying T_uint = some (.int .u64) := by kernel_rfl
theorem z_uint : (Try.prog.info? T_uint).bind (·.zero) = some (.int .u64 0) := by kernel_rfl
theorem sc_slices_sortedHint : scB Try.prog T_slices_sortedHint = true := by kernel_rfl
theorem U_slices_sortedHint : Try.prog.underlying T_slices_sortedHint = some (.int .i64) := by kernel_rfl
theorem z_slices_sortedHint : (Try.prog.info? T_slices_sortedHint).bind (·.zero) = some (.int .i64 0) := by kernel_rfl
theorem sc_uint32 : scB Try.prog T_uint32 = true := by kernel_rfl
theorem U_uint32 : Try.prog.underlying T_uint32 = some (.int .u32) := by kernel_rfl
theorem z_uint32 : (Try.prog.info? T_uint32).bind (·.zero) = some (.int .u32 0) := by kernel_rfl
theorem sc_uint64 : scB Try.prog T_uint64 = true := by kernel_rfl
theorem U_uint64 : Try.prog.underlying T_uint64 = some (.int .u64) := by kernel_rfl
theorem z_uint64 : (Try.prog.info? T_uint64).bind (·.zero) = some (.int .u64 0) := by kernel_rfl
theorem sc_slices_xorshift : scB Try.prog T_slices_xorshift = true := by kernel_rfl
theorem U_slices_xorshift : Try.prog.underlying T_slices_xorshift = some (.int .u64) := by kernel_rfl
theorem z_slices_xorshift : (Try.prog.info? T_slices_xorshift).bind (·.zero) = some (.int .u64 0) := by kernel_rfl

structure D_erratalaw45_Change where
  from_ : Int
  version : Int
  deriving DecidableEq
abbrev D_erratalaw45_Change.v (p : D_erratalaw45_Change) : Value := .agg #[.int .i64 p.from_, .int .i64 p.version]
abbrev D_erratalaw45_Change.cs (p : D_erratalaw45_Change) : List Value := [.int .i64 p.from_, .int .i64 p.version]
instance : Enc D_erratalaw45_Change where
  sz := 2
  cells p := p.cs
  val p := p.v
  pos := by omega
  len _ := rfl
  one p v (hv : v ∈ p.cs) := by
    simp only [List.mem_cons, List.not_mem_nil, or_false] at hv
    rcases hv with rfl | rfl <;> first | rfl | exact SV.prop _
  cells_val _ := rfl
structure D_api_Seg where
  from_ : Int
  version : Int
  deriving DecidableEq
abbrev D_api_Seg.v (p : D_api_Seg) : Value := .agg #[.int .i64 p.from_, .int .i64 p.version]
abbrev D_api_Seg.cs (p : D_api_Seg) : List Value := [.int .i64 p.from_, .int .i64 p.version]
instance : Enc D_api_Seg where
  sz := 2
  cells p := p.cs
  val p := p.v
  pos := by omega
  len _ := rfl
  one p v (hv : v ∈ p.cs) := by
    simp only [List.mem_cons, List.not_mem_nil, or_false] at hv
    rcases hv with rfl | rfl <;> first | rfl | exact SV.prop _
  cells_val _ := rfl
structure D_api_Delta where
  time : Int
  row : SV
  n : Int
abbrev D_api_Delta.v (p : D_api_Delta) : Value := .agg #[.int .i64 p.time, p.row.1, .int .i64 p.n]
abbrev D_api_Delta.cs (p : D_api_Delta) : List Value := [.int .i64 p.time, p.row.1, .int .i64 p.n]
instance : Enc D_api_Delta where
  sz := 3
  cells p := p.cs
  val p := p.v
  pos := by omega
  len _ := rfl
  one p v (hv : v ∈ p.cs) := by
    simp only [List.mem_cons, List.not_mem_nil, or_false] at hv
    rcases hv with rfl | rfl | rfl <;> first | rfl | exact SV.prop _
  cells_val _ := rfl
structure D_api_Value where
  kind : Int
  n : Int
  s : ByteArray
  deriving DecidableEq
abbrev D_api_Value.v (p : D_api_Value) : Value := .agg #[.int .i64 p.kind, .int .i64 p.n, .string p.s]
abbrev D_api_Value.cs (p : D_api_Value) : List Value := [.int .i64 p.kind, .int .i64 p.n, .string p.s]
instance : Enc D_api_Value where
  sz := 3
  cells p := p.cs
  val p := p.v
  pos := by omega
  len _ := rfl
  one p v (hv : v ∈ p.cs) := by
    simp only [List.mem_cons, List.not_mem_nil, or_false] at hv
    rcases hv with rfl | rfl | rfl <;> first | rfl | exact SV.prop _
  cells_val _ := rfl

theorem bd_api_Seg_0_1 {K : Value → Prop} {x0 : Int} {x1 : Int} : pureK Try.prog (sBuild T_api_Seg #[(0, .int .i64 x0), (1, .int .i64 x1)]) K = K (.agg #[.int .i64 x0, .int .i64 x1]) := pureK_eq fun w => by kernel_rfl
theorem bd_api_Seg_0 {K : Value → Prop} {x0 : Int} : pureK Try.prog (sBuild T_api_Seg #[(0, .int .i64 x0)]) K = K (.agg #[.int .i64 x0, (.int .i64 0)]) := pureK_eq fun w => by kernel_rfl

theorem fl_api_Seg : (Try.prog.fieldsOf T_api_Seg).toList = [{ name := "From", type := T_int, offset := 0, embedded := false, tag := "", pkgPath := "", byteOffset := 0 }, { name := "Version", type := T_int, offset := 1, embedded := false, tag := "", pkgPath := "", byteOffset := 8 }] := by kernel_rfl
theorem run_eq_api_Seg (p q : D_api_Seg) (w : World) : (Op.equalIn 10000 T_api_Seg p.v q.v).run Try.prog w = .ok (decide (p = q)) w := by
  obtain ⟨a0, a1⟩ := p
  obtain ⟨b0, b1⟩ := q
  show (Op.equalIn 10000 T_api_Seg (.agg #[.int .i64 a0, .int .i64 a1]) (.agg #[.int .i64 b0, .int .i64 b1])).run Try.prog w = _
  rw [show (10000 : Nat) = 9999 + 1 from rfl, run_equalIn_agg w 9999 T_api_Seg _ _ (by kernel_rfl) (by kernel_rfl), fl_api_Seg]
  rw [show (9999 : Nat) = 9998 + 1 from rfl]
  have e : decide ((⟨a0, a1⟩ : D_api_Seg) = ⟨b0, b1⟩) = (decide (a0 = b0) && (decide (a1 = b1) && true)) := by
    rw [Bool.eq_iff_iff]; simp
  rw [e]
  have h0 := run_equalIn_int (P := Try.prog) w 9998 T_int .i64 .i64 a0 b0 (by kernel_rfl)
  have h1 := run_equalIn_int (P := Try.prog) w 9998 T_int .i64 .i64 a1 b1 (by kernel_rfl)
  exact eqF_cons (by decide) (part_sc (by kernel_rfl) rfl) (part_sc (by kernel_rfl) rfl) h0 <| eqF_cons (by decide) (part_sc (by kernel_rfl) rfl) (part_sc (by kernel_rfl) rfl) h1 <| eqF_nil
theorem eq_api_Seg {K : Value → Prop} {xo yo : Operand} (p q : D_api_Seg) : pureK Try.prog (sBin .eql T_api_Seg xo yo p.v q.v) K = K (.bool (decide (p = q))) := pureK_eq fun w => by
  refine sBin_eq (run_eqGuard_agg w .eql _ _ _ _ _ (by kernel_rfl)) ?_
  show (binOp .eql T_api_Seg (.agg _) (.agg _)).run _ _ = _
  rw [run_eql_struct]
  have := run_eq_api_Seg p q w
  rw [show (p.v : Value) = .agg _ from rfl, show (q.v : Value) = .agg _ from rfl] at this
  rw [this]
  rfl
theorem neq_api_Seg {K : Value → Prop} {xo yo : Operand} (p q : D_api_Seg) : pureK Try.prog (sBin .neq T_api_Seg xo yo p.v q.v) K = K (.bool (!decide (p = q))) := pureK_eq fun w => by
  refine sBin_eq (run_eqGuard_agg w .neq _ _ _ _ _ (by kernel_rfl)) ?_
  show (binOp .neq T_api_Seg (.agg _) (.agg _)).run _ _ = _
  rw [run_neq_struct]
  have := run_eq_api_Seg p q w
  rw [show (p.v : Value) = .agg _ from rfl, show (q.v : Value) = .agg _ from rfl] at this
  rw [this]
  rfl

end Go.Proofs.Ytmpnniicmmekmaa
