/-
  What the proofs of this seat know of its types, printed by program: each fact is held by the kernel. No condition.
-/
import Derived.Test.YtoebncgnjbblgaaHeap
import Derived.Test.YtoebncgnjbblgaaNames
namespace Go.Proofs.Ytoebncgnjbblgaa
open Go.RowKit


theorem sc_int : scB Try.prog T_int = true := by kernel_rfl
theorem U_int : Try.prog.underlying T_int = some (.int .i64) := by kernel_rfl
theorem z_int : (Try.prog.info? T_int).bind (·.zero) = some (.int .i64 0) := by kernel_rfl
theorem sc_string : scB Try.prog T_string = true := by kernel_rfl
theorem U_string : Try.prog.underlying T_string = some .string := by kernel_rfl
theorem z_string : (Try.prog.info? T_string).bind (·.zero) = some (.string ⟨#[]⟩) := by kernel_rfl
theorem sc_s_api_Agg : scB Try.prog T_s_api_Agg = true := by kernel_rfl
theorem U_s_api_Agg : Try.prog.underlying T_s_api_Agg = some (.slice T_api_Agg) := by kernel_rfl
theorem sl_s_api_Agg : sliceB Try.prog T_s_api_Agg T_api_Agg 3 32 = true := by kernel_rfl
theorem z_s_api_Agg : (Try.prog.info? T_s_api_Agg).bind (·.zero) = some (.slice none 0 0) := by kernel_rfl
theorem sc_s_api_Col : scB Try.prog T_s_api_Col = true := by kernel_rfl
theorem U_s_api_Col : Try.prog.underlying T_s_api_Col = some (.slice T_api_Col) := by kernel_rfl
theorem sl_s_api_Col : sliceB Try.prog T_s_api_Col T_api_Col 3 40 = true := by kernel_rfl
theorem z_s_api_Col : (Try.prog.info? T_s_api_Col).bind (·.zero) = some (.slice none 0 0) := by kernel_rfl
theorem sc_s_s_api_Value : scB Try.prog T_s_s_api_Value = true := by kernel_rfl
theorem U_s_s_api_Value : Try.prog.underlying T_s_s_api_Value = some (.slice T_s_api_Value) := by kernel_rfl
theorem sl_s_s_api_Value : sliceB Try.prog T_s_s_api_Value T_s_api_Value 1 24 = true := by kernel_rfl
theorem z_s_s_api_Value : (Try.prog.info? T_s_s_api_Value).bind (·.zero) = some (.slice none 0 0) := by kernel_rfl
theorem sc_api_Errno : scB Try.prog T_api_Errno = true := by kernel_rfl
theorem U_api_Errno : Try.prog.underlying T_api_Errno = some (.int .i64) := by kernel_rfl
theorem z_api_Errno : (Try.prog.info? T_api_Errno).bind (·.zero) = some (.int .i64 0) := by kernel_rfl
theorem ag_api_Agg : agB Try.prog T_api_Agg 3 = true := by kernel_rfl
theorem g_api_Agg_0 : fldB Try.prog T_api_Agg 0 0 = true := by kernel_rfl
theorem g_api_Agg_1 : fldB Try.prog T_api_Agg 1 1 = true := by kernel_rfl
theorem g_api_Agg_2 : fldB Try.prog T_api_Agg 2 2 = true := by kernel_rfl
theorem f_api_Agg_0 : fieldB Try.prog T_api_Agg 0 0 = true := by kernel_rfl
theorem f_api_Agg_1 : fieldB Try.prog T_api_Agg 1 1 = true := by kernel_rfl
theorem f_api_Agg_2 : fieldB Try.prog T_api_Agg 2 2 = true := by kernel_rfl
theorem z_api_Agg : (Try.prog.info? T_api_Agg).bind (·.zero) = some (.agg #[(.int .i64 0), (.int .i64 0), (.string ⟨#[]⟩)]) := by kernel_rfl
theorem sc_p_aggregate_Acc : scB Try.prog T_p_aggregate_Acc = true := by kernel_rfl
theorem U_p_aggregate_Acc : Try.prog.underlying T_p_aggregate_Acc = some (.pointer (Try.prog.pointee T_p_aggregate_Acc)) := by kernel_rfl
theorem z_p_aggregate_Acc : (Try.prog.info? T_p_aggregate_Acc).bind (·.zero) = some (.pointer none) := by kernel_rfl
theorem sc_s_api_Value : scB Try.prog T_s_api_Value = true := by kernel_rfl
theorem U_s_api_Value : Try.prog.underlying T_s_api_Value = some (.slice T_api_Value) := by kernel_rfl
theorem sl_s_api_Value : sliceB Try.prog T_s_api_Value T_api_Value 3 32 = true := by kernel_rfl
theorem z_s_api_Value : (Try.prog.info? T_s_api_Value).bind (·.zero) = some (.slice none 0 0) := by kernel_rfl
theorem ag_api_Col : agB Try.prog T_api_Col 3 = true := by kernel_rfl
theorem g_api_Col_0 : fldB Try.prog T_api_Col 0 0 = true := by kernel_rfl
theorem g_api_Col_1 : fldB Try.prog T_api_Col 1 1 = true := by kernel_rfl
theorem g_api_Col_2 : fldB Try.prog T_api_Col 2 2 = true := by kernel_rfl
theorem f_api_Col_0 : fieldB Try.prog T_api_Col 0 0 = true := by kernel_rfl
theorem f_api_Col_1 : fieldB Try.prog T_api_Col 1 1 = true := by kernel_rfl
theorem f_api_Col_2 : fieldB Try.prog T_api_Col 2 2 = true := by kernel_rfl
theorem z_api_Col : (Try.prog.info? T_api_Col).bind (·.zero) = some (.agg #[(.string ⟨#[]⟩), (.int .i64 0), (.string ⟨#[]⟩)]) := by kernel_rfl
theorem ag_api_Value : agB Try.prog T_api_Value 3 = true := by kernel_rfl
theorem g_api_Value_0 : fldB Try.prog T_api_Value 0 0 = true := by kernel_rfl
theorem g_api_Value_1 : fldB Try.prog T_api_Value 1 1 = true := by kernel_rfl
theorem g_api_Value_2 : fldB Try.prog T_api_Value 2 2 = true := by kernel_rfl
theorem f_api_Value_0 : fieldB Try.prog T_api_Value 0 0 = true := by kernel_rfl
theorem f_api_Value_1 : fieldB Try.prog T_api_Value 1 1 = true := by kernel_rfl
theorem f_api_Value_2 : fieldB Try.prog T_api_Value 2 2 = true := by kernel_rfl
theorem z_api_Value : (Try.prog.info? T_api_Value).bind (·.zero) = some (.agg #[(.int .i64 0), (.int .i64 0), (.string ⟨#[]⟩)]) := by kernel_rfl
theorem sc_s_int : scB Try.prog T_s_int = true := by kernel_rfl
theorem U_s_int : Try.prog.underlying T_s_int = some (.slice T_int) := by kernel_rfl
theorem sl_s_int : sliceB Try.prog T_s_int T_int 1 8 = true := by kernel_rfl
theorem z_s_int : (Try.prog.info? T_s_int).bind (·.zero) = some (.slice none 0 0) := by kernel_rfl
theorem sc_s_map_api_Value_int : scB Try.prog T_s_map_api_Value_int = true := by kernel_rfl
theorem U_s_map_api_Value_int : Try.prog.underlying T_s_map_api_Value_int = some (.slice T_map_api_Value_int) := by kernel_rfl
theorem sl_s_map_api_Value_int : sliceB Try.prog T_s_map_api_Value_int T_map_api_Value_int 1 8 = true := by kernel_rfl
theorem z_s_map_api_Value_int : (Try.prog.info? T_s_map_api_Value_int).bind (·.zero) = some (.slice none 0 0) := by kernel_rfl
theorem ag_aggregate_Acc : agB Try.prog T_aggregate_Acc 4 = true := by kernel_rfl
theorem g_aggregate_Acc_0 : fldB Try.prog T_aggregate_Acc 0 0 = true := by kernel_rfl
theorem g_aggregate_Acc_1 : fldB Try.prog T_aggregate_Acc 1 1 = true := by kernel_rfl
theorem g_aggregate_Acc_2 : fldB Try.prog T_aggregate_Acc 2 2 = true := by kernel_rfl
theorem g_aggregate_Acc_3 : fldB Try.prog T_aggregate_Acc 3 3 = true := by kernel_rfl
theorem f_aggregate_Acc_0 : fieldB Try.prog T_aggregate_Acc 0 0 = true := by kernel_rfl
theorem f_aggregate_Acc_1 : fieldB Try.prog T_aggregate_Acc 1 1 = true := by kernel_rfl
theorem f_aggregate_Acc_2 : fieldB Try.prog T_aggregate_Acc 2 2 = true := by kernel_rfl
theorem f_aggregate_Acc_3 : fieldB Try.prog T_aggregate_Acc 3 3 = true := by kernel_rfl
theorem z_aggregate_Acc : (Try.prog.info? T_aggregate_Acc).bind (·.zero) = some (.agg #[(.slice none 0 0), (.int .i64 0), (.slice none 0 0), (.slice none 0 0)]) := by kernel_rfl
theorem sc_map_api_Value_int : scB Try.prog T_map_api_Value_int = true := by kernel_rfl
theorem U_map_api_Value_int : Try.prog.underlying T_map_api_Value_int = some (.map T_api_Value T_int) := by kernel_rfl
theorem z_map_api_Value_int : (Try.prog.info? T_map_api_Value_int).bind (·.zero) = some (.map none) := by kernel_rfl
theorem sc_uint : scB Try.prog T_uint = true := by kernel_rfl
theorem U_uint : Try.prog.underlying T_uint = some (.int .u64) := by kernel_rfl
theorem z_uint : (Try.prog.info? T_uint).bind (·.zero) = some (.int .u64 0) := by kernel_rfl
theorem sc_slices_sortedHint : scB Try.prog T_slices_sortedHint = true := by kernel_rfl
theorem U_slices_sortedHint : Try.prog.underlying T_slices_sortedHint = some (.int .i64) := by kernel_rfl
theorem z_slices_sortedHint : (Try.prog.info? T_slices_sortedHint).bind (·.zero) = some (.int .i64 0) := by kernel_rfl
theorem sc_slices_xorshift : scB Try.prog T_slices_xorshift = true := by kernel_rfl
theorem U_slices_xorshift : Try.prog.underlying T_slices_xorshift = some (.int .u64) := by kernel_rfl
theorem z_slices_xorshift : (Try.prog.info? T_slices_xorshift).bind (·.zero) = some (.int .u64 0) := by kernel_rfl

structure D_api_Agg where
  kind : Int
  col : Int
  name : ByteArray
  deriving DecidableEq
abbrev D_api_Agg.v (p : D_api_Agg) : Value := .agg #[.int .i64 p.kind, .int .i64 p.col, .string p.name]
abbrev D_api_Agg.cs (p : D_api_Agg) : List Value := [.int .i64 p.kind, .int .i64 p.col, .string p.name]
instance : Enc D_api_Agg where
  sz := 3
  cells p := p.cs
  val p := p.v
  pos := by omega
  len _ := rfl
  one p v (hv : v ∈ p.cs) := by
    simp only [List.mem_cons, List.not_mem_nil, or_false] at hv
    rcases hv with rfl | rfl | rfl <;> first | rfl | exact SV.prop _
  cells_val _ := rfl
structure D_api_Col where
  name : ByteArray
  type_ : Int
  unit_ : ByteArray
  deriving DecidableEq
abbrev D_api_Col.v (p : D_api_Col) : Value := .agg #[.string p.name, .int .i64 p.type_, .string p.unit_]
abbrev D_api_Col.cs (p : D_api_Col) : List Value := [.string p.name, .int .i64 p.type_, .string p.unit_]
instance : Enc D_api_Col where
  sz := 3
  cells p := p.cs
  val p := p.v
  pos := by omega
  len _ := rfl
  one p v (hv : v ∈ p.cs) := by
    simp only [List.mem_cons, List.not_mem_nil, or_false] at hv
    rcases hv with rfl | rfl | rfl <;> first | rfl | exact SV.prop _
  cells_val _ := rfl
structure D_api_Value where
  kind : Int
  n : Int
  s : ByteArray
  deriving DecidableEq
abbrev D_api_Value.v (p : D_api_Value) : Value := .agg #[.int .i64 p.kind, .int .i64 p.n, .string p.s]
abbrev D_api_Value.cs (p : D_api_Value) : List Value := [.int .i64 p.kind, .int .i64 p.n, .string p.s]
instance : Enc D_api_Value where
  sz := 3
  cells p := p.cs
  val p := p.v
  pos := by omega
  len _ := rfl
  one p v (hv : v ∈ p.cs) := by
    simp only [List.mem_cons, List.not_mem_nil, or_false] at hv
    rcases hv with rfl | rfl | rfl <;> first | rfl | exact SV.prop _
  cells_val _ := rfl
structure D_aggregate_Acc where
  aggs : SV
  count : Int
  sums : SV
  bags : SV
abbrev D_aggregate_Acc.v (p : D_aggregate_Acc) : Value := .agg #[p.aggs.1, .int .i64 p.count, p.sums.1, p.bags.1]
abbrev D_aggregate_Acc.cs (p : D_aggregate_Acc) : List Value := [p.aggs.1, .int .i64 p.count, p.sums.1, p.bags.1]
instance : Enc D_aggregate_Acc where
  sz := 4
  cells p := p.cs
  val p := p.v
  pos := by omega
  len _ := rfl
  one p v (hv : v ∈ p.cs) := by
    simp only [List.mem_cons, List.not_mem_nil, or_false] at hv
    rcases hv with rfl | rfl | rfl | rfl <;> first | rfl | exact SV.prop _
  cells_val _ := rfl

theorem bd_api_Agg_0 {K : Value → Prop} {x0 : Int} : pureK Try.prog (sBuild T_api_Agg #[(0, .int .i64 x0)]) K = K (.agg #[.int .i64 x0, (.int .i64 0), (.string ⟨#[]⟩)]) := pureK_eq fun w => by kernel_rfl
theorem bd_api_Value_1 {K : Value → Prop} {x1 : Int} : pureK Try.prog (sBuild T_api_Value #[(1, .int .i64 x1)]) K = K (.agg #[(.int .i64 0), .int .i64 x1, (.string ⟨#[]⟩)]) := pureK_eq fun w => by kernel_rfl
theorem bd_api_Value_ {K : Value → Prop}  : pureK Try.prog (sBuild T_api_Value #[]) K = K (.agg #[(.int .i64 0), (.int .i64 0), (.string ⟨#[]⟩)]) := pureK_eq fun w => by kernel_rfl
theorem bd_api_Col_0_1 {K : Value → Prop} {x0 : ByteArray} {x1 : Int} : pureK Try.prog (sBuild T_api_Col #[(0, .string x0), (1, .int .i64 x1)]) K = K (.agg #[.string x0, .int .i64 x1, (.string ⟨#[]⟩)]) := pureK_eq fun w => by kernel_rfl
theorem bd_aggregate_Acc_0_2_3 {K : Value → Prop} {x0 : Option Addr} {n0 c0 : Nat} {x2 : Option Addr} {n2 c2 : Nat} {x3 : Option Addr} {n3 c3 : Nat} : pureK Try.prog (sBuild T_aggregate_Acc #[(0, .slice x0 n0 c0), (2, .slice x2 n2 c2), (3, .slice x3 n3 c3)]) K = K (.agg #[.slice x0 n0 c0, (.int .i64 0), .slice x2 n2 c2, .slice x3 n3 c3]) := pureK_eq fun w => by kernel_rfl
theorem bd_api_Value_0_1 {K : Value → Prop} {x0 : Int} {x1 : Int} : pureK Try.prog (sBuild T_api_Value #[(0, .int .i64 x0), (1, .int .i64 x1)]) K = K (.agg #[.int .i64 x0, .int .i64 x1, (.string ⟨#[]⟩)]) := pureK_eq fun w => by kernel_rfl
theorem bd_api_Value_0_2 {K : Value → Prop} {x0 : Int} {x2 : ByteArray} : pureK Try.prog (sBuild T_api_Value #[(0, .int .i64 x0), (2, .string x2)]) K = K (.agg #[.int .i64 x0, (.int .i64 0), .string x2]) := pureK_eq fun w => by kernel_rfl
theorem bd_api_Value_0 {K : Value → Prop} {x0 : Int} : pureK Try.prog (sBuild T_api_Value #[(0, .int .i64 x0)]) K = K (.agg #[.int .i64 x0, (.int .i64 0), (.string ⟨#[]⟩)]) := pureK_eq fun w => by kernel_rfl

theorem fl_api_Value : (Try.prog.fieldsOf T_api_Value).toList = [{ name := "Kind", type := T_int, offset := 0, embedded := false, tag := "", pkgPath := "", byteOffset := 0 }, { name := "N", type := T_int, offset := 1, embedded := false, tag := "", pkgPath := "", byteOffset := 8 }, { name := "S", type := T_string, offset := 2, embedded := false, tag := "", pkgPath := "", byteOffset := 16 }] := by kernel_rfl
theorem run_eq_api_Value (p q : D_api_Value) (w : World) : (Op.equalIn 10000 T_api_Value p.v q.v).run Try.prog w = .ok (decide (p = q)) w := by
  obtain ⟨a0, a1, a2⟩ := p
  obtain ⟨b0, b1, b2⟩ := q
  show (Op.equalIn 10000 T_api_Value (.agg #[.int .i64 a0, .int .i64 a1, .string a2]) (.agg #[.int .i64 b0, .int .i64 b1, .string b2])).run Try.prog w = _
  rw [show (10000 : Nat) = 9999 + 1 from rfl, run_equalIn_agg w 9999 T_api_Value _ _ (by kernel_rfl) (by kernel_rfl), fl_api_Value]
  rw [show (9999 : Nat) = 9998 + 1 from rfl]
  have e : decide ((⟨a0, a1, a2⟩ : D_api_Value) = ⟨b0, b1, b2⟩) = (decide (a0 = b0) && (decide (a1 = b1) && (decide (a2 = b2) && true))) := by
    rw [Bool.eq_iff_iff]; simp
  rw [e]
  have h0 := run_equalIn_int (P := Try.prog) w 9998 T_int .i64 .i64 a0 b0 (by kernel_rfl)
  have h1 := run_equalIn_int (P := Try.prog) w 9998 T_int .i64 .i64 a1 b1 (by kernel_rfl)
  have h2 := run_equalIn_string (P := Try.prog) w 9998 T_string a2 b2 (by kernel_rfl)
  rw [toList_beq] at h2
  exact eqF_cons (by decide) (part_sc (by kernel_rfl) rfl) (part_sc (by kernel_rfl) rfl) h0 <| eqF_cons (by decide) (part_sc (by kernel_rfl) rfl) (part_sc (by kernel_rfl) rfl) h1 <| eqF_cons (by decide) (part_sc (by kernel_rfl) rfl) (part_sc (by kernel_rfl) rfl) h2 <| eqF_nil
theorem eq_api_Value {K : Value → Prop} {xo yo : Operand} (p q : D_api_Value) : pureK Try.prog (sBin .eql T_api_Value xo yo p.v q.v) K = K (.bool (decide (p = q))) := pureK_eq fun w => by
  refine sBin_eq (run_eqGuard_agg w .eql _ _ _ _ _ (by kernel_rfl)) ?_
  show (binOp .eql T_api_Value (.agg _) (.agg _)).run _ _ = _
  rw [run_eql_struct]
  have := run_eq_api_Value p q w
  rw [show (p.v : Value) = .agg _ from rfl, show (q.v : Value) = .agg _ from rfl] at this
  rw [this]
  rfl
theorem neq_api_Value {K : Value → Prop} {xo yo : Operand} (p q : D_api_Value) : pureK Try.prog (sBin .neq T_api_Value xo yo p.v q.v) K = K (.bool (!decide (p = q))) := pureK_eq fun w => by
  refine sBin_eq (run_eqGuard_agg w .neq _ _ _ _ _ (by kernel_rfl)) ?_
  show (binOp .neq T_api_Value (.agg _) (.agg _)).run _ _ = _
  rw [run_neq_struct]
  have := run_eq_api_Value p q w
  rw [show (p.v : Value) = .agg _ from rfl, show (q.v : Value) = .agg _ from rfl] at this
  rw [this]
  rfl

end Go.Proofs.Ytoebncgnjbblgaa
