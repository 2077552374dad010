/-
  What the proofs of this seat know of its types, printed by program: each fact is held by the kernel. No condition.
-/
import Derived.Test.YtifhbaphlmhoeaaGreatDoorHeap
import Derived.Test.YtifhbaphlmhoeaaGreatDoorNames
namespace Go.Proofs.YtifhbaphlmhoeaaGreatDoor
open Go.RowKit


theorem sc_int : scB Tryz.prog T_int = true := by kernel_rfl
theorem U_int : Tryz.prog.underlying T_int = some (.int .i64) := by kernel_rfl
theorem z_int : (Tryz.prog.info? T_int).bind (·.zero) = some (.int .i64 0) := by kernel_rfl
theorem sc_bool : scB Tryz.prog T_bool = true := by kernel_rfl
theorem U_bool : Tryz.prog.underlying T_bool = some .bool := by kernel_rfl
theorem z_bool : (Tryz.prog.info? T_bool).bind (·.zero) = some (.bool false) := by kernel_rfl
theorem sc_uint8 : scB Tryz.prog T_uint8 = true := by kernel_rfl
theorem U_uint8 : Tryz.prog.underlying T_uint8 = some (.int .u8) := by kernel_rfl
theorem z_uint8 : (Tryz.prog.info? T_uint8).bind (·.zero) = some (.int .u8 0) := by kernel_rfl
theorem sc_string : scB Tryz.prog T_string = true := by kernel_rfl
theorem U_string : Tryz.prog.underlying T_string = some .string := by kernel_rfl
theorem z_string : (Tryz.prog.info? T_string).bind (·.zero) = some (.string ⟨#[]⟩) := by kernel_rfl
theorem sc_s_api_Value : scB Tryz.prog T_s_api_Value = true := by kernel_rfl
theorem U_s_api_Value : Tryz.prog.underlying T_s_api_Value = some (.slice T_api_Value) := by kernel_rfl
theorem sl_s_api_Value : sliceB Tryz.prog T_s_api_Value T_api_Value 3 32 = true := by kernel_rfl
theorem z_s_api_Value : (Tryz.prog.info? T_s_api_Value).bind (·.zero) = some (.slice none 0 0) := by kernel_rfl
theorem ag_api_Value : agB Tryz.prog T_api_Value 3 = true := by kernel_rfl
theorem g_api_Value_0 : fldB Tryz.prog T_api_Value 0 0 = true := by kernel_rfl
theorem g_api_Value_1 : fldB Tryz.prog T_api_Value 1 1 = true := by kernel_rfl
theorem g_api_Value_2 : fldB Tryz.prog T_api_Value 2 2 = true := by kernel_rfl
theorem f_api_Value_0 : fieldB Tryz.prog T_api_Value 0 0 = true := by kernel_rfl
theorem f_api_Value_1 : fieldB Tryz.prog T_api_Value 1 1 = true := by kernel_rfl
theorem f_api_Value_2 : fieldB Tryz.prog T_api_Value 2 2 = true := by kernel_rfl
theorem z_api_Value : (Tryz.prog.info? T_api_Value).bind (·.zero) = some (.agg #[(.int .i64 0), (.int .i64 0), (.string ⟨#[]⟩)]) := by kernel_rfl
theorem sc_p_strings_Builder : scB Tryz.prog T_p_strings_Builder = true := by kernel_rfl
theorem U_p_strings_Builder : Tryz.prog.underlying T_p_strings_Builder = some (.pointer (Tryz.prog.pointee T_p_strings_Builder)) := by kernel_rfl
theorem z_p_strings_Builder : (Tryz.prog.info? T_p_strings_Builder).bind (·.zero) = some (.pointer none) := by kernel_rfl
theorem sc_s_uint8 : scB Tryz.prog T_s_uint8 = true := by kernel_rfl
theorem U_s_uint8 : Tryz.prog.underlying T_s_uint8 = some (.slice T_uint8) := by kernel_rfl
theorem sl_s_uint8 : sliceB Tryz.prog T_s_uint8 T_uint8 1 1 = true := by kernel_rfl
theorem z_s_uint8 : (Tryz.prog.info? T_s_uint8).bind (·.zero) = some (.slice none 0 0) := by kernel_rfl
theorem ag_strings_Builder : agB Tryz.prog T_strings_Builder 2 = true := by kernel_rfl
theorem g_strings_Builder_0 : fldB Tryz.prog T_strings_Builder 0 0 = true := by kernel_rfl
theorem g_strings_Builder_1 : fldB Tryz.prog T_strings_Builder 1 1 = true := by kernel_rfl
theorem f_strings_Builder_0 : fieldB Tryz.prog T_strings_Builder 0 0 = true := by kernel_rfl
theorem f_strings_Builder_1 : fieldB Tryz.prog T_strings_Builder 1 1 = true := by kernel_rfl
theorem z_strings_Builder : (Tryz.prog.info? T_strings_Builder).bind (·.zero) = some (.agg #[(.pointer none), (.slice none 0 0)]) := by kernel_rfl
theorem sc_error : scB Tryz.prog T_error = true := by kernel_rfl
theorem z_error : (Tryz.prog.info? T_error).bind (·.zero) = some .nilIface := by kernel_rfl
theorem sc_s_string : scB Tryz.prog T_s_string = true := by kernel_rfl
theorem U_s_string : Tryz.prog.underlying T_s_string = some (.slice T_string) := by kernel_rfl
theorem sl_s_string : sliceB Tryz.prog T_s_string T_string 1 16 = true := by kernel_rfl
theorem z_s_string : (Tryz.prog.info? T_s_string).bind (·.zero) = some (.slice none 0 0) := by kernel_rfl
theorem sc_s_int : scB Tryz.prog T_s_int = true := by kernel_rfl
theorem U_s_int : Tryz.prog.underlying T_s_int = some (.slice T_int) := by kernel_rfl
theorem sl_s_int : sliceB Tryz.prog T_s_int T_int 1 8 = true := by kernel_rfl
theorem z_s_int : (Tryz.prog.info? T_s_int).bind (·.zero) = some (.slice none 0 0) := by kernel_rfl
theorem ag_wire_Reader : agB Tryz.prog T_wire_Reader 2 = true := by kernel_rfl
theorem g_wire_Reader_0 : fldB Tryz.prog T_wire_Reader 0 0 = true := by kernel_rfl
theorem g_wire_Reader_1 : fldB Tryz.prog T_wire_Reader 1 1 = true := by kernel_rfl
theorem f_wire_Reader_0 : fieldB Tryz.prog T_wire_Reader 0 0 = true := by kernel_rfl
theorem f_wire_Reader_1 : fieldB Tryz.prog T_wire_Reader 1 1 = true := by kernel_rfl
theorem z_wire_Reader : (Tryz.prog.info? T_wire_Reader).bind (·.zero) = some (.agg #[(.string ⟨#[]⟩), (.bool false)]) := by kernel_rfl
theorem ag_errataref01_Reader : agB Tryz.prog T_errataref01_Reader 2 = true := by kernel_rfl
theorem g_errataref01_Reader_0 : fldB Tryz.prog T_errataref01_Reader 0 0 = true := by kernel_rfl
theorem g_errataref01_Reader_1 : fldB Tryz.prog T_errataref01_Reader 1 1 = true := by kernel_rfl
theorem f_errataref01_Reader_0 : fieldB Tryz.prog T_errataref01_Reader 0 0 = true := by kernel_rfl
theorem f_errataref01_Reader_1 : fieldB Tryz.prog T_errataref01_Reader 1 1 = true := by kernel_rfl
theorem z_errataref01_Reader : (Tryz.prog.info? T_errataref01_Reader).bind (·.zero) = some (.agg #[(.string ⟨#[]⟩), (.bool false)]) := by kernel_rfl
theorem z_unsafe_Pointer : (Tryz.prog.info? T_unsafe_Pointer).bind (·.zero) = some (.pointer none) := by kernel_rfl

structure D_api_Value where
  kind : Int
  n : Int
  s : ByteArray
  deriving DecidableEq
abbrev D_api_Value.v (p : D_api_Value) : Value := .agg #[.int .i64 p.kind, .int .i64 p.n, .string p.s]
abbrev D_api_Value.cs (p : D_api_Value) : List Value := [.int .i64 p.kind, .int .i64 p.n, .string p.s]
instance : Enc D_api_Value where
  sz := 3
  cells p := p.cs
  val p := p.v
  pos := by omega
  len _ := rfl
  one p v (hv : v ∈ p.cs) := by
    simp only [List.mem_cons, List.not_mem_nil, or_false] at hv
    rcases hv with rfl | rfl | rfl <;> first | rfl | exact SV.prop _
  cells_val _ := rfl
structure D_strings_Builder where
  addr : SV
  buf : SV
abbrev D_strings_Builder.v (p : D_strings_Builder) : Value := .agg #[p.addr.1, p.buf.1]
abbrev D_strings_Builder.cs (p : D_strings_Builder) : List Value := [p.addr.1, p.buf.1]
instance : Enc D_strings_Builder where
  sz := 2
  cells p := p.cs
  val p := p.v
  pos := by omega
  len _ := rfl
  one p v (hv : v ∈ p.cs) := by
    simp only [List.mem_cons, List.not_mem_nil, or_false] at hv
    rcases hv with rfl | rfl <;> first | rfl | exact SV.prop _
  cells_val _ := rfl
structure D_wire_Reader where
  rest_ : ByteArray
  bad : Bool
  deriving DecidableEq
abbrev D_wire_Reader.v (p : D_wire_Reader) : Value := .agg #[.string p.rest_, .bool p.bad]
abbrev D_wire_Reader.cs (p : D_wire_Reader) : List Value := [.string p.rest_, .bool p.bad]
instance : Enc D_wire_Reader where
  sz := 2
  cells p := p.cs
  val p := p.v
  pos := by omega
  len _ := rfl
  one p v (hv : v ∈ p.cs) := by
    simp only [List.mem_cons, List.not_mem_nil, or_false] at hv
    rcases hv with rfl | rfl <;> first | rfl | exact SV.prop _
  cells_val _ := rfl
structure D_errataref01_Reader where
  rest_ : ByteArray
  bad : Bool
  deriving DecidableEq
abbrev D_errataref01_Reader.v (p : D_errataref01_Reader) : Value := .agg #[.string p.rest_, .bool p.bad]
abbrev D_errataref01_Reader.cs (p : D_errataref01_Reader) : List Value := [.string p.rest_, .bool p.bad]
instance : Enc D_errataref01_Reader where
  sz := 2
  cells p := p.cs
  val p := p.v
  pos := by omega
  len _ := rfl
  one p v (hv : v ∈ p.cs) := by
    simp only [List.mem_cons, List.not_mem_nil, or_false] at hv
    rcases hv with rfl | rfl <;> first | rfl | exact SV.prop _
  cells_val _ := rfl

theorem bd_api_Value_ {K : Value → Prop}  : pureK Tryz.prog (sBuild T_api_Value #[]) K = K (.agg #[(.int .i64 0), (.int .i64 0), (.string ⟨#[]⟩)]) := pureK_eq fun w => by kernel_rfl
theorem bd_api_Value_0_1 {K : Value → Prop} {x0 : Int} {x1 : Int} : pureK Tryz.prog (sBuild T_api_Value #[(0, .int .i64 x0), (1, .int .i64 x1)]) K = K (.agg #[.int .i64 x0, .int .i64 x1, (.string ⟨#[]⟩)]) := pureK_eq fun w => by kernel_rfl
theorem bd_api_Value_0 {K : Value → Prop} {x0 : Int} : pureK Tryz.prog (sBuild T_api_Value #[(0, .int .i64 x0)]) K = K (.agg #[.int .i64 x0, (.int .i64 0), (.string ⟨#[]⟩)]) := pureK_eq fun w => by kernel_rfl
theorem bd_api_Value_0_2 {K : Value → Prop} {x0 : Int} {x2 : ByteArray} : pureK Tryz.prog (sBuild T_api_Value #[(0, .int .i64 x0), (2, .string x2)]) K = K (.agg #[.int .i64 x0, (.int .i64 0), .string x2]) := pureK_eq fun w => by kernel_rfl
theorem bd_wire_Reader_0 {K : Value → Prop} {x0 : ByteArray} : pureK Tryz.prog (sBuild T_wire_Reader #[(0, .string x0)]) K = K (.agg #[.string x0, (.bool false)]) := pureK_eq fun w => by kernel_rfl
theorem bd_errataref01_Reader_0 {K : Value → Prop} {x0 : ByteArray} : pureK Tryz.prog (sBuild T_errataref01_Reader #[(0, .string x0)]) K = K (.agg #[.string x0, (.bool false)]) := pureK_eq fun w => by kernel_rfl

theorem fl_api_Value : (Tryz.prog.fieldsOf T_api_Value).toList = [{ name := "Kind", type := T_int, offset := 0, embedded := false, tag := "", pkgPath := "", byteOffset := 0 }, { name := "N", type := T_int, offset := 1, embedded := false, tag := "", pkgPath := "", byteOffset := 8 }, { name := "S", type := T_string, offset := 2, embedded := false, tag := "", pkgPath := "", byteOffset := 16 }] := by kernel_rfl
theorem run_eq_api_Value (p q : D_api_Value) (w : World) : (Op.equalIn 10000 T_api_Value p.v q.v).run Tryz.prog w = .ok (decide (p = q)) w := by
  obtain ⟨a0, a1, a2⟩ := p
  obtain ⟨b0, b1, b2⟩ := q
  show (Op.equalIn 10000 T_api_Value (.agg #[.int .i64 a0, .int .i64 a1, .string a2]) (.agg #[.int .i64 b0, .int .i64 b1, .string b2])).run Tryz.prog w = _
  rw [show (10000 : Nat) = 9999 + 1 from rfl, run_equalIn_agg w 9999 T_api_Value _ _ (by kernel_rfl) (by kernel_rfl), fl_api_Value]
  rw [show (9999 : Nat) = 9998 + 1 from rfl]
  have e : decide ((⟨a0, a1, a2⟩ : D_api_Value) = ⟨b0, b1, b2⟩) = (decide (a0 = b0) && (decide (a1 = b1) && (decide (a2 = b2) && true))) := by
    rw [Bool.eq_iff_iff]; simp
  rw [e]
  have h0 := run_equalIn_int (P := Tryz.prog) w 9998 T_int .i64 .i64 a0 b0 (by kernel_rfl)
  have h1 := run_equalIn_int (P := Tryz.prog) w 9998 T_int .i64 .i64 a1 b1 (by kernel_rfl)
  have h2 := run_equalIn_string (P := Tryz.prog) w 9998 T_string a2 b2 (by kernel_rfl)
  rw [toList_beq] at h2
  exact eqF_cons (by decide) (part_sc (by kernel_rfl) rfl) (part_sc (by kernel_rfl) rfl) h0 <| eqF_cons (by decide) (part_sc (by kernel_rfl) rfl) (part_sc (by kernel_rfl) rfl) h1 <| eqF_cons (by decide) (part_sc (by kernel_rfl) rfl) (part_sc (by kernel_rfl) rfl) h2 <| eqF_nil
theorem eq_api_Value {K : Value → Prop} {xo yo : Operand} (p q : D_api_Value) : pureK Tryz.prog (sBin .eql T_api_Value xo yo p.v q.v) K = K (.bool (decide (p = q))) := pureK_eq fun w => by
  refine sBin_eq (run_eqGuard_agg w .eql _ _ _ _ _ (by kernel_rfl)) ?_
  show (binOp .eql T_api_Value (.agg _) (.agg _)).run _ _ = _
  rw [run_eql_struct]
  have := run_eq_api_Value p q w
  rw [show (p.v : Value) = .agg _ from rfl, show (q.v : Value) = .agg _ from rfl] at this
  rw [this]
  rfl
theorem neq_api_Value {K : Value → Prop} {xo yo : Operand} (p q : D_api_Value) : pureK Tryz.prog (sBin .neq T_api_Value xo yo p.v q.v) K = K (.bool (!decide (p = q))) := pureK_eq fun w => by
  refine sBin_eq (run_eqGuard_agg w .neq _ _ _ _ _ (by kernel_rfl)) ?_
  show (binOp .neq T_api_Value (.agg _) (.agg _)).run _ _ = _
  rw [run_neq_struct]
  have := run_eq_api_Value p q w
  rw [show (p.v : Value) = .agg _ from rfl, show (q.v : Value) = .agg _ from rfl] at this
  rw [this]
  rfl

end Go.Proofs.YtifhbaphlmhoeaaGreatDoor
