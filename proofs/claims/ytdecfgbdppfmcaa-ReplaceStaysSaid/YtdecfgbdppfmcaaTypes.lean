/-
  What the proofs of this seat know of its types, printed by program: each fact is held by the kernel. No condition.
-/
import Derived.Test.YtdecfgbdppfmcaaHeap
import Derived.Test.YtdecfgbdppfmcaaNames
namespace Go.Proofs.Ytdecfgbdppfmcaa
open Go.RowKit


theorem sc_int : scB Try.prog T_int = true := by kernel_rfl
theorem U_int : Try.prog.underlying T_int = some (.int .i64) := by kernel_rfl
theorem z_int : (Try.prog.info? T_int).bind (·.zero) = some (.int .i64 0) := by kernel_rfl
theorem sc_bool : scB Try.prog T_bool = true := by kernel_rfl
theorem U_bool : Try.prog.underlying T_bool = some .bool := by kernel_rfl
theorem z_bool : (Try.prog.info? T_bool).bind (·.zero) = some (.bool false) := by kernel_rfl
theorem sc_uint8 : scB Try.prog T_uint8 = true := by kernel_rfl
theorem U_uint8 : Try.prog.underlying T_uint8 = some (.int .u8) := by kernel_rfl
theorem z_uint8 : (Try.prog.info? T_uint8).bind (·.zero) = some (.int .u8 0) := by kernel_rfl
theorem sc_string : scB Try.prog T_string = true := by kernel_rfl
theorem U_string : Try.prog.underlying T_string = some .string := by kernel_rfl
theorem z_string : (Try.prog.info? T_string).bind (·.zero) = some (.string ⟨#[]⟩) := by kernel_rfl
theorem sc_s_erratalaw47_Op : scB Try.prog T_s_erratalaw47_Op = true := by kernel_rfl
theorem U_s_erratalaw47_Op : Try.prog.underlying T_s_erratalaw47_Op = some (.slice T_erratalaw47_Op) := by kernel_rfl
theorem sl_s_erratalaw47_Op : sliceB Try.prog T_s_erratalaw47_Op T_erratalaw47_Op 7 56 = true := by kernel_rfl
theorem z_s_erratalaw47_Op : (Try.prog.info? T_s_erratalaw47_Op).bind (·.zero) = some (.slice none 0 0) := by kernel_rfl
theorem ag_api_Seg : agB Try.prog T_api_Seg 2 = true := by kernel_rfl
theorem f_api_Seg_0 : fieldB Try.prog T_api_Seg 0 0 = true := by kernel_rfl
theorem f_api_Seg_1 : fieldB Try.prog T_api_Seg 1 1 = true := by kernel_rfl
theorem z_api_Seg : (Try.prog.info? T_api_Seg).bind (·.zero) = some (.agg #[(.int .i64 0), (.int .i64 0)]) := by kernel_rfl
theorem sc_s_api_Seg : scB Try.prog T_s_api_Seg = true := by kernel_rfl
theorem U_s_api_Seg : Try.prog.underlying T_s_api_Seg = some (.slice T_api_Seg) := by kernel_rfl
theorem sl_s_api_Seg : sliceB Try.prog T_s_api_Seg T_api_Seg 2 16 = true := by kernel_rfl
theorem z_s_api_Seg : (Try.prog.info? T_s_api_Seg).bind (·.zero) = some (.slice none 0 0) := by kernel_rfl
theorem sc_s_api_Replacement : scB Try.prog T_s_api_Replacement = true := by kernel_rfl
theorem U_s_api_Replacement : Try.prog.underlying T_s_api_Replacement = some (.slice T_api_Replacement) := by kernel_rfl
theorem sl_s_api_Replacement : sliceB Try.prog T_s_api_Replacement T_api_Replacement 6 48 = true := by kernel_rfl
theorem z_s_api_Replacement : (Try.prog.info? T_s_api_Replacement).bind (·.zero) = some (.slice none 0 0) := by kernel_rfl
theorem ag_erratalaw47_state : agB Try.prog T_erratalaw47_state 2 = true := by kernel_rfl
theorem f_erratalaw47_state_0 : fieldB Try.prog T_erratalaw47_state 0 0 = true := by kernel_rfl
theorem f_erratalaw47_state_1 : fieldB Try.prog T_erratalaw47_state 1 1 = true := by kernel_rfl
theorem z_erratalaw47_state : (Try.prog.info? T_erratalaw47_state).bind (·.zero) = some (.agg #[(.slice none 0 0), (.slice none 0 0)]) := by kernel_rfl
theorem sc_api_Errno : scB Try.prog T_api_Errno = true := by kernel_rfl
theorem U_api_Errno : Try.prog.underlying T_api_Errno = some (.int .i64) := by kernel_rfl
theorem z_api_Errno : (Try.prog.info? T_api_Errno).bind (·.zero) = some (.int .i64 0) := by kernel_rfl
theorem ag_erratalaw47_Op : agB Try.prog T_erratalaw47_Op 7 = true := by kernel_rfl
theorem f_erratalaw47_Op_0 : fieldB Try.prog T_erratalaw47_Op 0 0 = true := by kernel_rfl
theorem f_erratalaw47_Op_1 : fieldB Try.prog T_erratalaw47_Op 1 1 = true := by kernel_rfl
theorem f_erratalaw47_Op_2 : fieldB Try.prog T_erratalaw47_Op 2 2 = true := by kernel_rfl
theorem f_erratalaw47_Op_3 : fieldB Try.prog T_erratalaw47_Op 3 3 = true := by kernel_rfl
theorem f_erratalaw47_Op_4 : fieldB Try.prog T_erratalaw47_Op 4 4 = true := by kernel_rfl
theorem f_erratalaw47_Op_5 : fieldB Try.prog T_erratalaw47_Op 5 5 = true := by kernel_rfl
theorem f_erratalaw47_Op_6 : fieldB Try.prog T_erratalaw47_Op 6 6 = true := by kernel_rfl
theorem z_erratalaw47_Op : (Try.prog.info? T_erratalaw47_Op).bind (·.zero) = some (.agg #[(.int .i64 0), (.int .i64 0), (.int .i64 0), (.int .i64 0), (.int .i64 0), (.int .i64 0), (.bool false)]) := by kernel_rfl
theorem ag_api_Replacement : agB Try.prog T_api_Replacement 6 = true := by kernel_rfl
theorem f_api_Replacement_0 : fieldB Try.prog T_api_Replacement 0 0 = true := by kernel_rfl
theorem f_api_Replacement_1 : fieldB Try.prog T_api_Replacement 1 1 = true := by kernel_rfl
theorem f_api_Replacement_2 : fieldB Try.prog T_api_Replacement 2 2 = true := by kernel_rfl
theorem f_api_Replacement_3 : fieldB Try.prog T_api_Replacement 3 3 = true := by kernel_rfl
theorem f_api_Replacement_4 : fieldB Try.prog T_api_Replacement 4 4 = true := by kernel_rfl
theorem f_api_Replacement_5 : fieldB Try.prog T_api_Replacement 5 5 = true := by kernel_rfl
theorem z_api_Replacement : (Try.prog.info? T_api_Replacement).bind (·.zero) = some (.agg #[(.int .i64 0), (.int .i64 0), (.int .i64 0), (.int .i64 0), (.int .i64 0), (.int .i64 0)]) := by kernel_rfl
theorem sc_s_int : scB Try.prog T_s_int = true := by kernel_rfl
theorem U_s_int : Try.prog.underlying T_s_int = some (.slice T_int) := by kernel_rfl
theorem sl_s_int : sliceB Try.prog T_s_int T_int 1 8 = true := by kernel_rfl
theorem z_s_int : (Try.prog.info? T_s_int).bind (·.zero) = some (.slice none 0 0) := by kernel_rfl
theorem sc_uint : scB Try.prog T_uint = true := by kernel_rfl
theorem U_uint : Try.prog.underlying T_uint = some (.int .u64) := by kernel_rfl
theorem z_uint : (Try.prog.info? T_uint).bind (·.zero) = some (.int .u64 0) := by kernel_rfl
theorem sc_slices_sortedHint : scB Try.prog T_slices_sortedHint = true := by kernel_rfl
theorem U_slices_sortedHint : Try.prog.underlying T_slices_sortedHint = some (.int .i64) := by kernel_rfl
theorem z_slices_sortedHint : (Try.prog.info? T_slices_sortedHint).bind (·.zero) = some (.int .i64 0) := by kernel_rfl
theorem sc_uint32 : scB Try.prog T_uint32 = true := by kernel_rfl
theorem U_uint32 : Try.prog.underlying T_uint32 = some (.int .u32) := by kernel_rfl
theorem z_uint32 : (Try.prog.info? T_uint32).bind (·.zero) = some (.int .u32 0) := by kernel_rfl
theorem sc_uint64 : scB Try.prog T_uint64 = true := by kernel_rfl
theorem U_uint64 : Try.prog.underlying T_uint64 = some (.int .u64) := by kernel_rfl
theorem z_uint64 : (Try.prog.info? T_uint64).bind (·.zero) = some (.int .u64 0) := by kernel_rfl
theorem sc_slices_xorshift : scB Try.prog T_slices_xorshift = true := by kernel_rfl
theorem U_slices_xorshift : Try.prog.underlying T_slices_xorshift = some (.int .u64) := by kernel_rfl
theorem z_slices_xorshift : (Try.prog.info? T_slices_xorshift).bind (·.zero) = some (.int .u64 0) := by kernel_rfl

structure D_api_Seg where
  from_ : Int
  version : Int
  deriving DecidableEq
abbrev D_api_Seg.v (p : D_api_Seg) : Value := .agg #[.int .i64 p.from_, .int .i64 p.version]
abbrev D_api_Seg.cs (p : D_api_Seg) : List Value := [.int .i64 p.from_, .int .i64 p.version]
instance : Enc D_api_Seg where
  sz := 2
  cells p := p.cs
  val p := p.v
  pos := by omega
  len _ := rfl
  one p v (hv : v ∈ p.cs) := by
    simp only [List.mem_cons, List.not_mem_nil, or_false] at hv
    rcases hv with rfl | rfl <;> first | rfl | exact SV.prop _
  cells_val _ := rfl
structure D_erratalaw47_state where
  l : SV
  t : SV
abbrev D_erratalaw47_state.v (p : D_erratalaw47_state) : Value := .agg #[p.l.1, p.t.1]
abbrev D_erratalaw47_state.cs (p : D_erratalaw47_state) : List Value := [p.l.1, p.t.1]
instance : Enc D_erratalaw47_state where
  sz := 2
  cells p := p.cs
  val p := p.v
  pos := by omega
  len _ := rfl
  one p v (hv : v ∈ p.cs) := by
    simp only [List.mem_cons, List.not_mem_nil, or_false] at hv
    rcases hv with rfl | rfl <;> first | rfl | exact SV.prop _
  cells_val _ := rfl
structure D_erratalaw47_Op where
  do_ : Int
  no : Int
  from_ : Int
  version : Int
  back : Int
  horizon : Int
  raise : Bool
  deriving DecidableEq
abbrev D_erratalaw47_Op.v (p : D_erratalaw47_Op) : Value := .agg #[.int .i64 p.do_, .int .i64 p.no, .int .i64 p.from_, .int .i64 p.version, .int .i64 p.back, .int .i64 p.horizon, .bool p.raise]
abbrev D_erratalaw47_Op.cs (p : D_erratalaw47_Op) : List Value := [.int .i64 p.do_, .int .i64 p.no, .int .i64 p.from_, .int .i64 p.version, .int .i64 p.back, .int .i64 p.horizon, .bool p.raise]
instance : Enc D_erratalaw47_Op where
  sz := 7
  cells p := p.cs
  val p := p.v
  pos := by omega
  len _ := rfl
  one p v (hv : v ∈ p.cs) := by
    simp only [List.mem_cons, List.not_mem_nil, or_false] at hv
    rcases hv with rfl | rfl | rfl | rfl | rfl | rfl | rfl <;> first | rfl | exact SV.prop _
  cells_val _ := rfl
structure D_api_Replacement where
  no : Int
  from_ : Int
  version : Int
  start : Int
  state : Int
  cut : Int
  deriving DecidableEq
abbrev D_api_Replacement.v (p : D_api_Replacement) : Value := .agg #[.int .i64 p.no, .int .i64 p.from_, .int .i64 p.version, .int .i64 p.start, .int .i64 p.state, .int .i64 p.cut]
abbrev D_api_Replacement.cs (p : D_api_Replacement) : List Value := [.int .i64 p.no, .int .i64 p.from_, .int .i64 p.version, .int .i64 p.start, .int .i64 p.state, .int .i64 p.cut]
instance : Enc D_api_Replacement where
  sz := 6
  cells p := p.cs
  val p := p.v
  pos := by omega
  len _ := rfl
  one p v (hv : v ∈ p.cs) := by
    simp only [List.mem_cons, List.not_mem_nil, or_false] at hv
    rcases hv with rfl | rfl | rfl | rfl | rfl | rfl <;> first | rfl | exact SV.prop _
  cells_val _ := rfl

theorem bd_api_Seg_1 {K : Value → Prop} {x1 : Int} : pureK Try.prog (sBuild T_api_Seg #[(1, .int .i64 x1)]) K = K (.agg #[(.int .i64 0), .int .i64 x1]) := pureK_eq fun w => by kernel_rfl
theorem bd_erratalaw47_state_1 {K : Value → Prop} {x1 : Option Addr} {n1 c1 : Nat} : pureK Try.prog (sBuild T_erratalaw47_state #[(1, .slice x1 n1 c1)]) K = K (.agg #[(.slice none 0 0), .slice x1 n1 c1]) := pureK_eq fun w => by kernel_rfl
theorem bd_api_Replacement_0_1_2_3 {K : Value → Prop} {x0 : Int} {x1 : Int} {x2 : Int} {x3 : Int} : pureK Try.prog (sBuild T_api_Replacement #[(0, .int .i64 x0), (1, .int .i64 x1), (2, .int .i64 x2), (3, .int .i64 x3)]) K = K (.agg #[.int .i64 x0, .int .i64 x1, .int .i64 x2, .int .i64 x3, (.int .i64 0), (.int .i64 0)]) := pureK_eq fun w => by kernel_rfl
theorem bd_api_Replacement_ {K : Value → Prop}  : pureK Try.prog (sBuild T_api_Replacement #[]) K = K (.agg #[(.int .i64 0), (.int .i64 0), (.int .i64 0), (.int .i64 0), (.int .i64 0), (.int .i64 0)]) := pureK_eq fun w => by kernel_rfl
theorem bd_api_Seg_0_1 {K : Value → Prop} {x0 : Int} {x1 : Int} : pureK Try.prog (sBuild T_api_Seg #[(0, .int .i64 x0), (1, .int .i64 x1)]) K = K (.agg #[.int .i64 x0, .int .i64 x1]) := pureK_eq fun w => by kernel_rfl

theorem fl_api_Replacement : (Try.prog.fieldsOf T_api_Replacement).toList = [{ name := "No", type := T_int, offset := 0, embedded := false, tag := "", pkgPath := "", byteOffset := 0 }, { name := "From", type := T_int, offset := 1, embedded := false, tag := "", pkgPath := "", byteOffset := 8 }, { name := "Version", type := T_int, offset := 2, embedded := false, tag := "", pkgPath := "", byteOffset := 16 }, { name := "Start", type := T_int, offset := 3, embedded := false, tag := "", pkgPath := "", byteOffset := 24 }, { name := "State", type := T_int, offset := 4, embedded := false, tag := "", pkgPath := "", byteOffset := 32 }, { name := "Cut", type := T_int, offset := 5, embedded := false, tag := "", pkgPath := "", byteOffset := 40 }] := by kernel_rfl
theorem run_eq_api_Replacement (p q : D_api_Replacement) (w : World) : (Op.equalIn 10000 T_api_Replacement p.v q.v).run Try.prog w = .ok (decide (p = q)) w := by
  obtain ⟨a0, a1, a2, a3, a4, a5⟩ := p
  obtain ⟨b0, b1, b2, b3, b4, b5⟩ := q
  show (Op.equalIn 10000 T_api_Replacement (.agg #[.int .i64 a0, .int .i64 a1, .int .i64 a2, .int .i64 a3, .int .i64 a4, .int .i64 a5]) (.agg #[.int .i64 b0, .int .i64 b1, .int .i64 b2, .int .i64 b3, .int .i64 b4, .int .i64 b5])).run Try.prog w = _
  rw [show (10000 : Nat) = 9999 + 1 from rfl, run_equalIn_agg w 9999 T_api_Replacement _ _ (by kernel_rfl) (by kernel_rfl), fl_api_Replacement]
  rw [show (9999 : Nat) = 9998 + 1 from rfl]
  have e : decide ((⟨a0, a1, a2, a3, a4, a5⟩ : D_api_Replacement) = ⟨b0, b1, b2, b3, b4, b5⟩) = (decide (a0 = b0) && (decide (a1 = b1) && (decide (a2 = b2) && (decide (a3 = b3) && (decide (a4 = b4) && (decide (a5 = b5) && true)))))) := by
    rw [Bool.eq_iff_iff]; simp
  rw [e]
  have h0 := run_equalIn_int (P := Try.prog) w 9998 T_int .i64 .i64 a0 b0 (by kernel_rfl)
  have h1 := run_equalIn_int (P := Try.prog) w 9998 T_int .i64 .i64 a1 b1 (by kernel_rfl)
  have h2 := run_equalIn_int (P := Try.prog) w 9998 T_int .i64 .i64 a2 b2 (by kernel_rfl)
  have h3 := run_equalIn_int (P := Try.prog) w 9998 T_int .i64 .i64 a3 b3 (by kernel_rfl)
  have h4 := run_equalIn_int (P := Try.prog) w 9998 T_int .i64 .i64 a4 b4 (by kernel_rfl)
  have h5 := run_equalIn_int (P := Try.prog) w 9998 T_int .i64 .i64 a5 b5 (by kernel_rfl)
  exact eqF_cons (by decide) (part_sc (by kernel_rfl) rfl) (part_sc (by kernel_rfl) rfl) h0 <| eqF_cons (by decide) (part_sc (by kernel_rfl) rfl) (part_sc (by kernel_rfl) rfl) h1 <| eqF_cons (by decide) (part_sc (by kernel_rfl) rfl) (part_sc (by kernel_rfl) rfl) h2 <| eqF_cons (by decide) (part_sc (by kernel_rfl) rfl) (part_sc (by kernel_rfl) rfl) h3 <| eqF_cons (by decide) (part_sc (by kernel_rfl) rfl) (part_sc (by kernel_rfl) rfl) h4 <| eqF_cons (by decide) (part_sc (by kernel_rfl) rfl) (part_sc (by kernel_rfl) rfl) h5 <| eqF_nil
theorem eq_api_Replacement {K : Value → Prop} {xo yo : Operand} (p q : D_api_Replacement) : pureK Try.prog (sBin .eql T_api_Replacement xo yo p.v q.v) K = K (.bool (decide (p = q))) := pureK_eq fun w => by
  refine sBin_eq (run_eqGuard_agg w .eql _ _ _ _ _ (by kernel_rfl)) ?_
  show (binOp .eql T_api_Replacement (.agg _) (.agg _)).run _ _ = _
  rw [run_eql_struct]
  have := run_eq_api_Replacement p q w
  rw [show (p.v : Value) = .agg _ from rfl, show (q.v : Value) = .agg _ from rfl] at this
  rw [this]
  rfl
theorem neq_api_Replacement {K : Value → Prop} {xo yo : Operand} (p q : D_api_Replacement) : pureK Try.prog (sBin .neq T_api_Replacement xo yo p.v q.v) K = K (.bool (!decide (p = q))) := pureK_eq fun w => by
  refine sBin_eq (run_eqGuard_agg w .neq _ _ _ _ _ (by kernel_rfl)) ?_
  show (binOp .neq T_api_Replacement (.agg _) (.agg _)).run _ _ = _
  rw [run_neq_struct]
  have := run_eq_api_Replacement p q w
  rw [show (p.v : Value) = .agg _ from rfl, show (q.v : Value) = .agg _ from rfl] at this
  rw [this]
  rfl

end Go.Proofs.Ytdecfgbdppfmcaa
