/-
  What the laws of this seat share: how their arguments are opened. Printed by program. No condition.
-/
import Derived.Test.YtmpnniicmmekmaaRows
import Derived.Test.YtmpnniicmmekmaaWrap
import Derived.Test.YtmpnniicmmekmaaTypes
namespace Go.Proofs.Ytmpnniicmmekmaa
open Go.ChangeShapes Go.WideShapes Go.ChangeAt Go.RowKit

theorem own_ : ownKnob Try.prog.godebug = none := by kernel_rfl
theorem laidOut_ : laidOutB Try.prog = true := by kernel_rfl
theorem int_range {n : Int} (h : (Lit.int .i64 n).wf = true) : -9223372036854775808 ≤ n ∧ n ≤ 9223372036854775807 := by
  have h1 : IntKind.i64.min ≤ n ∧ n ≤ 9223372036854775807 := by simpa [Lit.wf] using h
  have h2 : IntKind.i64.min = -9223372036854775808 := by decide +kernel
  omega

section
variable {H : Type} {enc : TypeId × Value → H} {W : World} {base : Nat} {spare : Nat → Bool} {held : Bool}
theorem cI : Try.prog.cellsOf T_int = 1 := by kernel_rfl
theorem dec_int (n : Nat) (cs : List Value) (y : DataW H × List MemPlace) (h : DataW.trod enc Try.prog W base spare held n T_int cs = some y) : ∃ a : Int, cs = Enc.cells a ∧ okInt W a := by
  obtain ⟨i, e, h1, h2⟩ := DataW.trod_int U_int h
  exact ⟨i, e, int_range h2⟩
theorem cS : Try.prog.cellsOf T_string = 1 := by kernel_rfl
theorem dec_str (n : Nat) (cs : List Value) (y : DataW H × List MemPlace) (h : DataW.trod enc Try.prog W base spare held n T_string cs = some y) : ∃ a : ByteArray, cs = Enc.cells a ∧ okStr W a := by
  obtain ⟨i, e, h1, h2⟩ := DataW.trod_string U_string h
  exact ⟨i, e, h2⟩
theorem cB : Try.prog.cellsOf T_bool = 1 := by kernel_rfl
theorem dec_bool (n : Nat) (cs : List Value) (y : DataW H × List MemPlace) (h : DataW.trod enc Try.prog W base spare held n T_bool cs = some y) : ∃ a : Bool, cs = Enc.cells a ∧ okBool W a := by
  obtain ⟨i, e, h1⟩ := DataW.trod_bool U_bool h
  exact ⟨i, e, trivial⟩
def ok_erratalaw45_Change (W : World) (p : D_erratalaw45_Change) : Prop := okInt W p.from_ ∧ okInt W p.version
theorem fs_erratalaw45_Change : Try.prog.underlying T_erratalaw45_Change = some (.struct #[{ name := "From", type := T_int, offset := 0, embedded := false, tag := "", pkgPath := "", byteOffset := 0 }, { name := "Version", type := T_int, offset := 1, embedded := false, tag := "", pkgPath := "", byteOffset := 8 }]) := by kernel_rfl
theorem c_erratalaw45_Change : Try.prog.cellsOf T_erratalaw45_Change = 2 := by kernel_rfl
theorem dec_erratalaw45_Change (n : Nat) (cs : List Value) (y : DataW H × List MemPlace) (h : DataW.trod enc Try.prog W base spare held n T_erratalaw45_Change cs = some y) : ∃ a : D_erratalaw45_Change, cs = Enc.cells a ∧ ok_erratalaw45_Change W a := by
  obtain ⟨xs, m, _, _, hl, hlen, hf⟩ := DataW.trod_struct fs_erratalaw45_Change h
  rw [c_erratalaw45_Change] at hl
  match cs, hl with
  | [v0, v1], _ =>
    have f0 : DataW.trod enc Try.prog W base spare held m T_int (([v0, v1].drop 0).take (Try.prog.cellsOf T_int)) = xs[0]? := hf 0 _ rfl
    have c0 : Try.prog.cellsOf T_int = 1 := by kernel_rfl
    rw [c0] at f0
    have f1 : DataW.trod enc Try.prog W base spare held m T_int (([v0, v1].drop 1).take (Try.prog.cellsOf T_int)) = xs[1]? := hf 1 _ rfl
    have c1 : Try.prog.cellsOf T_int = 1 := by kernel_rfl
    rw [c1] at f1
    have hx : ∀ i, i < 2 → ∃ z, xs[i]? = some z := fun i hi => ⟨xs[i]'(by rw [hlen]; exact hi), by simp [hlen, hi]⟩
    obtain ⟨z0, h0⟩ := hx 0 (by omega)
    obtain ⟨i0, e0, q0⟩ := dec_int _ _ _ (f0.trans h0)
    simp [Enc.cells] at e0
    subst e0
    obtain ⟨z1, h1⟩ := hx 1 (by omega)
    obtain ⟨i1, e1, q1⟩ := dec_int _ _ _ (f1.trans h1)
    simp [Enc.cells] at e1
    subst e1
    exact ⟨⟨i0, i1⟩, rfl, q0, q1⟩
def ok_api_Seg (W : World) (p : D_api_Seg) : Prop := okInt W p.from_ ∧ okInt W p.version
theorem fs_api_Seg : Try.prog.underlying T_api_Seg = some (.struct #[{ name := "From", type := T_int, offset := 0, embedded := false, tag := "", pkgPath := "", byteOffset := 0 }, { name := "Version", type := T_int, offset := 1, embedded := false, tag := "", pkgPath := "", byteOffset := 8 }]) := by kernel_rfl
theorem c_api_Seg : Try.prog.cellsOf T_api_Seg = 2 := by kernel_rfl
theorem dec_api_Seg (n : Nat) (cs : List Value) (y : DataW H × List MemPlace) (h : DataW.trod enc Try.prog W base spare held n T_api_Seg cs = some y) : ∃ a : D_api_Seg, cs = Enc.cells a ∧ ok_api_Seg W a := by
  obtain ⟨xs, m, _, _, hl, hlen, hf⟩ := DataW.trod_struct fs_api_Seg h
  rw [c_api_Seg] at hl
  match cs, hl with
  | [v0, v1], _ =>
    have f0 : DataW.trod enc Try.prog W base spare held m T_int (([v0, v1].drop 0).take (Try.prog.cellsOf T_int)) = xs[0]? := hf 0 _ rfl
    have c0 : Try.prog.cellsOf T_int = 1 := by kernel_rfl
    rw [c0] at f0
    have f1 : DataW.trod enc Try.prog W base spare held m T_int (([v0, v1].drop 1).take (Try.prog.cellsOf T_int)) = xs[1]? := hf 1 _ rfl
    have c1 : Try.prog.cellsOf T_int = 1 := by kernel_rfl
    rw [c1] at f1
    have hx : ∀ i, i < 2 → ∃ z, xs[i]? = some z := fun i hi => ⟨xs[i]'(by rw [hlen]; exact hi), by simp [hlen, hi]⟩
    obtain ⟨z0, h0⟩ := hx 0 (by omega)
    obtain ⟨i0, e0, q0⟩ := dec_int _ _ _ (f0.trans h0)
    simp [Enc.cells] at e0
    subst e0
    obtain ⟨z1, h1⟩ := hx 1 (by omega)
    obtain ⟨i1, e1, q1⟩ := dec_int _ _ _ (f1.trans h1)
    simp [Enc.cells] at e1
    subst e1
    exact ⟨⟨i0, i1⟩, rfl, q0, q1⟩
def ok_api_Value (W : World) (p : D_api_Value) : Prop := okInt W p.kind ∧ okInt W p.n ∧ okStr W p.s
theorem fs_api_Value : Try.prog.underlying T_api_Value = some (.struct #[{ name := "Kind", type := T_int, offset := 0, embedded := false, tag := "", pkgPath := "", byteOffset := 0 }, { name := "N", type := T_int, offset := 1, embedded := false, tag := "", pkgPath := "", byteOffset := 8 }, { name := "S", type := T_string, offset := 2, embedded := false, tag := "", pkgPath := "", byteOffset := 16 }]) := by kernel_rfl
theorem c_api_Value : Try.prog.cellsOf T_api_Value = 3 := by kernel_rfl
theorem dec_api_Value (n : Nat) (cs : List Value) (y : DataW H × List MemPlace) (h : DataW.trod enc Try.prog W base spare held n T_api_Value cs = some y) : ∃ a : D_api_Value, cs = Enc.cells a ∧ ok_api_Value W a := by
  obtain ⟨xs, m, _, _, hl, hlen, hf⟩ := DataW.trod_struct fs_api_Value h
  rw [c_api_Value] at hl
  match cs, hl with
  | [v0, v1, v2], _ =>
    have f0 : DataW.trod enc Try.prog W base spare held m T_int (([v0, v1, v2].drop 0).take (Try.prog.cellsOf T_int)) = xs[0]? := hf 0 _ rfl
    have c0 : Try.prog.cellsOf T_int = 1 := by kernel_rfl
    rw [c0] at f0
    have f1 : DataW.trod enc Try.prog W base spare held m T_int (([v0, v1, v2].drop 1).take (Try.prog.cellsOf T_int)) = xs[1]? := hf 1 _ rfl
    have c1 : Try.prog.cellsOf T_int = 1 := by kernel_rfl
    rw [c1] at f1
    have f2 : DataW.trod enc Try.prog W base spare held m T_string (([v0, v1, v2].drop 2).take (Try.prog.cellsOf T_string)) = xs[2]? := hf 2 _ rfl
    have c2 : Try.prog.cellsOf T_string = 1 := by kernel_rfl
    rw [c2] at f2
    have hx : ∀ i, i < 3 → ∃ z, xs[i]? = some z := fun i hi => ⟨xs[i]'(by rw [hlen]; exact hi), by simp [hlen, hi]⟩
    obtain ⟨z0, h0⟩ := hx 0 (by omega)
    obtain ⟨i0, e0, q0⟩ := dec_int _ _ _ (f0.trans h0)
    simp [Enc.cells] at e0
    subst e0
    obtain ⟨z1, h1⟩ := hx 1 (by omega)
    obtain ⟨i1, e1, q1⟩ := dec_int _ _ _ (f1.trans h1)
    simp [Enc.cells] at e1
    subst e1
    obtain ⟨z2, h2⟩ := hx 2 (by omega)
    obtain ⟨i2, e2, q2⟩ := dec_str _ _ _ (f2.trans h2)
    simp [Enc.cells] at e2
    subst e2
    exact ⟨⟨i0, i1, i2⟩, rfl, q0, q1, q2⟩
def ok_api_Delta (W : World) (p : D_api_Delta) : Prop := okInt W p.time ∧ (∃ l : List D_api_Value, rowR p.row.1 l (lawB W) ∧ l.length ≤ maxLen ∧ ∀ x ∈ l, ok_api_Value W x) ∧ okInt W p.n
theorem fs_api_Delta : Try.prog.underlying T_api_Delta = some (.struct #[{ name := "Time", type := T_int, offset := 0, embedded := false, tag := "", pkgPath := "", byteOffset := 0 }, { name := "Row", type := T_s_api_Value, offset := 1, embedded := false, tag := "", pkgPath := "", byteOffset := 8 }, { name := "N", type := T_int, offset := 2, embedded := false, tag := "", pkgPath := "", byteOffset := 32 }]) := by kernel_rfl
theorem c_api_Delta : Try.prog.cellsOf T_api_Delta = 3 := by kernel_rfl
theorem dec_api_Delta (n : Nat) (cs : List Value) (y : DataW H × List MemPlace) (h : DataW.trod enc Try.prog W base spare held n T_api_Delta cs = some y) : ∃ a : D_api_Delta, cs = Enc.cells a ∧ ok_api_Delta W a := by
  obtain ⟨xs, m, _, _, hl, hlen, hf⟩ := DataW.trod_struct fs_api_Delta h
  rw [c_api_Delta] at hl
  match cs, hl with
  | [v0, v1, v2], _ =>
    have f0 : DataW.trod enc Try.prog W base spare held m T_int (([v0, v1, v2].drop 0).take (Try.prog.cellsOf T_int)) = xs[0]? := hf 0 _ rfl
    have c0 : Try.prog.cellsOf T_int = 1 := by kernel_rfl
    rw [c0] at f0
    have f1 : DataW.trod enc Try.prog W base spare held m T_s_api_Value (([v0, v1, v2].drop 1).take (Try.prog.cellsOf T_s_api_Value)) = xs[1]? := hf 1 _ rfl
    have c1 : Try.prog.cellsOf T_s_api_Value = 1 := by kernel_rfl
    rw [c1] at f1
    have f2 : DataW.trod enc Try.prog W base spare held m T_int (([v0, v1, v2].drop 2).take (Try.prog.cellsOf T_int)) = xs[2]? := hf 2 _ rfl
    have c2 : Try.prog.cellsOf T_int = 1 := by kernel_rfl
    rw [c2] at f2
    have hx : ∀ i, i < 3 → ∃ z, xs[i]? = some z := fun i hi => ⟨xs[i]'(by rw [hlen]; exact hi), by simp [hlen, hi]⟩
    obtain ⟨z0, h0⟩ := hx 0 (by omega)
    obtain ⟨i0, e0, q0⟩ := dec_int _ _ _ (f0.trans h0)
    simp [Enc.cells] at e0
    subst e0
    obtain ⟨z1, h1⟩ := hx 1 (by omega)
    obtain ⟨l1, r1, m1, q1⟩ := open_rowP (α := D_api_Value) (Q := ok_api_Value W) (by kernel_rfl : Try.prog.underlying T_s_api_Value = some (.slice T_api_Value)) (by kernel_rfl) (fun n cs y => dec_api_Value n cs y) (f1.trans h1)
    have o1 : v1.oneCell' = true := rowR.oneCell (lawB.row r1)
    obtain ⟨z2, h2⟩ := hx 2 (by omega)
    obtain ⟨i2, e2, q2⟩ := dec_int _ _ _ (f2.trans h2)
    simp [Enc.cells] at e2
    subst e2
    exact ⟨⟨i0, ⟨v1, o1⟩, i2⟩, rfl, q0, ⟨l1, lawB.row r1, m1, q1⟩, q2⟩
end
end Go.Proofs.Ytmpnniicmmekmaa
