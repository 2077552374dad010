/-
  What the laws of this seat share: how their arguments are opened. Printed by program. No condition.
-/
import Derived.Test.YtoebncgnjbblgaaGreatDoorRows
import Derived.Test.YtoebncgnjbblgaaGreatDoorWrap
import Derived.Test.YtoebncgnjbblgaaGreatDoorTypes
namespace Go.Proofs.YtoebncgnjbblgaaGreatDoor
open Go.ChangeShapes Go.WideShapes Go.ChangeAt Go.RowKit
set_option maxRecDepth 100000

theorem own_ : ownKnob Tryz.prog.godebug = none := by kernel_rfl
theorem laidOut_ : laidOutB Tryz.prog = true := by kernel_rfl
theorem int_range {n : Int} (h : (Lit.int .i64 n).wf = true) : -9223372036854775808 ≤ n ∧ n ≤ 9223372036854775807 := by
  have h1 : IntKind.i64.min ≤ n ∧ n ≤ 9223372036854775807 := by simpa [Lit.wf] using h
  have h2 : IntKind.i64.min = -9223372036854775808 := by decide +kernel
  omega

section
variable {H : Type} {enc : TypeId × Value → H} {W : World} {base : Nat} {spare : Nat → Bool} {held : Bool}
theorem cI : Tryz.prog.cellsOf T_int = 1 := by kernel_rfl
theorem dec_int (n : Nat) (cs : List Value) (y : DataW H × List MemPlace) (h : DataW.trod enc Tryz.prog W base spare held n T_int cs = some y) : ∃ a : Int, cs = Enc.cells a ∧ okInt W a := by
  obtain ⟨i, e, h1, h2⟩ := DataW.trod_int U_int h
  exact ⟨i, e, int_range h2⟩
theorem cS : Tryz.prog.cellsOf T_string = 1 := by kernel_rfl
theorem dec_str (n : Nat) (cs : List Value) (y : DataW H × List MemPlace) (h : DataW.trod enc Tryz.prog W base spare held n T_string cs = some y) : ∃ a : ByteArray, cs = Enc.cells a ∧ okStr W a := by
  obtain ⟨i, e, h1, h2⟩ := DataW.trod_string U_string h
  exact ⟨i, e, h2⟩
theorem cB : Tryz.prog.cellsOf T_bool = 1 := by kernel_rfl
theorem dec_bool (n : Nat) (cs : List Value) (y : DataW H × List MemPlace) (h : DataW.trod enc Tryz.prog W base spare held n T_bool cs = some y) : ∃ a : Bool, cs = Enc.cells a ∧ okBool W a := by
  obtain ⟨i, e, h1⟩ := DataW.trod_bool U_bool h
  exact ⟨i, e, trivial⟩
def ok_api_Value (W : World) (p : D_api_Value) : Prop := okInt W p.kind ∧ okInt W p.n ∧ okStr W p.s
theorem fs_api_Value : Tryz.prog.underlying T_api_Value = some (.struct #[{ name := "Kind", type := T_int, offset := 0, embedded := false, tag := "", pkgPath := "", byteOffset := 0 }, { name := "N", type := T_int, offset := 1, embedded := false, tag := "", pkgPath := "", byteOffset := 8 }, { name := "S", type := T_string, offset := 2, embedded := false, tag := "", pkgPath := "", byteOffset := 16 }]) := by kernel_rfl
theorem c_api_Value : Tryz.prog.cellsOf T_api_Value = 3 := by kernel_rfl
theorem dec_api_Value (n : Nat) (cs : List Value) (y : DataW H × List MemPlace) (h : DataW.trod enc Tryz.prog W base spare held n T_api_Value cs = some y) : ∃ a : D_api_Value, cs = Enc.cells a ∧ ok_api_Value W a := by
  obtain ⟨xs, m, _, _, hl, hlen, hf⟩ := DataW.trod_struct fs_api_Value h
  rw [c_api_Value] at hl
  match cs, hl with
  | [v0, v1, v2], _ =>
    have f0 : DataW.trod enc Tryz.prog W base spare held m T_int (([v0, v1, v2].drop 0).take (Tryz.prog.cellsOf T_int)) = xs[0]? := hf 0 _ rfl
    have c0 : Tryz.prog.cellsOf T_int = 1 := by kernel_rfl
    rw [c0] at f0
    have f1 : DataW.trod enc Tryz.prog W base spare held m T_int (([v0, v1, v2].drop 1).take (Tryz.prog.cellsOf T_int)) = xs[1]? := hf 1 _ rfl
    have c1 : Tryz.prog.cellsOf T_int = 1 := by kernel_rfl
    rw [c1] at f1
    have f2 : DataW.trod enc Tryz.prog W base spare held m T_string (([v0, v1, v2].drop 2).take (Tryz.prog.cellsOf T_string)) = xs[2]? := hf 2 _ rfl
    have c2 : Tryz.prog.cellsOf T_string = 1 := by kernel_rfl
    rw [c2] at f2
    have hx : ∀ i, i < 3 → ∃ z, xs[i]? = some z := fun i hi => ⟨xs[i]'(by rw [hlen]; exact hi), by simp [hlen, hi]⟩
    obtain ⟨z0, h0⟩ := hx 0 (by omega)
    obtain ⟨i0, e0, q0⟩ := dec_int _ _ _ (f0.trans h0)
    simp [Enc.cells] at e0
    subst e0
    obtain ⟨z1, h1⟩ := hx 1 (by omega)
    obtain ⟨i1, e1, q1⟩ := dec_int _ _ _ (f1.trans h1)
    simp [Enc.cells] at e1
    subst e1
    obtain ⟨z2, h2⟩ := hx 2 (by omega)
    obtain ⟨i2, e2, q2⟩ := dec_str _ _ _ (f2.trans h2)
    simp [Enc.cells] at e2
    subst e2
    exact ⟨⟨i0, i1, i2⟩, rfl, q0, q1, q2⟩
def ok_erratalaw30_Change (W : World) (p : D_erratalaw30_Change) : Prop := (∃ l : List D_api_Value, rowR p.row.1 l (lawB W) ∧ l.length ≤ maxLen ∧ ∀ x ∈ l, ok_api_Value W x) ∧ okInt W p.n
theorem fs_erratalaw30_Change : Tryz.prog.underlying T_erratalaw30_Change = some (.struct #[{ name := "Row", type := T_s_api_Value, offset := 0, embedded := false, tag := "", pkgPath := "", byteOffset := 0 }, { name := "N", type := T_int, offset := 1, embedded := false, tag := "", pkgPath := "", byteOffset := 24 }]) := by kernel_rfl
theorem c_erratalaw30_Change : Tryz.prog.cellsOf T_erratalaw30_Change = 2 := by kernel_rfl
theorem dec_erratalaw30_Change (n : Nat) (cs : List Value) (y : DataW H × List MemPlace) (h : DataW.trod enc Tryz.prog W base spare held n T_erratalaw30_Change cs = some y) : ∃ a : D_erratalaw30_Change, cs = Enc.cells a ∧ ok_erratalaw30_Change W a := by
  obtain ⟨xs, m, _, _, hl, hlen, hf⟩ := DataW.trod_struct fs_erratalaw30_Change h
  rw [c_erratalaw30_Change] at hl
  match cs, hl with
  | [v0, v1], _ =>
    have f0 : DataW.trod enc Tryz.prog W base spare held m T_s_api_Value (([v0, v1].drop 0).take (Tryz.prog.cellsOf T_s_api_Value)) = xs[0]? := hf 0 _ rfl
    have c0 : Tryz.prog.cellsOf T_s_api_Value = 1 := by kernel_rfl
    rw [c0] at f0
    have f1 : DataW.trod enc Tryz.prog W base spare held m T_int (([v0, v1].drop 1).take (Tryz.prog.cellsOf T_int)) = xs[1]? := hf 1 _ rfl
    have c1 : Tryz.prog.cellsOf T_int = 1 := by kernel_rfl
    rw [c1] at f1
    have hx : ∀ i, i < 2 → ∃ z, xs[i]? = some z := fun i hi => ⟨xs[i]'(by rw [hlen]; exact hi), by simp [hlen, hi]⟩
    obtain ⟨z0, h0⟩ := hx 0 (by omega)
    obtain ⟨l0, r0, m0, q0⟩ := open_rowP (α := D_api_Value) (Q := ok_api_Value W) (by kernel_rfl : Tryz.prog.underlying T_s_api_Value = some (.slice T_api_Value)) (by kernel_rfl) (fun n cs y => dec_api_Value n cs y) (f0.trans h0)
    have o0 : v0.oneCell' = true := rowR.oneCell (lawB.row r0)
    obtain ⟨z1, h1⟩ := hx 1 (by omega)
    obtain ⟨i1, e1, q1⟩ := dec_int _ _ _ (f1.trans h1)
    simp [Enc.cells] at e1
    subst e1
    exact ⟨⟨⟨v0, o0⟩, i1⟩, rfl, ⟨l0, lawB.row r0, m0, q0⟩, q1⟩
def ok_api_Agg (W : World) (p : D_api_Agg) : Prop := okInt W p.kind ∧ okInt W p.col ∧ okStr W p.name
theorem fs_api_Agg : Tryz.prog.underlying T_api_Agg = some (.struct #[{ name := "Kind", type := T_int, offset := 0, embedded := false, tag := "", pkgPath := "", byteOffset := 0 }, { name := "Col", type := T_int, offset := 1, embedded := false, tag := "", pkgPath := "", byteOffset := 8 }, { name := "Name", type := T_string, offset := 2, embedded := false, tag := "", pkgPath := "", byteOffset := 16 }]) := by kernel_rfl
theorem c_api_Agg : Tryz.prog.cellsOf T_api_Agg = 3 := by kernel_rfl
theorem dec_api_Agg (n : Nat) (cs : List Value) (y : DataW H × List MemPlace) (h : DataW.trod enc Tryz.prog W base spare held n T_api_Agg cs = some y) : ∃ a : D_api_Agg, cs = Enc.cells a ∧ ok_api_Agg W a := by
  obtain ⟨xs, m, _, _, hl, hlen, hf⟩ := DataW.trod_struct fs_api_Agg h
  rw [c_api_Agg] at hl
  match cs, hl with
  | [v0, v1, v2], _ =>
    have f0 : DataW.trod enc Tryz.prog W base spare held m T_int (([v0, v1, v2].drop 0).take (Tryz.prog.cellsOf T_int)) = xs[0]? := hf 0 _ rfl
    have c0 : Tryz.prog.cellsOf T_int = 1 := by kernel_rfl
    rw [c0] at f0
    have f1 : DataW.trod enc Tryz.prog W base spare held m T_int (([v0, v1, v2].drop 1).take (Tryz.prog.cellsOf T_int)) = xs[1]? := hf 1 _ rfl
    have c1 : Tryz.prog.cellsOf T_int = 1 := by kernel_rfl
    rw [c1] at f1
    have f2 : DataW.trod enc Tryz.prog W base spare held m T_string (([v0, v1, v2].drop 2).take (Tryz.prog.cellsOf T_string)) = xs[2]? := hf 2 _ rfl
    have c2 : Tryz.prog.cellsOf T_string = 1 := by kernel_rfl
    rw [c2] at f2
    have hx : ∀ i, i < 3 → ∃ z, xs[i]? = some z := fun i hi => ⟨xs[i]'(by rw [hlen]; exact hi), by simp [hlen, hi]⟩
    obtain ⟨z0, h0⟩ := hx 0 (by omega)
    obtain ⟨i0, e0, q0⟩ := dec_int _ _ _ (f0.trans h0)
    simp [Enc.cells] at e0
    subst e0
    obtain ⟨z1, h1⟩ := hx 1 (by omega)
    obtain ⟨i1, e1, q1⟩ := dec_int _ _ _ (f1.trans h1)
    simp [Enc.cells] at e1
    subst e1
    obtain ⟨z2, h2⟩ := hx 2 (by omega)
    obtain ⟨i2, e2, q2⟩ := dec_str _ _ _ (f2.trans h2)
    simp [Enc.cells] at e2
    subst e2
    exact ⟨⟨i0, i1, i2⟩, rfl, q0, q1, q2⟩
def ok_api_Col (W : World) (p : D_api_Col) : Prop := okStr W p.name ∧ okInt W p.type_ ∧ okStr W p.unit_
theorem fs_api_Col : Tryz.prog.underlying T_api_Col = some (.struct #[{ name := "Name", type := T_string, offset := 0, embedded := false, tag := "", pkgPath := "", byteOffset := 0 }, { name := "Type", type := T_int, offset := 1, embedded := false, tag := "", pkgPath := "", byteOffset := 16 }, { name := "Unit", type := T_string, offset := 2, embedded := false, tag := "", pkgPath := "", byteOffset := 24 }]) := by kernel_rfl
theorem c_api_Col : Tryz.prog.cellsOf T_api_Col = 3 := by kernel_rfl
theorem dec_api_Col (n : Nat) (cs : List Value) (y : DataW H × List MemPlace) (h : DataW.trod enc Tryz.prog W base spare held n T_api_Col cs = some y) : ∃ a : D_api_Col, cs = Enc.cells a ∧ ok_api_Col W a := by
  obtain ⟨xs, m, _, _, hl, hlen, hf⟩ := DataW.trod_struct fs_api_Col h
  rw [c_api_Col] at hl
  match cs, hl with
  | [v0, v1, v2], _ =>
    have f0 : DataW.trod enc Tryz.prog W base spare held m T_string (([v0, v1, v2].drop 0).take (Tryz.prog.cellsOf T_string)) = xs[0]? := hf 0 _ rfl
    have c0 : Tryz.prog.cellsOf T_string = 1 := by kernel_rfl
    rw [c0] at f0
    have f1 : DataW.trod enc Tryz.prog W base spare held m T_int (([v0, v1, v2].drop 1).take (Tryz.prog.cellsOf T_int)) = xs[1]? := hf 1 _ rfl
    have c1 : Tryz.prog.cellsOf T_int = 1 := by kernel_rfl
    rw [c1] at f1
    have f2 : DataW.trod enc Tryz.prog W base spare held m T_string (([v0, v1, v2].drop 2).take (Tryz.prog.cellsOf T_string)) = xs[2]? := hf 2 _ rfl
    have c2 : Tryz.prog.cellsOf T_string = 1 := by kernel_rfl
    rw [c2] at f2
    have hx : ∀ i, i < 3 → ∃ z, xs[i]? = some z := fun i hi => ⟨xs[i]'(by rw [hlen]; exact hi), by simp [hlen, hi]⟩
    obtain ⟨z0, h0⟩ := hx 0 (by omega)
    obtain ⟨i0, e0, q0⟩ := dec_str _ _ _ (f0.trans h0)
    simp [Enc.cells] at e0
    subst e0
    obtain ⟨z1, h1⟩ := hx 1 (by omega)
    obtain ⟨i1, e1, q1⟩ := dec_int _ _ _ (f1.trans h1)
    simp [Enc.cells] at e1
    subst e1
    obtain ⟨z2, h2⟩ := hx 2 (by omega)
    obtain ⟨i2, e2, q2⟩ := dec_str _ _ _ (f2.trans h2)
    simp [Enc.cells] at e2
    subst e2
    exact ⟨⟨i0, i1, i2⟩, rfl, q0, q1, q2⟩
end
end Go.Proofs.YtoebncgnjbblgaaGreatDoor
