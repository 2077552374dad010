/-
  What the laws of this seat share: how their arguments are opened. Printed by program. No condition.
-/
import Derived.Test.YtefinemhfgdpdaaGreatDoorRows
import Derived.Test.YtefinemhfgdpdaaGreatDoorWrap
import Derived.Test.YtefinemhfgdpdaaGreatDoorTypes
namespace Go.Proofs.YtefinemhfgdpdaaGreatDoor
open Go.ChangeShapes Go.WideShapes Go.ChangeAt Go.RowKit
set_option maxRecDepth 100000

theorem own_ : ownKnob Tryz.prog.godebug = none := by kernel_rfl
theorem laidOut_ : laidOutB Tryz.prog = true := by kernel_rfl
theorem int_range {n : Int} (h : (Lit.int .i64 n).wf = true) : -9223372036854775808 ≤ n ∧ n ≤ 9223372036854775807 := by
  have h1 : IntKind.i64.min ≤ n ∧ n ≤ 9223372036854775807 := by simpa [Lit.wf] using h
  have h2 : IntKind.i64.min = -9223372036854775808 := by decide +kernel
  omega

section
variable {H : Type} {enc : TypeId × Value → H} {W : World} {base : Nat} {spare : Nat → Bool} {held : Bool}
theorem cI : Tryz.prog.cellsOf T_int = 1 := by kernel_rfl
theorem dec_int (n : Nat) (cs : List Value) (y : DataW H × List MemPlace) (h : DataW.trod enc Tryz.prog W base spare held n T_int cs = some y) : ∃ a : Int, cs = Enc.cells a ∧ okInt W a := by
  obtain ⟨i, e, h1, h2⟩ := DataW.trod_int U_int h
  exact ⟨i, e, int_range h2⟩
theorem cS : Tryz.prog.cellsOf T_string = 1 := by kernel_rfl
theorem dec_str (n : Nat) (cs : List Value) (y : DataW H × List MemPlace) (h : DataW.trod enc Tryz.prog W base spare held n T_string cs = some y) : ∃ a : ByteArray, cs = Enc.cells a ∧ okStr W a := by
  obtain ⟨i, e, h1, h2⟩ := DataW.trod_string U_string h
  exact ⟨i, e, h2⟩
theorem cB : Tryz.prog.cellsOf T_bool = 1 := by kernel_rfl
theorem dec_bool (n : Nat) (cs : List Value) (y : DataW H × List MemPlace) (h : DataW.trod enc Tryz.prog W base spare held n T_bool cs = some y) : ∃ a : Bool, cs = Enc.cells a ∧ okBool W a := by
  obtain ⟨i, e, h1⟩ := DataW.trod_bool U_bool h
  exact ⟨i, e, trivial⟩
def ok_api_Config (W : World) (p : D_api_Config) : Prop := okInt W p.parts ∧ okInt W p.delay ∧ okInt W p.late ∧ okInt W p.ahead ∧ okInt W p.rate ∧ okInt W p.span
theorem fs_api_Config : Tryz.prog.underlying T_api_Config = some (.struct #[{ name := "Parts", type := T_int, offset := 0, embedded := false, tag := "", pkgPath := "", byteOffset := 0 }, { name := "Delay", type := T_int, offset := 1, embedded := false, tag := "", pkgPath := "", byteOffset := 8 }, { name := "Late", type := T_int, offset := 2, embedded := false, tag := "", pkgPath := "", byteOffset := 16 }, { name := "Ahead", type := T_int, offset := 3, embedded := false, tag := "", pkgPath := "", byteOffset := 24 }, { name := "Rate", type := T_int, offset := 4, embedded := false, tag := "", pkgPath := "", byteOffset := 32 }, { name := "Span", type := T_int, offset := 5, embedded := false, tag := "", pkgPath := "", byteOffset := 40 }]) := by kernel_rfl
theorem c_api_Config : Tryz.prog.cellsOf T_api_Config = 6 := by kernel_rfl
theorem dec_api_Config (n : Nat) (cs : List Value) (y : DataW H × List MemPlace) (h : DataW.trod enc Tryz.prog W base spare held n T_api_Config cs = some y) : ∃ a : D_api_Config, cs = Enc.cells a ∧ ok_api_Config W a := by
  obtain ⟨xs, m, _, _, hl, hlen, hf⟩ := DataW.trod_struct fs_api_Config h
  rw [c_api_Config] at hl
  match cs, hl with
  | [v0, v1, v2, v3, v4, v5], _ =>
    have f0 : DataW.trod enc Tryz.prog W base spare held m T_int (([v0, v1, v2, v3, v4, v5].drop 0).take (Tryz.prog.cellsOf T_int)) = xs[0]? := hf 0 _ rfl
    have c0 : Tryz.prog.cellsOf T_int = 1 := by kernel_rfl
    rw [c0] at f0
    have f1 : DataW.trod enc Tryz.prog W base spare held m T_int (([v0, v1, v2, v3, v4, v5].drop 1).take (Tryz.prog.cellsOf T_int)) = xs[1]? := hf 1 _ rfl
    have c1 : Tryz.prog.cellsOf T_int = 1 := by kernel_rfl
    rw [c1] at f1
    have f2 : DataW.trod enc Tryz.prog W base spare held m T_int (([v0, v1, v2, v3, v4, v5].drop 2).take (Tryz.prog.cellsOf T_int)) = xs[2]? := hf 2 _ rfl
    have c2 : Tryz.prog.cellsOf T_int = 1 := by kernel_rfl
    rw [c2] at f2
    have f3 : DataW.trod enc Tryz.prog W base spare held m T_int (([v0, v1, v2, v3, v4, v5].drop 3).take (Tryz.prog.cellsOf T_int)) = xs[3]? := hf 3 _ rfl
    have c3 : Tryz.prog.cellsOf T_int = 1 := by kernel_rfl
    rw [c3] at f3
    have f4 : DataW.trod enc Tryz.prog W base spare held m T_int (([v0, v1, v2, v3, v4, v5].drop 4).take (Tryz.prog.cellsOf T_int)) = xs[4]? := hf 4 _ rfl
    have c4 : Tryz.prog.cellsOf T_int = 1 := by kernel_rfl
    rw [c4] at f4
    have f5 : DataW.trod enc Tryz.prog W base spare held m T_int (([v0, v1, v2, v3, v4, v5].drop 5).take (Tryz.prog.cellsOf T_int)) = xs[5]? := hf 5 _ rfl
    have c5 : Tryz.prog.cellsOf T_int = 1 := by kernel_rfl
    rw [c5] at f5
    have hx : ∀ i, i < 6 → ∃ z, xs[i]? = some z := fun i hi => ⟨xs[i]'(by rw [hlen]; exact hi), by simp [hlen, hi]⟩
    obtain ⟨z0, h0⟩ := hx 0 (by omega)
    obtain ⟨i0, e0, q0⟩ := dec_int _ _ _ (f0.trans h0)
    simp [Enc.cells] at e0
    subst e0
    obtain ⟨z1, h1⟩ := hx 1 (by omega)
    obtain ⟨i1, e1, q1⟩ := dec_int _ _ _ (f1.trans h1)
    simp [Enc.cells] at e1
    subst e1
    obtain ⟨z2, h2⟩ := hx 2 (by omega)
    obtain ⟨i2, e2, q2⟩ := dec_int _ _ _ (f2.trans h2)
    simp [Enc.cells] at e2
    subst e2
    obtain ⟨z3, h3⟩ := hx 3 (by omega)
    obtain ⟨i3, e3, q3⟩ := dec_int _ _ _ (f3.trans h3)
    simp [Enc.cells] at e3
    subst e3
    obtain ⟨z4, h4⟩ := hx 4 (by omega)
    obtain ⟨i4, e4, q4⟩ := dec_int _ _ _ (f4.trans h4)
    simp [Enc.cells] at e4
    subst e4
    obtain ⟨z5, h5⟩ := hx 5 (by omega)
    obtain ⟨i5, e5, q5⟩ := dec_int _ _ _ (f5.trans h5)
    simp [Enc.cells] at e5
    subst e5
    exact ⟨⟨i0, i1, i2, i3, i4, i5⟩, rfl, q0, q1, q2, q3, q4, q5⟩
def ok_api_Value (W : World) (p : D_api_Value) : Prop := okInt W p.kind ∧ okInt W p.n ∧ okStr W p.s
theorem fs_api_Value : Tryz.prog.underlying T_api_Value = some (.struct #[{ name := "Kind", type := T_int, offset := 0, embedded := false, tag := "", pkgPath := "", byteOffset := 0 }, { name := "N", type := T_int, offset := 1, embedded := false, tag := "", pkgPath := "", byteOffset := 8 }, { name := "S", type := T_string, offset := 2, embedded := false, tag := "", pkgPath := "", byteOffset := 16 }]) := by kernel_rfl
theorem c_api_Value : Tryz.prog.cellsOf T_api_Value = 3 := by kernel_rfl
theorem dec_api_Value (n : Nat) (cs : List Value) (y : DataW H × List MemPlace) (h : DataW.trod enc Tryz.prog W base spare held n T_api_Value cs = some y) : ∃ a : D_api_Value, cs = Enc.cells a ∧ ok_api_Value W a := by
  obtain ⟨xs, m, _, _, hl, hlen, hf⟩ := DataW.trod_struct fs_api_Value h
  rw [c_api_Value] at hl
  match cs, hl with
  | [v0, v1, v2], _ =>
    have f0 : DataW.trod enc Tryz.prog W base spare held m T_int (([v0, v1, v2].drop 0).take (Tryz.prog.cellsOf T_int)) = xs[0]? := hf 0 _ rfl
    have c0 : Tryz.prog.cellsOf T_int = 1 := by kernel_rfl
    rw [c0] at f0
    have f1 : DataW.trod enc Tryz.prog W base spare held m T_int (([v0, v1, v2].drop 1).take (Tryz.prog.cellsOf T_int)) = xs[1]? := hf 1 _ rfl
    have c1 : Tryz.prog.cellsOf T_int = 1 := by kernel_rfl
    rw [c1] at f1
    have f2 : DataW.trod enc Tryz.prog W base spare held m T_string (([v0, v1, v2].drop 2).take (Tryz.prog.cellsOf T_string)) = xs[2]? := hf 2 _ rfl
    have c2 : Tryz.prog.cellsOf T_string = 1 := by kernel_rfl
    rw [c2] at f2
    have hx : ∀ i, i < 3 → ∃ z, xs[i]? = some z := fun i hi => ⟨xs[i]'(by rw [hlen]; exact hi), by simp [hlen, hi]⟩
    obtain ⟨z0, h0⟩ := hx 0 (by omega)
    obtain ⟨i0, e0, q0⟩ := dec_int _ _ _ (f0.trans h0)
    simp [Enc.cells] at e0
    subst e0
    obtain ⟨z1, h1⟩ := hx 1 (by omega)
    obtain ⟨i1, e1, q1⟩ := dec_int _ _ _ (f1.trans h1)
    simp [Enc.cells] at e1
    subst e1
    obtain ⟨z2, h2⟩ := hx 2 (by omega)
    obtain ⟨i2, e2, q2⟩ := dec_str _ _ _ (f2.trans h2)
    simp [Enc.cells] at e2
    subst e2
    exact ⟨⟨i0, i1, i2⟩, rfl, q0, q1, q2⟩
def ok_api_Entry (W : World) (p : D_api_Entry) : Prop := okInt W p.kind ∧ okInt W p.producer ∧ okInt W p.epoch ∧ okInt W p.seq ∧ okStr W p.source ∧ okInt W p.schema ∧ okInt W p.time ∧ (∃ l : List D_api_Value, rowR p.row.1 l (lawB W) ∧ l.length ≤ maxLen ∧ ∀ x ∈ l, ok_api_Value W x)
theorem fs_api_Entry : Tryz.prog.underlying T_api_Entry = some (.struct #[{ name := "Kind", type := T_int, offset := 0, embedded := false, tag := "", pkgPath := "", byteOffset := 0 }, { name := "Producer", type := T_int, offset := 1, embedded := false, tag := "", pkgPath := "", byteOffset := 8 }, { name := "Epoch", type := T_int, offset := 2, embedded := false, tag := "", pkgPath := "", byteOffset := 16 }, { name := "Seq", type := T_int, offset := 3, embedded := false, tag := "", pkgPath := "", byteOffset := 24 }, { name := "Source", type := T_string, offset := 4, embedded := false, tag := "", pkgPath := "", byteOffset := 32 }, { name := "Schema", type := T_int, offset := 5, embedded := false, tag := "", pkgPath := "", byteOffset := 48 }, { name := "Time", type := T_int, offset := 6, embedded := false, tag := "", pkgPath := "", byteOffset := 56 }, { name := "Row", type := T_s_api_Value, offset := 7, embedded := false, tag := "", pkgPath := "", byteOffset := 64 }]) := by kernel_rfl
theorem c_api_Entry : Tryz.prog.cellsOf T_api_Entry = 8 := by kernel_rfl
theorem dec_api_Entry (n : Nat) (cs : List Value) (y : DataW H × List MemPlace) (h : DataW.trod enc Tryz.prog W base spare held n T_api_Entry cs = some y) : ∃ a : D_api_Entry, cs = Enc.cells a ∧ ok_api_Entry W a := by
  obtain ⟨xs, m, _, _, hl, hlen, hf⟩ := DataW.trod_struct fs_api_Entry h
  rw [c_api_Entry] at hl
  match cs, hl with
  | [v0, v1, v2, v3, v4, v5, v6, v7], _ =>
    have f0 : DataW.trod enc Tryz.prog W base spare held m T_int (([v0, v1, v2, v3, v4, v5, v6, v7].drop 0).take (Tryz.prog.cellsOf T_int)) = xs[0]? := hf 0 _ rfl
    have c0 : Tryz.prog.cellsOf T_int = 1 := by kernel_rfl
    rw [c0] at f0
    have f1 : DataW.trod enc Tryz.prog W base spare held m T_int (([v0, v1, v2, v3, v4, v5, v6, v7].drop 1).take (Tryz.prog.cellsOf T_int)) = xs[1]? := hf 1 _ rfl
    have c1 : Tryz.prog.cellsOf T_int = 1 := by kernel_rfl
    rw [c1] at f1
    have f2 : DataW.trod enc Tryz.prog W base spare held m T_int (([v0, v1, v2, v3, v4, v5, v6, v7].drop 2).take (Tryz.prog.cellsOf T_int)) = xs[2]? := hf 2 _ rfl
    have c2 : Tryz.prog.cellsOf T_int = 1 := by kernel_rfl
    rw [c2] at f2
    have f3 : DataW.trod enc Tryz.prog W base spare held m T_int (([v0, v1, v2, v3, v4, v5, v6, v7].drop 3).take (Tryz.prog.cellsOf T_int)) = xs[3]? := hf 3 _ rfl
    have c3 : Tryz.prog.cellsOf T_int = 1 := by kernel_rfl
    rw [c3] at f3
    have f4 : DataW.trod enc Tryz.prog W base spare held m T_string (([v0, v1, v2, v3, v4, v5, v6, v7].drop 4).take (Tryz.prog.cellsOf T_string)) = xs[4]? := hf 4 _ rfl
    have c4 : Tryz.prog.cellsOf T_string = 1 := by kernel_rfl
    rw [c4] at f4
    have f5 : DataW.trod enc Tryz.prog W base spare held m T_int (([v0, v1, v2, v3, v4, v5, v6, v7].drop 5).take (Tryz.prog.cellsOf T_int)) = xs[5]? := hf 5 _ rfl
    have c5 : Tryz.prog.cellsOf T_int = 1 := by kernel_rfl
    rw [c5] at f5
    have f6 : DataW.trod enc Tryz.prog W base spare held m T_int (([v0, v1, v2, v3, v4, v5, v6, v7].drop 6).take (Tryz.prog.cellsOf T_int)) = xs[6]? := hf 6 _ rfl
    have c6 : Tryz.prog.cellsOf T_int = 1 := by kernel_rfl
    rw [c6] at f6
    have f7 : DataW.trod enc Tryz.prog W base spare held m T_s_api_Value (([v0, v1, v2, v3, v4, v5, v6, v7].drop 7).take (Tryz.prog.cellsOf T_s_api_Value)) = xs[7]? := hf 7 _ rfl
    have c7 : Tryz.prog.cellsOf T_s_api_Value = 1 := by kernel_rfl
    rw [c7] at f7
    have hx : ∀ i, i < 8 → ∃ z, xs[i]? = some z := fun i hi => ⟨xs[i]'(by rw [hlen]; exact hi), by simp [hlen, hi]⟩
    obtain ⟨z0, h0⟩ := hx 0 (by omega)
    obtain ⟨i0, e0, q0⟩ := dec_int _ _ _ (f0.trans h0)
    simp [Enc.cells] at e0
    subst e0
    obtain ⟨z1, h1⟩ := hx 1 (by omega)
    obtain ⟨i1, e1, q1⟩ := dec_int _ _ _ (f1.trans h1)
    simp [Enc.cells] at e1
    subst e1
    obtain ⟨z2, h2⟩ := hx 2 (by omega)
    obtain ⟨i2, e2, q2⟩ := dec_int _ _ _ (f2.trans h2)
    simp [Enc.cells] at e2
    subst e2
    obtain ⟨z3, h3⟩ := hx 3 (by omega)
    obtain ⟨i3, e3, q3⟩ := dec_int _ _ _ (f3.trans h3)
    simp [Enc.cells] at e3
    subst e3
    obtain ⟨z4, h4⟩ := hx 4 (by omega)
    obtain ⟨i4, e4, q4⟩ := dec_str _ _ _ (f4.trans h4)
    simp [Enc.cells] at e4
    subst e4
    obtain ⟨z5, h5⟩ := hx 5 (by omega)
    obtain ⟨i5, e5, q5⟩ := dec_int _ _ _ (f5.trans h5)
    simp [Enc.cells] at e5
    subst e5
    obtain ⟨z6, h6⟩ := hx 6 (by omega)
    obtain ⟨i6, e6, q6⟩ := dec_int _ _ _ (f6.trans h6)
    simp [Enc.cells] at e6
    subst e6
    obtain ⟨z7, h7⟩ := hx 7 (by omega)
    obtain ⟨l7, r7, m7, q7⟩ := open_rowP (α := D_api_Value) (Q := ok_api_Value W) (by kernel_rfl : Tryz.prog.underlying T_s_api_Value = some (.slice T_api_Value)) (by kernel_rfl) (fun n cs y => dec_api_Value n cs y) (f7.trans h7)
    have o7 : v7.oneCell' = true := rowR.oneCell (lawB.row r7)
    exact ⟨⟨i0, i1, i2, i3, i4, i5, i6, ⟨v7, o7⟩⟩, rfl, q0, q1, q2, q3, q4, q5, q6, ⟨l7, lawB.row r7, m7, q7⟩⟩
end
end Go.Proofs.YtefinemhfgdpdaaGreatDoor
