/-
  What the laws of this seat share: how their arguments are opened. Printed by program. No condition.
-/
import Derived.Test.YtkcjcbmbddfjnaaDoorRows
import Derived.Test.YtkcjcbmbddfjnaaDoorWrap
import Derived.Test.YtkcjcbmbddfjnaaDoorTypes
namespace Go.Proofs.YtkcjcbmbddfjnaaDoor
open Go.ChangeShapes Go.WideShapes Go.ChangeAt Go.RowKit
set_option maxRecDepth 100000

theorem own_ : ownKnob Tryd.prog.godebug = none := by kernel_rfl
theorem laidOut_ : laidOutB Tryd.prog = true := by kernel_rfl
theorem int_range {n : Int} (h : (Lit.int .i64 n).wf = true) : -9223372036854775808 ≤ n ∧ n ≤ 9223372036854775807 := by
  have h1 : IntKind.i64.min ≤ n ∧ n ≤ 9223372036854775807 := by simpa [Lit.wf] using h
  have h2 : IntKind.i64.min = -9223372036854775808 := by decide +kernel
  omega

section
variable {H : Type} {enc : TypeId × Value → H} {W : World} {base : Nat} {spare : Nat → Bool} {held : Bool}
theorem cI : Tryd.prog.cellsOf T_int = 1 := by kernel_rfl
theorem dec_int (n : Nat) (cs : List Value) (y : DataW H × List MemPlace) (h : DataW.trod enc Tryd.prog W base spare held n T_int cs = some y) : ∃ a : Int, cs = Enc.cells a ∧ okInt W a := by
  obtain ⟨i, e, h1, h2⟩ := DataW.trod_int U_int h
  exact ⟨i, e, int_range h2⟩
theorem cS : Tryd.prog.cellsOf T_string = 1 := by kernel_rfl
theorem dec_str (n : Nat) (cs : List Value) (y : DataW H × List MemPlace) (h : DataW.trod enc Tryd.prog W base spare held n T_string cs = some y) : ∃ a : ByteArray, cs = Enc.cells a ∧ okStr W a := by
  obtain ⟨i, e, h1, h2⟩ := DataW.trod_string U_string h
  exact ⟨i, e, h2⟩
theorem cB : Tryd.prog.cellsOf T_bool = 1 := by kernel_rfl
theorem dec_bool (n : Nat) (cs : List Value) (y : DataW H × List MemPlace) (h : DataW.trod enc Tryd.prog W base spare held n T_bool cs = some y) : ∃ a : Bool, cs = Enc.cells a ∧ okBool W a := by
  obtain ⟨i, e, h1⟩ := DataW.trod_bool U_bool h
  exact ⟨i, e, trivial⟩
def ok_erratalaw01_Value (W : World) (p : D_erratalaw01_Value) : Prop := okInt W p.kind ∧ okInt W p.n ∧ okStr W p.s ∧ (∃ l : List Int, rowR p.l.1 l (lawB W) ∧ l.length ≤ maxLen ∧ ∀ x ∈ l, okInt W x) ∧ (∃ l : List ByteArray, rowR p.t.1 l (lawB W) ∧ l.length ≤ maxLen ∧ ∀ x ∈ l, okStr W x)
theorem fs_erratalaw01_Value : Tryd.prog.underlying T_erratalaw01_Value = some (.struct #[{ name := "Kind", type := T_int, offset := 0, embedded := false, tag := "", pkgPath := "", byteOffset := 0 }, { name := "N", type := T_int, offset := 1, embedded := false, tag := "", pkgPath := "", byteOffset := 8 }, { name := "S", type := T_string, offset := 2, embedded := false, tag := "", pkgPath := "", byteOffset := 16 }, { name := "L", type := T_s_int, offset := 3, embedded := false, tag := "", pkgPath := "", byteOffset := 32 }, { name := "T", type := T_s_string, offset := 4, embedded := false, tag := "", pkgPath := "", byteOffset := 56 }]) := by kernel_rfl
theorem c_erratalaw01_Value : Tryd.prog.cellsOf T_erratalaw01_Value = 5 := by kernel_rfl
theorem dec_erratalaw01_Value (n : Nat) (cs : List Value) (y : DataW H × List MemPlace) (h : DataW.trod enc Tryd.prog W base spare held n T_erratalaw01_Value cs = some y) : ∃ a : D_erratalaw01_Value, cs = Enc.cells a ∧ ok_erratalaw01_Value W a := by
  obtain ⟨xs, m, _, _, hl, hlen, hf⟩ := DataW.trod_struct fs_erratalaw01_Value h
  rw [c_erratalaw01_Value] at hl
  match cs, hl with
  | [v0, v1, v2, v3, v4], _ =>
    have f0 : DataW.trod enc Tryd.prog W base spare held m T_int (([v0, v1, v2, v3, v4].drop 0).take (Tryd.prog.cellsOf T_int)) = xs[0]? := hf 0 _ rfl
    have c0 : Tryd.prog.cellsOf T_int = 1 := by kernel_rfl
    rw [c0] at f0
    have f1 : DataW.trod enc Tryd.prog W base spare held m T_int (([v0, v1, v2, v3, v4].drop 1).take (Tryd.prog.cellsOf T_int)) = xs[1]? := hf 1 _ rfl
    have c1 : Tryd.prog.cellsOf T_int = 1 := by kernel_rfl
    rw [c1] at f1
    have f2 : DataW.trod enc Tryd.prog W base spare held m T_string (([v0, v1, v2, v3, v4].drop 2).take (Tryd.prog.cellsOf T_string)) = xs[2]? := hf 2 _ rfl
    have c2 : Tryd.prog.cellsOf T_string = 1 := by kernel_rfl
    rw [c2] at f2
    have f3 : DataW.trod enc Tryd.prog W base spare held m T_s_int (([v0, v1, v2, v3, v4].drop 3).take (Tryd.prog.cellsOf T_s_int)) = xs[3]? := hf 3 _ rfl
    have c3 : Tryd.prog.cellsOf T_s_int = 1 := by kernel_rfl
    rw [c3] at f3
    have f4 : DataW.trod enc Tryd.prog W base spare held m T_s_string (([v0, v1, v2, v3, v4].drop 4).take (Tryd.prog.cellsOf T_s_string)) = xs[4]? := hf 4 _ rfl
    have c4 : Tryd.prog.cellsOf T_s_string = 1 := by kernel_rfl
    rw [c4] at f4
    have hx : ∀ i, i < 5 → ∃ z, xs[i]? = some z := fun i hi => ⟨xs[i]'(by rw [hlen]; exact hi), by simp [hlen, hi]⟩
    obtain ⟨z0, h0⟩ := hx 0 (by omega)
    obtain ⟨i0, e0, q0⟩ := dec_int _ _ _ (f0.trans h0)
    simp [Enc.cells] at e0
    subst e0
    obtain ⟨z1, h1⟩ := hx 1 (by omega)
    obtain ⟨i1, e1, q1⟩ := dec_int _ _ _ (f1.trans h1)
    simp [Enc.cells] at e1
    subst e1
    obtain ⟨z2, h2⟩ := hx 2 (by omega)
    obtain ⟨i2, e2, q2⟩ := dec_str _ _ _ (f2.trans h2)
    simp [Enc.cells] at e2
    subst e2
    obtain ⟨z3, h3⟩ := hx 3 (by omega)
    obtain ⟨l3, r3, m3, q3⟩ := open_rowP (α := Int) (Q := okInt W) (by kernel_rfl : Tryd.prog.underlying T_s_int = some (.slice T_int)) (by kernel_rfl) (fun n cs y => dec_int n cs y) (f3.trans h3)
    have o3 : v3.oneCell' = true := rowR.oneCell (lawB.row r3)
    obtain ⟨z4, h4⟩ := hx 4 (by omega)
    obtain ⟨l4, r4, m4, q4⟩ := open_rowP (α := ByteArray) (Q := okStr W) (by kernel_rfl : Tryd.prog.underlying T_s_string = some (.slice T_string)) (by kernel_rfl) (fun n cs y => dec_str n cs y) (f4.trans h4)
    have o4 : v4.oneCell' = true := rowR.oneCell (lawB.row r4)
    exact ⟨⟨i0, i1, i2, ⟨v3, o3⟩, ⟨v4, o4⟩⟩, rfl, q0, q1, q2, ⟨l3, lawB.row r3, m3, q3⟩, ⟨l4, lawB.row r4, m4, q4⟩⟩
end
end Go.Proofs.YtkcjcbmbddfjnaaDoor
