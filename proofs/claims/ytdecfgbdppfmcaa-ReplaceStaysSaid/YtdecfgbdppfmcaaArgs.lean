/-
  What the laws of this seat share: how their arguments are opened. Printed by program. No condition.
-/
import Derived.Test.YtdecfgbdppfmcaaRows
import Derived.Test.YtdecfgbdppfmcaaWrap
import Derived.Test.YtdecfgbdppfmcaaTypes
namespace Go.Proofs.Ytdecfgbdppfmcaa
open Go.ChangeShapes Go.WideShapes Go.ChangeAt Go.RowKit

theorem own_ : ownKnob Try.prog.godebug = none := by kernel_rfl
theorem laidOut_ : laidOutB Try.prog = true := by kernel_rfl
theorem int_range {n : Int} (h : (Lit.int .i64 n).wf = true) : -9223372036854775808 ≤ n ∧ n ≤ 9223372036854775807 := by
  have h1 : IntKind.i64.min ≤ n ∧ n ≤ 9223372036854775807 := by simpa [Lit.wf] using h
  have h2 : IntKind.i64.min = -9223372036854775808 := by decide +kernel
  omega

section
variable {H : Type} {enc : TypeId × Value → H} {W : World} {base : Nat} {spare : Nat → Bool} {held : Bool}
theorem cI : Try.prog.cellsOf T_int = 1 := by kernel_rfl
theorem dec_int (n : Nat) (cs : List Value) (y : DataW H × List MemPlace) (h : DataW.trod enc Try.prog W base spare held n T_int cs = some y) : ∃ a : Int, cs = Enc.cells a ∧ okInt W a := by
  obtain ⟨i, e, h1, h2⟩ := DataW.trod_int U_int h
  exact ⟨i, e, int_range h2⟩
theorem cS : Try.prog.cellsOf T_string = 1 := by kernel_rfl
theorem dec_str (n : Nat) (cs : List Value) (y : DataW H × List MemPlace) (h : DataW.trod enc Try.prog W base spare held n T_string cs = some y) : ∃ a : ByteArray, cs = Enc.cells a ∧ okStr W a := by
  obtain ⟨i, e, h1, h2⟩ := DataW.trod_string U_string h
  exact ⟨i, e, h2⟩
theorem cB : Try.prog.cellsOf T_bool = 1 := by kernel_rfl
theorem dec_bool (n : Nat) (cs : List Value) (y : DataW H × List MemPlace) (h : DataW.trod enc Try.prog W base spare held n T_bool cs = some y) : ∃ a : Bool, cs = Enc.cells a ∧ okBool W a := by
  obtain ⟨i, e, h1⟩ := DataW.trod_bool U_bool h
  exact ⟨i, e, trivial⟩
def ok_erratalaw47_Op (W : World) (p : D_erratalaw47_Op) : Prop := okInt W p.do_ ∧ okInt W p.no ∧ okInt W p.from_ ∧ okInt W p.version ∧ okInt W p.back ∧ okInt W p.horizon ∧ okBool W p.raise
theorem fs_erratalaw47_Op : Try.prog.underlying T_erratalaw47_Op = some (.struct #[{ name := "Do", type := T_int, offset := 0, embedded := false, tag := "", pkgPath := "", byteOffset := 0 }, { name := "No", type := T_int, offset := 1, embedded := false, tag := "", pkgPath := "", byteOffset := 8 }, { name := "From", type := T_int, offset := 2, embedded := false, tag := "", pkgPath := "", byteOffset := 16 }, { name := "Version", type := T_int, offset := 3, embedded := false, tag := "", pkgPath := "", byteOffset := 24 }, { name := "Back", type := T_int, offset := 4, embedded := false, tag := "", pkgPath := "", byteOffset := 32 }, { name := "Horizon", type := T_int, offset := 5, embedded := false, tag := "", pkgPath := "", byteOffset := 40 }, { name := "Raise", type := T_bool, offset := 6, embedded := false, tag := "", pkgPath := "", byteOffset := 48 }]) := by kernel_rfl
theorem c_erratalaw47_Op : Try.prog.cellsOf T_erratalaw47_Op = 7 := by kernel_rfl
theorem dec_erratalaw47_Op (n : Nat) (cs : List Value) (y : DataW H × List MemPlace) (h : DataW.trod enc Try.prog W base spare held n T_erratalaw47_Op cs = some y) : ∃ a : D_erratalaw47_Op, cs = Enc.cells a ∧ ok_erratalaw47_Op W a := by
  obtain ⟨xs, m, _, _, hl, hlen, hf⟩ := DataW.trod_struct fs_erratalaw47_Op h
  rw [c_erratalaw47_Op] at hl
  match cs, hl with
  | [v0, v1, v2, v3, v4, v5, v6], _ =>
    have f0 : DataW.trod enc Try.prog W base spare held m T_int (([v0, v1, v2, v3, v4, v5, v6].drop 0).take (Try.prog.cellsOf T_int)) = xs[0]? := hf 0 _ rfl
    have c0 : Try.prog.cellsOf T_int = 1 := by kernel_rfl
    rw [c0] at f0
    have f1 : DataW.trod enc Try.prog W base spare held m T_int (([v0, v1, v2, v3, v4, v5, v6].drop 1).take (Try.prog.cellsOf T_int)) = xs[1]? := hf 1 _ rfl
    have c1 : Try.prog.cellsOf T_int = 1 := by kernel_rfl
    rw [c1] at f1
    have f2 : DataW.trod enc Try.prog W base spare held m T_int (([v0, v1, v2, v3, v4, v5, v6].drop 2).take (Try.prog.cellsOf T_int)) = xs[2]? := hf 2 _ rfl
    have c2 : Try.prog.cellsOf T_int = 1 := by kernel_rfl
    rw [c2] at f2
    have f3 : DataW.trod enc Try.prog W base spare held m T_int (([v0, v1, v2, v3, v4, v5, v6].drop 3).take (Try.prog.cellsOf T_int)) = xs[3]? := hf 3 _ rfl
    have c3 : Try.prog.cellsOf T_int = 1 := by kernel_rfl
    rw [c3] at f3
    have f4 : DataW.trod enc Try.prog W base spare held m T_int (([v0, v1, v2, v3, v4, v5, v6].drop 4).take (Try.prog.cellsOf T_int)) = xs[4]? := hf 4 _ rfl
    have c4 : Try.prog.cellsOf T_int = 1 := by kernel_rfl
    rw [c4] at f4
    have f5 : DataW.trod enc Try.prog W base spare held m T_int (([v0, v1, v2, v3, v4, v5, v6].drop 5).take (Try.prog.cellsOf T_int)) = xs[5]? := hf 5 _ rfl
    have c5 : Try.prog.cellsOf T_int = 1 := by kernel_rfl
    rw [c5] at f5
    have f6 : DataW.trod enc Try.prog W base spare held m T_bool (([v0, v1, v2, v3, v4, v5, v6].drop 6).take (Try.prog.cellsOf T_bool)) = xs[6]? := hf 6 _ rfl
    have c6 : Try.prog.cellsOf T_bool = 1 := by kernel_rfl
    rw [c6] at f6
    have hx : ∀ i, i < 7 → ∃ z, xs[i]? = some z := fun i hi => ⟨xs[i]'(by rw [hlen]; exact hi), by simp [hlen, hi]⟩
    obtain ⟨z0, h0⟩ := hx 0 (by omega)
    obtain ⟨i0, e0, q0⟩ := dec_int _ _ _ (f0.trans h0)
    simp [Enc.cells] at e0
    subst e0
    obtain ⟨z1, h1⟩ := hx 1 (by omega)
    obtain ⟨i1, e1, q1⟩ := dec_int _ _ _ (f1.trans h1)
    simp [Enc.cells] at e1
    subst e1
    obtain ⟨z2, h2⟩ := hx 2 (by omega)
    obtain ⟨i2, e2, q2⟩ := dec_int _ _ _ (f2.trans h2)
    simp [Enc.cells] at e2
    subst e2
    obtain ⟨z3, h3⟩ := hx 3 (by omega)
    obtain ⟨i3, e3, q3⟩ := dec_int _ _ _ (f3.trans h3)
    simp [Enc.cells] at e3
    subst e3
    obtain ⟨z4, h4⟩ := hx 4 (by omega)
    obtain ⟨i4, e4, q4⟩ := dec_int _ _ _ (f4.trans h4)
    simp [Enc.cells] at e4
    subst e4
    obtain ⟨z5, h5⟩ := hx 5 (by omega)
    obtain ⟨i5, e5, q5⟩ := dec_int _ _ _ (f5.trans h5)
    simp [Enc.cells] at e5
    subst e5
    obtain ⟨z6, h6⟩ := hx 6 (by omega)
    obtain ⟨i6, e6, q6⟩ := dec_bool _ _ _ (f6.trans h6)
    simp [Enc.cells] at e6
    subst e6
    exact ⟨⟨i0, i1, i2, i3, i4, i5, i6⟩, rfl, q0, q1, q2, q3, q4, q5, q6⟩
end
end Go.Proofs.Ytdecfgbdppfmcaa
