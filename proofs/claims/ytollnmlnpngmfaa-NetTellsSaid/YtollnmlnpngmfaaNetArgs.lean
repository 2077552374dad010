/-
  What the laws of this seat share: how their arguments are opened. No condition.
-/
import Derived.Test.YtollnmlnpngmfaaRows
import Derived.Test.YtollnmlnpngmfaaWrap
import Derived.Test.YtollnmlnpngmfaaNetD
namespace Go.Proofs.Ytollnmlnpngmfaa
open Go.ChangeShapes Go.WideShapes Go.ChangeAt Go.RowKit

theorem own_ : ownKnob Try.prog.godebug = none := by kernel_rfl
theorem laidOut_ : laidOutB Try.prog = true := by kernel_rfl

section
variable {H : Type} {enc : TypeId × Value → H} {W : World} {base : Nat} {spare : Nat → Bool} {held : Bool}
theorem opFields : Try.prog.underlying T_erratalaw07_Op = some (.struct #[{ name := "Do", type := T_int, offset := 0, embedded := false, tag := "", pkgPath := "", byteOffset := 0 }, { name := "N", type := T_int, offset := 1, embedded := false, tag := "", pkgPath := "", byteOffset := 8 }, { name := "To", type := T_int, offset := 2, embedded := false, tag := "", pkgPath := "", byteOffset := 16 }, { name := "S", type := T_string, offset := 3, embedded := false, tag := "", pkgPath := "", byteOffset := 24 }]) := by kernel_rfl
theorem cI : Try.prog.cellsOf T_int = 1 := by kernel_rfl
theorem cS : Try.prog.cellsOf T_string = 1 := by kernel_rfl
theorem cO : Try.prog.cellsOf T_erratalaw07_Op = 4 := by kernel_rfl

theorem dec_op (n : Nat) (cs : List Value) (y : DataW H × List MemPlace) (h : DataW.trod enc Try.prog W base spare held n T_erratalaw07_Op cs = some y) : ∃ a : OpD, cs = Enc.cells a := by
  obtain ⟨xs, m, _, _, hl, hlen, hf⟩ := DataW.trod_struct opFields h
  rw [cO] at hl
  match cs, hl with
  | [a, b, c, d], _ =>
    have f0 : DataW.trod enc Try.prog W base spare held m T_int (([a, b, c, d].drop 0).take (Try.prog.cellsOf T_int)) = xs[0]? := hf 0 _ rfl
    have f1 : DataW.trod enc Try.prog W base spare held m T_int (([a, b, c, d].drop 1).take (Try.prog.cellsOf T_int)) = xs[1]? := hf 1 _ rfl
    have f2 : DataW.trod enc Try.prog W base spare held m T_int (([a, b, c, d].drop 2).take (Try.prog.cellsOf T_int)) = xs[2]? := hf 2 _ rfl
    have f3 : DataW.trod enc Try.prog W base spare held m T_string (([a, b, c, d].drop 3).take (Try.prog.cellsOf T_string)) = xs[3]? := hf 3 _ rfl
    rw [cI] at f0 f1 f2
    rw [cS] at f3
    have hx : ∀ i, i < 4 → ∃ z, xs[i]? = some z := fun i hi => ⟨xs[i]'(by rw [hlen]; exact hi), by simp [hlen, hi]⟩
    obtain ⟨z0, h0⟩ := hx 0 (by omega)
    obtain ⟨z1, h1⟩ := hx 1 (by omega)
    obtain ⟨z2, h2⟩ := hx 2 (by omega)
    obtain ⟨z3, h3⟩ := hx 3 (by omega)
    obtain ⟨i0, e0, _⟩ := DataW.trod_int UInt' (f0.trans h0)
    obtain ⟨i1, e1, _⟩ := DataW.trod_int UInt' (f1.trans h1)
    obtain ⟨i2, e2, _⟩ := DataW.trod_int UInt' (f2.trans h2)
    obtain ⟨s3, e3, _⟩ := DataW.trod_string UStr (f3.trans h3)
    simp at e0 e1 e2 e3
    subst e0 e1 e2 e3
    exact ⟨⟨i0, i1, i2, s3⟩, rfl⟩

theorem dec_int (n : Nat) (cs : List Value) (y : DataW H × List MemPlace) (h : DataW.trod enc Try.prog W base spare held n T_int cs = some y) : ∃ a : Int, cs = Enc.cells a := by
  obtain ⟨i, e, _⟩ := DataW.trod_int UInt' h
  exact ⟨i, e⟩
end
theorem UOps : Try.prog.underlying T_s_erratalaw07_Op = some (.slice T_erratalaw07_Op) := by kernel_rfl
theorem UInts : Try.prog.underlying T_s_int = some (.slice T_int) := by kernel_rfl

end Go.Proofs.Ytollnmlnpngmfaa
