/-
  What the laws of this seat share: how their arguments are opened. Printed by program. No condition.
-/
import Derived.Test.YtncgdihcplhcoaaRows
import Derived.Test.YtncgdihcplhcoaaWrap
import Derived.Test.YtncgdihcplhcoaaTypes
namespace Go.Proofs.Ytncgdihcplhcoaa
open Go.ChangeShapes Go.WideShapes Go.ChangeAt Go.RowKit

theorem own_ : ownKnob Try.prog.godebug = none := by kernel_rfl
theorem laidOut_ : laidOutB Try.prog = true := by kernel_rfl
theorem int_range {n : Int} (h : (Lit.int .i64 n).wf = true) : -9223372036854775808 ≤ n ∧ n ≤ 9223372036854775807 := by
  have h1 : IntKind.i64.min ≤ n ∧ n ≤ 9223372036854775807 := by simpa [Lit.wf] using h
  have h2 : IntKind.i64.min = -9223372036854775808 := by decide +kernel
  omega

section
variable {H : Type} {enc : TypeId × Value → H} {W : World} {base : Nat} {spare : Nat → Bool} {held : Bool}
theorem cI : Try.prog.cellsOf T_int = 1 := by kernel_rfl
theorem dec_int (n : Nat) (cs : List Value) (y : DataW H × List MemPlace) (h : DataW.trod enc Try.prog W base spare held n T_int cs = some y) : ∃ a : Int, cs = Enc.cells a := by
  obtain ⟨i, e, _⟩ := DataW.trod_int U_int h
  exact ⟨i, e⟩
theorem cS : Try.prog.cellsOf T_string = 1 := by kernel_rfl
theorem dec_str (n : Nat) (cs : List Value) (y : DataW H × List MemPlace) (h : DataW.trod enc Try.prog W base spare held n T_string cs = some y) : ∃ a : ByteArray, cs = Enc.cells a := by
  obtain ⟨i, e, _⟩ := DataW.trod_string U_string h
  exact ⟨i, e⟩
theorem cB : Try.prog.cellsOf T_bool = 1 := by kernel_rfl
theorem dec_bool (n : Nat) (cs : List Value) (y : DataW H × List MemPlace) (h : DataW.trod enc Try.prog W base spare held n T_bool cs = some y) : ∃ a : Bool, cs = Enc.cells a := by
  obtain ⟨i, e, _⟩ := DataW.trod_bool U_bool h
  exact ⟨i, e⟩
theorem fs_erratalaw35_Op : Try.prog.underlying T_erratalaw35_Op = some (.struct #[{ name := "Do", type := T_int, offset := 0, embedded := false, tag := "", pkgPath := "", byteOffset := 0 }, { name := "I", type := T_int, offset := 1, embedded := false, tag := "", pkgPath := "", byteOffset := 8 }, { name := "Mark", type := T_int, offset := 2, embedded := false, tag := "", pkgPath := "", byteOffset := 16 }]) := by kernel_rfl
theorem c_erratalaw35_Op : Try.prog.cellsOf T_erratalaw35_Op = 3 := by kernel_rfl
theorem dec_erratalaw35_Op (n : Nat) (cs : List Value) (y : DataW H × List MemPlace) (h : DataW.trod enc Try.prog W base spare held n T_erratalaw35_Op cs = some y) : ∃ a : D_erratalaw35_Op, cs = Enc.cells a := by
  obtain ⟨xs, m, _, _, hl, hlen, hf⟩ := DataW.trod_struct fs_erratalaw35_Op h
  rw [c_erratalaw35_Op] at hl
  match cs, hl with
  | [v0, v1, v2], _ =>
    have c0 : Try.prog.cellsOf T_int = 1 := by kernel_rfl
    have f0 : DataW.trod enc Try.prog W base spare held m T_int (([v0, v1, v2].drop 0).take (Try.prog.cellsOf T_int)) = xs[0]? := hf 0 _ rfl
    rw [c0] at f0
    have c1 : Try.prog.cellsOf T_int = 1 := by kernel_rfl
    have f1 : DataW.trod enc Try.prog W base spare held m T_int (([v0, v1, v2].drop 1).take (Try.prog.cellsOf T_int)) = xs[1]? := hf 1 _ rfl
    rw [c1] at f1
    have c2 : Try.prog.cellsOf T_int = 1 := by kernel_rfl
    have f2 : DataW.trod enc Try.prog W base spare held m T_int (([v0, v1, v2].drop 2).take (Try.prog.cellsOf T_int)) = xs[2]? := hf 2 _ rfl
    rw [c2] at f2
    have hx : ∀ i, i < 3 → ∃ z, xs[i]? = some z := fun i hi => ⟨xs[i]'(by rw [hlen]; exact hi), by simp [hlen, hi]⟩
    obtain ⟨z0, h0⟩ := hx 0 (by omega)
    have u0 : Try.prog.underlying T_int = some (.int .i64) := by kernel_rfl
    obtain ⟨i0, e0, _⟩ := DataW.trod_int u0 (f0.trans h0)
    simp at e0
    subst e0
    obtain ⟨z1, h1⟩ := hx 1 (by omega)
    have u1 : Try.prog.underlying T_int = some (.int .i64) := by kernel_rfl
    obtain ⟨i1, e1, _⟩ := DataW.trod_int u1 (f1.trans h1)
    simp at e1
    subst e1
    obtain ⟨z2, h2⟩ := hx 2 (by omega)
    have u2 : Try.prog.underlying T_int = some (.int .i64) := by kernel_rfl
    obtain ⟨i2, e2, _⟩ := DataW.trod_int u2 (f2.trans h2)
    simp at e2
    subst e2
    exact ⟨⟨i0, i1, i2⟩, rfl⟩
end
end Go.Proofs.Ytncgdihcplhcoaa
