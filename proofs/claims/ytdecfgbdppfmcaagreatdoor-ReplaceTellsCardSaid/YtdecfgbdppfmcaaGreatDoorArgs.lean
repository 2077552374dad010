/-
  What the laws of this seat share: how their arguments are opened. Printed by program. No condition.
-/
import Derived.Test.YtdecfgbdppfmcaaGreatDoorRows
import Derived.Test.YtdecfgbdppfmcaaGreatDoorWrap
import Derived.Test.YtdecfgbdppfmcaaGreatDoorTypes
namespace Go.Proofs.YtdecfgbdppfmcaaGreatDoor
open Go.ChangeShapes Go.WideShapes Go.ChangeAt Go.RowKit
set_option maxRecDepth 100000

theorem own_ : ownKnob Tryz.prog.godebug = none := by kernel_rfl
theorem laidOut_ : laidOutB Tryz.prog = true := by kernel_rfl
theorem int_range {n : Int} (h : (Lit.int .i64 n).wf = true) : -9223372036854775808 ≤ n ∧ n ≤ 9223372036854775807 := by
  have h1 : IntKind.i64.min ≤ n ∧ n ≤ 9223372036854775807 := by simpa [Lit.wf] using h
  have h2 : IntKind.i64.min = -9223372036854775808 := by decide +kernel
  omega

section
variable {H : Type} {enc : TypeId × Value → H} {W : World} {base : Nat} {spare : Nat → Bool} {held : Bool}
theorem cI : Tryz.prog.cellsOf T_int = 1 := by kernel_rfl
theorem dec_int (n : Nat) (cs : List Value) (y : DataW H × List MemPlace) (h : DataW.trod enc Tryz.prog W base spare held n T_int cs = some y) : ∃ a : Int, cs = Enc.cells a ∧ okInt W a := by
  obtain ⟨i, e, h1, h2⟩ := DataW.trod_int U_int h
  exact ⟨i, e, int_range h2⟩
theorem cS : Tryz.prog.cellsOf T_string = 1 := by kernel_rfl
theorem dec_str (n : Nat) (cs : List Value) (y : DataW H × List MemPlace) (h : DataW.trod enc Tryz.prog W base spare held n T_string cs = some y) : ∃ a : ByteArray, cs = Enc.cells a ∧ okStr W a := by
  obtain ⟨i, e, h1, h2⟩ := DataW.trod_string U_string h
  exact ⟨i, e, h2⟩
theorem cB : Tryz.prog.cellsOf T_bool = 1 := by kernel_rfl
theorem dec_bool (n : Nat) (cs : List Value) (y : DataW H × List MemPlace) (h : DataW.trod enc Tryz.prog W base spare held n T_bool cs = some y) : ∃ a : Bool, cs = Enc.cells a ∧ okBool W a := by
  obtain ⟨i, e, h1⟩ := DataW.trod_bool U_bool h
  exact ⟨i, e, trivial⟩
def ok_erratalaw47_Op (W : World) (p : D_erratalaw47_Op) : Prop := okInt W p.do_ ∧ okInt W p.no ∧ okInt W p.from_ ∧ okInt W p.version ∧ okInt W p.back ∧ okInt W p.horizon ∧ okBool W p.raise
theorem fs_erratalaw47_Op : Tryz.prog.underlying T_erratalaw47_Op = some (.struct #[{ name := "Do", type := T_int, offset := 0, embedded := false, tag := "", pkgPath := "", byteOffset := 0 }, { name := "No", type := T_int, offset := 1, embedded := false, tag := "", pkgPath := "", byteOffset := 8 }, { name := "From", type := T_int, offset := 2, embedded := false, tag := "", pkgPath := "", byteOffset := 16 }, { name := "Version", type := T_int, offset := 3, embedded := false, tag := "", pkgPath := "", byteOffset := 24 }, { name := "Back", type := T_int, offset := 4, embedded := false, tag := "", pkgPath := "", byteOffset := 32 }, { name := "Horizon", type := T_int, offset := 5, embedded := false, tag := "", pkgPath := "", byteOffset := 40 }, { name := "Raise", type := T_bool, offset := 6, embedded := false, tag := "", pkgPath := "", byteOffset := 48 }]) := by kernel_rfl
theorem c_erratalaw47_Op : Tryz.prog.cellsOf T_erratalaw47_Op = 7 := by kernel_rfl
theorem dec_erratalaw47_Op (n : Nat) (cs : List Value) (y : DataW H × List MemPlace) (h : DataW.trod enc Tryz.prog W base spare held n T_erratalaw47_Op cs = some y) : ∃ a : D_erratalaw47_Op, cs = Enc.cells a ∧ ok_erratalaw47_Op W a := by
  obtain ⟨xs, m, _, _, hl, hlen, hf⟩ := DataW.trod_struct fs_erratalaw47_Op h
  rw [c_erratalaw47_Op] at hl
  match cs, hl with
  | [v0, v1, v2, v3, v4, v5, v6], _ =>
    have f0 : DataW.trod enc Tryz.prog W base spare held m T_int (([v0, v1, v2, v3, v4, v5, v6].drop 0).take (Tryz.prog.cellsOf T_int)) = xs[0]? := hf 0 _ rfl
    have c0 : Tryz.prog.cellsOf T_int = 1 := by kernel_rfl
    rw [c0] at f0
    have f1 : DataW.trod enc Tryz.prog W base spare held m T_int (([v0, v1, v2, v3, v4, v5, v6].drop 1).take (Tryz.prog.cellsOf T_int)) = xs[1]? := hf 1 _ rfl
    have c1 : Tryz.prog.cellsOf T_int = 1 := by kernel_rfl
    rw [c1] at f1
    have f2 : DataW.trod enc Tryz.prog W base spare held m T_int (([v0, v1, v2, v3, v4, v5, v6].drop 2).take (Tryz.prog.cellsOf T_int)) = xs[2]? := hf 2 _ rfl
    have c2 : Tryz.prog.cellsOf T_int = 1 := by kernel_rfl
    rw [c2] at f2
    have f3 : DataW.trod enc Tryz.prog W base spare held m T_int (([v0, v1, v2, v3, v4, v5, v6].drop 3).take (Tryz.prog.cellsOf T_int)) = xs[3]? := hf 3 _ rfl
    have c3 : Tryz.prog.cellsOf T_int = 1 := by kernel_rfl
    rw [c3] at f3
    have f4 : DataW.trod enc Tryz.prog W base spare held m T_int (([v0, v1, v2, v3, v4, v5, v6].drop 4).take (Tryz.prog.cellsOf T_int)) = xs[4]? := hf 4 _ rfl
    have c4 : Tryz.prog.cellsOf T_int = 1 := by kernel_rfl
    rw [c4] at f4
    have f5 : DataW.trod enc Tryz.prog W base spare held m T_int (([v0, v1, v2, v3, v4, v5, v6].drop 5).take (Tryz.prog.cellsOf T_int)) = xs[5]? := hf 5 _ rfl
    have c5 : Tryz.prog.cellsOf T_int = 1 := by kernel_rfl
    rw [c5] at f5
    have f6 : DataW.trod enc Tryz.prog W base spare held m T_bool (([v0, v1, v2, v3, v4, v5, v6].drop 6).take (Tryz.prog.cellsOf T_bool)) = xs[6]? := hf 6 _ rfl
    have c6 : Tryz.prog.cellsOf T_bool = 1 := by kernel_rfl
    rw [c6] at f6
    have hx : ∀ i, i < 7 → ∃ z, xs[i]? = some z := fun i hi => ⟨xs[i]'(by rw [hlen]; exact hi), by simp [hlen, hi]⟩
    obtain ⟨z0, h0⟩ := hx 0 (by omega)
    obtain ⟨i0, e0, q0⟩ := dec_int _ _ _ (f0.trans h0)
    simp [Enc.cells] at e0
    subst e0
    obtain ⟨z1, h1⟩ := hx 1 (by omega)
    obtain ⟨i1, e1, q1⟩ := dec_int _ _ _ (f1.trans h1)
    simp [Enc.cells] at e1
    subst e1
    obtain ⟨z2, h2⟩ := hx 2 (by omega)
    obtain ⟨i2, e2, q2⟩ := dec_int _ _ _ (f2.trans h2)
    simp [Enc.cells] at e2
    subst e2
    obtain ⟨z3, h3⟩ := hx 3 (by omega)
    obtain ⟨i3, e3, q3⟩ := dec_int _ _ _ (f3.trans h3)
    simp [Enc.cells] at e3
    subst e3
    obtain ⟨z4, h4⟩ := hx 4 (by omega)
    obtain ⟨i4, e4, q4⟩ := dec_int _ _ _ (f4.trans h4)
    simp [Enc.cells] at e4
    subst e4
    obtain ⟨z5, h5⟩ := hx 5 (by omega)
    obtain ⟨i5, e5, q5⟩ := dec_int _ _ _ (f5.trans h5)
    simp [Enc.cells] at e5
    subst e5
    obtain ⟨z6, h6⟩ := hx 6 (by omega)
    obtain ⟨i6, e6, q6⟩ := dec_bool _ _ _ (f6.trans h6)
    simp [Enc.cells] at e6
    subst e6
    exact ⟨⟨i0, i1, i2, i3, i4, i5, i6⟩, rfl, q0, q1, q2, q3, q4, q5, q6⟩
def ok_api_Replacement (W : World) (p : D_api_Replacement) : Prop := okInt W p.no ∧ okInt W p.from_ ∧ okInt W p.version ∧ okInt W p.start ∧ okInt W p.state ∧ okInt W p.cut
theorem fs_api_Replacement : Tryz.prog.underlying T_api_Replacement = some (.struct #[{ name := "No", type := T_int, offset := 0, embedded := false, tag := "", pkgPath := "", byteOffset := 0 }, { name := "From", type := T_int, offset := 1, embedded := false, tag := "", pkgPath := "", byteOffset := 8 }, { name := "Version", type := T_int, offset := 2, embedded := false, tag := "", pkgPath := "", byteOffset := 16 }, { name := "Start", type := T_int, offset := 3, embedded := false, tag := "", pkgPath := "", byteOffset := 24 }, { name := "State", type := T_int, offset := 4, embedded := false, tag := "", pkgPath := "", byteOffset := 32 }, { name := "Cut", type := T_int, offset := 5, embedded := false, tag := "", pkgPath := "", byteOffset := 40 }]) := by kernel_rfl
theorem c_api_Replacement : Tryz.prog.cellsOf T_api_Replacement = 6 := by kernel_rfl
theorem dec_api_Replacement (n : Nat) (cs : List Value) (y : DataW H × List MemPlace) (h : DataW.trod enc Tryz.prog W base spare held n T_api_Replacement cs = some y) : ∃ a : D_api_Replacement, cs = Enc.cells a ∧ ok_api_Replacement W a := by
  obtain ⟨xs, m, _, _, hl, hlen, hf⟩ := DataW.trod_struct fs_api_Replacement h
  rw [c_api_Replacement] at hl
  match cs, hl with
  | [v0, v1, v2, v3, v4, v5], _ =>
    have f0 : DataW.trod enc Tryz.prog W base spare held m T_int (([v0, v1, v2, v3, v4, v5].drop 0).take (Tryz.prog.cellsOf T_int)) = xs[0]? := hf 0 _ rfl
    have c0 : Tryz.prog.cellsOf T_int = 1 := by kernel_rfl
    rw [c0] at f0
    have f1 : DataW.trod enc Tryz.prog W base spare held m T_int (([v0, v1, v2, v3, v4, v5].drop 1).take (Tryz.prog.cellsOf T_int)) = xs[1]? := hf 1 _ rfl
    have c1 : Tryz.prog.cellsOf T_int = 1 := by kernel_rfl
    rw [c1] at f1
    have f2 : DataW.trod enc Tryz.prog W base spare held m T_int (([v0, v1, v2, v3, v4, v5].drop 2).take (Tryz.prog.cellsOf T_int)) = xs[2]? := hf 2 _ rfl
    have c2 : Tryz.prog.cellsOf T_int = 1 := by kernel_rfl
    rw [c2] at f2
    have f3 : DataW.trod enc Tryz.prog W base spare held m T_int (([v0, v1, v2, v3, v4, v5].drop 3).take (Tryz.prog.cellsOf T_int)) = xs[3]? := hf 3 _ rfl
    have c3 : Tryz.prog.cellsOf T_int = 1 := by kernel_rfl
    rw [c3] at f3
    have f4 : DataW.trod enc Tryz.prog W base spare held m T_int (([v0, v1, v2, v3, v4, v5].drop 4).take (Tryz.prog.cellsOf T_int)) = xs[4]? := hf 4 _ rfl
    have c4 : Tryz.prog.cellsOf T_int = 1 := by kernel_rfl
    rw [c4] at f4
    have f5 : DataW.trod enc Tryz.prog W base spare held m T_int (([v0, v1, v2, v3, v4, v5].drop 5).take (Tryz.prog.cellsOf T_int)) = xs[5]? := hf 5 _ rfl
    have c5 : Tryz.prog.cellsOf T_int = 1 := by kernel_rfl
    rw [c5] at f5
    have hx : ∀ i, i < 6 → ∃ z, xs[i]? = some z := fun i hi => ⟨xs[i]'(by rw [hlen]; exact hi), by simp [hlen, hi]⟩
    obtain ⟨z0, h0⟩ := hx 0 (by omega)
    obtain ⟨i0, e0, q0⟩ := dec_int _ _ _ (f0.trans h0)
    simp [Enc.cells] at e0
    subst e0
    obtain ⟨z1, h1⟩ := hx 1 (by omega)
    obtain ⟨i1, e1, q1⟩ := dec_int _ _ _ (f1.trans h1)
    simp [Enc.cells] at e1
    subst e1
    obtain ⟨z2, h2⟩ := hx 2 (by omega)
    obtain ⟨i2, e2, q2⟩ := dec_int _ _ _ (f2.trans h2)
    simp [Enc.cells] at e2
    subst e2
    obtain ⟨z3, h3⟩ := hx 3 (by omega)
    obtain ⟨i3, e3, q3⟩ := dec_int _ _ _ (f3.trans h3)
    simp [Enc.cells] at e3
    subst e3
    obtain ⟨z4, h4⟩ := hx 4 (by omega)
    obtain ⟨i4, e4, q4⟩ := dec_int _ _ _ (f4.trans h4)
    simp [Enc.cells] at e4
    subst e4
    obtain ⟨z5, h5⟩ := hx 5 (by omega)
    obtain ⟨i5, e5, q5⟩ := dec_int _ _ _ (f5.trans h5)
    simp [Enc.cells] at e5
    subst e5
    exact ⟨⟨i0, i1, i2, i3, i4, i5⟩, rfl, q0, q1, q2, q3, q4, q5⟩
def ok_api_Budget (W : World) (p : D_api_Budget) : Prop := okInt W p.rate ∧ okInt W p.most ∧ okInt W p.saved
theorem fs_api_Budget : Tryz.prog.underlying T_api_Budget = some (.struct #[{ name := "Rate", type := T_int, offset := 0, embedded := false, tag := "", pkgPath := "", byteOffset := 0 }, { name := "Most", type := T_int, offset := 1, embedded := false, tag := "", pkgPath := "", byteOffset := 8 }, { name := "Saved", type := T_int, offset := 2, embedded := false, tag := "", pkgPath := "", byteOffset := 16 }]) := by kernel_rfl
theorem c_api_Budget : Tryz.prog.cellsOf T_api_Budget = 3 := by kernel_rfl
theorem dec_api_Budget (n : Nat) (cs : List Value) (y : DataW H × List MemPlace) (h : DataW.trod enc Tryz.prog W base spare held n T_api_Budget cs = some y) : ∃ a : D_api_Budget, cs = Enc.cells a ∧ ok_api_Budget W a := by
  obtain ⟨xs, m, _, _, hl, hlen, hf⟩ := DataW.trod_struct fs_api_Budget h
  rw [c_api_Budget] at hl
  match cs, hl with
  | [v0, v1, v2], _ =>
    have f0 : DataW.trod enc Tryz.prog W base spare held m T_int (([v0, v1, v2].drop 0).take (Tryz.prog.cellsOf T_int)) = xs[0]? := hf 0 _ rfl
    have c0 : Tryz.prog.cellsOf T_int = 1 := by kernel_rfl
    rw [c0] at f0
    have f1 : DataW.trod enc Tryz.prog W base spare held m T_int (([v0, v1, v2].drop 1).take (Tryz.prog.cellsOf T_int)) = xs[1]? := hf 1 _ rfl
    have c1 : Tryz.prog.cellsOf T_int = 1 := by kernel_rfl
    rw [c1] at f1
    have f2 : DataW.trod enc Tryz.prog W base spare held m T_int (([v0, v1, v2].drop 2).take (Tryz.prog.cellsOf T_int)) = xs[2]? := hf 2 _ rfl
    have c2 : Tryz.prog.cellsOf T_int = 1 := by kernel_rfl
    rw [c2] at f2
    have hx : ∀ i, i < 3 → ∃ z, xs[i]? = some z := fun i hi => ⟨xs[i]'(by rw [hlen]; exact hi), by simp [hlen, hi]⟩
    obtain ⟨z0, h0⟩ := hx 0 (by omega)
    obtain ⟨i0, e0, q0⟩ := dec_int _ _ _ (f0.trans h0)
    simp [Enc.cells] at e0
    subst e0
    obtain ⟨z1, h1⟩ := hx 1 (by omega)
    obtain ⟨i1, e1, q1⟩ := dec_int _ _ _ (f1.trans h1)
    simp [Enc.cells] at e1
    subst e1
    obtain ⟨z2, h2⟩ := hx 2 (by omega)
    obtain ⟨i2, e2, q2⟩ := dec_int _ _ _ (f2.trans h2)
    simp [Enc.cells] at e2
    subst e2
    exact ⟨⟨i0, i1, i2⟩, rfl, q0, q1, q2⟩
end
end Go.Proofs.YtdecfgbdppfmcaaGreatDoor
