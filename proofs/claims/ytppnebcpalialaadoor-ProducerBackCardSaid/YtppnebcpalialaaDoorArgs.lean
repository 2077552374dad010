/-
  What the laws of this seat share: how their arguments are opened. Printed by program. No condition.
-/
import Derived.Test.YtppnebcpalialaaDoorRows
import Derived.Test.YtppnebcpalialaaDoorWrap
import Derived.Test.YtppnebcpalialaaDoorTypes
namespace Go.Proofs.YtppnebcpalialaaDoor
open Go.ChangeShapes Go.WideShapes Go.ChangeAt Go.RowKit
set_option maxRecDepth 100000

theorem own_ : ownKnob Tryd.prog.godebug = none := by kernel_rfl
theorem laidOut_ : laidOutB Tryd.prog = true := by kernel_rfl
theorem int_range {n : Int} (h : (Lit.int .i64 n).wf = true) : -9223372036854775808 ≤ n ∧ n ≤ 9223372036854775807 := by
  have h1 : IntKind.i64.min ≤ n ∧ n ≤ 9223372036854775807 := by simpa [Lit.wf] using h
  have h2 : IntKind.i64.min = -9223372036854775808 := by decide +kernel
  omega

section
variable {H : Type} {enc : TypeId × Value → H} {W : World} {base : Nat} {spare : Nat → Bool} {held : Bool}
theorem cI : Tryd.prog.cellsOf T_int = 1 := by kernel_rfl
theorem dec_int (n : Nat) (cs : List Value) (y : DataW H × List MemPlace) (h : DataW.trod enc Tryd.prog W base spare held n T_int cs = some y) : ∃ a : Int, cs = Enc.cells a ∧ okInt W a := by
  obtain ⟨i, e, h1, h2⟩ := DataW.trod_int U_int h
  exact ⟨i, e, int_range h2⟩
theorem cS : Tryd.prog.cellsOf T_string = 1 := by kernel_rfl
theorem dec_str (n : Nat) (cs : List Value) (y : DataW H × List MemPlace) (h : DataW.trod enc Tryd.prog W base spare held n T_string cs = some y) : ∃ a : ByteArray, cs = Enc.cells a ∧ okStr W a := by
  obtain ⟨i, e, h1, h2⟩ := DataW.trod_string U_string h
  exact ⟨i, e, h2⟩
theorem cB : Tryd.prog.cellsOf T_bool = 1 := by kernel_rfl
theorem dec_bool (n : Nat) (cs : List Value) (y : DataW H × List MemPlace) (h : DataW.trod enc Tryd.prog W base spare held n T_bool cs = some y) : ∃ a : Bool, cs = Enc.cells a ∧ okBool W a := by
  obtain ⟨i, e, h1⟩ := DataW.trod_bool U_bool h
  exact ⟨i, e, trivial⟩
def ok_api_Producer (W : World) (p : D_api_Producer) : Prop := okInt W p.id ∧ okInt W p.epoch ∧ okInt W p.next ∧ (∃ l : List Int, rowR p.last.1 l (lawB W) ∧ l.length ≤ maxLen ∧ ∀ x ∈ l, okInt W x)
theorem fs_api_Producer : Tryd.prog.underlying T_api_Producer = some (.struct #[{ name := "Id", type := T_int, offset := 0, embedded := false, tag := "", pkgPath := "", byteOffset := 0 }, { name := "Epoch", type := T_int, offset := 1, embedded := false, tag := "", pkgPath := "", byteOffset := 8 }, { name := "Next", type := T_int, offset := 2, embedded := false, tag := "", pkgPath := "", byteOffset := 16 }, { name := "Last", type := T_s_int, offset := 3, embedded := false, tag := "", pkgPath := "", byteOffset := 24 }]) := by kernel_rfl
theorem c_api_Producer : Tryd.prog.cellsOf T_api_Producer = 4 := by kernel_rfl
theorem dec_api_Producer (n : Nat) (cs : List Value) (y : DataW H × List MemPlace) (h : DataW.trod enc Tryd.prog W base spare held n T_api_Producer cs = some y) : ∃ a : D_api_Producer, cs = Enc.cells a ∧ ok_api_Producer W a := by
  obtain ⟨xs, m, _, _, hl, hlen, hf⟩ := DataW.trod_struct fs_api_Producer h
  rw [c_api_Producer] at hl
  match cs, hl with
  | [v0, v1, v2, v3], _ =>
    have f0 : DataW.trod enc Tryd.prog W base spare held m T_int (([v0, v1, v2, v3].drop 0).take (Tryd.prog.cellsOf T_int)) = xs[0]? := hf 0 _ rfl
    have c0 : Tryd.prog.cellsOf T_int = 1 := by kernel_rfl
    rw [c0] at f0
    have f1 : DataW.trod enc Tryd.prog W base spare held m T_int (([v0, v1, v2, v3].drop 1).take (Tryd.prog.cellsOf T_int)) = xs[1]? := hf 1 _ rfl
    have c1 : Tryd.prog.cellsOf T_int = 1 := by kernel_rfl
    rw [c1] at f1
    have f2 : DataW.trod enc Tryd.prog W base spare held m T_int (([v0, v1, v2, v3].drop 2).take (Tryd.prog.cellsOf T_int)) = xs[2]? := hf 2 _ rfl
    have c2 : Tryd.prog.cellsOf T_int = 1 := by kernel_rfl
    rw [c2] at f2
    have f3 : DataW.trod enc Tryd.prog W base spare held m T_s_int (([v0, v1, v2, v3].drop 3).take (Tryd.prog.cellsOf T_s_int)) = xs[3]? := hf 3 _ rfl
    have c3 : Tryd.prog.cellsOf T_s_int = 1 := by kernel_rfl
    rw [c3] at f3
    have hx : ∀ i, i < 4 → ∃ z, xs[i]? = some z := fun i hi => ⟨xs[i]'(by rw [hlen]; exact hi), by simp [hlen, hi]⟩
    obtain ⟨z0, h0⟩ := hx 0 (by omega)
    obtain ⟨i0, e0, q0⟩ := dec_int _ _ _ (f0.trans h0)
    simp [Enc.cells] at e0
    subst e0
    obtain ⟨z1, h1⟩ := hx 1 (by omega)
    obtain ⟨i1, e1, q1⟩ := dec_int _ _ _ (f1.trans h1)
    simp [Enc.cells] at e1
    subst e1
    obtain ⟨z2, h2⟩ := hx 2 (by omega)
    obtain ⟨i2, e2, q2⟩ := dec_int _ _ _ (f2.trans h2)
    simp [Enc.cells] at e2
    subst e2
    obtain ⟨z3, h3⟩ := hx 3 (by omega)
    obtain ⟨l3, r3, m3, q3⟩ := open_rowP (α := Int) (Q := okInt W) (by kernel_rfl : Tryd.prog.underlying T_s_int = some (.slice T_int)) (by kernel_rfl) (fun n cs y => dec_int n cs y) (f3.trans h3)
    have o3 : v3.oneCell' = true := rowR.oneCell (lawB.row r3)
    exact ⟨⟨i0, i1, i2, ⟨v3, o3⟩⟩, rfl, q0, q1, q2, ⟨l3, lawB.row r3, m3, q3⟩⟩
def ok_api_Entry (W : World) (p : D_api_Entry) : Prop := okInt W p.kind ∧ okInt W p.producer ∧ okInt W p.epoch ∧ okInt W p.seq ∧ okStr W p.source ∧ okInt W p.schema ∧ okInt W p.time ∧ True
theorem fs_api_Entry : Tryd.prog.underlying T_api_Entry = some (.struct #[{ name := "Kind", type := T_int, offset := 0, embedded := false, tag := "", pkgPath := "", byteOffset := 0 }, { name := "Producer", type := T_int, offset := 1, embedded := false, tag := "", pkgPath := "", byteOffset := 8 }, { name := "Epoch", type := T_int, offset := 2, embedded := false, tag := "", pkgPath := "", byteOffset := 16 }, { name := "Seq", type := T_int, offset := 3, embedded := false, tag := "", pkgPath := "", byteOffset := 24 }, { name := "Source", type := T_string, offset := 4, embedded := false, tag := "", pkgPath := "", byteOffset := 32 }, { name := "Schema", type := T_int, offset := 5, embedded := false, tag := "", pkgPath := "", byteOffset := 48 }, { name := "Time", type := T_int, offset := 6, embedded := false, tag := "", pkgPath := "", byteOffset := 56 }, { name := "Row", type := 23, offset := 7, embedded := false, tag := "", pkgPath := "", byteOffset := 64 }]) := by kernel_rfl
theorem c_api_Entry : Tryd.prog.cellsOf T_api_Entry = 8 := by kernel_rfl
theorem dec_api_Entry (n : Nat) (cs : List Value) (y : DataW H × List MemPlace) (h : DataW.trod enc Tryd.prog W base spare held n T_api_Entry cs = some y) : ∃ a : D_api_Entry, cs = Enc.cells a ∧ ok_api_Entry W a := by
  obtain ⟨xs, m, _, _, hl, hlen, hf⟩ := DataW.trod_struct fs_api_Entry h
  rw [c_api_Entry] at hl
  match cs, hl with
  | [v0, v1, v2, v3, v4, v5, v6, v7], _ =>
    have f0 : DataW.trod enc Tryd.prog W base spare held m T_int (([v0, v1, v2, v3, v4, v5, v6, v7].drop 0).take (Tryd.prog.cellsOf T_int)) = xs[0]? := hf 0 _ rfl
    have c0 : Tryd.prog.cellsOf T_int = 1 := by kernel_rfl
    rw [c0] at f0
    have f1 : DataW.trod enc Tryd.prog W base spare held m T_int (([v0, v1, v2, v3, v4, v5, v6, v7].drop 1).take (Tryd.prog.cellsOf T_int)) = xs[1]? := hf 1 _ rfl
    have c1 : Tryd.prog.cellsOf T_int = 1 := by kernel_rfl
    rw [c1] at f1
    have f2 : DataW.trod enc Tryd.prog W base spare held m T_int (([v0, v1, v2, v3, v4, v5, v6, v7].drop 2).take (Tryd.prog.cellsOf T_int)) = xs[2]? := hf 2 _ rfl
    have c2 : Tryd.prog.cellsOf T_int = 1 := by kernel_rfl
    rw [c2] at f2
    have f3 : DataW.trod enc Tryd.prog W base spare held m T_int (([v0, v1, v2, v3, v4, v5, v6, v7].drop 3).take (Tryd.prog.cellsOf T_int)) = xs[3]? := hf 3 _ rfl
    have c3 : Tryd.prog.cellsOf T_int = 1 := by kernel_rfl
    rw [c3] at f3
    have f4 : DataW.trod enc Tryd.prog W base spare held m T_string (([v0, v1, v2, v3, v4, v5, v6, v7].drop 4).take (Tryd.prog.cellsOf T_string)) = xs[4]? := hf 4 _ rfl
    have c4 : Tryd.prog.cellsOf T_string = 1 := by kernel_rfl
    rw [c4] at f4
    have f5 : DataW.trod enc Tryd.prog W base spare held m T_int (([v0, v1, v2, v3, v4, v5, v6, v7].drop 5).take (Tryd.prog.cellsOf T_int)) = xs[5]? := hf 5 _ rfl
    have c5 : Tryd.prog.cellsOf T_int = 1 := by kernel_rfl
    rw [c5] at f5
    have f6 : DataW.trod enc Tryd.prog W base spare held m T_int (([v0, v1, v2, v3, v4, v5, v6, v7].drop 6).take (Tryd.prog.cellsOf T_int)) = xs[6]? := hf 6 _ rfl
    have c6 : Tryd.prog.cellsOf T_int = 1 := by kernel_rfl
    rw [c6] at f6
    have f7 : DataW.trod enc Tryd.prog W base spare held m 23 (([v0, v1, v2, v3, v4, v5, v6, v7].drop 7).take (Tryd.prog.cellsOf 23)) = xs[7]? := hf 7 _ rfl
    have c7 : Tryd.prog.cellsOf 23 = 1 := by kernel_rfl
    rw [c7] at f7
    have hx : ∀ i, i < 8 → ∃ z, xs[i]? = some z := fun i hi => ⟨xs[i]'(by rw [hlen]; exact hi), by simp [hlen, hi]⟩
    obtain ⟨z0, h0⟩ := hx 0 (by omega)
    obtain ⟨i0, e0, q0⟩ := dec_int _ _ _ (f0.trans h0)
    simp [Enc.cells] at e0
    subst e0
    obtain ⟨z1, h1⟩ := hx 1 (by omega)
    obtain ⟨i1, e1, q1⟩ := dec_int _ _ _ (f1.trans h1)
    simp [Enc.cells] at e1
    subst e1
    obtain ⟨z2, h2⟩ := hx 2 (by omega)
    obtain ⟨i2, e2, q2⟩ := dec_int _ _ _ (f2.trans h2)
    simp [Enc.cells] at e2
    subst e2
    obtain ⟨z3, h3⟩ := hx 3 (by omega)
    obtain ⟨i3, e3, q3⟩ := dec_int _ _ _ (f3.trans h3)
    simp [Enc.cells] at e3
    subst e3
    obtain ⟨z4, h4⟩ := hx 4 (by omega)
    obtain ⟨i4, e4, q4⟩ := dec_str _ _ _ (f4.trans h4)
    simp [Enc.cells] at e4
    subst e4
    obtain ⟨z5, h5⟩ := hx 5 (by omega)
    obtain ⟨i5, e5, q5⟩ := dec_int _ _ _ (f5.trans h5)
    simp [Enc.cells] at e5
    subst e5
    obtain ⟨z6, h6⟩ := hx 6 (by omega)
    obtain ⟨i6, e6, q6⟩ := dec_int _ _ _ (f6.trans h6)
    simp [Enc.cells] at e6
    subst e6
    obtain ⟨z7, h7⟩ := hx 7 (by omega)
    have o7 : v7.oneCell' = true := by
      rcases Go.Deep.open_slice (by kernel_rfl : Tryd.prog.underlying 23 = some (.slice 136)) (f7.trans h7) with ⟨hcs, _⟩ | ⟨a, len, cap, m, n, D, Pl, hcs, _⟩ <;> (injection hcs with hv _; subst hv; rfl)
    exact ⟨⟨i0, i1, i2, i3, i4, i5, i6, ⟨v7, o7⟩⟩, rfl, q0, q1, q2, q3, q4, q5, q6, trivial⟩
end
end Go.Proofs.YtppnebcpalialaaDoor
