/-
  NetOrders holds: for every list of operations and every list of numbers the law answers true. No condition.
-/
import Derived.Test.YtollnmlnpngmfaaRows
import Derived.Test.YtollnmlnpngmfaaWrap
import Derived.Test.YtollnmlnpngmfaaNetOrders
namespace Go.Proofs.Ytollnmlnpngmfaa
open Go.ChangeShapes Go.WideShapes Go.ChangeAt Go.RowKit

theorem own_ : ownKnob Try.prog.godebug = none := by kernel_rfl
theorem laidOut_ : laidOutB Try.prog = true := by kernel_rfl

section
variable {H : Type} {enc : TypeId × Value → H} {W : World} {base : Nat} {spare : Nat → Bool} {held : Bool}
theorem opFields : Try.prog.underlying T_erratalaw07_Op = some (.struct #[{ name := "Do", type := T_int, offset := 0, embedded := false, tag := "", pkgPath := "", byteOffset := 0 }, { name := "N", type := T_int, offset := 1, embedded := false, tag := "", pkgPath := "", byteOffset := 8 }, { name := "To", type := T_int, offset := 2, embedded := false, tag := "", pkgPath := "", byteOffset := 16 }, { name := "S", type := T_string, offset := 3, embedded := false, tag := "", pkgPath := "", byteOffset := 24 }]) := by kernel_rfl
theorem cI : Try.prog.cellsOf T_int = 1 := by kernel_rfl
theorem cS : Try.prog.cellsOf T_string = 1 := by kernel_rfl
theorem cO : Try.prog.cellsOf T_erratalaw07_Op = 4 := by kernel_rfl

theorem dec_op (n : Nat) (cs : List Value) (y : DataW H × List MemPlace) (h : DataW.trod enc Try.prog W base spare held n T_erratalaw07_Op cs = some y) : ∃ a : OpD, cs = Enc.cells a := by
  obtain ⟨xs, m, _, _, hl, hlen, hf⟩ := DataW.trod_struct opFields h
  rw [cO] at hl
  match cs, hl with
  | [a, b, c, d], _ =>
    have f0 : DataW.trod enc Try.prog W base spare held m T_int (([a, b, c, d].drop 0).take (Try.prog.cellsOf T_int)) = xs[0]? := hf 0 _ rfl
    have f1 : DataW.trod enc Try.prog W base spare held m T_int (([a, b, c, d].drop 1).take (Try.prog.cellsOf T_int)) = xs[1]? := hf 1 _ rfl
    have f2 : DataW.trod enc Try.prog W base spare held m T_int (([a, b, c, d].drop 2).take (Try.prog.cellsOf T_int)) = xs[2]? := hf 2 _ rfl
    have f3 : DataW.trod enc Try.prog W base spare held m T_string (([a, b, c, d].drop 3).take (Try.prog.cellsOf T_string)) = xs[3]? := hf 3 _ rfl
    rw [cI] at f0 f1 f2
    rw [cS] at f3
    have hx : ∀ i, i < 4 → ∃ z, xs[i]? = some z := fun i hi => ⟨xs[i]'(by rw [hlen]; exact hi), by simp [hlen, hi]⟩
    obtain ⟨z0, h0⟩ := hx 0 (by omega)
    obtain ⟨z1, h1⟩ := hx 1 (by omega)
    obtain ⟨z2, h2⟩ := hx 2 (by omega)
    obtain ⟨z3, h3⟩ := hx 3 (by omega)
    obtain ⟨i0, e0, _⟩ := DataW.trod_int UInt' (f0.trans h0)
    obtain ⟨i1, e1, _⟩ := DataW.trod_int UInt' (f1.trans h1)
    obtain ⟨i2, e2, _⟩ := DataW.trod_int UInt' (f2.trans h2)
    obtain ⟨s3, e3, _⟩ := DataW.trod_string UStr (f3.trans h3)
    simp at e0 e1 e2 e3
    subst e0 e1 e2 e3
    exact ⟨⟨i0, i1, i2, s3⟩, rfl⟩

theorem dec_int (n : Nat) (cs : List Value) (y : DataW H × List MemPlace) (h : DataW.trod enc Try.prog W base spare held n T_int cs = some y) : ∃ a : Int, cs = Enc.cells a := by
  obtain ⟨i, e, _⟩ := DataW.trod_int UInt' h
  exact ⟨i, e⟩
end
theorem UOps : Try.prog.underlying T_s_erratalaw07_Op = some (.slice T_erratalaw07_Op) := by kernel_rfl
theorem UInts : Try.prog.underlying T_s_int = some (.slice T_int) := by kernel_rfl

set_option maxRecDepth 100000 in
theorem netOrders_lifted (os : Os) (started : os.Started) (H : Type) (enc : TypeId × Value → H) :
    ReturnsInHanded {} Try.checked os F_erratalaw07_NetOrders .any (Rows.netOrdersSpec.pre6 enc Try.prog Try.f3 Rows.netOrdersRow.domain false) (Rows.netOrdersSpec.post enc Try.prog Try.f3 false true false false) := by
  refine returnsInHanded_of_change (C := Try.checked) own_ started (by kernel_rfl) Try.func3
    (ChangeSpec.witness6 (enc := enc) (C := Try.checked) false ⟨#[], #[.slice none 0 0, .slice none 0 0], []⟩ 8 (by kernel_rfl) (by kernel_rfl) (by kernel_rfl) (by kernel_rfl)) ?_
  intro W base args ds gs before hval0 hW hcnd _
  have hval : ∀ (j : Nat) t v, Try.f3.params[j]? = some t → args[j]? = some v → Value.okWide Try.prog W .any base t v := hval0
  have hW' := hW
  obtain ⟨p, q, hA0, hV, rfl, hfz, hnd⟩ := hW
  have hA : DataW.TrodAll enc Try.prog W 0 (fun _ => true) true Try.f3.params.toList args.toList ds p := hA0
  rw [Try.params3] at hA hval
  obtain ⟨v0, v1, d0, d1, p0, p1, rfl, rfl, rfl, h0, h1⟩ := trodAll_two hA
  obtain ⟨rfl, rfl⟩ := trodVars_none hV
  obtain ⟨a0, n0, c0, rfl⟩ := okWide_slice UOps (hval 0 T_s_erratalaw07_Op v0 rfl rfl)
  obtain ⟨a1, n1, c1, rfl⟩ := okWide_slice UInts (hval 1 T_s_int v1 rfl rfl)
  obtain ⟨fu0, hf0⟩ := h0
  obtain ⟨fu1, hf1⟩ := h1
  obtain ⟨l, hl, _⟩ := open_row (α := OpD) UOps cO (fun n cs y => dec_op n cs y) hf0
  obtain ⟨ps, hp, _⟩ := open_row (α := Int) UInts cI (fun n cs y => dec_int n cs y) hf1
  have hc := erratalaw07_NetOrders.call (netOrders_pt (K := fun v w' => v = .bool true ∧ Below W.heap.size W w') hl hp fun c w' st => ⟨rfl, st.below fun k hk e => absurd (show 1 ≤ 0 from e) (by omega)⟩)
  refine hc.mono fun e W' he => ?_
  cases e with
  | returned v =>
    obtain ⟨rfl, hB⟩ := he
    exact ⟨_, rfl, law_post laidOut_ hW' rfl rfl rfl rfl UBool (by rw [Try.params3]; intro t ht; simp at ht; rcases ht with rfl | rfl <;> exact ⟨by kernel_rfl, of_decide_eq_true (by kernel_rfl)⟩) hB⟩
  | panicked ch => exact he.elim
  | outgrown => exact he.elim

theorem netOrders_holds : Rows.NetOrdersSaid :=
  OpenClaim.holds_of_wide F_erratalaw07_NetOrders Try.f3 rfl rfl rfl rfl rfl rfl rfl ⟨rfl, rfl, rfl, rfl, rfl⟩ rfl rfl rfl rfl rfl (by kernel_rfl) Try.func3 (by kernel_rfl)
    (of_decide_eq_true (by kernel_rfl)) (by unfold Func.isWrapper; first | (rw [if_pos (by decide +kernel)]; kernel_rfl) | (rw [if_neg (by decide +kernel)]; exact ⟨rfl, rfl⟩))
    (fun os started H enc _ => netOrders_lifted os started H enc)

end Go.Proofs.Ytollnmlnpngmfaa
