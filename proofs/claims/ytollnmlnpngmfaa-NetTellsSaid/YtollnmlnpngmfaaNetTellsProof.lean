/-
  NetTells holds: the network and the reference answer alike. No condition.
-/
import Derived.Test.YtollnmlnpngmfaaNetArgs
import Derived.Test.YtollnmlnpngmfaaNetTells
namespace Go.Proofs.Ytollnmlnpngmfaa
open Go.ChangeShapes Go.WideShapes Go.ChangeAt Go.RowKit

set_option maxRecDepth 100000 in
theorem netTells_lifted (os : Os) (started : os.Started) (H : Type) (enc : TypeId × Value → H) :
    ReturnsInHanded {} Try.checked os F_erratalaw07_NetTells .any (Rows.netTellsSpec.pre6 enc Try.prog Try.f6 Rows.netTellsRow.domain false) (Rows.netTellsSpec.post enc Try.prog Try.f6 false true false false) := by
  refine returnsInHanded_of_change (C := Try.checked) own_ started (by kernel_rfl) Try.func6
    (ChangeSpec.witness6 (enc := enc) (C := Try.checked) false ⟨#[], #[.slice none 0 0, .int .i64 0, .int .i64 0, .int .i64 0], []⟩ 8 (by kernel_rfl) (by kernel_rfl) (by kernel_rfl) (by kernel_rfl)) ?_
  intro W base args ds gs before hval0 hW _ _
  have hval : ∀ (j : Nat) t v, Try.f6.params[j]? = some t → args[j]? = some v → Value.okWide Try.prog W .any base t v := hval0
  have hW' := hW
  obtain ⟨p, q, hA0, hV, rfl, _, _⟩ := hW
  have hA : DataW.TrodAll enc Try.prog W 0 (fun _ => true) true Try.f6.params.toList args.toList ds p := hA0
  rw [Try.params6] at hA hval
  obtain ⟨v0, v1, v2, v3, d0, d1, d2, d3, p0, p1, p2, p3, rfl, rfl, rfl, h0, h1, h2, h3⟩ := trodAll_four hA
  obtain ⟨rfl, rfl⟩ := trodVars_none hV
  obtain ⟨a0, n0, c0, rfl⟩ := okWide_slice UOps (hval 0 T_s_erratalaw07_Op v0 rfl rfl)
  obtain ⟨fu0, hf0⟩ := h0
  obtain ⟨l0, hl0, hm0⟩ := open_row (α := OpD) UOps cO (fun n cs y => dec_op n cs y) hf0
  obtain ⟨x1, rfl, rfl, rfl, wx1⟩ := open_int UInt' (hval 1 T_int v1 rfl rfl) h1
  obtain ⟨x2, rfl, rfl, rfl, wx2⟩ := open_int UInt' (hval 2 T_int v2 rfl rfl) h2
  obtain ⟨x3, rfl, rfl, rfl, wx3⟩ := open_int UInt' (hval 3 T_int v3 rfl rfl) h3
  have hc := erratalaw07_NetTells.call (netTells_pt (W := W) (at_i := x1) (a := x2) (b := x3) (K := fun v w' => v = .bool true ∧ Below W.heap.size W w') hl0 fun c w' st => ⟨rfl, st.below fun k hk e => absurd (show 1 ≤ 0 from e) (by omega)⟩)
  refine hc.mono fun e W' he => ?_
  cases e with
  | returned v =>
    obtain ⟨rfl, hB⟩ := he
    exact ⟨_, rfl, law_post laidOut_ hW' rfl rfl rfl rfl UBool (by rw [Try.params6]; intro t ht; simp at ht; rcases ht with rfl | rfl <;> exact ⟨by kernel_rfl, of_decide_eq_true (by kernel_rfl)⟩) hB⟩
  | panicked ch => exact he.elim
  | outgrown => exact he.elim

theorem netTells_holds : Rows.NetTellsSaid :=
  OpenClaim.holds_of_wide F_erratalaw07_NetTells Try.f6 rfl rfl rfl rfl rfl rfl rfl ⟨rfl, rfl, rfl, rfl, rfl⟩ rfl rfl rfl rfl rfl (by kernel_rfl) Try.func6 (by kernel_rfl)
    (of_decide_eq_true (by kernel_rfl)) (by unfold Func.isWrapper; first | (rw [if_pos (by decide +kernel)]; kernel_rfl) | (rw [if_neg (by decide +kernel)]; exact ⟨rfl, rfl⟩))
    (fun os started H enc _ => netTells_lifted os started H enc)

end Go.Proofs.Ytollnmlnpngmfaa
