/-
  ProducerOnce holds: for every sequence of operations the law answers true. No condition.
-/
import Derived.Test.YtppnebcpalialaaArgs
import Derived.Test.YtppnebcpalialaaProdL
namespace Go.Proofs.Ytppnebcpalialaa
open Go.ChangeShapes Go.WideShapes Go.ChangeAt Go.RowKit

set_option maxRecDepth 100000 in
theorem producerOnce_lifted (os : Os) (started : os.Started) (H : Type) (enc : TypeId × Value → H) :
    ReturnsInHanded {} Try.checked os F_erratalaw10_ProducerOnce .any (Rows.producerOnceSpec.pre6 enc Try.prog Try.f3 Rows.producerOnceRow.domain false) (Rows.producerOnceSpec.post enc Try.prog Try.f3 false true false false) := by
  refine returnsInHanded_of_change (C := Try.checked) own_ started (by kernel_rfl) Try.func3
    (ChangeSpec.witness6 (enc := enc) (C := Try.checked) false ⟨#[], #[.slice none 0 0], []⟩ 8 (by kernel_rfl) (by kernel_rfl) (by kernel_rfl) (by kernel_rfl)) ?_
  intro W base args ds gs before hval0 hW _ _
  obtain ⟨args⟩ := args
  have hval : ∀ (j : Nat) t v, Try.f3.params[j]? = some t → (Array.mk args)[j]? = some v → Value.okWide Try.prog W .any base t v := hval0
  have hW' := hW
  obtain ⟨p, q, hA0, hV, rfl, _, _⟩ := hW
  have hA : DataW.TrodAll enc Try.prog W 0 (fun _ => true) true Try.f3.params.toList args ds p := hA0
  rw [Try.params3] at hA hval
  obtain ⟨v0, vs0, d0, ds0, p0, q0, rfl, rfl, rfl, h0, hA⟩ := trodAll_cons hA
  obtain ⟨rfl, rfl, rfl⟩ := trodAll_nil hA
  obtain ⟨rfl, rfl⟩ := trodVars_none hV
  obtain ⟨a0, n0, c0, rfl⟩ := okWide_slice U_s_erratalaw10_Op (hval 0 T_s_erratalaw10_Op v0 rfl rfl)
  obtain ⟨fu0, hf0⟩ := h0
  obtain ⟨l0, hl0, hm0, hq0⟩ := open_rowP (α := D_erratalaw10_Op) (Q := ok_erratalaw10_Op W) U_s_erratalaw10_Op c_erratalaw10_Op (fun n cs y => dec_erratalaw10_Op n cs y) hf0
  have hc := erratalaw10_ProducerOnce.call (producerOnce_pt (W := W)  (K := fun v w' => v = .bool true ∧ Below W.heap.size W w') (lawB.row hl0) fun w' σ h => ⟨rfl, lawB.fin h⟩)
  have hty : ∀ t ∈ Try.f3.params.toList, Try.prog.readableRec t = true ∧ t < Try.prog.types.size := by
    have hall : (Try.f3.params.toList.all fun t => Try.prog.readableRec t && decide (t < Try.prog.types.size)) = true := by kernel_rfl
    intro t ht
    have := List.all_eq_true.1 hall t ht
    simpa using this
  refine hc.mono fun e W' he => ?_
  cases e with
  | returned v =>
    obtain ⟨rfl, hB⟩ := he
    exact ⟨_, rfl, law_post laidOut_ hW' rfl rfl rfl rfl (by kernel_rfl : Try.prog.underlying 4 = some .bool) hty hB⟩
  | panicked ch => exact he.elim
  | outgrown => exact he.elim

theorem producerOnce_holds : Rows.ProducerOnceSaid :=
  OpenClaim.holds_of_wide F_erratalaw10_ProducerOnce Try.f3 rfl rfl rfl rfl rfl rfl rfl ⟨rfl, rfl, rfl, rfl, rfl⟩ rfl rfl rfl rfl rfl (by kernel_rfl) Try.func3 (by kernel_rfl)
    (of_decide_eq_true (by kernel_rfl)) (by unfold Func.isWrapper; first | (rw [if_pos (by decide +kernel)]; kernel_rfl) | (rw [if_neg (by decide +kernel)]; exact ⟨rfl, rfl⟩))
    (fun os started H enc _ => producerOnce_lifted os started H enc)

end Go.Proofs.Ytppnebcpalialaa
