/-
  AggregateTypes holds: for every list of aggregates, every columns and every rows the law answers true. No condition.
-/
import Derived.Test.YtoebncgnjbblgaaArgs
import Derived.Test.YtoebncgnjbblgaaAggU
namespace Go.Proofs.Ytoebncgnjbblgaa
open Go.ChangeShapes Go.WideShapes Go.ChangeAt Go.RowKit

set_option maxRecDepth 100000 in
theorem aggregateTypes_lifted (os : Os) (started : os.Started) (H : Type) (enc : TypeId × Value → H) :
    ReturnsInHanded {} Try.checked os F_erratalaw30_AggregateTypes .any (Rows.aggregateTypesSpec.pre6 enc Try.prog Try.f3 Rows.aggregateTypesRow.domain false) (Rows.aggregateTypesSpec.post enc Try.prog Try.f3 false true false false) := by
  refine returnsInHanded_of_change (C := Try.checked) own_ started (by kernel_rfl) Try.func3
    (ChangeSpec.witness6 (enc := enc) (C := Try.checked) false ⟨#[], #[.slice none 0 0, .slice none 0 0, .slice none 0 0], []⟩ 8 (by kernel_rfl) (by kernel_rfl) (by kernel_rfl) (by kernel_rfl)) ?_
  intro W base args ds gs before hval0 hW _ _
  obtain ⟨args⟩ := args
  have hval : ∀ (j : Nat) t v, Try.f3.params[j]? = some t → (Array.mk args)[j]? = some v → Value.okWide Try.prog W .any base t v := hval0
  have hW' := hW
  obtain ⟨p, q, hA0, hV, rfl, _, _⟩ := hW
  have hA : DataW.TrodAll enc Try.prog W 0 (fun _ => true) true Try.f3.params.toList args ds p := hA0
  rw [Try.params3] at hA hval
  obtain ⟨v0, vs0, d0, ds0, p0, q0, rfl, rfl, rfl, h0, hA⟩ := trodAll_cons hA
  obtain ⟨v1, vs1, d1, ds1, p1, q1, rfl, rfl, rfl, h1, hA⟩ := trodAll_cons hA
  obtain ⟨v2, vs2, d2, ds2, p2, q2, rfl, rfl, rfl, h2, hA⟩ := trodAll_cons hA
  obtain ⟨rfl, rfl, rfl⟩ := trodAll_nil hA
  obtain ⟨rfl, rfl⟩ := trodVars_none hV
  obtain ⟨a0, n0, c0, rfl⟩ := okWide_slice U_s_api_Agg (hval 0 T_s_api_Agg v0 rfl rfl)
  obtain ⟨fu0, hf0⟩ := h0
  obtain ⟨l0, hl0, hm0, hq0⟩ := open_rowP (α := D_api_Agg) (Q := ok_api_Agg W) U_s_api_Agg c_api_Agg (fun n cs y => dec_api_Agg n cs y) hf0
  obtain ⟨a1, n1, c1, rfl⟩ := okWide_slice U_s_api_Col (hval 1 T_s_api_Col v1 rfl rfl)
  obtain ⟨fu1, hf1⟩ := h1
  obtain ⟨l1, hl1, hm1, hq1⟩ := open_rowP (α := D_api_Col) (Q := ok_api_Col W) U_s_api_Col c_api_Col (fun n cs y => dec_api_Col n cs y) hf1
  obtain ⟨a2, n2, c2, rfl⟩ := okWide_slice U_s_s_api_Value (hval 2 T_s_s_api_Value v2 rfl rfl)
  obtain ⟨fu2, hf2⟩ := h2
  obtain ⟨l2, hl2, hm2, hq2⟩ := open_rowP (α := SV) (Q := ok_s_api_Value W) U_s_s_api_Value c_s_api_Value (fun n cs y => dec_s_api_Value n cs y) hf2
  have hc := erratalaw30_AggregateTypes.call (aggregateTypes_pt (W := W)  (K := fun v w' => v = .bool true ∧ Below W.heap.size W w') (lawB.row hl0) hm0 (lawB.row hl1) (lawB.row hl2) hq2 fun w' σ h => ⟨rfl, lawB.fin h⟩)
  have hty : ∀ t ∈ Try.f3.params.toList, Try.prog.readableRec t = true ∧ t < Try.prog.types.size := by
    have hall : (Try.f3.params.toList.all fun t => Try.prog.readableRec t && decide (t < Try.prog.types.size)) = true := by kernel_rfl
    intro t ht
    have := List.all_eq_true.1 hall t ht
    simpa using this
  refine hc.mono fun e W' he => ?_
  cases e with
  | returned v =>
    obtain ⟨rfl, hB⟩ := he
    exact ⟨_, rfl, law_post laidOut_ hW' rfl rfl rfl rfl (by kernel_rfl : Try.prog.underlying 4 = some .bool) hty hB⟩
  | panicked ch => exact he.elim
  | outgrown => exact he.elim

theorem aggregateTypes_holds : Rows.AggregateTypesSaid :=
  OpenClaim.holds_of_wide F_erratalaw30_AggregateTypes Try.f3 rfl rfl rfl rfl rfl rfl rfl ⟨rfl, rfl, rfl, rfl, rfl⟩ rfl rfl rfl rfl rfl (by kernel_rfl) Try.func3 (by kernel_rfl)
    (of_decide_eq_true (by kernel_rfl)) (by unfold Func.isWrapper; first | (rw [if_pos (by decide +kernel)]; kernel_rfl) | (rw [if_neg (by decide +kernel)]; exact ⟨rfl, rfl⟩))
    (fun os started H enc _ => aggregateTypes_lifted os started H enc)

end Go.Proofs.Ytoebncgnjbblgaa
