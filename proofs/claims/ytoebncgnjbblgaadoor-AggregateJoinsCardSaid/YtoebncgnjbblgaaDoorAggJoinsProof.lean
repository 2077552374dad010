/-
  AggregateJoins holds: for every list of aggregates, every list of changes and every way to deal them the law answers true. No condition.
-/
import Derived.Test.YtoebncgnjbblgaaDoorArgs
import Derived.Test.YtoebncgnjbblgaaDoorDoor
import Derived.Test.YtoebncgnjbblgaaDoorAggJ
namespace Go.Proofs.YtoebncgnjbblgaaDoor
open Go.ChangeShapes Go.WideShapes Go.ChangeAt Go.RowKit
set_option maxRecDepth 100000

theorem aggregateJoins_contract (H : Type) (enc : TypeId × Value → H) (W : World) (base : Nat) (args : Array Value) (ds gs : List (DataW H)) (before : List MemPlace)
    (hval0 : ∀ (j : Nat) t v, Tryd.f4.params[j]? = some t → args[j]? = some v → Value.okWide Tryd.prog W .any base t v)
    (hW : DataW.Whole enc Tryd.prog Tryd.f4.params.toList Rows.aggregateJoinsSpec.vars false W args.toList ds gs before) (hL : laidMetH Tryd.prog Rows.aggregateJoinsRow.laid W) :
    Calls Tryd.prog F_erratalaw30_AggregateJoins args W fun e W' => ∃ v, e = .returned v ∧ Rows.aggregateJoinsSpec.post enc Tryd.prog Tryd.f4 false true false false W args v W' := by
  obtain ⟨args⟩ := args
  have hval : ∀ (j : Nat) t v, Tryd.f4.params[j]? = some t → (Array.mk args)[j]? = some v → Value.okWide Tryd.prog W .any base t v := hval0
  have hW' := hW
  obtain ⟨p, q, hA0, hV, rfl, _, _⟩ := hW
  have hA : DataW.TrodAll enc Tryd.prog W 0 (fun _ => true) true Tryd.f4.params.toList args ds p := hA0
  rw [Tryd.params4] at hA hval
  obtain ⟨v0, vs0, d0, ds0, p0, q0, rfl, rfl, rfl, h0, hA⟩ := trodAll_cons hA
  obtain ⟨v1, vs1, d1, ds1, p1, q1, rfl, rfl, rfl, h1, hA⟩ := trodAll_cons hA
  obtain ⟨v2, vs2, d2, ds2, p2, q2, rfl, rfl, rfl, h2, hA⟩ := trodAll_cons hA
  obtain ⟨rfl, rfl, rfl⟩ := trodAll_nil hA
  obtain ⟨rfl, rfl⟩ := trodVars_none hV
  obtain ⟨a0, n0, c0, rfl⟩ := okWide_slice U_s_api_Agg (hval 0 T_s_api_Agg v0 rfl rfl)
  obtain ⟨fu0, hf0⟩ := h0
  obtain ⟨l0, hl0, hm0, hq0⟩ := open_rowP (α := D_api_Agg) (Q := ok_api_Agg W) U_s_api_Agg c_api_Agg (fun n cs y => dec_api_Agg n cs y) hf0
  obtain ⟨a1, n1, c1, rfl⟩ := okWide_slice U_s_erratalaw30_Change (hval 1 T_s_erratalaw30_Change v1 rfl rfl)
  obtain ⟨fu1, hf1⟩ := h1
  obtain ⟨l1, hl1, hm1, hq1⟩ := open_rowP (α := D_erratalaw30_Change) (Q := ok_erratalaw30_Change W) U_s_erratalaw30_Change c_erratalaw30_Change (fun n cs y => dec_erratalaw30_Change n cs y) hf1
  obtain ⟨a2, n2, c2, rfl⟩ := okWide_slice U_s_bool (hval 2 T_s_bool v2 rfl rfl)
  obtain ⟨fu2, hf2⟩ := h2
  obtain ⟨l2, hl2, hm2, hq2⟩ := open_rowP (α := Bool) (Q := okBool W) U_s_bool cB (fun n cs y => dec_bool n cs y) hf2
  have hc := erratalaw30_AggregateJoins.call (aggregateJoins_pt (W := W)  (K := fun v w' => v = .bool true ∧ Below W.heap.size W w') (laid_fact hL) (lawB.row hl0) hm0 (lawB.row hl1) hm1 hq1 (lawB.row hl2) fun w' σ h => ⟨rfl, lawB.fin h⟩)
  have hty : ∀ t ∈ Tryd.f4.params.toList, Tryd.prog.readableRec t = true ∧ t < Tryd.prog.types.size := by
    have hall : (Tryd.f4.params.toList.all fun t => Tryd.prog.readableRec t && decide (t < Tryd.prog.types.size)) = true := by kernel_rfl
    intro t ht
    have := List.all_eq_true.1 hall t ht
    simpa using this
  refine hc.mono fun e W' he => ?_
  cases e with
  | returned v =>
    obtain ⟨rfl, hB⟩ := he
    exact ⟨_, rfl, law_post laidOut_ hW' rfl rfl rfl rfl U_bool hty hB⟩
  | panicked ch => exact he.elim
  | outgrown => exact he.elim

theorem aggregateJoins_laid_met (os : Os) : laidMet Tryd.prog Rows.aggregateJoinsRow.laid ((laidWorld os).forCall (fun _ _ => 0) ⟨#[], #[.slice none 0 0, .slice none 0 0, .slice none 0 0], []⟩).memory :=
  laidMet_of_run' 8 (by kernel_rfl) (by kernel_rfl)
theorem aggregateJoins_reads (os : Os) {H : Type} (enc : TypeId × Value → H) : ∃ places, DataW.whole enc Tryd.prog ((laidWorld os).forCall (fun _ _ => 0) ⟨#[], #[.slice none 0 0, .slice none 0 0, .slice none 0 0], []⟩).memory Tryd.f4.params.toList Rows.aggregateJoinsSpec.vars false (#[.slice none 0 0, .slice none 0 0, .slice none 0 0] : Array Value).toList 8 = some ([.nil, .nil, .nil], [], places) :=
  ⟨[], by kernel_rfl⟩
set_option maxRecDepth 100000 in
theorem aggregateJoins_lifted (os : Os) (started : os.Started) (H : Type) (enc : TypeId × Value → H) (F : Stop.Interp) :
    ReturnsInHanded {} Tryd.checked os F_erratalaw30_AggregateJoins .any ((OpenSpec.ofChange Rows.aggregateJoinsSpec).preRow enc Tryd.prog Tryd.f4 Rows.aggregateJoinsRow.domain false Rows.aggregateJoinsRow.laid) (((OpenSpec.ofChange Rows.aggregateJoinsSpec).at F).post enc Tryd.prog Tryd.f4 false true false false) := by
  obtain ⟨places, hx⟩ := aggregateJoins_reads os enc
  refine returnsInHanded_of_row (C := Tryd.checked) (s := OpenSpec.ofChange Rows.aggregateJoinsSpec) own_ started (by kernel_rfl) Tryd.func4
    (witness_row_at (enc := enc) (C := Tryd.checked) false (laidWorld os) #[.slice none 0 0, .slice none 0 0, .slice none 0 0] rfl (by kernel_rfl) (by kernel_rfl) (by kernel_rfl)
      (OpenSpec.preRow_of_cond 8 hx (by kernel_rfl) (fun k hk => by cases hk) (by kernel_rfl) (aggregateJoins_laid_met os))) ?_
  intro W base args ds gs before hval hW _ _ _ hL _ _
  exact aggregateJoins_contract H enc W base args ds gs before hval hW hL

theorem aggregateJoins_said : Rows.AggregateJoinsSaid :=
  OpenClaim.holds_of_cond F_erratalaw30_AggregateJoins Tryd.f4 rfl rfl rfl rfl rfl rfl rfl ⟨rfl, rfl, rfl, rfl, rfl⟩ rfl rfl rfl rfl rfl (by kernel_rfl) Tryd.func4 (by kernel_rfl)
    (of_decide_eq_true (by kernel_rfl)) (by unfold Func.isWrapper; first | (rw [if_pos (by decide +kernel)]; kernel_rfl) | (rw [if_neg (by decide +kernel)]; exact ⟨rfl, rfl⟩))
    (fun os started H enc _ F => by rw [OpenClaim.pre_eq_preRow]; exact aggregateJoins_lifted os started H enc F)

theorem aggregateJoins_plain (f : FuncId) (fn : Func) (hf : Tryd.pinned.checked.prog.funcNamed Rows.aggregateJoinsRow.func = some f) (hfn : Tryd.pinned.checked.prog.funcs[f]? = some fn) :
    true = Tryd.pinned.checked.prog.looks [] ∧ ∀ (j : Nat) t, fn.params[j]? = some t → Tryd.pinned.checked.prog.wantsStandIn t = false := by
  obtain rfl : f = F_erratalaw30_AggregateJoins := Option.some.inj ((show Tryd.prog.funcNamed Rows.aggregateJoinsRow.func = some F_erratalaw30_AggregateJoins by kernel_rfl).symm.trans hf) |>.symm
  obtain rfl : fn = Tryd.f4 := (Option.some.inj (Tryd.func4.symm.trans hfn)).symm
  refine ⟨by kernel_rfl, fun j t ht => ?_⟩
  rw [Tryd.params4] at ht
  have hall : ((#[T_s_api_Agg, T_s_erratalaw30_Change, T_s_bool] : Array TypeId).toList.all fun t => !Tryd.prog.wantsStandIn t) = true := by kernel_rfl
  have := List.all_eq_true.1 hall t (Array.mem_toList_iff.2 (Array.mem_of_getElem? ht))
  show Tryd.prog.wantsStandIn t = false
  simpa using this

theorem aggregateJoinsCard_holds : Rows.AggregateJoinsCardSaid :=
  Claim7.holds_tied_plain_at .later [] _ _ _ _ aggregateJoins_said (fun _ h => by cases h) (by kernel_rfl) (fun _ h => by cases h) aggregateJoins_row_tie rfl ⟨rfl, rfl⟩ (by kernel_rfl) rfl aggregateJoins_plain (by kernel_rfl)

end Go.Proofs.YtoebncgnjbblgaaDoor
