/-
  AggregateTells holds: for every list of aggregates, every two lists of changes, every string and every list of columns the law answers true. No condition. No condition.
-/
import Derived.Test.YtoebncgnjbblgaaGreatDoorArgs
import Derived.Test.YtoebncgnjbblgaaGreatDoorDoor
import Derived.Test.YtoebncgnjbblgaaGreatDoorAggTe
namespace Go.Proofs.YtoebncgnjbblgaaGreatDoor
open Go.ChangeShapes Go.WideShapes Go.ChangeAt Go.RowKit
set_option maxRecDepth 100000

theorem aggregateTells_contract (H : Type) (enc : TypeId × Value → H) (W : World) (base : Nat) (args : Array Value) (ds gs : List (DataW H)) (before : List MemPlace)
    (hval0 : ∀ (j : Nat) t v, Tryz.f4.params[j]? = some t → args[j]? = some v → Value.okWide Tryz.prog W .any base t v)
    (hW : DataW.Whole enc Tryz.prog Tryz.f4.params.toList Rows.aggregateTellsSpec.vars false W args.toList ds gs before) (hL : laidMetH Tryz.prog Rows.aggregateTellsRow.laid W) :
    Calls Tryz.prog F_erratalaw30_AggregateTells args W fun e W' => ∃ v, e = .returned v ∧ Rows.aggregateTellsSpec.post enc Tryz.prog Tryz.f4 false true false false W args v W' := by
  obtain ⟨args⟩ := args
  have hval : ∀ (j : Nat) t v, Tryz.f4.params[j]? = some t → (Array.mk args)[j]? = some v → Value.okWide Tryz.prog W .any base t v := hval0
  have hW' := hW
  obtain ⟨p, q, hA0, hV, rfl, _, _⟩ := hW
  have hA : DataW.TrodAll enc Tryz.prog W 0 (fun _ => true) true Tryz.f4.params.toList args ds p := hA0
  rw [Tryz.params4] at hA hval
  obtain ⟨v0, vs0, d0, ds0, p0, q0, rfl, rfl, rfl, h0, hA⟩ := trodAll_cons hA
  obtain ⟨v1, vs1, d1, ds1, p1, q1, rfl, rfl, rfl, h1, hA⟩ := trodAll_cons hA
  obtain ⟨v2, vs2, d2, ds2, p2, q2, rfl, rfl, rfl, h2, hA⟩ := trodAll_cons hA
  obtain ⟨v3, vs3, d3, ds3, p3, q3, rfl, rfl, rfl, h3, hA⟩ := trodAll_cons hA
  obtain ⟨v4, vs4, d4, ds4, p4, q4, rfl, rfl, rfl, h4, hA⟩ := trodAll_cons hA
  obtain ⟨rfl, rfl, rfl⟩ := trodAll_nil hA
  obtain ⟨rfl, rfl⟩ := trodVars_none hV
  obtain ⟨a0, n0, c0, rfl⟩ := okWide_slice U_s_api_Agg (hval 0 T_s_api_Agg v0 rfl rfl)
  obtain ⟨fu0, hf0⟩ := h0
  obtain ⟨l0, hl0, hm0, hq0⟩ := open_rowP (α := D_api_Agg) (Q := ok_api_Agg W) U_s_api_Agg c_api_Agg (fun n cs y => dec_api_Agg n cs y) hf0
  obtain ⟨a1, n1, c1, rfl⟩ := okWide_slice U_s_erratalaw30_Change (hval 1 T_s_erratalaw30_Change v1 rfl rfl)
  obtain ⟨fu1, hf1⟩ := h1
  obtain ⟨l1, hl1, hm1, hq1⟩ := open_rowP (α := D_erratalaw30_Change) (Q := ok_erratalaw30_Change W) U_s_erratalaw30_Change c_erratalaw30_Change (fun n cs y => dec_erratalaw30_Change n cs y) hf1
  obtain ⟨a2, n2, c2, rfl⟩ := okWide_slice U_s_erratalaw30_Change (hval 2 T_s_erratalaw30_Change v2 rfl rfl)
  obtain ⟨fu2, hf2⟩ := h2
  obtain ⟨l2, hl2, hm2, hq2⟩ := open_rowP (α := D_erratalaw30_Change) (Q := ok_erratalaw30_Change W) U_s_erratalaw30_Change c_erratalaw30_Change (fun n cs y => dec_erratalaw30_Change n cs y) hf2
  obtain ⟨x3, rfl, rfl, rfl, wx3⟩ := Go.ChangeMaps.open_string U_string (hval 3 T_string v3 rfl rfl) h3
  obtain ⟨a4, n4, c4, rfl⟩ := okWide_slice U_s_api_Col (hval 4 T_s_api_Col v4 rfl rfl)
  obtain ⟨fu4, hf4⟩ := h4
  obtain ⟨l4, hl4, hm4, hq4⟩ := open_rowP (α := D_api_Col) (Q := ok_api_Col W) U_s_api_Col c_api_Col (fun n cs y => dec_api_Col n cs y) hf4
  have hc := erratalaw30_AggregateTells.call (aggregateTells_pt (W := W) (s := x3) (K := fun v w' => v = .bool true ∧ Below W.heap.size W w') (laid_fact hL) (lawB.row hl0) hm0 (lawB.row hl1) hm1 hq1 (lawB.row hl2) hm2 hq2 (lawB.row hl4) hm4 fun w' σ h => ⟨rfl, lawB.fin h⟩)
  have hty : ∀ t ∈ Tryz.f4.params.toList, Tryz.prog.readableRec t = true ∧ t < Tryz.prog.types.size := by
    have hall : (Tryz.f4.params.toList.all fun t => Tryz.prog.readableRec t && decide (t < Tryz.prog.types.size)) = true := by kernel_rfl
    intro t ht
    have := List.all_eq_true.1 hall t ht
    simpa using this
  refine hc.mono fun e W' he => ?_
  cases e with
  | returned v =>
    obtain ⟨rfl, hB⟩ := he
    exact ⟨_, rfl, law_post laidOut_ hW' rfl rfl rfl rfl U_bool hty hB⟩
  | panicked ch => exact he.elim
  | outgrown => exact he.elim

theorem aggregateTells_laid_met (os : Os) : laidMet Tryz.prog Rows.aggregateTellsRow.laid ((laidWorld os).forCall (fun _ _ => 0) ⟨#[], #[.slice none 0 0, .slice none 0 0, .slice none 0 0, .string ⟨#[]⟩, .slice none 0 0], []⟩).memory :=
  laidMet_of_run' 8 (by kernel_rfl) (by kernel_rfl)
theorem aggregateTells_reads (os : Os) {H : Type} (enc : TypeId × Value → H) : ∃ places, DataW.whole enc Tryz.prog ((laidWorld os).forCall (fun _ _ => 0) ⟨#[], #[.slice none 0 0, .slice none 0 0, .slice none 0 0, .string ⟨#[]⟩, .slice none 0 0], []⟩).memory Tryz.f4.params.toList Rows.aggregateTellsSpec.vars false (#[.slice none 0 0, .slice none 0 0, .slice none 0 0, .string ⟨#[]⟩, .slice none 0 0] : Array Value).toList 8 = some ([.nil, .nil, .nil, .lit (.string []), .nil], [], places) :=
  ⟨[], by kernel_rfl⟩
set_option maxRecDepth 100000 in
theorem aggregateTells_lifted (os : Os) (started : os.Started) (H : Type) (enc : TypeId × Value → H) (F : Stop.Interp) :
    ReturnsInHanded {} Tryz.checked os F_erratalaw30_AggregateTells .any ((OpenSpec.ofChange Rows.aggregateTellsSpec).preRow enc Tryz.prog Tryz.f4 Rows.aggregateTellsRow.domain false Rows.aggregateTellsRow.laid) (((OpenSpec.ofChange Rows.aggregateTellsSpec).at F).post enc Tryz.prog Tryz.f4 false true false false) := by
  obtain ⟨places, hx⟩ := aggregateTells_reads os enc
  refine returnsInHanded_of_row (C := Tryz.checked) (s := OpenSpec.ofChange Rows.aggregateTellsSpec) own_ started (by kernel_rfl) Tryz.func4
    (witness_row_at (enc := enc) (C := Tryz.checked) false (laidWorld os) #[.slice none 0 0, .slice none 0 0, .slice none 0 0, .string ⟨#[]⟩, .slice none 0 0] rfl (by kernel_rfl) (by kernel_rfl) (by kernel_rfl)
      (OpenSpec.preRow_of_cond 8 hx (by kernel_rfl) (fun k hk => by cases hk) (by kernel_rfl) (aggregateTells_laid_met os))) ?_
  intro W base args ds gs before hval hW _ _ _ hL _ _
  exact aggregateTells_contract H enc W base args ds gs before hval hW hL

theorem aggregateTells_said : Rows.AggregateTellsSaid :=
  OpenClaim.holds_of_cond F_erratalaw30_AggregateTells Tryz.f4 rfl rfl rfl rfl rfl rfl rfl ⟨rfl, rfl, rfl, rfl, rfl⟩ rfl rfl rfl rfl rfl (by kernel_rfl) Tryz.func4 (by kernel_rfl)
    (of_decide_eq_true (by kernel_rfl)) (by unfold Func.isWrapper; first | (rw [if_pos (by decide +kernel)]; kernel_rfl) | (rw [if_neg (by decide +kernel)]; exact ⟨rfl, rfl⟩))
    (fun os started H enc _ F => by rw [OpenClaim.pre_eq_preRow]; exact aggregateTells_lifted os started H enc F)

theorem aggregateTells_plain (f : FuncId) (fn : Func) (hf : Tryz.pinned.checked.prog.funcNamed Rows.aggregateTellsRow.func = some f) (hfn : Tryz.pinned.checked.prog.funcs[f]? = some fn) :
    true = Tryz.pinned.checked.prog.looks [] ∧ ∀ (j : Nat) t, fn.params[j]? = some t → Tryz.pinned.checked.prog.wantsStandIn t = false := by
  obtain rfl : f = F_erratalaw30_AggregateTells := Option.some.inj ((show Tryz.prog.funcNamed Rows.aggregateTellsRow.func = some F_erratalaw30_AggregateTells by kernel_rfl).symm.trans hf) |>.symm
  obtain rfl : fn = Tryz.f4 := (Option.some.inj (Tryz.func4.symm.trans hfn)).symm
  refine ⟨by kernel_rfl, fun j t ht => ?_⟩
  rw [Tryz.params4] at ht
  have hall : ((#[T_s_api_Agg, T_s_erratalaw30_Change, T_s_erratalaw30_Change, T_string, T_s_api_Col] : Array TypeId).toList.all fun t => !Tryz.prog.wantsStandIn t) = true := by kernel_rfl
  have := List.all_eq_true.1 hall t (Array.mem_toList_iff.2 (Array.mem_of_getElem? ht))
  show Tryz.prog.wantsStandIn t = false
  simpa using this

theorem aggregateTellsCard_holds : Rows.AggregateTellsCardSaid :=
  Claim7.holds_tied_plain_at .later [] _ _ _ _ aggregateTells_said (fun _ h => by cases h) (by kernel_rfl) (fun _ h => by cases h) aggregateTells_row_tie rfl ⟨rfl, rfl⟩ (by kernel_rfl) rfl aggregateTells_plain (by kernel_rfl)

end Go.Proofs.YtoebncgnjbblgaaGreatDoor
