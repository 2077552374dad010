/-
  ValueMakes holds: for all ints, strings and rows the law answers true. No condition.
-/
import Derived.Test.YtifhbaphlmhoeaaDoorArgs
import Derived.Test.YtifhbaphlmhoeaaDoorDoor
import Derived.Test.YtifhbaphlmhoeaaDoorVaD
namespace Go.Proofs.YtifhbaphlmhoeaaDoor
open Go.ChangeShapes Go.WideShapes Go.ChangeAt Go.RowKit
set_option maxRecDepth 100000

theorem valueMakes_contract (H : Type) (enc : TypeId × Value → H) (W : World) (base : Nat) (args : Array Value) (ds gs : List (DataW H)) (before : List MemPlace)
    (hval0 : ∀ (j : Nat) t v, Tryd.f5.params[j]? = some t → args[j]? = some v → Value.okWide Tryd.prog W .any base t v)
    (hW : DataW.Whole enc Tryd.prog Tryd.f5.params.toList Rows.valueMakesSpec.vars false W args.toList ds gs before) (hL : laidMetH Tryd.prog Rows.valueMakesRow.laid W) :
    Calls Tryd.prog F_erratalaw03_ValueMakes args W fun e W' => ∃ v, e = .returned v ∧ Rows.valueMakesSpec.post enc Tryd.prog Tryd.f5 false true false false W args v W' := by
  obtain ⟨args⟩ := args
  have hval : ∀ (j : Nat) t v, Tryd.f5.params[j]? = some t → (Array.mk args)[j]? = some v → Value.okWide Tryd.prog W .any base t v := hval0
  have hW' := hW
  obtain ⟨p, q, hA0, hV, rfl, _, _⟩ := hW
  have hA : DataW.TrodAll enc Tryd.prog W 0 (fun _ => true) true Tryd.f5.params.toList args ds p := hA0
  rw [Tryd.params5] at hA hval
  obtain ⟨v0, vs0, d0, ds0, p0, q0, rfl, rfl, rfl, h0, hA⟩ := trodAll_cons hA
  obtain ⟨v1, vs1, d1, ds1, p1, q1, rfl, rfl, rfl, h1, hA⟩ := trodAll_cons hA
  obtain ⟨v2, vs2, d2, ds2, p2, q2, rfl, rfl, rfl, h2, hA⟩ := trodAll_cons hA
  obtain ⟨v3, vs3, d3, ds3, p3, q3, rfl, rfl, rfl, h3, hA⟩ := trodAll_cons hA
  obtain ⟨v4, vs4, d4, ds4, p4, q4, rfl, rfl, rfl, h4, hA⟩ := trodAll_cons hA
  obtain ⟨rfl, rfl, rfl⟩ := trodAll_nil hA
  obtain ⟨rfl, rfl⟩ := trodVars_none hV
  have u0 : Tryd.prog.underlying T_int = some (.int .i64) := by kernel_rfl
  obtain ⟨x0, rfl, rfl, rfl, wx0⟩ := open_int u0 (hval 0 T_int v0 rfl rfl) h0
  have u1 : Tryd.prog.underlying T_int = some (.int .i64) := by kernel_rfl
  obtain ⟨x1, rfl, rfl, rfl, wx1⟩ := open_int u1 (hval 1 T_int v1 rfl rfl) h1
  obtain ⟨x2, rfl, rfl, rfl, wx2⟩ := Go.ChangeMaps.open_string U_string (hval 2 T_string v2 rfl rfl) h2
  obtain ⟨x3, rfl, rfl, rfl, wx3⟩ := Go.ChangeMaps.open_string U_string (hval 3 T_string v3 rfl rfl) h3
  obtain ⟨a4, n4, c4, rfl⟩ := okWide_slice U_s_api_Value (hval 4 T_s_api_Value v4 rfl rfl)
  obtain ⟨fu4, hf4⟩ := h4
  obtain ⟨l4, hl4, hm4, hq4⟩ := open_rowP (α := D_api_Value) (Q := ok_api_Value W) U_s_api_Value c_api_Value (fun n cs y => dec_api_Value n cs y) hf4
  have hc := erratalaw03_ValueMakes.call (valueMakes_pt (W := W) (a := x0) (b := x1) (s := x2) (t := x3) (K := fun v w' => v = .bool true ∧ Below W.heap.size W w') (laid_fact hL) (int_range wx0) (int_range wx1) wx2 wx3 (lawB.row hl4) hm4 hq4 fun w' σ h => ⟨rfl, lawB.fin h⟩)
  have hty : ∀ t ∈ Tryd.f5.params.toList, Tryd.prog.readableRec t = true ∧ t < Tryd.prog.types.size := by
    have hall : (Tryd.f5.params.toList.all fun t => Tryd.prog.readableRec t && decide (t < Tryd.prog.types.size)) = true := by kernel_rfl
    intro t ht
    have := List.all_eq_true.1 hall t ht
    simpa using this
  refine hc.mono fun e W' he => ?_
  cases e with
  | returned v =>
    obtain ⟨rfl, hB⟩ := he
    exact ⟨_, rfl, law_post laidOut_ hW' rfl rfl rfl rfl U_bool hty hB⟩
  | panicked ch => exact he.elim
  | outgrown => exact he.elim

theorem valueMakes_laid_met (os : Os) : laidMet Tryd.prog Rows.valueMakesRow.laid ((laidWorld os).forCall (fun _ _ => 0) ⟨#[], #[.int .i64 0, .int .i64 0, .string ⟨#[]⟩, .string ⟨#[]⟩, .slice none 0 0], []⟩).memory :=
  laidMet_of_run' 8 (by kernel_rfl) (by kernel_rfl)
theorem valueMakes_reads (os : Os) {H : Type} (enc : TypeId × Value → H) : ∃ places, DataW.whole enc Tryd.prog ((laidWorld os).forCall (fun _ _ => 0) ⟨#[], #[.int .i64 0, .int .i64 0, .string ⟨#[]⟩, .string ⟨#[]⟩, .slice none 0 0], []⟩).memory Tryd.f5.params.toList Rows.valueMakesSpec.vars false (#[.int .i64 0, .int .i64 0, .string ⟨#[]⟩, .string ⟨#[]⟩, .slice none 0 0] : Array Value).toList 8 = some ([.lit (.int .i64 0), .lit (.int .i64 0), .lit (.string []), .lit (.string []), .nil], [], places) :=
  ⟨[], by kernel_rfl⟩
set_option maxRecDepth 100000 in
theorem valueMakes_lifted (os : Os) (started : os.Started) (H : Type) (enc : TypeId × Value → H) (F : Stop.Interp) :
    ReturnsInHanded {} Tryd.checked os F_erratalaw03_ValueMakes .any ((OpenSpec.ofChange Rows.valueMakesSpec).preRow enc Tryd.prog Tryd.f5 Rows.valueMakesRow.domain false Rows.valueMakesRow.laid) (((OpenSpec.ofChange Rows.valueMakesSpec).at F).post enc Tryd.prog Tryd.f5 false true false false) := by
  obtain ⟨places, hx⟩ := valueMakes_reads os enc
  refine returnsInHanded_of_row (C := Tryd.checked) (s := OpenSpec.ofChange Rows.valueMakesSpec) own_ started (by kernel_rfl) Tryd.func5
    (witness_row_at (enc := enc) (C := Tryd.checked) false (laidWorld os) #[.int .i64 0, .int .i64 0, .string ⟨#[]⟩, .string ⟨#[]⟩, .slice none 0 0] rfl (by kernel_rfl) (by kernel_rfl) (by kernel_rfl)
      (OpenSpec.preRow_of_cond 8 hx (by kernel_rfl) (fun k hk => by cases hk) (by kernel_rfl) (valueMakes_laid_met os))) ?_
  intro W base args ds gs before hval hW _ _ _ hL _ _
  exact valueMakes_contract H enc W base args ds gs before hval hW hL

theorem valueMakes_said : Rows.ValueMakesSaid :=
  OpenClaim.holds_of_cond F_erratalaw03_ValueMakes Tryd.f5 rfl rfl rfl rfl rfl rfl rfl ⟨rfl, rfl, rfl, rfl, rfl⟩ rfl rfl rfl rfl rfl (by kernel_rfl) Tryd.func5 (by kernel_rfl)
    (of_decide_eq_true (by kernel_rfl)) (by unfold Func.isWrapper; first | (rw [if_pos (by decide +kernel)]; kernel_rfl) | (rw [if_neg (by decide +kernel)]; exact ⟨rfl, rfl⟩))
    (fun os started H enc _ F => by rw [OpenClaim.pre_eq_preRow]; exact valueMakes_lifted os started H enc F)

theorem valueMakes_plain (f : FuncId) (fn : Func) (hf : Tryd.pinned.checked.prog.funcNamed Rows.valueMakesRow.func = some f) (hfn : Tryd.pinned.checked.prog.funcs[f]? = some fn) :
    true = Tryd.pinned.checked.prog.looks [] ∧ ∀ (j : Nat) t, fn.params[j]? = some t → Tryd.pinned.checked.prog.wantsStandIn t = false := by
  obtain rfl : f = F_erratalaw03_ValueMakes := Option.some.inj ((show Tryd.prog.funcNamed Rows.valueMakesRow.func = some F_erratalaw03_ValueMakes by kernel_rfl).symm.trans hf) |>.symm
  obtain rfl : fn = Tryd.f5 := (Option.some.inj (Tryd.func5.symm.trans hfn)).symm
  refine ⟨by kernel_rfl, fun j t ht => ?_⟩
  rw [Tryd.params5] at ht
  have hall : ((#[T_int, T_int, T_string, T_string, T_s_api_Value] : Array TypeId).toList.all fun t => !Tryd.prog.wantsStandIn t) = true := by kernel_rfl
  have := List.all_eq_true.1 hall t (Array.mem_toList_iff.2 (Array.mem_of_getElem? ht))
  show Tryd.prog.wantsStandIn t = false
  simpa using this

theorem valueMakesCard_holds : Rows.ValueMakesCardSaid :=
  Claim7.holds_tied_plain_at .later [] _ _ _ _ valueMakes_said (fun _ h => by cases h) (by kernel_rfl) (fun _ h => by cases h) valueMakes_row_tie rfl ⟨rfl, rfl⟩ (by kernel_rfl) rfl valueMakes_plain (by kernel_rfl)

end Go.Proofs.YtifhbaphlmhoeaaDoor
