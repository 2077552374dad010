/-
  ValueShows holds: for every row and string the law answers true. No condition.
-/
import Derived.Test.YtifhbaphlmhoeaaDoorArgs
import Derived.Test.YtifhbaphlmhoeaaDoorDoor
import Derived.Test.YtifhbaphlmhoeaaDoorVaC
namespace Go.Proofs.YtifhbaphlmhoeaaDoor
open Go.ChangeShapes Go.WideShapes Go.ChangeAt Go.RowKit
set_option maxRecDepth 100000

theorem valueShows_contract (H : Type) (enc : TypeId × Value → H) (W : World) (base : Nat) (args : Array Value) (ds gs : List (DataW H)) (before : List MemPlace)
    (hval0 : ∀ (j : Nat) t v, Tryd.f3.params[j]? = some t → args[j]? = some v → Value.okWide Tryd.prog W .any base t v)
    (hW : DataW.Whole enc Tryd.prog Tryd.f3.params.toList Rows.valueShowsSpec.vars false W args.toList ds gs before) (hL : laidMetH Tryd.prog Rows.valueShowsRow.laid W) :
    Calls Tryd.prog F_erratalaw03_ValueShows args W fun e W' => ∃ v, e = .returned v ∧ Rows.valueShowsSpec.post enc Tryd.prog Tryd.f3 false true false false W args v W' := by
  obtain ⟨args⟩ := args
  have hval : ∀ (j : Nat) t v, Tryd.f3.params[j]? = some t → (Array.mk args)[j]? = some v → Value.okWide Tryd.prog W .any base t v := hval0
  have hW' := hW
  obtain ⟨p, q, hA0, hV, rfl, _, _⟩ := hW
  have hA : DataW.TrodAll enc Tryd.prog W 0 (fun _ => true) true Tryd.f3.params.toList args ds p := hA0
  rw [Tryd.params3] at hA hval
  obtain ⟨v0, vs0, d0, ds0, p0, q0, rfl, rfl, rfl, h0, hA⟩ := trodAll_cons hA
  obtain ⟨v1, vs1, d1, ds1, p1, q1, rfl, rfl, rfl, h1, hA⟩ := trodAll_cons hA
  obtain ⟨rfl, rfl, rfl⟩ := trodAll_nil hA
  obtain ⟨rfl, rfl⟩ := trodVars_none hV
  obtain ⟨a0, n0, c0, rfl⟩ := okWide_slice U_s_api_Value (hval 0 T_s_api_Value v0 rfl rfl)
  obtain ⟨fu0, hf0⟩ := h0
  obtain ⟨l0, hl0, hm0, hq0⟩ := open_rowP (α := D_api_Value) (Q := ok_api_Value W) U_s_api_Value c_api_Value (fun n cs y => dec_api_Value n cs y) hf0
  obtain ⟨x1, rfl, rfl, rfl, wx1⟩ := Go.ChangeMaps.open_string U_string (hval 1 T_string v1 rfl rfl) h1
  have hc := erratalaw03_ValueShows.call (valueShows_pt (W := W) (s1 := x1) (K := fun v w' => v = .bool true ∧ Below W.heap.size W w') (laid_fact hL) (lawB.row hl0) hm0 hq0 wx1 fun w' σ h => ⟨rfl, lawB.fin h⟩)
  have hty : ∀ t ∈ Tryd.f3.params.toList, Tryd.prog.readableRec t = true ∧ t < Tryd.prog.types.size := by
    have hall : (Tryd.f3.params.toList.all fun t => Tryd.prog.readableRec t && decide (t < Tryd.prog.types.size)) = true := by kernel_rfl
    intro t ht
    have := List.all_eq_true.1 hall t ht
    simpa using this
  refine hc.mono fun e W' he => ?_
  cases e with
  | returned v =>
    obtain ⟨rfl, hB⟩ := he
    exact ⟨_, rfl, law_post laidOut_ hW' rfl rfl rfl rfl U_bool hty hB⟩
  | panicked ch => exact he.elim
  | outgrown => exact he.elim

theorem valueShows_laid_met (os : Os) : laidMet Tryd.prog Rows.valueShowsRow.laid ((laidWorld os).forCall (fun _ _ => 0) ⟨#[], #[.slice none 0 0, .string ⟨#[]⟩], []⟩).memory :=
  laidMet_of_run' 8 (by kernel_rfl) (by kernel_rfl)
theorem valueShows_reads (os : Os) {H : Type} (enc : TypeId × Value → H) : ∃ places, DataW.whole enc Tryd.prog ((laidWorld os).forCall (fun _ _ => 0) ⟨#[], #[.slice none 0 0, .string ⟨#[]⟩], []⟩).memory Tryd.f3.params.toList Rows.valueShowsSpec.vars false (#[.slice none 0 0, .string ⟨#[]⟩] : Array Value).toList 8 = some ([.nil, .lit (.string [])], [], places) :=
  ⟨[], by kernel_rfl⟩
set_option maxRecDepth 100000 in
theorem valueShows_lifted (os : Os) (started : os.Started) (H : Type) (enc : TypeId × Value → H) (F : Stop.Interp) :
    ReturnsInHanded {} Tryd.checked os F_erratalaw03_ValueShows .any ((OpenSpec.ofChange Rows.valueShowsSpec).preRow enc Tryd.prog Tryd.f3 Rows.valueShowsRow.domain false Rows.valueShowsRow.laid) (((OpenSpec.ofChange Rows.valueShowsSpec).at F).post enc Tryd.prog Tryd.f3 false true false false) := by
  obtain ⟨places, hx⟩ := valueShows_reads os enc
  refine returnsInHanded_of_row (C := Tryd.checked) (s := OpenSpec.ofChange Rows.valueShowsSpec) own_ started (by kernel_rfl) Tryd.func3
    (witness_row_at (enc := enc) (C := Tryd.checked) false (laidWorld os) #[.slice none 0 0, .string ⟨#[]⟩] rfl (by kernel_rfl) (by kernel_rfl) (by kernel_rfl)
      (OpenSpec.preRow_of_cond 8 hx (by kernel_rfl) (fun k hk => by cases hk) (by kernel_rfl) (valueShows_laid_met os))) ?_
  intro W base args ds gs before hval hW _ _ _ hL _ _
  exact valueShows_contract H enc W base args ds gs before hval hW hL

theorem valueShows_said : Rows.ValueShowsSaid :=
  OpenClaim.holds_of_cond F_erratalaw03_ValueShows Tryd.f3 rfl rfl rfl rfl rfl rfl rfl ⟨rfl, rfl, rfl, rfl, rfl⟩ rfl rfl rfl rfl rfl (by kernel_rfl) Tryd.func3 (by kernel_rfl)
    (of_decide_eq_true (by kernel_rfl)) (by unfold Func.isWrapper; first | (rw [if_pos (by decide +kernel)]; kernel_rfl) | (rw [if_neg (by decide +kernel)]; exact ⟨rfl, rfl⟩))
    (fun os started H enc _ F => by rw [OpenClaim.pre_eq_preRow]; exact valueShows_lifted os started H enc F)

theorem valueShows_plain (f : FuncId) (fn : Func) (hf : Tryd.pinned.checked.prog.funcNamed Rows.valueShowsRow.func = some f) (hfn : Tryd.pinned.checked.prog.funcs[f]? = some fn) :
    true = Tryd.pinned.checked.prog.looks [] ∧ ∀ (j : Nat) t, fn.params[j]? = some t → Tryd.pinned.checked.prog.wantsStandIn t = false := by
  obtain rfl : f = F_erratalaw03_ValueShows := Option.some.inj ((show Tryd.prog.funcNamed Rows.valueShowsRow.func = some F_erratalaw03_ValueShows by kernel_rfl).symm.trans hf) |>.symm
  obtain rfl : fn = Tryd.f3 := (Option.some.inj (Tryd.func3.symm.trans hfn)).symm
  refine ⟨by kernel_rfl, fun j t ht => ?_⟩
  rw [Tryd.params3] at ht
  have hall : ((#[T_s_api_Value, T_string] : Array TypeId).toList.all fun t => !Tryd.prog.wantsStandIn t) = true := by kernel_rfl
  have := List.all_eq_true.1 hall t (Array.mem_toList_iff.2 (Array.mem_of_getElem? ht))
  show Tryd.prog.wantsStandIn t = false
  simpa using this

theorem valueShowsCard_holds : Rows.ValueShowsCardSaid :=
  Claim7.holds_tied_plain_at .later [] _ _ _ _ valueShows_said (fun _ h => by cases h) (by kernel_rfl) (fun _ h => by cases h) valueShows_row_tie rfl ⟨rfl, rfl⟩ (by kernel_rfl) rfl valueShows_plain (by kernel_rfl)

end Go.Proofs.YtifhbaphlmhoeaaDoor
