/-
  IntakeTells holds: for all configurations and entries the law answers true. No condition.
-/
import Derived.Test.YtefinemhfgdpdaaGreatDoorArgs
import Derived.Test.YtefinemhfgdpdaaGreatDoorDoor
import Derived.Test.YtefinemhfgdpdaaGreatDoorIntTe
namespace Go.Proofs.YtefinemhfgdpdaaGreatDoor
open Go.ChangeShapes Go.WideShapes Go.ChangeAt Go.RowKit
set_option maxRecDepth 100000

theorem intakeTells_contract (H : Type) (enc : TypeId × Value → H) (W : World) (base : Nat) (args : Array Value) (ds gs : List (DataW H)) (before : List MemPlace)
    (hval0 : ∀ (j : Nat) t v, Tryz.f3.params[j]? = some t → args[j]? = some v → Value.okWide Tryz.prog W .any base t v)
    (hW : DataW.Whole enc Tryz.prog Tryz.f3.params.toList Rows.intakeTellsSpec.vars false W args.toList ds gs before) (hL : laidMetH Tryz.prog Rows.intakeTellsRow.laid W) :
    Calls Tryz.prog F_erratalaw11_IntakeTells args W fun e W' => ∃ v, e = .returned v ∧ Rows.intakeTellsSpec.post enc Tryz.prog Tryz.f3 false true false false W args v W' := by
  obtain ⟨args⟩ := args
  have hval : ∀ (j : Nat) t v, Tryz.f3.params[j]? = some t → (Array.mk args)[j]? = some v → Value.okWide Tryz.prog W .any base t v := hval0
  have hW' := hW
  obtain ⟨p, q, hA0, hV, rfl, _, _⟩ := hW
  have hA : DataW.TrodAll enc Tryz.prog W 0 (fun _ => true) true Tryz.f3.params.toList args ds p := hA0
  rw [Tryz.params3] at hA hval
  obtain ⟨v0, vs0, d0, ds0, p0, q0, rfl, rfl, rfl, h0, hA⟩ := trodAll_cons hA
  obtain ⟨v1, vs1, d1, ds1, p1, q1, rfl, rfl, rfl, h1, hA⟩ := trodAll_cons hA
  obtain ⟨rfl, rfl, rfl⟩ := trodAll_nil hA
  obtain ⟨rfl, rfl⟩ := trodVars_none hV
  obtain ⟨c0, rfl, z0⟩ := okWide_struct fs_api_Config (hval 0 T_api_Config v0 rfl rfl)
  obtain ⟨fu0, hf0⟩ := h0
  obtain ⟨x0, hx0, hq0⟩ := dec_api_Config _ _ _ hf0
  have hx0 : c0.toList = Enc.cells x0 := hx0
  obtain rfl : c0 = (Enc.cells x0).toArray := by rw [← hx0]
  obtain ⟨a1, n1, c1, rfl⟩ := okWide_slice U_s_api_Entry (hval 1 T_s_api_Entry v1 rfl rfl)
  obtain ⟨fu1, hf1⟩ := h1
  obtain ⟨l1, hl1, hm1, hq1⟩ := open_rowP (α := D_api_Entry) (Q := ok_api_Entry W) U_s_api_Entry c_api_Entry (fun n cs y => dec_api_Entry n cs y) hf1
  have hc := erratalaw11_IntakeTells.call (intakeTells_pt (W := W) (c := x0) (K := fun v w' => v = .bool true ∧ Below W.heap.size W w') (laid_pow hL) (lawB.row hl1) hm1 hq1 fun w' σ h => ⟨rfl, lawB.fin h⟩)
  have hty : ∀ t ∈ Tryz.f3.params.toList, Tryz.prog.readableRec t = true ∧ t < Tryz.prog.types.size := by
    have hall : (Tryz.f3.params.toList.all fun t => Tryz.prog.readableRec t && decide (t < Tryz.prog.types.size)) = true := by kernel_rfl
    intro t ht
    have := List.all_eq_true.1 hall t ht
    simpa using this
  refine hc.mono fun e W' he => ?_
  cases e with
  | returned v =>
    obtain ⟨rfl, hB⟩ := he
    exact ⟨_, rfl, law_post laidOut_ hW' rfl rfl rfl rfl U_bool hty hB⟩
  | panicked ch => exact he.elim
  | outgrown => exact he.elim

theorem intakeTells_laid_met (os : Os) : laidMet Tryz.prog Rows.intakeTellsRow.laid ((laidWorld os).forCall (fun _ _ => 0) ⟨#[], #[.agg #[.int .i64 0, .int .i64 0, .int .i64 0, .int .i64 0, .int .i64 0, .int .i64 0], .slice none 0 0], []⟩).memory :=
  laidMet_of_run' 8 (by kernel_rfl) (by kernel_rfl)
theorem intakeTells_reads (os : Os) {H : Type} (enc : TypeId × Value → H) : ∃ places, DataW.whole enc Tryz.prog ((laidWorld os).forCall (fun _ _ => 0) ⟨#[], #[.agg #[.int .i64 0, .int .i64 0, .int .i64 0, .int .i64 0, .int .i64 0, .int .i64 0], .slice none 0 0], []⟩).memory Tryz.f3.params.toList Rows.intakeTellsSpec.vars false (#[.agg #[.int .i64 0, .int .i64 0, .int .i64 0, .int .i64 0, .int .i64 0, .int .i64 0], .slice none 0 0] : Array Value).toList 8 = some ([.agg [.lit (.int .i64 0), .lit (.int .i64 0), .lit (.int .i64 0), .lit (.int .i64 0), .lit (.int .i64 0), .lit (.int .i64 0)], .nil], [], places) :=
  ⟨[], by kernel_rfl⟩
set_option maxRecDepth 100000 in
theorem intakeTells_lifted (os : Os) (started : os.Started) (H : Type) (enc : TypeId × Value → H) (F : Stop.Interp) :
    ReturnsInHanded {} Tryz.checked os F_erratalaw11_IntakeTells .any ((OpenSpec.ofChange Rows.intakeTellsSpec).preRow enc Tryz.prog Tryz.f3 Rows.intakeTellsRow.domain false Rows.intakeTellsRow.laid) (((OpenSpec.ofChange Rows.intakeTellsSpec).at F).post enc Tryz.prog Tryz.f3 false true false false) := by
  obtain ⟨places, hx⟩ := intakeTells_reads os enc
  refine returnsInHanded_of_row (C := Tryz.checked) (s := OpenSpec.ofChange Rows.intakeTellsSpec) own_ started (by kernel_rfl) Tryz.func3
    (witness_row_at (enc := enc) (C := Tryz.checked) false (laidWorld os) #[.agg #[.int .i64 0, .int .i64 0, .int .i64 0, .int .i64 0, .int .i64 0, .int .i64 0], .slice none 0 0] rfl (by kernel_rfl) (by kernel_rfl) (by kernel_rfl)
      (OpenSpec.preRow_of_cond 8 hx (by kernel_rfl) (fun k hk => by cases hk) (by kernel_rfl) (intakeTells_laid_met os))) ?_
  intro W base args ds gs before hval hW _ _ _ hL _ _
  exact intakeTells_contract H enc W base args ds gs before hval hW hL

theorem intakeTells_said : Rows.IntakeTellsSaid :=
  OpenClaim.holds_of_cond F_erratalaw11_IntakeTells Tryz.f3 rfl rfl rfl rfl rfl rfl rfl ⟨rfl, rfl, rfl, rfl, rfl⟩ rfl rfl rfl rfl rfl (by kernel_rfl) Tryz.func3 (by kernel_rfl)
    (of_decide_eq_true (by kernel_rfl)) (by unfold Func.isWrapper; first | (rw [if_pos (by decide +kernel)]; kernel_rfl) | (rw [if_neg (by decide +kernel)]; exact ⟨rfl, rfl⟩))
    (fun os started H enc _ F => by rw [OpenClaim.pre_eq_preRow]; exact intakeTells_lifted os started H enc F)

theorem intakeTells_plain (f : FuncId) (fn : Func) (hf : Tryz.pinned.checked.prog.funcNamed Rows.intakeTellsRow.func = some f) (hfn : Tryz.pinned.checked.prog.funcs[f]? = some fn) :
    true = Tryz.pinned.checked.prog.looks [] ∧ ∀ (j : Nat) t, fn.params[j]? = some t → Tryz.pinned.checked.prog.wantsStandIn t = false := by
  obtain rfl : f = F_erratalaw11_IntakeTells := Option.some.inj ((show Tryz.prog.funcNamed Rows.intakeTellsRow.func = some F_erratalaw11_IntakeTells by kernel_rfl).symm.trans hf) |>.symm
  obtain rfl : fn = Tryz.f3 := (Option.some.inj (Tryz.func3.symm.trans hfn)).symm
  refine ⟨by kernel_rfl, fun j t ht => ?_⟩
  rw [Tryz.params3] at ht
  have hall : ((#[T_api_Config, T_s_api_Entry] : Array TypeId).toList.all fun t => !Tryz.prog.wantsStandIn t) = true := by kernel_rfl
  have := List.all_eq_true.1 hall t (Array.mem_toList_iff.2 (Array.mem_of_getElem? ht))
  show Tryz.prog.wantsStandIn t = false
  simpa using this

theorem intakeTellsCard_holds : Rows.IntakeTellsCardSaid :=
  Claim7.holds_tied_plain_at .later [] _ _ _ _ intakeTells_said (fun _ h => by cases h) (by kernel_rfl) (fun _ h => by cases h) intakeTells_row_tie rfl ⟨rfl, rfl⟩ (by kernel_rfl) rfl intakeTells_plain (by kernel_rfl)

end Go.Proofs.YtefinemhfgdpdaaGreatDoor
