/-
  ReplaceTells holds: for all lists, strings, budgets and operations the law answers true. No condition. No condition.
-/
import Derived.Test.YtdecfgbdppfmcaaGreatDoorArgs
import Derived.Test.YtdecfgbdppfmcaaGreatDoorDoor
import Derived.Test.YtdecfgbdppfmcaaGreatDoorRepP
namespace Go.Proofs.YtdecfgbdppfmcaaGreatDoor
open Go.ChangeShapes Go.WideShapes Go.ChangeAt Go.RowKit
set_option maxRecDepth 100000

theorem replaceTells_contract (H : Type) (enc : TypeId × Value → H) (W : World) (base : Nat) (args : Array Value) (ds gs : List (DataW H)) (before : List MemPlace)
    (hval0 : ∀ (j : Nat) t v, Tryz.f3.params[j]? = some t → args[j]? = some v → Value.okWide Tryz.prog W .any base t v)
    (hW : DataW.Whole enc Tryz.prog Tryz.f3.params.toList Rows.replaceTellsSpec.vars false W args.toList ds gs before) (hL : laidMetH Tryz.prog Rows.replaceTellsRow.laid W) :
    Calls Tryz.prog F_erratalaw47_ReplaceTells args W fun e W' => ∃ v, e = .returned v ∧ Rows.replaceTellsSpec.post enc Tryz.prog Tryz.f3 false true false false W args v W' := by
  obtain ⟨args⟩ := args
  have hval : ∀ (j : Nat) t v, Tryz.f3.params[j]? = some t → (Array.mk args)[j]? = some v → Value.okWide Tryz.prog W .any base t v := hval0
  have hW' := hW
  obtain ⟨p, q, hA0, hV, rfl, _, _⟩ := hW
  have hA : DataW.TrodAll enc Tryz.prog W 0 (fun _ => true) true Tryz.f3.params.toList args ds p := hA0
  rw [Tryz.params3] at hA hval
  obtain ⟨v0, vs0, d0, ds0, p0, q0, rfl, rfl, rfl, h0, hA⟩ := trodAll_cons hA
  obtain ⟨v1, vs1, d1, ds1, p1, q1, rfl, rfl, rfl, h1, hA⟩ := trodAll_cons hA
  obtain ⟨v2, vs2, d2, ds2, p2, q2, rfl, rfl, rfl, h2, hA⟩ := trodAll_cons hA
  obtain ⟨v3, vs3, d3, ds3, p3, q3, rfl, rfl, rfl, h3, hA⟩ := trodAll_cons hA
  obtain ⟨v4, vs4, d4, ds4, p4, q4, rfl, rfl, rfl, h4, hA⟩ := trodAll_cons hA
  obtain ⟨v5, vs5, d5, ds5, p5, q5, rfl, rfl, rfl, h5, hA⟩ := trodAll_cons hA
  obtain ⟨v6, vs6, d6, ds6, p6, q6, rfl, rfl, rfl, h6, hA⟩ := trodAll_cons hA
  obtain ⟨rfl, rfl, rfl⟩ := trodAll_nil hA
  obtain ⟨rfl, rfl⟩ := trodVars_none hV
  obtain ⟨a0, n0, c0, rfl⟩ := okWide_slice U_s_api_Replacement (hval 0 T_s_api_Replacement v0 rfl rfl)
  obtain ⟨fu0, hf0⟩ := h0
  obtain ⟨l0, hl0, hm0, hq0⟩ := open_rowP (α := D_api_Replacement) (Q := ok_api_Replacement W) U_s_api_Replacement c_api_Replacement (fun n cs y => dec_api_Replacement n cs y) hf0
  obtain ⟨x1, rfl, rfl, rfl, wx1⟩ := Go.ChangeMaps.open_string U_string (hval 1 T_string v1 rfl rfl) h1
  obtain ⟨c2, rfl, z2⟩ := okWide_struct fs_api_Budget (hval 2 T_api_Budget v2 rfl rfl)
  obtain ⟨fu2, hf2⟩ := h2
  obtain ⟨x2, hx2, hq2⟩ := dec_api_Budget _ _ _ hf2
  have hx2 : c2.toList = Enc.cells x2 := hx2
  obtain rfl : c2 = (Enc.cells x2).toArray := by rw [← hx2]
  have u3 : Tryz.prog.underlying T_int = some (.int .i64) := by kernel_rfl
  obtain ⟨x3, rfl, rfl, rfl, wx3⟩ := open_int u3 (hval 3 T_int v3 rfl rfl) h3
  obtain ⟨a4, n4, c4, rfl⟩ := okWide_slice U_s_erratalaw47_Op (hval 4 T_s_erratalaw47_Op v4 rfl rfl)
  obtain ⟨fu4, hf4⟩ := h4
  obtain ⟨l4, hl4, hm4, hq4⟩ := open_rowP (α := D_erratalaw47_Op) (Q := ok_erratalaw47_Op W) U_s_erratalaw47_Op c_erratalaw47_Op (fun n cs y => dec_erratalaw47_Op n cs y) hf4
  have u5 : Tryz.prog.underlying T_int = some (.int .i64) := by kernel_rfl
  obtain ⟨x5, rfl, rfl, rfl, wx5⟩ := open_int u5 (hval 5 T_int v5 rfl rfl) h5
  have u6 : Tryz.prog.underlying T_int = some (.int .i64) := by kernel_rfl
  obtain ⟨x6, rfl, rfl, rfl, wx6⟩ := open_int u6 (hval 6 T_int v6 rfl rfl) h6
  have hc := erratalaw47_ReplaceTells.call (replaceTells_pt (W := W) (text := x1) (b := x2) (n := x3) (time := x5) (bucket := x6) (K := fun v w' => v = .bool true ∧ Below W.heap.size W w') (laid_fact hL) (lawB.row hl0) wx1 (lawB.row hl4) (int_range wx5) fun w' σ h => ⟨rfl, lawB.fin h⟩)
  have hty : ∀ t ∈ Tryz.f3.params.toList, Tryz.prog.readableRec t = true ∧ t < Tryz.prog.types.size := by
    have hall : (Tryz.f3.params.toList.all fun t => Tryz.prog.readableRec t && decide (t < Tryz.prog.types.size)) = true := by kernel_rfl
    intro t ht
    have := List.all_eq_true.1 hall t ht
    simpa using this
  refine hc.mono fun e W' he => ?_
  cases e with
  | returned v =>
    obtain ⟨rfl, hB⟩ := he
    exact ⟨_, rfl, law_post laidOut_ hW' rfl rfl rfl rfl U_bool hty hB⟩
  | panicked ch => exact he.elim
  | outgrown => exact he.elim

theorem replaceTells_laid_met (os : Os) : laidMet Tryz.prog Rows.replaceTellsRow.laid ((laidWorld os).forCall (fun _ _ => 0) ⟨#[], #[.slice none 0 0, .string ⟨#[]⟩, .agg #[.int .i64 0, .int .i64 0, .int .i64 0], .int .i64 0, .slice none 0 0, .int .i64 0, .int .i64 0], []⟩).memory :=
  laidMet_of_run' 8 (by kernel_rfl) (by kernel_rfl)
theorem replaceTells_reads (os : Os) {H : Type} (enc : TypeId × Value → H) : ∃ places, DataW.whole enc Tryz.prog ((laidWorld os).forCall (fun _ _ => 0) ⟨#[], #[.slice none 0 0, .string ⟨#[]⟩, .agg #[.int .i64 0, .int .i64 0, .int .i64 0], .int .i64 0, .slice none 0 0, .int .i64 0, .int .i64 0], []⟩).memory Tryz.f3.params.toList Rows.replaceTellsSpec.vars false (#[.slice none 0 0, .string ⟨#[]⟩, .agg #[.int .i64 0, .int .i64 0, .int .i64 0], .int .i64 0, .slice none 0 0, .int .i64 0, .int .i64 0] : Array Value).toList 8 = some ([.nil, .lit (.string []), .agg [.lit (.int .i64 0), .lit (.int .i64 0), .lit (.int .i64 0)], .lit (.int .i64 0), .nil, .lit (.int .i64 0), .lit (.int .i64 0)], [], places) :=
  ⟨[], by kernel_rfl⟩
set_option maxRecDepth 100000 in
theorem replaceTells_lifted (os : Os) (started : os.Started) (H : Type) (enc : TypeId × Value → H) (F : Stop.Interp) :
    ReturnsInHanded {} Tryz.checked os F_erratalaw47_ReplaceTells .any ((OpenSpec.ofChange Rows.replaceTellsSpec).preRow enc Tryz.prog Tryz.f3 Rows.replaceTellsRow.domain false Rows.replaceTellsRow.laid) (((OpenSpec.ofChange Rows.replaceTellsSpec).at F).post enc Tryz.prog Tryz.f3 false true false false) := by
  obtain ⟨places, hx⟩ := replaceTells_reads os enc
  refine returnsInHanded_of_row (C := Tryz.checked) (s := OpenSpec.ofChange Rows.replaceTellsSpec) own_ started (by kernel_rfl) Tryz.func3
    (witness_row_at (enc := enc) (C := Tryz.checked) false (laidWorld os) #[.slice none 0 0, .string ⟨#[]⟩, .agg #[.int .i64 0, .int .i64 0, .int .i64 0], .int .i64 0, .slice none 0 0, .int .i64 0, .int .i64 0] rfl (by kernel_rfl) (by kernel_rfl) (by kernel_rfl)
      (OpenSpec.preRow_of_cond 8 hx (by kernel_rfl) (fun k hk => by cases hk) (by kernel_rfl) (replaceTells_laid_met os))) ?_
  intro W base args ds gs before hval hW _ _ _ hL _ _
  exact replaceTells_contract H enc W base args ds gs before hval hW hL

theorem replaceTells_said : Rows.ReplaceTellsSaid :=
  OpenClaim.holds_of_cond F_erratalaw47_ReplaceTells Tryz.f3 rfl rfl rfl rfl rfl rfl rfl ⟨rfl, rfl, rfl, rfl, rfl⟩ rfl rfl rfl rfl rfl (by kernel_rfl) Tryz.func3 (by kernel_rfl)
    (of_decide_eq_true (by kernel_rfl)) (by unfold Func.isWrapper; first | (rw [if_pos (by decide +kernel)]; kernel_rfl) | (rw [if_neg (by decide +kernel)]; exact ⟨rfl, rfl⟩))
    (fun os started H enc _ F => by rw [OpenClaim.pre_eq_preRow]; exact replaceTells_lifted os started H enc F)

theorem replaceTells_plain (f : FuncId) (fn : Func) (hf : Tryz.pinned.checked.prog.funcNamed Rows.replaceTellsRow.func = some f) (hfn : Tryz.pinned.checked.prog.funcs[f]? = some fn) :
    true = Tryz.pinned.checked.prog.looks [] ∧ ∀ (j : Nat) t, fn.params[j]? = some t → Tryz.pinned.checked.prog.wantsStandIn t = false := by
  obtain rfl : f = F_erratalaw47_ReplaceTells := Option.some.inj ((show Tryz.prog.funcNamed Rows.replaceTellsRow.func = some F_erratalaw47_ReplaceTells by kernel_rfl).symm.trans hf) |>.symm
  obtain rfl : fn = Tryz.f3 := (Option.some.inj (Tryz.func3.symm.trans hfn)).symm
  refine ⟨by kernel_rfl, fun j t ht => ?_⟩
  rw [Tryz.params3] at ht
  have hall : ((#[T_s_api_Replacement, T_string, T_api_Budget, T_int, T_s_erratalaw47_Op, T_int, T_int] : Array TypeId).toList.all fun t => !Tryz.prog.wantsStandIn t) = true := by kernel_rfl
  have := List.all_eq_true.1 hall t (Array.mem_toList_iff.2 (Array.mem_of_getElem? ht))
  show Tryz.prog.wantsStandIn t = false
  simpa using this

theorem replaceTellsCard_holds : Rows.ReplaceTellsCardSaid :=
  Claim7.holds_tied_plain_at .later [] _ _ _ _ replaceTells_said (fun _ h => by cases h) (by kernel_rfl) (fun _ h => by cases h) replaceTells_row_tie rfl ⟨rfl, rfl⟩ (by kernel_rfl) rfl replaceTells_plain (by kernel_rfl)

end Go.Proofs.YtdecfgbdppfmcaaGreatDoor
