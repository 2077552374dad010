/-
  RetainTells holds: for all partitions, operations, positions, numbers and times the law answers true. No condition.
-/
import Derived.Test.YtmllhipiahlihaaGreatDoorArgs
import Derived.Test.YtmllhipiahlihaaGreatDoorDoor
import Derived.Test.YtmllhipiahlihaaGreatDoorRetainM
namespace Go.Proofs.YtmllhipiahlihaaGreatDoor
open Go.ChangeShapes Go.WideShapes Go.ChangeAt Go.RowKit
set_option maxRecDepth 100000

theorem retainTells_contract (H : Type) (enc : TypeId × Value → H) (W : World) (base : Nat) (args : Array Value) (ds gs : List (DataW H)) (before : List MemPlace)
    (hval0 : ∀ (j : Nat) t v, Tryz.f3.params[j]? = some t → args[j]? = some v → Value.okWide Tryz.prog W .any base t v)
    (hW : DataW.Whole enc Tryz.prog Tryz.f3.params.toList Rows.retainTellsSpec.vars false W args.toList ds gs before) (hL : laidMetH Tryz.prog Rows.retainTellsRow.laid W) :
    Calls Tryz.prog F_erratalaw12_RetainTells args W fun e W' => ∃ v, e = .returned v ∧ Rows.retainTellsSpec.post enc Tryz.prog Tryz.f3 false true false false W args v W' := by
  obtain ⟨args⟩ := args
  have hval : ∀ (j : Nat) t v, Tryz.f3.params[j]? = some t → (Array.mk args)[j]? = some v → Value.okWide Tryz.prog W .any base t v := hval0
  have hW' := hW
  obtain ⟨p, q, hA0, hV, rfl, _, _⟩ := hW
  have hA : DataW.TrodAll enc Tryz.prog W 0 (fun _ => true) true Tryz.f3.params.toList args ds p := hA0
  rw [Tryz.params3] at hA hval
  obtain ⟨v0, vs0, d0, ds0, p0, q0, rfl, rfl, rfl, h0, hA⟩ := trodAll_cons hA
  obtain ⟨v1, vs1, d1, ds1, p1, q1, rfl, rfl, rfl, h1, hA⟩ := trodAll_cons hA
  obtain ⟨v2, vs2, d2, ds2, p2, q2, rfl, rfl, rfl, h2, hA⟩ := trodAll_cons hA
  obtain ⟨v3, vs3, d3, ds3, p3, q3, rfl, rfl, rfl, h3, hA⟩ := trodAll_cons hA
  obtain ⟨v4, vs4, d4, ds4, p4, q4, rfl, rfl, rfl, h4, hA⟩ := trodAll_cons hA
  obtain ⟨rfl, rfl, rfl⟩ := trodAll_nil hA
  obtain ⟨rfl, rfl⟩ := trodVars_none hV
  have u0 : Tryz.prog.underlying T_int = some (.int .i64) := by kernel_rfl
  obtain ⟨x0, rfl, rfl, rfl, wx0⟩ := open_int u0 (hval 0 T_int v0 rfl rfl) h0
  obtain ⟨a1, n1, c1, rfl⟩ := okWide_slice U_s_erratalaw12_Op (hval 1 T_s_erratalaw12_Op v1 rfl rfl)
  obtain ⟨fu1, hf1⟩ := h1
  obtain ⟨l1, hl1, hm1, hq1⟩ := open_rowP (α := D_erratalaw12_Op) (Q := ok_erratalaw12_Op W) U_s_erratalaw12_Op c_erratalaw12_Op (fun n cs y => dec_erratalaw12_Op n cs y) hf1
  have u2 : Tryz.prog.underlying T_int = some (.int .i64) := by kernel_rfl
  obtain ⟨x2, rfl, rfl, rfl, wx2⟩ := open_int u2 (hval 2 T_int v2 rfl rfl) h2
  have u3 : Tryz.prog.underlying T_int = some (.int .i64) := by kernel_rfl
  obtain ⟨x3, rfl, rfl, rfl, wx3⟩ := open_int u3 (hval 3 T_int v3 rfl rfl) h3
  have u4 : Tryz.prog.underlying T_int = some (.int .i64) := by kernel_rfl
  obtain ⟨x4, rfl, rfl, rfl, wx4⟩ := open_int u4 (hval 4 T_int v4 rfl rfl) h4
  have hc := erratalaw12_RetainTells.call (retainTells_pt (W := W) (part := x0) (fr := x2) (most := x3) (time := x4) (K := fun v w' => v = .bool true ∧ Below W.heap.size W w') (laid_fact hL) (int_range wx0) (lawB.row hl1) hm1 hq1 fun w' σ h => ⟨rfl, lawB.fin h⟩)
  have hty : ∀ t ∈ Tryz.f3.params.toList, Tryz.prog.readableRec t = true ∧ t < Tryz.prog.types.size := by
    have hall : (Tryz.f3.params.toList.all fun t => Tryz.prog.readableRec t && decide (t < Tryz.prog.types.size)) = true := by kernel_rfl
    intro t ht
    have := List.all_eq_true.1 hall t ht
    simpa using this
  refine hc.mono fun e W' he => ?_
  cases e with
  | returned v =>
    obtain ⟨rfl, hB⟩ := he
    exact ⟨_, rfl, law_post laidOut_ hW' rfl rfl rfl rfl U_bool hty hB⟩
  | panicked ch => exact he.elim
  | outgrown => exact he.elim

theorem retainTells_laid_met (os : Os) : laidMet Tryz.prog Rows.retainTellsRow.laid ((laidWorld os).forCall (fun _ _ => 0) ⟨#[], #[.int .i64 0, .slice none 0 0, .int .i64 0, .int .i64 0, .int .i64 0], []⟩).memory :=
  laidMet_of_run' 8 (by kernel_rfl) (by kernel_rfl)
theorem retainTells_reads (os : Os) {H : Type} (enc : TypeId × Value → H) : ∃ places, DataW.whole enc Tryz.prog ((laidWorld os).forCall (fun _ _ => 0) ⟨#[], #[.int .i64 0, .slice none 0 0, .int .i64 0, .int .i64 0, .int .i64 0], []⟩).memory Tryz.f3.params.toList Rows.retainTellsSpec.vars false (#[.int .i64 0, .slice none 0 0, .int .i64 0, .int .i64 0, .int .i64 0] : Array Value).toList 8 = some ([.lit (.int .i64 0), .nil, .lit (.int .i64 0), .lit (.int .i64 0), .lit (.int .i64 0)], [], places) :=
  ⟨[], by kernel_rfl⟩
set_option maxRecDepth 100000 in
theorem retainTells_lifted (os : Os) (started : os.Started) (H : Type) (enc : TypeId × Value → H) (F : Stop.Interp) :
    ReturnsInHanded {} Tryz.checked os F_erratalaw12_RetainTells .any ((OpenSpec.ofChange Rows.retainTellsSpec).preRow enc Tryz.prog Tryz.f3 Rows.retainTellsRow.domain false Rows.retainTellsRow.laid) (((OpenSpec.ofChange Rows.retainTellsSpec).at F).post enc Tryz.prog Tryz.f3 false true false false) := by
  obtain ⟨places, hx⟩ := retainTells_reads os enc
  refine returnsInHanded_of_row (C := Tryz.checked) (s := OpenSpec.ofChange Rows.retainTellsSpec) own_ started (by kernel_rfl) Tryz.func3
    (witness_row_at (enc := enc) (C := Tryz.checked) false (laidWorld os) #[.int .i64 0, .slice none 0 0, .int .i64 0, .int .i64 0, .int .i64 0] rfl (by kernel_rfl) (by kernel_rfl) (by kernel_rfl)
      (OpenSpec.preRow_of_cond 8 hx (by kernel_rfl) (fun k hk => by cases hk) (by kernel_rfl) (retainTells_laid_met os))) ?_
  intro W base args ds gs before hval hW _ _ _ hL _ _
  exact retainTells_contract H enc W base args ds gs before hval hW hL

theorem retainTells_said : Rows.RetainTellsSaid :=
  OpenClaim.holds_of_cond F_erratalaw12_RetainTells Tryz.f3 rfl rfl rfl rfl rfl rfl rfl ⟨rfl, rfl, rfl, rfl, rfl⟩ rfl rfl rfl rfl rfl (by kernel_rfl) Tryz.func3 (by kernel_rfl)
    (of_decide_eq_true (by kernel_rfl)) (by unfold Func.isWrapper; first | (rw [if_pos (by decide +kernel)]; kernel_rfl) | (rw [if_neg (by decide +kernel)]; exact ⟨rfl, rfl⟩))
    (fun os started H enc _ F => by rw [OpenClaim.pre_eq_preRow]; exact retainTells_lifted os started H enc F)

theorem retainTells_plain (f : FuncId) (fn : Func) (hf : Tryz.pinned.checked.prog.funcNamed Rows.retainTellsRow.func = some f) (hfn : Tryz.pinned.checked.prog.funcs[f]? = some fn) :
    true = Tryz.pinned.checked.prog.looks [] ∧ ∀ (j : Nat) t, fn.params[j]? = some t → Tryz.pinned.checked.prog.wantsStandIn t = false := by
  obtain rfl : f = F_erratalaw12_RetainTells := Option.some.inj ((show Tryz.prog.funcNamed Rows.retainTellsRow.func = some F_erratalaw12_RetainTells by kernel_rfl).symm.trans hf) |>.symm
  obtain rfl : fn = Tryz.f3 := (Option.some.inj (Tryz.func3.symm.trans hfn)).symm
  refine ⟨by kernel_rfl, fun j t ht => ?_⟩
  rw [Tryz.params3] at ht
  have hall : ((#[T_int, T_s_erratalaw12_Op, T_int, T_int, T_int] : Array TypeId).toList.all fun t => !Tryz.prog.wantsStandIn t) = true := by kernel_rfl
  have := List.all_eq_true.1 hall t (Array.mem_toList_iff.2 (Array.mem_of_getElem? ht))
  show Tryz.prog.wantsStandIn t = false
  simpa using this

theorem retainTellsCard_holds : Rows.RetainTellsCardSaid :=
  Claim7.holds_tied_plain_at .later [] _ _ _ _ retainTells_said (fun _ h => by cases h) (by kernel_rfl) (fun _ h => by cases h) retainTells_row_tie rfl ⟨rfl, rfl⟩ (by kernel_rfl) rfl retainTells_plain (by kernel_rfl)

end Go.Proofs.YtmllhipiahlihaaGreatDoor
