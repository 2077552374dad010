/-
  MarksTells holds: for all inputs the law answers true. No condition.
-/
import Derived.Test.YtncgdihcplhcoaaDoorArgs
import Derived.Test.YtncgdihcplhcoaaDoorDoor
import Derived.Test.YtncgdihcplhcoaaDoorMkH
namespace Go.Proofs.YtncgdihcplhcoaaDoor
open Go.ChangeShapes Go.WideShapes Go.ChangeAt Go.RowKit
set_option maxRecDepth 100000

theorem marksTells_contract (H : Type) (enc : TypeId × Value → H) (W : World) (base : Nat) (args : Array Value) (ds gs : List (DataW H)) (before : List MemPlace)
    (hval0 : ∀ (j : Nat) t v, Tryd.f4.params[j]? = some t → args[j]? = some v → Value.okWide Tryd.prog W .any base t v)
    (hW : DataW.Whole enc Tryd.prog Tryd.f4.params.toList Rows.marksTellsSpec.vars false W args.toList ds gs before) (hL : laidMetH Tryd.prog Rows.marksTellsRow.laid W) :
    Calls Tryd.prog F_erratalaw35_MarksTells args W fun e W' => ∃ v, e = .returned v ∧ Rows.marksTellsSpec.post enc Tryd.prog Tryd.f4 false true false false W args v W' := by
  obtain ⟨args⟩ := args
  have hval : ∀ (j : Nat) t v, Tryd.f4.params[j]? = some t → (Array.mk args)[j]? = some v → Value.okWide Tryd.prog W .any base t v := hval0
  have hW' := hW
  obtain ⟨p, q, hA0, hV, rfl, _, _⟩ := hW
  have hA : DataW.TrodAll enc Tryd.prog W 0 (fun _ => true) true Tryd.f4.params.toList args ds p := hA0
  rw [Tryd.params4] at hA hval
  obtain ⟨v0, vs0, d0, ds0, p0, q0, rfl, rfl, rfl, h0, hA⟩ := trodAll_cons hA
  obtain ⟨v1, vs1, d1, ds1, p1, q1, rfl, rfl, rfl, h1, hA⟩ := trodAll_cons hA
  obtain ⟨v2, vs2, d2, ds2, p2, q2, rfl, rfl, rfl, h2, hA⟩ := trodAll_cons hA
  obtain ⟨v3, vs3, d3, ds3, p3, q3, rfl, rfl, rfl, h3, hA⟩ := trodAll_cons hA
  obtain ⟨v4, vs4, d4, ds4, p4, q4, rfl, rfl, rfl, h4, hA⟩ := trodAll_cons hA
  obtain ⟨v5, vs5, d5, ds5, p5, q5, rfl, rfl, rfl, h5, hA⟩ := trodAll_cons hA
  obtain ⟨v6, vs6, d6, ds6, p6, q6, rfl, rfl, rfl, h6, hA⟩ := trodAll_cons hA
  obtain ⟨rfl, rfl, rfl⟩ := trodAll_nil hA
  obtain ⟨rfl, rfl⟩ := trodVars_none hV
  have u0 : Tryd.prog.underlying T_int = some (.int .i64) := by kernel_rfl
  obtain ⟨x0, rfl, rfl, rfl, wx0⟩ := open_int u0 (hval 0 T_int v0 rfl rfl) h0
  obtain ⟨a1, n1, c1, rfl⟩ := okWide_slice U_s_erratalaw35_Op (hval 1 T_s_erratalaw35_Op v1 rfl rfl)
  obtain ⟨fu1, hf1⟩ := h1
  obtain ⟨l1, hl1, hm1, hq1⟩ := open_rowP (α := D_erratalaw35_Op) (Q := ok_erratalaw35_Op W) U_s_erratalaw35_Op c_erratalaw35_Op (fun n cs y => dec_erratalaw35_Op n cs y) hf1
  have u2 : Tryd.prog.underlying T_int = some (.int .i64) := by kernel_rfl
  obtain ⟨x2, rfl, rfl, rfl, wx2⟩ := open_int u2 (hval 2 T_int v2 rfl rfl) h2
  obtain ⟨x3, rfl, rfl, rfl, wx3⟩ := Go.ChangeMaps.open_string U_string (hval 3 T_string v3 rfl rfl) h3
  have u4 : Tryd.prog.underlying T_int = some (.int .i64) := by kernel_rfl
  obtain ⟨x4, rfl, rfl, rfl, wx4⟩ := open_int u4 (hval 4 T_int v4 rfl rfl) h4
  have u5 : Tryd.prog.underlying T_int = some (.int .i64) := by kernel_rfl
  obtain ⟨x5, rfl, rfl, rfl, wx5⟩ := open_int u5 (hval 5 T_int v5 rfl rfl) h5
  have u6 : Tryd.prog.underlying T_int = some (.int .i64) := by kernel_rfl
  obtain ⟨x6, rfl, rfl, rfl, wx6⟩ := open_int u6 (hval 6 T_int v6 rfl rfl) h6
  have hc := erratalaw35_MarksTells.call (marksTells_pt (W := W) (n := x0) (at_ := x2) (text := x3) (time := x4) (now := x5) (ahead := x6) (K := fun v w' => v = .bool true ∧ Below W.heap.size W w') (laid_fact hL) (lawB.row hl1) wx3 (int_range wx4) (int_range wx5) (int_range wx6) fun w' σ h => ⟨rfl, lawB.fin h⟩)
  have hty : ∀ t ∈ Tryd.f4.params.toList, Tryd.prog.readableRec t = true ∧ t < Tryd.prog.types.size := by
    have hall : (Tryd.f4.params.toList.all fun t => Tryd.prog.readableRec t && decide (t < Tryd.prog.types.size)) = true := by kernel_rfl
    intro t ht
    have := List.all_eq_true.1 hall t ht
    simpa using this
  refine hc.mono fun e W' he => ?_
  cases e with
  | returned v =>
    obtain ⟨rfl, hB⟩ := he
    exact ⟨_, rfl, law_post laidOut_ hW' rfl rfl rfl rfl U_bool hty hB⟩
  | panicked ch => exact he.elim
  | outgrown => exact he.elim

theorem marksTells_laid_met (os : Os) : laidMet Tryd.prog Rows.marksTellsRow.laid ((laidWorld os).forCall (fun _ _ => 0) ⟨#[], #[.int .i64 0, .slice none 0 0, .int .i64 0, .string ⟨#[]⟩, .int .i64 0, .int .i64 0, .int .i64 0], []⟩).memory :=
  laidMet_of_run' 8 (by kernel_rfl) (by kernel_rfl)
theorem marksTells_reads (os : Os) {H : Type} (enc : TypeId × Value → H) : ∃ places, DataW.whole enc Tryd.prog ((laidWorld os).forCall (fun _ _ => 0) ⟨#[], #[.int .i64 0, .slice none 0 0, .int .i64 0, .string ⟨#[]⟩, .int .i64 0, .int .i64 0, .int .i64 0], []⟩).memory Tryd.f4.params.toList Rows.marksTellsSpec.vars false (#[.int .i64 0, .slice none 0 0, .int .i64 0, .string ⟨#[]⟩, .int .i64 0, .int .i64 0, .int .i64 0] : Array Value).toList 8 = some ([.lit (.int .i64 0), .nil, .lit (.int .i64 0), .lit (.string []), .lit (.int .i64 0), .lit (.int .i64 0), .lit (.int .i64 0)], [], places) :=
  ⟨[], by kernel_rfl⟩
set_option maxRecDepth 100000 in
theorem marksTells_lifted (os : Os) (started : os.Started) (H : Type) (enc : TypeId × Value → H) (F : Stop.Interp) :
    ReturnsInHanded {} Tryd.checked os F_erratalaw35_MarksTells .any ((OpenSpec.ofChange Rows.marksTellsSpec).preRow enc Tryd.prog Tryd.f4 Rows.marksTellsRow.domain false Rows.marksTellsRow.laid) (((OpenSpec.ofChange Rows.marksTellsSpec).at F).post enc Tryd.prog Tryd.f4 false true false false) := by
  obtain ⟨places, hx⟩ := marksTells_reads os enc
  refine returnsInHanded_of_row (C := Tryd.checked) (s := OpenSpec.ofChange Rows.marksTellsSpec) own_ started (by kernel_rfl) Tryd.func4
    (witness_row_at (enc := enc) (C := Tryd.checked) false (laidWorld os) #[.int .i64 0, .slice none 0 0, .int .i64 0, .string ⟨#[]⟩, .int .i64 0, .int .i64 0, .int .i64 0] rfl (by kernel_rfl) (by kernel_rfl) (by kernel_rfl)
      (OpenSpec.preRow_of_cond 8 hx (by kernel_rfl) (fun k hk => by cases hk) (by kernel_rfl) (marksTells_laid_met os))) ?_
  intro W base args ds gs before hval hW _ _ _ hL _ _
  exact marksTells_contract H enc W base args ds gs before hval hW hL

theorem marksTells_said : Rows.MarksTellsSaid :=
  OpenClaim.holds_of_cond F_erratalaw35_MarksTells Tryd.f4 rfl rfl rfl rfl rfl rfl rfl ⟨rfl, rfl, rfl, rfl, rfl⟩ rfl rfl rfl rfl rfl (by kernel_rfl) Tryd.func4 (by kernel_rfl)
    (of_decide_eq_true (by kernel_rfl)) (by unfold Func.isWrapper; first | (rw [if_pos (by decide +kernel)]; kernel_rfl) | (rw [if_neg (by decide +kernel)]; exact ⟨rfl, rfl⟩))
    (fun os started H enc _ F => by rw [OpenClaim.pre_eq_preRow]; exact marksTells_lifted os started H enc F)

theorem marksTells_plain (f : FuncId) (fn : Func) (hf : Tryd.pinned.checked.prog.funcNamed Rows.marksTellsRow.func = some f) (hfn : Tryd.pinned.checked.prog.funcs[f]? = some fn) :
    true = Tryd.pinned.checked.prog.looks [] ∧ ∀ (j : Nat) t, fn.params[j]? = some t → Tryd.pinned.checked.prog.wantsStandIn t = false := by
  obtain rfl : f = F_erratalaw35_MarksTells := Option.some.inj ((show Tryd.prog.funcNamed Rows.marksTellsRow.func = some F_erratalaw35_MarksTells by kernel_rfl).symm.trans hf) |>.symm
  obtain rfl : fn = Tryd.f4 := (Option.some.inj (Tryd.func4.symm.trans hfn)).symm
  refine ⟨by kernel_rfl, fun j t ht => ?_⟩
  rw [Tryd.params4] at ht
  have hall : ((#[T_int, T_s_erratalaw35_Op, T_int, T_string, T_int, T_int, T_int] : Array TypeId).toList.all fun t => !Tryd.prog.wantsStandIn t) = true := by kernel_rfl
  have := List.all_eq_true.1 hall t (Array.mem_toList_iff.2 (Array.mem_of_getElem? ht))
  show Tryd.prog.wantsStandIn t = false
  simpa using this

theorem marksTellsCard_holds : Rows.MarksTellsCardSaid :=
  Claim7.holds_tied_plain_at .later [] _ _ _ _ marksTells_said (fun _ h => by cases h) (by kernel_rfl) (fun _ h => by cases h) marksTells_row_tie rfl ⟨rfl, rfl⟩ (by kernel_rfl) rfl marksTells_plain (by kernel_rfl)

end Go.Proofs.YtncgdihcplhcoaaDoor
