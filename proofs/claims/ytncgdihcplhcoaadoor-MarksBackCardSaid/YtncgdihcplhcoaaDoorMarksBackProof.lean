/-
  MarksBack holds: for all numbers of inputs, operations and strings the law answers true. No condition.
-/
import Derived.Test.YtncgdihcplhcoaaDoorArgs
import Derived.Test.YtncgdihcplhcoaaDoorDoor
import Derived.Test.YtncgdihcplhcoaaDoorMkE
namespace Go.Proofs.YtncgdihcplhcoaaDoor
open Go.ChangeShapes Go.WideShapes Go.ChangeAt Go.RowKit
set_option maxRecDepth 100000

theorem marksBack_contract (H : Type) (enc : TypeId × Value → H) (W : World) (base : Nat) (args : Array Value) (ds gs : List (DataW H)) (before : List MemPlace)
    (hval0 : ∀ (j : Nat) t v, Tryd.f3.params[j]? = some t → args[j]? = some v → Value.okWide Tryd.prog W .any base t v)
    (hW : DataW.Whole enc Tryd.prog Tryd.f3.params.toList Rows.marksBackSpec.vars false W args.toList ds gs before) (hL : laidMetH Tryd.prog Rows.marksBackRow.laid W) :
    Calls Tryd.prog F_erratalaw35_MarksBack args W fun e W' => ∃ v, e = .returned v ∧ Rows.marksBackSpec.post enc Tryd.prog Tryd.f3 false true false false W args v W' := by
  obtain ⟨args⟩ := args
  have hval : ∀ (j : Nat) t v, Tryd.f3.params[j]? = some t → (Array.mk args)[j]? = some v → Value.okWide Tryd.prog W .any base t v := hval0
  have hW' := hW
  obtain ⟨p, q, hA0, hV, rfl, _, _⟩ := hW
  have hA : DataW.TrodAll enc Tryd.prog W 0 (fun _ => true) true Tryd.f3.params.toList args ds p := hA0
  rw [Tryd.params3] at hA hval
  obtain ⟨v0, vs0, d0, ds0, p0, q0, rfl, rfl, rfl, h0, hA⟩ := trodAll_cons hA
  obtain ⟨v1, vs1, d1, ds1, p1, q1, rfl, rfl, rfl, h1, hA⟩ := trodAll_cons hA
  obtain ⟨v2, vs2, d2, ds2, p2, q2, rfl, rfl, rfl, h2, hA⟩ := trodAll_cons hA
  obtain ⟨v3, vs3, d3, ds3, p3, q3, rfl, rfl, rfl, h3, hA⟩ := trodAll_cons hA
  obtain ⟨rfl, rfl, rfl⟩ := trodAll_nil hA
  obtain ⟨rfl, rfl⟩ := trodVars_none hV
  have u0 : Tryd.prog.underlying T_int = some (.int .i64) := by kernel_rfl
  obtain ⟨x0, rfl, rfl, rfl, wx0⟩ := open_int u0 (hval 0 T_int v0 rfl rfl) h0
  obtain ⟨a1, n1, c1, rfl⟩ := okWide_slice U_s_erratalaw35_Op (hval 1 T_s_erratalaw35_Op v1 rfl rfl)
  obtain ⟨fu1, hf1⟩ := h1
  obtain ⟨l1, hl1, hm1, hq1⟩ := open_rowP (α := D_erratalaw35_Op) (Q := ok_erratalaw35_Op W) U_s_erratalaw35_Op c_erratalaw35_Op (fun n cs y => dec_erratalaw35_Op n cs y) hf1
  obtain ⟨a2, n2, c2, rfl⟩ := okWide_slice U_s_erratalaw35_Op (hval 2 T_s_erratalaw35_Op v2 rfl rfl)
  obtain ⟨fu2, hf2⟩ := h2
  obtain ⟨l2, hl2, hm2, hq2⟩ := open_rowP (α := D_erratalaw35_Op) (Q := ok_erratalaw35_Op W) U_s_erratalaw35_Op c_erratalaw35_Op (fun n cs y => dec_erratalaw35_Op n cs y) hf2
  obtain ⟨x3, rfl, rfl, rfl, wx3⟩ := Go.ChangeMaps.open_string U_string (hval 3 T_string v3 rfl rfl) h3
  have hc := erratalaw35_MarksBack.call (marksBack_pt (W := W) (n := x0) (text := x3) (K := fun v w' => v = .bool true ∧ Below W.heap.size W w') (laid_fact hL) (lawB.row hl1) (lawB.row hl2) wx3 fun w' σ h => ⟨rfl, lawB.fin h⟩)
  have hty : ∀ t ∈ Tryd.f3.params.toList, Tryd.prog.readableRec t = true ∧ t < Tryd.prog.types.size := by
    have hall : (Tryd.f3.params.toList.all fun t => Tryd.prog.readableRec t && decide (t < Tryd.prog.types.size)) = true := by kernel_rfl
    intro t ht
    have := List.all_eq_true.1 hall t ht
    simpa using this
  refine hc.mono fun e W' he => ?_
  cases e with
  | returned v =>
    obtain ⟨rfl, hB⟩ := he
    exact ⟨_, rfl, law_post laidOut_ hW' rfl rfl rfl rfl U_bool hty hB⟩
  | panicked ch => exact he.elim
  | outgrown => exact he.elim

theorem marksBack_laid_met (os : Os) : laidMet Tryd.prog Rows.marksBackRow.laid ((laidWorld os).forCall (fun _ _ => 0) ⟨#[], #[.int .i64 0, .slice none 0 0, .slice none 0 0, .string ⟨#[]⟩], []⟩).memory :=
  laidMet_of_run' 8 (by kernel_rfl) (by kernel_rfl)
theorem marksBack_reads (os : Os) {H : Type} (enc : TypeId × Value → H) : ∃ places, DataW.whole enc Tryd.prog ((laidWorld os).forCall (fun _ _ => 0) ⟨#[], #[.int .i64 0, .slice none 0 0, .slice none 0 0, .string ⟨#[]⟩], []⟩).memory Tryd.f3.params.toList Rows.marksBackSpec.vars false (#[.int .i64 0, .slice none 0 0, .slice none 0 0, .string ⟨#[]⟩] : Array Value).toList 8 = some ([.lit (.int .i64 0), .nil, .nil, .lit (.string [])], [], places) :=
  ⟨[], by kernel_rfl⟩
set_option maxRecDepth 100000 in
theorem marksBack_lifted (os : Os) (started : os.Started) (H : Type) (enc : TypeId × Value → H) (F : Stop.Interp) :
    ReturnsInHanded {} Tryd.checked os F_erratalaw35_MarksBack .any ((OpenSpec.ofChange Rows.marksBackSpec).preRow enc Tryd.prog Tryd.f3 Rows.marksBackRow.domain false Rows.marksBackRow.laid) (((OpenSpec.ofChange Rows.marksBackSpec).at F).post enc Tryd.prog Tryd.f3 false true false false) := by
  obtain ⟨places, hx⟩ := marksBack_reads os enc
  refine returnsInHanded_of_row (C := Tryd.checked) (s := OpenSpec.ofChange Rows.marksBackSpec) own_ started (by kernel_rfl) Tryd.func3
    (witness_row_at (enc := enc) (C := Tryd.checked) false (laidWorld os) #[.int .i64 0, .slice none 0 0, .slice none 0 0, .string ⟨#[]⟩] rfl (by kernel_rfl) (by kernel_rfl) (by kernel_rfl)
      (OpenSpec.preRow_of_cond 8 hx (by kernel_rfl) (fun k hk => by cases hk) (by kernel_rfl) (marksBack_laid_met os))) ?_
  intro W base args ds gs before hval hW _ _ _ hL _ _
  exact marksBack_contract H enc W base args ds gs before hval hW hL

theorem marksBack_said : Rows.MarksBackSaid :=
  OpenClaim.holds_of_cond F_erratalaw35_MarksBack Tryd.f3 rfl rfl rfl rfl rfl rfl rfl ⟨rfl, rfl, rfl, rfl, rfl⟩ rfl rfl rfl rfl rfl (by kernel_rfl) Tryd.func3 (by kernel_rfl)
    (of_decide_eq_true (by kernel_rfl)) (by unfold Func.isWrapper; first | (rw [if_pos (by decide +kernel)]; kernel_rfl) | (rw [if_neg (by decide +kernel)]; exact ⟨rfl, rfl⟩))
    (fun os started H enc _ F => by rw [OpenClaim.pre_eq_preRow]; exact marksBack_lifted os started H enc F)

theorem marksBack_plain (f : FuncId) (fn : Func) (hf : Tryd.pinned.checked.prog.funcNamed Rows.marksBackRow.func = some f) (hfn : Tryd.pinned.checked.prog.funcs[f]? = some fn) :
    true = Tryd.pinned.checked.prog.looks [] ∧ ∀ (j : Nat) t, fn.params[j]? = some t → Tryd.pinned.checked.prog.wantsStandIn t = false := by
  obtain rfl : f = F_erratalaw35_MarksBack := Option.some.inj ((show Tryd.prog.funcNamed Rows.marksBackRow.func = some F_erratalaw35_MarksBack by kernel_rfl).symm.trans hf) |>.symm
  obtain rfl : fn = Tryd.f3 := (Option.some.inj (Tryd.func3.symm.trans hfn)).symm
  refine ⟨by kernel_rfl, fun j t ht => ?_⟩
  rw [Tryd.params3] at ht
  have hall : ((#[T_int, T_s_erratalaw35_Op, T_s_erratalaw35_Op, T_string] : Array TypeId).toList.all fun t => !Tryd.prog.wantsStandIn t) = true := by kernel_rfl
  have := List.all_eq_true.1 hall t (Array.mem_toList_iff.2 (Array.mem_of_getElem? ht))
  show Tryd.prog.wantsStandIn t = false
  simpa using this

theorem marksBackCard_holds : Rows.MarksBackCardSaid :=
  Claim7.holds_tied_plain_at .later [] _ _ _ _ marksBack_said (fun _ h => by cases h) (by kernel_rfl) (fun _ h => by cases h) marksBack_row_tie rfl ⟨rfl, rfl⟩ (by kernel_rfl) rfl marksBack_plain (by kernel_rfl)

end Go.Proofs.YtncgdihcplhcoaaDoor
