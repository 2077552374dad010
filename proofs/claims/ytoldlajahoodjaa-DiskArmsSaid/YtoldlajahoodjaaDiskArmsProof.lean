/-
  DiskArms holds: an armed disk crashes at the n-th call and not before. No condition.
-/
import Derived.Test.YtoldlajahoodjaaArgs
import Derived.Test.YtoldlajahoodjaaDiskI
namespace Go.Proofs.Ytoldlajahoodjaa
open Go.ChangeShapes Go.WideShapes Go.ChangeAt Go.RowKit

set_option maxRecDepth 100000 in
theorem diskArms_lifted (os : Os) (started : os.Started) (H : Type) (enc : TypeId × Value → H) :
    ReturnsInHanded {} Try.checked os F_erratalaw04_DiskArms .any (Rows.diskArmsSpec.pre6 enc Try.prog Try.f6 Rows.diskArmsRow.domain false) (Rows.diskArmsSpec.post enc Try.prog Try.f6 false true false false) := by
  refine returnsInHanded_of_change (C := Try.checked) own_ started (by kernel_rfl) Try.func6
    (ChangeSpec.witness6 (enc := enc) (C := Try.checked) false ⟨#[], #[.slice none 0 0, .int .i64 0, .slice none 0 0], []⟩ 8 (by kernel_rfl) (by kernel_rfl) (by kernel_rfl) (by kernel_rfl)) ?_
  intro W base args ds gs before hval0 hW _ _
  obtain ⟨args⟩ := args
  have hval : ∀ (j : Nat) t v, Try.f6.params[j]? = some t → (Array.mk args)[j]? = some v → Value.okWide Try.prog W .any base t v := hval0
  have hW' := hW
  obtain ⟨p, q, hA0, hV, rfl, _, _⟩ := hW
  have hA : DataW.TrodAll enc Try.prog W 0 (fun _ => true) true Try.f6.params.toList args ds p := hA0
  rw [Try.params6] at hA hval
  obtain ⟨v0, vs0, d0, ds0, p0, q0, rfl, rfl, rfl, h0, hA⟩ := trodAll_cons hA
  obtain ⟨v1, vs1, d1, ds1, p1, q1, rfl, rfl, rfl, h1, hA⟩ := trodAll_cons hA
  obtain ⟨v2, vs2, d2, ds2, p2, q2, rfl, rfl, rfl, h2, hA⟩ := trodAll_cons hA
  obtain ⟨rfl, rfl, rfl⟩ := trodAll_nil hA
  obtain ⟨rfl, rfl⟩ := trodVars_none hV
  obtain ⟨a0, n0, c0, rfl⟩ := okWide_slice U_s_erratalaw04_Act (hval 0 T_s_erratalaw04_Act v0 rfl rfl)
  obtain ⟨fu0, hf0⟩ := h0
  obtain ⟨l0, hl0, hm0, hq0⟩ := open_rowP (α := D_erratalaw04_Act) (Q := ok_erratalaw04_Act W) U_s_erratalaw04_Act c_erratalaw04_Act (fun n cs y => dec_erratalaw04_Act n cs y) hf0
  have u1 : Try.prog.underlying T_int = some (.int .i64) := by kernel_rfl
  obtain ⟨x1, rfl, rfl, rfl, wx1⟩ := open_int u1 (hval 1 T_int v1 rfl rfl) h1
  obtain ⟨a2, n2, c2, rfl⟩ := okWide_slice U_s_int (hval 2 T_s_int v2 rfl rfl)
  obtain ⟨fu2, hf2⟩ := h2
  obtain ⟨l2, hl2, hm2, hq2⟩ := open_rowP (α := Int) (Q := okInt W) U_s_int cI (fun n cs y => dec_int n cs y) hf2
  have hc := erratalaw04_DiskArms.call (diskArms_pt (W := W) (n := x1) (K := fun v w' => v = .bool true ∧ Below W.heap.size W w') (lawB.row hl0) hm0 hq0 (lawB.row hl2) fun w' σ h => ⟨rfl, lawB.fin h⟩)
  have hty : ∀ t ∈ Try.f6.params.toList, Try.prog.readableRec t = true ∧ t < Try.prog.types.size := by
    have hall : (Try.f6.params.toList.all fun t => Try.prog.readableRec t && decide (t < Try.prog.types.size)) = true := by kernel_rfl
    intro t ht
    have := List.all_eq_true.1 hall t ht
    simpa using this
  refine hc.mono fun e W' he => ?_
  cases e with
  | returned v =>
    obtain ⟨rfl, hB⟩ := he
    exact ⟨_, rfl, law_post laidOut_ hW' rfl rfl rfl rfl U_bool hty hB⟩
  | panicked ch => exact he.elim
  | outgrown => exact he.elim

theorem diskArms_holds : Rows.DiskArmsSaid :=
  OpenClaim.holds_of_wide F_erratalaw04_DiskArms Try.f6 rfl rfl rfl rfl rfl rfl rfl ⟨rfl, rfl, rfl, rfl, rfl⟩ rfl rfl rfl rfl rfl (by kernel_rfl) Try.func6 (by kernel_rfl)
    (of_decide_eq_true (by kernel_rfl)) (by unfold Func.isWrapper; first | (rw [if_pos (by decide +kernel)]; kernel_rfl) | (rw [if_neg (by decide +kernel)]; exact ⟨rfl, rfl⟩))
    (fun os started H enc _ => diskArms_lifted os started H enc)

end Go.Proofs.Ytoldlajahoodjaa
