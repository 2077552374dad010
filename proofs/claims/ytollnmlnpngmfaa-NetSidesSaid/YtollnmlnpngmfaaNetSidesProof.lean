/-
  NetSides holds: for every split, every moment of splitting and every number of packets the law answers true. No condition.
-/
import Derived.Test.YtollnmlnpngmfaaNetArgs
import Derived.Test.YtollnmlnpngmfaaNetSides
namespace Go.Proofs.Ytollnmlnpngmfaa
open Go.ChangeShapes Go.WideShapes Go.ChangeAt Go.RowKit

set_option maxRecDepth 100000 in
theorem netSides_lifted (os : Os) (started : os.Started) (H : Type) (enc : TypeId × Value → H) :
    ReturnsInHanded {} Try.checked os F_erratalaw07_NetSides .any (Rows.netSidesSpec.pre6 enc Try.prog Try.f4 Rows.netSidesRow.domain false) (Rows.netSidesSpec.post enc Try.prog Try.f4 false true false false) := by
  refine returnsInHanded_of_change (C := Try.checked) own_ started (by kernel_rfl) Try.func4
    (ChangeSpec.witness6 (enc := enc) (C := Try.checked) false ⟨#[], #[.int .i64 0, .bool false, .int .i64 0], []⟩ 8 (by kernel_rfl) (by kernel_rfl) (by kernel_rfl) (by kernel_rfl)) ?_
  intro W base args ds gs before hval0 hW hcnd _
  have hval : ∀ (j : Nat) t v, Try.f4.params[j]? = some t → args[j]? = some v → Value.okWide Try.prog W .any base t v := hval0
  have hW' := hW
  obtain ⟨p, q, hA0, hV, rfl, hfz, hnd⟩ := hW
  have hA : DataW.TrodAll enc Try.prog W 0 (fun _ => true) true Try.f4.params.toList args.toList ds p := hA0
  rw [Try.params4] at hA hval
  obtain ⟨v0, v1, v2, d0, d1, d2, p0, p1, p2, rfl, rfl, rfl, h0, h1, h2⟩ := trodAll_three hA
  obtain ⟨rfl, rfl⟩ := trodVars_none hV
  obtain ⟨a, rfl, rfl, rfl, wa⟩ := open_int UInt' (hval 0 T_int v0 rfl rfl) h0
  obtain ⟨b, rfl, rfl, rfl⟩ := open_bool UBool (hval 1 T_bool v1 rfl rfl) h1
  obtain ⟨m, rfl, rfl, rfl, wm⟩ := open_int UInt' (hval 2 T_int v2 rfl rfl) h2
  have hc := erratalaw07_NetSides.call (netSides_pt (W := W) (mask := a) (late := b) (more := m) (K := fun v w' => v = .bool true ∧ Below W.heap.size W w') fun c w' st => ⟨rfl, st.below fun k hk e => absurd (show 1 ≤ 0 from e) (by omega)⟩)
  refine hc.mono fun e W' he => ?_
  cases e with
  | returned v =>
    obtain ⟨rfl, hB⟩ := he
    exact ⟨_, rfl, law_post laidOut_ hW' rfl rfl rfl rfl UBool (by rw [Try.params4]; intro t ht; simp at ht; rcases ht with rfl | rfl | rfl <;> exact ⟨by kernel_rfl, of_decide_eq_true (by kernel_rfl)⟩) hB⟩
  | panicked ch => exact he.elim
  | outgrown => exact he.elim

theorem netSides_holds : Rows.NetSidesSaid :=
  OpenClaim.holds_of_wide F_erratalaw07_NetSides Try.f4 rfl rfl rfl rfl rfl rfl rfl ⟨rfl, rfl, rfl, rfl, rfl⟩ rfl rfl rfl rfl rfl (by kernel_rfl) Try.func4 (by kernel_rfl)
    (of_decide_eq_true (by kernel_rfl)) (by unfold Func.isWrapper; first | (rw [if_pos (by decide +kernel)]; kernel_rfl) | (rw [if_neg (by decide +kernel)]; exact ⟨rfl, rfl⟩))
    (fun os started H enc _ => netSides_lifted os started H enc)

end Go.Proofs.Ytollnmlnpngmfaa
