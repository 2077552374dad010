/-
  ProducerApart holds: for every table, all entries and every position the law answers true. No condition.
-/
import Derived.Test.YtppnebcpalialaaArgs
import Derived.Test.YtppnebcpalialaaProdM
namespace Go.Proofs.Ytppnebcpalialaa
open Go.ChangeShapes Go.WideShapes Go.ChangeAt Go.RowKit

set_option maxRecDepth 100000 in
theorem producerApart_lifted (os : Os) (started : os.Started) (H : Type) (enc : TypeId × Value → H) :
    ReturnsInHanded {} Try.checked os F_erratalaw10_ProducerApart .any (Rows.producerApartSpec.pre6 enc Try.prog Try.f4 Rows.producerApartRow.domain false) (Rows.producerApartSpec.post enc Try.prog Try.f4 false true false false) := by
  refine returnsInHanded_of_change (C := Try.checked) own_ started (by kernel_rfl) Try.func4
    (ChangeSpec.witness6 (enc := enc) (C := Try.checked) false ⟨#[], #[.slice none 0 0, .agg #[.int .i64 0, .int .i64 0, .int .i64 0, .int .i64 0, .string ⟨#[]⟩, .int .i64 0, .int .i64 0, .slice none 0 0], .agg #[.int .i64 0, .int .i64 0, .int .i64 0, .int .i64 0, .string ⟨#[]⟩, .int .i64 0, .int .i64 0, .slice none 0 0], .int .i64 0], []⟩ 8 (by kernel_rfl) (by kernel_rfl) (by kernel_rfl) (by kernel_rfl)) ?_
  intro W base args ds gs before hval0 hW _ _
  obtain ⟨args⟩ := args
  have hval : ∀ (j : Nat) t v, Try.f4.params[j]? = some t → (Array.mk args)[j]? = some v → Value.okWide Try.prog W .any base t v := hval0
  have hW' := hW
  obtain ⟨p, q, hA0, hV, rfl, _, _⟩ := hW
  have hA : DataW.TrodAll enc Try.prog W 0 (fun _ => true) true Try.f4.params.toList args ds p := hA0
  rw [Try.params4] at hA hval
  obtain ⟨v0, vs0, d0, ds0, p0, q0, rfl, rfl, rfl, h0, hA⟩ := trodAll_cons hA
  obtain ⟨v1, vs1, d1, ds1, p1, q1, rfl, rfl, rfl, h1, hA⟩ := trodAll_cons hA
  obtain ⟨v2, vs2, d2, ds2, p2, q2, rfl, rfl, rfl, h2, hA⟩ := trodAll_cons hA
  obtain ⟨v3, vs3, d3, ds3, p3, q3, rfl, rfl, rfl, h3, hA⟩ := trodAll_cons hA
  obtain ⟨rfl, rfl, rfl⟩ := trodAll_nil hA
  obtain ⟨rfl, rfl⟩ := trodVars_none hV
  obtain ⟨a0, n0, c0, rfl⟩ := okWide_slice U_s_api_Producer (hval 0 T_s_api_Producer v0 rfl rfl)
  obtain ⟨fu0, hf0⟩ := h0
  obtain ⟨l0, hl0, hm0, hq0⟩ := open_rowP (α := D_api_Producer) (Q := ok_api_Producer W) U_s_api_Producer c_api_Producer (fun n cs y => dec_api_Producer n cs y) hf0
  obtain ⟨c1, rfl, z1⟩ := okWide_struct fs_api_Entry (hval 1 T_api_Entry v1 rfl rfl)
  obtain ⟨fu1, hf1⟩ := h1
  obtain ⟨x1, hx1, hq1⟩ := dec_api_Entry _ _ _ hf1
  have hx1 : c1.toList = Enc.cells x1 := hx1
  obtain rfl : c1 = (Enc.cells x1).toArray := by rw [← hx1]
  obtain ⟨c2, rfl, z2⟩ := okWide_struct fs_api_Entry (hval 2 T_api_Entry v2 rfl rfl)
  obtain ⟨fu2, hf2⟩ := h2
  obtain ⟨x2, hx2, hq2⟩ := dec_api_Entry _ _ _ hf2
  have hx2 : c2.toList = Enc.cells x2 := hx2
  obtain rfl : c2 = (Enc.cells x2).toArray := by rw [← hx2]
  have u3 : Try.prog.underlying T_int = some (.int .i64) := by kernel_rfl
  obtain ⟨x3, rfl, rfl, rfl, wx3⟩ := open_int u3 (hval 3 T_int v3 rfl rfl) h3
  have hc := erratalaw10_ProducerApart.call (producerApart_pt (W := W) (a := x1) (b := x2) (pos := x3) (K := fun v w' => v = .bool true ∧ Below W.heap.size W w') (lawB.row hl0) hm0 hq0 fun w' σ h => ⟨rfl, lawB.fin h⟩)
  have hty : ∀ t ∈ Try.f4.params.toList, Try.prog.readableRec t = true ∧ t < Try.prog.types.size := by
    have hall : (Try.f4.params.toList.all fun t => Try.prog.readableRec t && decide (t < Try.prog.types.size)) = true := by kernel_rfl
    intro t ht
    have := List.all_eq_true.1 hall t ht
    simpa using this
  refine hc.mono fun e W' he => ?_
  cases e with
  | returned v =>
    obtain ⟨rfl, hB⟩ := he
    exact ⟨_, rfl, law_post laidOut_ hW' rfl rfl rfl rfl (by kernel_rfl : Try.prog.underlying 4 = some .bool) hty hB⟩
  | panicked ch => exact he.elim
  | outgrown => exact he.elim

theorem producerApart_holds : Rows.ProducerApartSaid :=
  OpenClaim.holds_of_wide F_erratalaw10_ProducerApart Try.f4 rfl rfl rfl rfl rfl rfl rfl ⟨rfl, rfl, rfl, rfl, rfl⟩ rfl rfl rfl rfl rfl (by kernel_rfl) Try.func4 (by kernel_rfl)
    (of_decide_eq_true (by kernel_rfl)) (by unfold Func.isWrapper; first | (rw [if_pos (by decide +kernel)]; kernel_rfl) | (rw [if_neg (by decide +kernel)]; exact ⟨rfl, rfl⟩))
    (fun os started H enc _ => producerApart_lifted os started H enc)

end Go.Proofs.Ytppnebcpalialaa
