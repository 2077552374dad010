/-
  Contracts of the library functions that this seat reaches, printed by program out of templates. No condition.
-/
import Derived.Test.YtmpnniicmmekmaaSpec
import Derived.Test.YtmpnniicmmekmaaTypes
import Derived.Test.YtmpnniicmmekmaaPt0
import Derived.Test.YtmpnniicmmekmaaPt1
namespace Go.Proofs.Ytmpnniicmmekmaa
open Go.RowKit

theorem gslices_Clone_s_api_Seg_api_Seg {B : Base} {v : Value} {l : List D_api_Seg} (r : rowR v l B) (hl : l.length * 16 ≤ 140737488355328) (hl2 : l.length ≤ 140737488355328) : Makes Try.prog B (sCall F_slices_Clone_s_api_Seg_api_Seg #[v]) fun v' τ => τ = [rowD T_api_Seg v' l] := by
  refine Makes.intro fun B' w K base h k => ?_
  replace r := base r
  refine slices_Clone_s_api_Seg_api_Seg.up (slices_Clone_s_api_Seg_api_Seg.call ?_)
  unfold slices_Clone_s_api_Seg_api_Seg.pt
  obtain ⟨a, cap, rfl, _⟩ := rowR.form r
  simp -zeta only [bin_eql_slice_nil U_s_api_Seg]
  rw [ifB_bool]
  refine ⟨fun e => ?_, fun e => ?_⟩
  · have : a = none := by cases a <;> simp_all
    subst this
    obtain ⟨_, _, he, _, h0⟩ := r
    have hl0 : l = [] := by
      rcases h0 with h0 | ⟨g, o, h0, _⟩
      · exact h0
      · cases he; cases h0
    subst hl0
    exact k _ _ _ rfl (h.addNil D_api_Seg T_api_Seg)
  · refine h.build0 (α := D_api_Seg) sl_s_api_Seg fun v1 w1 h nv => ?_
    refine h.append 0 rfl sl_s_api_Seg (Rd.base r) (by simpa using hl) (by simpa using hl2) fun v2 w2 h => ?_
    exact k _ _ _ rfl h

theorem gslices_Clone_s_api_Value_api_Value {B : Base} {v : Value} {l : List D_api_Value} (r : rowR v l B) (hl : l.length * 32 ≤ 140737488355328) (hl2 : l.length ≤ 140737488355328) : Makes Try.prog B (sCall F_slices_Clone_s_api_Value_api_Value #[v]) fun v' τ => τ = [rowD T_api_Value v' l] := by
  refine Makes.intro fun B' w K base h k => ?_
  replace r := base r
  refine slices_Clone_s_api_Value_api_Value.up (slices_Clone_s_api_Value_api_Value.call ?_)
  unfold slices_Clone_s_api_Value_api_Value.pt
  obtain ⟨a, cap, rfl, _⟩ := rowR.form r
  simp -zeta only [bin_eql_slice_nil U_s_api_Value]
  rw [ifB_bool]
  refine ⟨fun e => ?_, fun e => ?_⟩
  · have : a = none := by cases a <;> simp_all
    subst this
    obtain ⟨_, _, he, _, h0⟩ := r
    have hl0 : l = [] := by
      rcases h0 with h0 | ⟨g, o, h0, _⟩
      · exact h0
      · cases he; cases h0
    subst hl0
    exact k _ _ _ rfl (h.addNil D_api_Value T_api_Value)
  · refine h.build0 (α := D_api_Value) sl_s_api_Value fun v1 w1 h nv => ?_
    refine h.append 0 rfl sl_s_api_Value (Rd.base r) (by simpa using hl) (by simpa using hl2) fun v2 w2 h => ?_
    exact k _ _ _ rfl h

end Go.Proofs.Ytmpnniicmmekmaa
