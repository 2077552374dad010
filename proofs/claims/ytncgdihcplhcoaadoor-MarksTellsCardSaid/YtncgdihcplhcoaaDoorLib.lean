/-
  Contracts of the library functions that this seat reaches, printed by program out of templates. No condition.
-/
import Derived.Test.YtncgdihcplhcoaaDoorSpec
import Derived.Test.YtncgdihcplhcoaaDoorTypes
import Derived.Test.YtncgdihcplhcoaaDoorPt0
import Derived.Test.YtncgdihcplhcoaaDoorPt1
namespace Go.Proofs.YtncgdihcplhcoaaDoor
open Go.RowKit
set_option maxRecDepth 100000

theorem gslices_Clone_s_marks_input_marks_input {B : Base} {v : Value} {l : List D_marks_input} (r : rowR v l B) (hl : l.length * 16 ≤ 140737488355328) (hl2 : l.length ≤ 140737488355328) : Makes Tryd.prog B (sCall F_slices_Clone_s_marks_input_marks_input #[v]) fun v' τ => τ = [rowD T_marks_input v' l] := by
  refine Makes.intro fun B' w K base h k => ?_
  replace r := base r
  refine slices_Clone_s_marks_input_marks_input.up (slices_Clone_s_marks_input_marks_input.call ?_)
  unfold slices_Clone_s_marks_input_marks_input.pt
  obtain ⟨a, cap, rfl, _⟩ := rowR.form r
  simp -zeta only [bin_eql_slice_nil U_s_marks_input]
  rw [ifB_bool]
  refine ⟨fun e => ?_, fun e => ?_⟩
  · have : a = none := by cases a <;> simp_all
    subst this
    obtain ⟨_, _, he, _, h0⟩ := r
    have hl0 : l = [] := by
      rcases h0 with h0 | ⟨g, o, h0, _⟩
      · exact h0
      · cases he; cases h0
    subst hl0
    exact k _ _ _ rfl (h.addNil D_marks_input T_marks_input)
  · refine h.build0 (α := D_marks_input) sl_s_marks_input fun v1 w1 h nv => ?_
    refine h.append 0 rfl sl_s_marks_input (Rd.base r) (by simpa using hl) (by simpa using hl2) fun v2 w2 h => ?_
    exact k _ _ _ rfl h

end Go.Proofs.YtncgdihcplhcoaaDoor
