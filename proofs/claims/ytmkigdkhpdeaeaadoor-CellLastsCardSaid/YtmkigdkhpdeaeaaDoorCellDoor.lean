/-
  What the row's list gives: the variable 'offsets' holds its three numbers. No condition.
-/
import Derived.Test.YtmkigdkhpdeaeaaDoorCards
import Derived.Test.YtmkigdkhpdeaeaaDoorTie
import Derived.Test.YtmkigdkhpdeaeaaDoorArgs
import Derived.Test.YtmkigdkhpdeaeaaDoorCellA
import Derived.WalkKit
import Derived.ProofKit
import Derived.OpenShut
import Derived.Deep.DeepHandedRow
import Derived.Lib.LaidTab
namespace Go.Proofs.YtmkigdkhpdeaeaaDoor
open Go.ChangeShapes Go.WideShapes Go.ChangeAt Go.RowKit

theorem gTab : Tryd.prog.globalNamed "errata/cell.offsets" = some 0 := by kernel_rfl
theorem gTabType : (Tryd.prog.globals[0]?).map (·.type) = some T_3_int := by kernel_rfl
theorem cells_3_int : Tryd.prog.cellsOf T_3_int = 3 := by kernel_rfl
theorem U_3_int : Tryd.prog.underlying T_3_int = some (.array 3 T_int) := by kernel_rfl
abbrev laidList {H : Type} : List (String × DataW H) := [("errata/cell.offsets", Rows.laid_errata_cell_offsets)]
theorem laid_fact {W : World} (h : laidMetH Tryd.prog [("errata/cell.offsets", Rows.laid_errata_cell_offsets)] W) : offD (lawB W) := by
  have ht : Lib.TabIs Tryd.prog W "errata/cell.offsets" .i64 [0, 64, 131072] := Lib.tabIs_of_head (rest := []) gTab gTabType U_3_int U_int cI cells_3_int h
  have c0 : W.cell? ⟨0, 0, none⟩ = some (.int .i64 0) := ht.cell gTab 0 (by decide)
  have c1 : W.cell? ⟨0, 1, none⟩ = some (.int .i64 64) := ht.cell gTab 1 (by decide)
  have c2 : W.cell? ⟨0, 2, none⟩ = some (.int .i64 131072) := ht.cell gTab 2 (by decide)
  have hs : 0 < W.heap.size := by
    rcases Nat.eq_zero_or_pos W.heap.size with e | e
    · have h0 : W.heap[0]? = none := Array.getElem?_eq_none (by omega)
      unfold World.cell? at c0
      simp [h0] at c0
    · exact e
  refine ⟨hs, hs, fun j v hv => ?_⟩
  rw [Nat.zero_add]
  show W.cell? ⟨0, j, none⟩ = some v
  rcases j with _ | _ | _ | j
  · cases hv; exact c0
  · cases hv; exact c1
  · cases hv; exact c2
  · simp at hv
/-- A world for the witness: the settled one, the variable holding what its initialiser lays. -/
noncomputable def laidWorld (os : Os) : World :=
  { World.holding Tryd.prog os ⟨#[], #[], []⟩ with heap := (World.holding Tryd.prog os ⟨#[], #[], []⟩).heap.modify 0 fun
      | .cells _ t frozen => .cells #[.int .i64 0, .int .i64 64, .int .i64 131072] t frozen
      | o => o }
end Go.Proofs.YtmkigdkhpdeaeaaDoor
