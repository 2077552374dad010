/-
  Tables of producers: their form in memory; in, fine, Right, find, Look, record, the reference's Right. No condition.
-/
import Derived.Test.YtefinemhfgdpdaaPlus
import Derived.Test.YtefinemhfgdpdaaLib
namespace Go.Proofs.Ytefinemhfgdpdaa
open Go.RowKit
abbrev PrD := D_api_Producer
structure Pr where
  id : Int
  epoch : Int
  next : Int
  last : List Int
abbrev Pr.raw (p : Pr) (v : SV) : PrD := ⟨p.id, p.epoch, p.next, v⟩
abbrev PrL := List (Pr × SV)
def praws (L : PrL) : List PrD := L.map fun p => p.1.raw p.2
def prows (L : PrL) : Dat := Dat.all L fun p => rowR p.2.1 p.1.last
abbrev prs (L : PrL) : List Pr := L.map (·.1)
def inP (n : Int) : Prop := 0 ≤ n ∧ n ≤ 1099511627776
instance (n : Int) : Decidable (inP n) := by unfold inP; infer_instance
structure FineP (p : Pr) : Prop where
  id : inP p.id
  epoch : inP p.epoch
  next : inP p.next
  len : (p.last.length : Int) = min p.next 20
  each : ∀ i (h : i < p.last.length), inP p.last[i]
  asc : ∀ i (h : i < p.last.length), 0 < i → p.last[i - 1] < p.last[i]
structure RightT (s : List Pr) : Prop where
  fine : ∀ p ∈ s, FineP p
  asc : ∀ i (h : i < s.length), 0 < i → s[i - 1].id < s[i].id
  len : s.length ≤ 50
open Classical in
noncomputable def fineB (p : Pr) : Bool := decide (FineP p)
open Classical in
noncomputable def rightB (s : List Pr) : Bool := decide (RightT s)
theorem fineB_true {p : Pr} : fineB p = true ↔ FineP p := by simp [fineB]
theorem fineB_false {p : Pr} (h : ¬ FineP p) : fineB p = false := by simp [fineB, h]
theorem rightB_true {s : List Pr} : rightB s = true ↔ RightT s := by simp [rightB]
theorem rightB_false {s : List Pr} (h : ¬ RightT s) : rightB s = false := by simp [rightB, h]

section
variable {B : Base} {w : World}
theorem in_g (n : Int) : Gives Try.prog B (sCall F_producer_in #[.int .i64 n]) (.bool (decide (inP n))) := by
  refine Gives.intro fun B' w K base h k => ?_
  refine producer_in.up (producer_in.call ?_)
  unfold producer_in.pt
  simp -zeta only [bin_geq, bin_leq, ifB_dec]
  refine ⟨fun h1 => ?_, fun h1 => ?_⟩
  · have : decide (inP n) = decide (n ≤ 1099511627776) := decide_eq_decide.2 ⟨fun h => h.2, fun h => ⟨h1, h⟩⟩
    rw [this] at k
    exact k _ _ h
  · rw [decide_eq_false (fun hh : inP n => h1 hh.1)] at k
    exact k _ _ h

end
end Go.Proofs.Ytefinemhfgdpdaa
