/-
  timeline.Right of any list. No condition.
-/
import Derived.Test.YtdecfgbdppfmcaaGreatDoorTimeA
namespace Go.Proofs.YtdecfgbdppfmcaaGreatDoor
open Go.RowKit
set_option maxRecDepth 100000

def Link (t : List Seg) (q : Nat) (hq : q < t.length) : Prop :=
  (t[q].from_ ≤ 1099511627776 ∧ 1 ≤ t[q].version ∧ t[q].version ≤ 50) ∧ (0 < q → (t[q - 1]'(by omega)).from_ < t[q].from_ ∧ t[q].version ≠ (t[q - 1]'(by omega)).version)

theorem TInv.of {t : List Seg} (hne : t ≠ []) (h0 : ∀ h : 0 < t.length, t[0].from_ = 0) (hp : ∀ q (hq : q < t.length), Link t q hq) : TInv t := by
  refine ⟨hne, h0, fun s hs => ?_, ?_, fun i hi e => ?_⟩
  · obtain ⟨q, hq, rfl⟩ := List.getElem_of_mem hs
    exact (hp q hq).1
  · refine List.pairwise_iff_getElem.2 fun i j hi hj hij => ?_
    induction j with
    | zero => omega
    | succ j ih =>
      have h1 := ((hp (j + 1) hj).2 (by omega)).1
      have h1 : (t[j]'(by omega)).from_ < t[j + 1].from_ := h1
      by_cases e : i = j
      · subst e; exact h1
      · exact Int.lt_trans (ih (by omega) (by omega)) h1
  · exact ((hp (i + 1) hi).2 (by omega)).2 e.symm

theorem TInv.link {t : List Seg} (h : TInv t) (q : Nat) (hq : q < t.length) : Link t q hq := by
  refine ⟨h.each _ (List.getElem_mem hq), fun hp => ⟨List.pairwise_iff_getElem.1 h.sorted (q - 1) q (by omega) hq (by omega), fun e => ?_⟩⟩
  refine h.differ (q - 1) (by omega) ?_
  rw [← e]
  congr 2
  omega

open Classical in
noncomputable def rightT (t : List Seg) : Bool := decide (TInv t)
theorem rightT_true {t : List Seg} : rightT t = true ↔ TInv t := by by_cases h : TInv t <;> simp [rightT, h]
theorem rightT_no {t : List Seg} (h : ¬ TInv t) : rightT t = false := by simp [rightT, h]
theorem rightT_yes {t : List Seg} (h : TInv t) : rightT t = true := rightT_true.2 h

section
variable {B : Base}
end
end Go.Proofs.YtdecfgbdppfmcaaGreatDoor
