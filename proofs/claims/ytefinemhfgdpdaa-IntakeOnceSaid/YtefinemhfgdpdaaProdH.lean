/-
  Tables stay right; chapter 10's small. No condition.
-/
import Derived.Test.YtefinemhfgdpdaaProdG
namespace Go.Proofs.Ytefinemhfgdpdaa
open Go.RowKit

theorem put_right {s : List Pr} (h : RightT s) (id e q pos : Int) : RightT (putS s id e q pos) := by
  unfold putS
  by_cases c0 : (lookS s id e q).2 ≠ 0
  · rw [if_pos c0]; exact h
  rw [if_neg c0]
  have c0 : (lookS s id e q).2 = 0 := by simpa using c0
  obtain ⟨⟨h1, _, h3⟩, he, hq, hfull⟩ := look_ok c0
  by_cases c1 : ¬ inP pos
  · rw [if_pos c1]; exact h
  rw [if_neg c1]
  by_cases c2 : 0 < (getP s id).last.length ∧ pos ≤ (getP s id).last.getD ((getP s id).last.length - 1) 0
  · rw [if_pos c2]; exact h
  rw [if_neg c2]
  have hid := getP_id s id
  have hfine := (getP_fine h (id := id) ⟨h1.1, by have := h1.2; omega⟩).1
  refine with_right h (putP_fine hfine (by rw [← hq]; exact h3.2) (Decidable.of_not_not c1) c2) ?_
  show hasP s (getP s id).id = true ∨ _
  rw [hid]
  cases e : hasP s id
  · right
    exact Nat.lt_of_not_le fun hh => hfull ⟨e, hh⟩
  · exact .inl rfl
theorem fence_ok {s : List Pr} {id : Int} (h : (fenceS s id).2.2 = 0) : okN id ∧ ¬ (getP s id).epoch = 1099511627776 ∧ ¬ (hasP s id = false ∧ 50 ≤ s.length) ∧ fenceS s id = (withS s ⟨id, (getP s id).epoch + 1, 0, []⟩, (getP s id).epoch + 1, 0) := by
  unfold fenceS at h ⊢
  by_cases c1 : ¬ okN id ∨ (getP s id).epoch = 1099511627776
  · rw [if_pos c1] at h; cases h
  rw [if_neg c1] at h ⊢
  by_cases c2 : hasP s id = false ∧ 50 ≤ s.length
  · rw [if_pos c2] at h; cases h
  rw [if_neg c2]
  exact ⟨Decidable.of_not_not fun hh => c1 (.inl hh), fun hh => c1 (.inr hh), c2, rfl⟩
theorem fence_right {s : List Pr} (h : RightT s) {id : Int} (he : (fenceS s id).2.2 = 0) : RightT (fenceS s id).1 := by
  obtain ⟨h1, h2, h3, e⟩ := fence_ok he
  rw [e]
  have hsm := getP_small h (id := id)
  refine with_right h ⟨⟨h1.1, by have := h1.2; show id ≤ _; omega⟩, ⟨by show 0 ≤ (getP s id).epoch + 1; omega, by show (getP s id).epoch + 1 ≤ _; omega⟩, (show inP 0 by decide), rfl, fun i h => absurd h (Nat.not_lt_zero i), fun i h => absurd h (Nat.not_lt_zero i)⟩ ?_
  show hasP s id = true ∨ _
  cases e : hasP s id
  · right
    exact Nat.lt_of_not_le fun hh => h3 ⟨e, hh⟩
  · exact .inl rfl
theorem right_nil : RightT [] := ⟨fun p hp => (by cases hp), fun i h => absurd h (Nat.not_lt_zero i), Nat.zero_le _⟩

abbrev ent (a b c : Int) : D_api_Entry := ⟨0, a, b, c, ⟨#[]⟩, 0, 0, nilSV⟩
section
variable {B : Base} {w : World}
theorem nilT (B : Base) : (rowR (.slice none 0 0) (praws [])) B := ⟨none, 0, rfl, Nat.le_refl _, .inl rfl⟩
theorem nilQ (B : Base) : prows [] B := fun x hx => by cases hx
end
end Go.Proofs.Ytefinemhfgdpdaa
