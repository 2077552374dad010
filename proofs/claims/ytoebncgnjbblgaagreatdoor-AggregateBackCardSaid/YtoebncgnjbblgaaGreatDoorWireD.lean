/-
  wire: lists that are read; the reference's comparing. No condition.
-/
import Derived.Test.YtoebncgnjbblgaaGreatDoorWireC
--@auto
namespace Go.Proofs.YtoebncgnjbblgaaGreatDoor
open Go.RowKit
set_option maxRecDepth 100000

theorem Ok1.shrink {α : Type} {enc : α → Bs} {good : α → Prop} {one : RS → α × RS} (h : Ok1 enc good one) (hne : ∀ x, 0 < (enc x).length) {s : RS} (h1 : s.bad = false) :
    (one s).2.rest.length ≤ s.rest.length ∧ ((one s).2.bad = false → (one s).2.rest.length + 1 ≤ s.rest.length) := by
  cases hb : (one s).2.bad
  · obtain ⟨e, _⟩ := h.back h1 hb
    have := hne (one s).1
    rw [e, List.length_append]
    exact ⟨by omega, fun _ => by omega⟩
  · rw [h.fail h1 hb]
    exact ⟨Nat.zero_le _, fun hh => by cases hh⟩
theorem encI_pos (n : Int) : 0 < (encI n).length := by unfold encI; simp
theorem encT_pos (t : Bs) : 0 < (encT t).length := by unfold encT; simp <;> omega
theorem loopR_le {α : Type} {enc : α → Bs} {good : α → Prop} {one : RS → α × RS} (h : Ok1 enc good one) (hne : ∀ x, 0 < (enc x).length) : ∀ (k : Nat) (acc : List α) (s : RS), (loopR one k acc s).1.length ≤ acc.length + s.rest.length + 1
  | 0, acc, s => by rw [loopR]; simp only; omega
  | k + 1, acc, s => by
    rw [loopR]
    by_cases c : s.bad = true
    · rw [if_pos c]; simp only; omega
    · rw [if_neg c]
      have c : s.bad = false := by simpa using c
      obtain ⟨h1, h2⟩ := h.shrink hne c
      cases hb : (one s).2.bad
      · have := loopR_le h hne k (acc ++ [(one s).1]) (one s).2
        have := h2 hb
        rw [List.length_append, List.length_singleton] at *
        omega
      · cases k with
        | zero => rw [loopR, List.length_append, List.length_singleton]; omega
        | succ k => rw [loopR, if_pos hb, List.length_append, List.length_singleton]; omega
theorem itemsR_le {α : Type} {enc : α → Bs} {good : α → Prop} {one : RS → α × RS} (h : Ok1 enc good one) (hne : ∀ x, 0 < (enc x).length) (s : RS) (hs : s.rest.length ≤ 1099511627776) : (itemsR one s).1.length ≤ 4611686018427387904 := by
  unfold itemsR
  have h1 := (numR_le (.inr (.inr rfl) : isEnd 91) 0 s).1
  have h2 := loopR_le h hne (numR 91 0 s).1.toNat [] (numR 91 0 s).2
  rw [List.length_nil] at h2
  simp only
  split
  · rw [List.length_nil]; omega
  · omega
section
variable {B : Base} {w : World} {σ : List Dat} {p : Nat} {s : RS}
end
end Go.Proofs.YtoebncgnjbblgaaGreatDoor
