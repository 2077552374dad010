/-
  More of the separation logic: a whole struct stored, lists that ascend. No condition.
-/
import Derived.Test.YtoebncgnjbblgaaGreatDoorSpec
namespace Go.Proofs.YtoebncgnjbblgaaGreatDoor
open Go.RowKit

section
variable {P : Program} {K : Value → World → Prop} {B : Base} {w : World} {σ : List Dat} {E : TypeId}
/-- A whole struct is stored into a variable of one's own. -/
theorem Rel.stAll (h : Rel B w σ) (i : Nat) {n b : Nat} {cs ds : Array Value} {T' : TypeId} (hi : σ[i]? = some (cellD b E cs)) (ht : agB P T' n = true) (hn : ds.size = n) (hc : cs.size = n) (h1 : ∀ v ∈ ds.toList, v.oneCell' = true)
    (k : ∀ w', Rel B w' (σ.set i (cellD b E ds)) → K undef w') : upK P (sStore T' (.pointer (some ⟨b, 0, none⟩)) (.agg ds)) w K := by
  refine h.stAg i hi ht hn (by omega) h1 fun w' h => k w' ?_
  simp only [List.take_zero, List.nil_append, Nat.zero_add] at h
  rw [List.drop_of_length_le (by simp; omega), List.append_nil, Array.toArray_toList] at h
  exact h
end

/-- Things that lie apart from each other, as one thing. -/
def stars : List Dat → Dat
  | [] => emp
  | d :: l => d.star (stars l)
section
variable {B : Base} {w : World}
theorem Rel.addEmp {σ : List Dat} (h : Rel B w σ) : Rel B w (σ ++ [emp]) := by
  obtain ⟨c, h⟩ := h
  exact ⟨c, h.push (Step.refl _ c w) trivial⟩
theorem Rel.unstars {L : List Dat} : ∀ {σ : List Dat}, Rel B w (σ ++ [stars L]) → Rel B w (σ ++ L) := by
  induction L with
  | nil => intro σ h; rw [List.append_nil]; exact h.drop
  | cons a L ih =>
    intro σ h
    have h := h.split (i := σ.length) (a := a) (b := stars L) get_last
    rw [List.set_append_right _ _ (Nat.le_refl _), Nat.sub_self, List.set_cons_zero] at h
    have := ih h
    rw [List.append_assoc] at this
    exact this
theorem Rel.restars {L : List Dat} : ∀ {σ : List Dat}, Rel B w (σ ++ L) → Rel B w (σ ++ [stars L]) := by
  induction L with
  | nil => intro σ h; rw [List.append_nil] at h; exact h.addEmp
  | cons a L ih =>
    intro σ h
    have h : Rel B w ((σ ++ [a]) ++ L) := by rw [List.append_assoc]; exact h
    have h := (ih h).fuse σ.length (a := a) get_last
    rw [List.set_append_right _ _ (Nat.le_refl _), Nat.sub_self, List.set_cons_zero] at h
    exact h
end

/-- Two lists that ascend and have the same members are equal. -/
theorem strict_ext : ∀ {a b : List Int}, a.Pairwise (· < ·) → b.Pairwise (· < ·) → (∀ x, x ∈ a ↔ x ∈ b) → a = b
  | [], [], _, _, _ => rfl
  | [], y :: b, _, _, h => by have := (h y).2 List.mem_cons_self; cases this
  | x :: a, [], _, _, h => by have := (h x).1 List.mem_cons_self; cases this
  | x :: a, y :: b, ha, hb, h => by
    rw [List.pairwise_cons] at ha hb
    have e : x = y := by
      rcases List.mem_cons.1 ((h x).1 List.mem_cons_self) with e | e
      · exact e
      · rcases List.mem_cons.1 ((h y).2 List.mem_cons_self) with e2 | e2
        · exact e2.symm
        · have := ha.1 y e2
          have := hb.1 x e
          omega
    subst e
    rw [strict_ext ha.2 hb.2 fun z => ⟨fun hz => ?_, fun hz => ?_⟩]
    · rcases List.mem_cons.1 ((h z).1 (List.mem_cons_of_mem _ hz)) with e | e
      · have := ha.1 z hz; omega
      · exact e
    · rcases List.mem_cons.1 ((h z).2 (List.mem_cons_of_mem _ hz)) with e | e
      · have := hb.1 z hz; omega
      · exact e
end Go.Proofs.YtoebncgnjbblgaaGreatDoor
