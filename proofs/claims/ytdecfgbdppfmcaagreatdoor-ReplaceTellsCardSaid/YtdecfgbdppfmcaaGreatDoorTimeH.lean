/-
  TimelinePicks, in plain words: versions ascend, every time has one of them, and lies in one span. No condition.
-/
import Derived.Test.YtdecfgbdppfmcaaGreatDoorTimeC
namespace Go.Proofs.YtdecfgbdppfmcaaGreatDoor
open Go.RowKit
set_option maxRecDepth 100000

theorem compact_strict {l : List Int} (h : l.Pairwise (· ≤ ·)) : (Lib.compact l).Pairwise (· < ·) := by
  unfold Lib.compact Lib.compactUpTo
  rw [List.pairwise_map, List.pairwise_filter]
  refine List.pairwise_iff_getElem.2 fun i j hi hj hij hk1 hk2 => ?_
  rw [List.length_range] at hi hj
  rw [List.getElem_range] at hk1 hk2 ⊢
  rw [List.getElem_range]
  have h1 := List.pairwise_iff_getElem.1 h
  have e1 : l.toArray[i]! = l[i] := by simp [hi]
  have e2 : l.toArray[j]! = l[j] := by simp [hj]
  have e3 : l.toArray[j - 1]! = l[j - 1]'(by omega) := by
    have : j - 1 < l.length := by omega
    simp [this]
  rw [e1, e2]
  have hne : l[j] ≠ l[j - 1]'(by omega) := fun e => by
    rw [Lib.keeps_neg (d := l.toArray) (m := j) (by omega) (by rw [e2, e3]; exact e)] at hk2
    cases hk2
  have a1 := h1 (j - 1) j (by omega) hj (by omega)
  have a2 : l[i] ≤ l[j - 1]'(by omega) := by
    by_cases e : i = j - 1
    · subst e; exact Int.le_refl _
    · exact h1 i (j - 1) hi (by omega) (by omega)
  omega
theorem versS_strict (t : List Seg) : (versS t).Pairwise (· < ·) := by
  refine compact_strict ?_
  have := List.pairwise_mergeSort (le := fun x y : Int => decide (x ≤ y)) (fun a b c h1 h2 => by simp at h1 h2 ⊢; omega) (fun a b => by simp; omega) (t.map (·.version))
  simpa using this

theorem atS_mem {t : List Seg} (h : TInv t) (time : Int) : atS t time ∈ versS t := by
  rw [h.atS]
  have hb := h.behind (time := max time 0) (by omega)
  have hle := behindS_le t (max time 0)
  obtain ⟨k, hk⟩ : ∃ k, behindS t (max time 0) = k + 1 := ⟨behindS t (max time 0) - 1, by omega⟩
  rw [at_eq hk (by omega), versS_mem]
  exact ⟨_, List.getElem_mem _, rfl⟩

/-- Of a list that ascends, the next one is not among those before. -/
theorem fresh_of {L : List Int} (h : L.Pairwise (· < ·)) {i : Nat} (hi : i < L.length) : L[i] ∉ L.take i := by
  intro hm
  obtain ⟨j, hj, e⟩ := List.getElem_of_mem hm
  rw [List.length_take] at hj
  rw [List.getElem_take] at e
  have := List.pairwise_iff_getElem.1 h j i (by omega) hi (by omega)
  omega
theorem count_step {α : Type} (f : α → Int) (ds : List α) {L : List Int} (h : L.Pairwise (· < ·)) {i : Nat} (hi : i < L.length) :
    (ds.filter fun x => decide (f x ∈ L.take (i + 1))).length = (ds.filter fun x => decide (f x ∈ L.take i)).length + (ds.filter fun x => decide (f x = L[i])).length := by
  have hf := fresh_of h hi
  induction ds with
  | nil => rfl
  | cons a ds ih =>
    have key : f a ∈ L.take (i + 1) ↔ f a ∈ L.take i ∨ f a = L[i] := by
      rw [List.take_succ_eq_append_getElem hi, List.mem_append, List.mem_singleton]
    rw [List.filter_cons, List.filter_cons, List.filter_cons]
    by_cases h1 : f a ∈ L.take i
    · have h2 : ¬ f a = L[i] := fun e => hf (e ▸ h1)
      simp only [key, h1, h2, decide_true, decide_false, if_true, Bool.false_eq_true, if_false, true_or, List.length_cons, ih]
      omega
    · by_cases h2 : f a = L[i]
      · have h3 : f a ∈ L.take (i + 1) := key.2 (.inr h2)
        rw [if_pos (decide_eq_true h3), if_neg (by rw [decide_eq_false h1]; decide), if_pos (decide_eq_true h2), List.length_cons, List.length_cons, ih]
        omega
      · have h3 : ¬ f a ∈ L.take (i + 1) := fun e => by
          rcases key.1 e with e | e
          · exact h1 e
          · exact h2 e
        rw [if_neg (by rw [decide_eq_false h3]; decide), if_neg (by rw [decide_eq_false h1]; decide), if_neg (by rw [decide_eq_false h2]; decide), ih]

/-! ### Spans -/
def spanEnd (t : List Seg) (i : Nat) : Int := if h : i + 1 < t.length then t[i + 1].from_ else 1099511627777
def spansS (t : List Seg) (ver : Int) : List Seg := ((List.range t.length).filter fun i => decide ((t.getD i ⟨0, 0⟩).version = ver)).map fun i => ⟨(t.getD i ⟨0, 0⟩).from_, spanEnd t i⟩

theorem span_at {t : List Seg} (h : TInv t) {i : Nat} (hi : i < t.length) {time : Int} : (t[i].from_ ≤ time ∧ time < spanEnd t i) ↔ (0 ≤ time ∧ time ≤ 1099511627776 ∧ behindS t time = i + 1) := by
  have hz := h.zero (by omega)
  have h0 : 0 ≤ t[i].from_ := by
    by_cases e : i = 0
    · subst e; omega
    · have := List.pairwise_iff_getElem.1 h.sorted 0 i (by omega) hi (by omega)
      omega
  constructor
  · rintro ⟨h1, h2⟩
    have hb : behindS t time = i + 1 := behind_is h.sorted hi h1 fun h3 => by
      unfold spanEnd at h2
      rw [dif_pos h3] at h2
      exact h2
    refine ⟨by omega, ?_, hb⟩
    unfold spanEnd at h2
    split at h2
    · rename_i h3
      have := (h.each _ (List.getElem_mem h3)).1
      omega
    · omega
  · rintro ⟨h1, h2, hb⟩
    obtain ⟨h3, h4⟩ := behindS_lt (t := t) (time := time) (i := i) (by omega)
    refine ⟨h4, ?_⟩
    unfold spanEnd
    split
    · rename_i h5
      exact behindS_ge h.sorted (by omega) h5
    · omega

theorem filter_one {p : Nat → Bool} {k n : Nat} (hk : k < n) (h : ∀ i, i < n → (p i = true → i = k)) : ((List.range n).filter p).length = if p k = true then 1 else 0 := by
  induction n with
  | zero => omega
  | succ n ih =>
    rw [List.range_succ, List.filter_append, List.length_append]
    by_cases e : k = n
    · subst e
      have : (List.range k).filter p = [] := List.filter_eq_nil_iff.2 fun i hi hp => by
        have := h i (by have := List.mem_range.1 hi; omega) hp
        have := List.mem_range.1 hi
        omega
      rw [this, List.filter_cons]
      split <;> simp
    · have hn : ¬ p n = true := fun hp => e (h n (by omega) hp).symm
      rw [ih (by omega) fun i hi hp => h i (by omega) hp, List.filter_cons, if_neg hn]
      simp
theorem filter_none {p : Nat → Bool} {n : Nat} (h : ∀ i, i < n → p i = false) : ((List.range n).filter p).length = 0 := by
  have : (List.range n).filter p = [] := List.filter_eq_nil_iff.2 fun i hi hp => by rw [h i (List.mem_range.1 hi)] at hp; cases hp
  rw [this]
  rfl

def insideS (l : List Seg) (time : Int) : Nat := (l.filter fun s => decide (s.from_ ≤ time) && decide (time < s.version)).length
theorem inside_count {t : List Seg} (h : TInv t) (ver time : Int) : insideS (spansS t ver) time = if (0 ≤ time ∧ time ≤ 1099511627776) ∧ atS t time = ver then 1 else 0 := by
  unfold insideS spansS
  rw [List.filter_map, List.length_map, List.filter_filter]
  have hp : ∀ i, i < t.length → ((((fun s : Seg => decide (s.from_ ≤ time) && decide (time < s.version)) ∘ fun i => (⟨(t.getD i ⟨0, 0⟩).from_, spanEnd t i⟩ : Seg)) i && decide ((t.getD i ⟨0, 0⟩).version = ver)) = true ↔ (0 ≤ time ∧ time ≤ 1099511627776 ∧ behindS t time = i + 1) ∧ (t.getD i ⟨0, 0⟩).version = ver) := by
    intro i hi
    have e : t.getD i ⟨0, 0⟩ = t[i] := by rw [List.getD_eq_getElem?_getD, List.getElem?_eq_getElem hi]; rfl
    rw [← span_at h hi]
    simp only [Function.comp_apply, Bool.and_eq_true, decide_eq_true_eq]
    rw [e]
  by_cases hr : 0 ≤ time ∧ time ≤ 1099511627776
  · have hb := h.behind hr.1
    have hle := behindS_le t time
    obtain ⟨k, hk⟩ : ∃ k, behindS t time = k + 1 := ⟨behindS t time - 1, by omega⟩
    rw [filter_one (k := k) (by omega) fun i hi hpi => by
      have := ((hp i hi).1 hpi).1.2.2
      omega]
    have hkl : k < t.length := by omega
    have hat := at_eq hk hkl
    have e : t.getD k ⟨0, 0⟩ = t[k] := by rw [List.getD_eq_getElem?_getD, List.getElem?_eq_getElem hkl]; rfl
    have hpk := hp k hkl
    rw [hat, ← e]
    by_cases hv : (t.getD k ⟨0, 0⟩).version = ver
    · rw [if_pos (hpk.2 ⟨⟨hr.1, hr.2, hk⟩, hv⟩), if_pos ⟨hr, hv⟩]
    · rw [if_neg fun hh => hv (hpk.1 hh).2, if_neg fun hh => hv hh.2]
  · rw [if_neg fun hh => hr hh.1]
    refine filter_none fun i hi => ?_
    rw [← Bool.not_eq_true]
    intro hh
    have := ((hp i hi).1 hh).1
    exact hr ⟨this.1, this.2.1⟩
end Go.Proofs.YtdecfgbdppfmcaaGreatDoor
