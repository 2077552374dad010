/-
  The reference of chapter 10, set and Put: plain laws. No condition.
-/
import Derived.Test.YtefinemhfgdpdaaGreatDoorInI
namespace Go.Proofs.YtefinemhfgdpdaaGreatDoor
open Go.RowKit
set_option maxRecDepth 100000

def setL (q : Pr × SV) : PrL → Bool → PrL
  | [], done => if done = true then [] else [q]
  | x :: L, done => ((if done = false ∧ q.1.id ≤ x.1.id then [q] else []) ++ (if x.1.id ≠ q.1.id then [x] else [])) ++ setL q L (done || decide (q.1.id ≤ x.1.id))
theorem setL_mem {q : Pr × SV} : ∀ {L : PrL} {d : Bool}, ∀ x ∈ setL q L d, x ∈ L ∨ x = q
  | [], d, x, h => by
    unfold setL at h
    split at h
    · cases h
    · exact .inr (List.mem_singleton.1 h)
  | y :: L, d, x, h => by
    unfold setL at h
    rcases List.mem_append.1 h with h | h
    · rcases List.mem_append.1 h with h | h
      · split at h
        · exact .inr (List.mem_singleton.1 h)
        · cases h
      · split at h
        · exact .inl (by rw [List.mem_singleton.1 h]; exact List.mem_cons_self)
        · cases h
    · rcases setL_mem x h with h | h
      · exact .inl (List.mem_cons_of_mem _ h)
      · exact .inr h
theorem setL_len {q : Pr × SV} : ∀ (L : PrL) (d : Bool), (setL q L d).length ≤ 2 * L.length + 1
  | [], d => by
    unfold setL
    split
    · exact Nat.zero_le _
    · exact Nat.le_refl _
  | y :: L, d => by
    have := setL_len (q := q) L (d || decide (q.1.id ≤ y.1.id))
    unfold setL
    rw [List.length_append, List.length_append, List.length_cons]
    split <;> split <;> simp only [List.length_cons, List.length_nil] <;> omega
theorem setL_true {q : Pr × SV} : ∀ {L : PrL}, (∀ x ∈ L, x.1.id ≠ q.1.id) → setL q L true = L
  | [], _ => rfl
  | y :: L, h => by
    unfold setL
    rw [if_neg (fun hh => by cases hh.1), if_pos (h y List.mem_cons_self), Bool.true_or, setL_true fun x hx => h x (List.mem_cons_of_mem _ hx)]
    rfl
theorem has_cons (a : Pr) (s : List Pr) (id : Int) : hasP (a :: s) id = (decide (a.id = id) || hasP s id) := by
  unfold hasP
  rw [List.find?_cons]
  unfold isId
  cases decide (a.id = id) <;> simp
theorem withS_lt {a : Pr} {s : List Pr} {p : Pr} (h : a.id < p.id) : withS (a :: s) p = a :: withS s p := by
  unfold withS
  rw [has_cons, cnt_cons, if_pos h, decide_eq_false (by omega), Bool.false_or]
  split <;> rfl
theorem withS_same {a : Pr} {s : List Pr} {p : Pr} (h : a.id = p.id) : withS (a :: s) p = p :: s := by
  unfold withS
  rw [has_cons, cnt_cons, if_neg (show ¬ a.id < p.id by omega), decide_eq_true h, Bool.true_or, if_pos rfl]
  rfl
theorem withS_gt {a : Pr} {s : List Pr} {p : Pr} (ha : Asc (a :: s)) (h : p.id < a.id) : withS (a :: s) p = p :: a :: s := by
  have hno : hasP s p.id = false := hasP_false fun x hx => by
    have := (List.pairwise_cons.1 ha).1 x hx
    omega
  unfold withS
  rw [has_cons, cnt_cons, if_neg (show ¬ a.id < p.id by omega), decide_eq_false (by omega), hno, Bool.false_or, if_neg (by decide)]
  rfl
theorem setL_with {q : Pr × SV} : ∀ {L : PrL}, Asc (prs L) → prs (setL q L false) = withS (prs L) q.1
  | [], _ => rfl
  | y :: L, h => by
    have h : Asc (y.1 :: prs L) := h
    obtain ⟨h1, h2⟩ := List.pairwise_cons.1 h
    have hid : ∀ x ∈ L, y.1.id < x.1.id := fun x hx => h1 x.1 (List.mem_map_of_mem hx)
    show prs (setL q (y :: L) false) = withS (y.1 :: prs L) q.1
    unfold setL
    rcases Int.lt_trichotomy y.1.id q.1.id with c | c | c
    · rw [if_neg (fun hh => by have := hh.2; omega), if_pos (show y.1.id ≠ q.1.id by omega), decide_eq_false (show ¬ q.1.id ≤ y.1.id by omega), Bool.or_self, withS_lt c, ← setL_with h2]
      rfl
    · rw [if_pos ⟨rfl, by omega⟩, if_neg (show ¬ y.1.id ≠ q.1.id by omega), decide_eq_true (show q.1.id ≤ y.1.id by omega), Bool.or_true, withS_same c, setL_true fun x hx => by have := hid x hx; omega]
      rfl
    · rw [if_pos ⟨rfl, by omega⟩, if_pos (show y.1.id ≠ q.1.id by omega), decide_eq_true (show q.1.id ≤ y.1.id by omega), Bool.or_true, withS_gt h c, setL_true fun x hx => by have := hid x hx; omega]
      rfl
/-- What the reference appends at one place. -/
def setAt (q x : Pr × SV) (done : Bool) : PrL := (if done = false ∧ q.1.id ≤ x.1.id then [q] else []) ++ (if x.1.id ≠ q.1.id then [x] else [])
theorem setL_drop {q : Pr × SV} {L : PrL} {i : Nat} (hi : i < L.length) (d : Bool) : setL q (L.drop i) d = setAt q L[i] d ++ setL q (L.drop (i + 1)) (d || decide (q.1.id ≤ L[i].1.id)) := by
  rw [List.drop_eq_getElem_cons hi]
  rfl
end Go.Proofs.YtefinemhfgdpdaaGreatDoor
