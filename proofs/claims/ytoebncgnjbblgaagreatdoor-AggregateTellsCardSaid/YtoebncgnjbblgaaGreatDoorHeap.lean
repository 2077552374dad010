/-
  Memory as a list of things that one owns, over a base that stays: a separation logic over the heap with owners. No condition.
-/
import Derived.Test.YtoebncgnjbblgaaGreatDoorMore
namespace Go.Proofs.YtoebncgnjbblgaaGreatDoor
open Go.RowKit

/-- What may be read: a world, and the blocks of it that may be looked at. -/
structure Base where
  W : World
  keep : Nat → Prop

def Base.le (B B' : Base) : Prop := ∀ k, B.keep k → k < B.W.heap.size → B'.keep k ∧ B'.W.heap[k]? = B.W.heap[k]?
theorem Base.le.refl (B : Base) : B.le B := fun _ h _ => ⟨h, rfl⟩
theorem Base.le.trans {A B C : Base} (h : A.le B) (h' : B.le C) : A.le C := fun k hk hs => by
  obtain ⟨h1, h2⟩ := h k hk hs
  have hs' : k < B.W.heap.size := by
    rw [Array.getElem?_eq_getElem hs] at h2
    exact (Array.getElem?_eq_some_iff.1 h2).1
  obtain ⟨h3, h4⟩ := h' k h1 hs'
  exact ⟨h3, h4.trans h2⟩

/-- A thing in memory: what holds of the blocks that may be looked at. -/
structure Dat where
  p : Base → Prop
  mono : ∀ {B B' : Base}, B.le B' → p B → p B'
instance : CoeFun Dat (fun _ => Base → Prop) := ⟨Dat.p⟩

theorem Dat.wide (d : Dat) {w : World} {F F' : Nat → Prop} (hF : ∀ k, F k → k < w.heap.size → F' k) (h : d ⟨w, F⟩) : d ⟨w, F'⟩ := d.mono (B := ⟨w, F⟩) (B' := ⟨w, F'⟩) (fun k hk hs => ⟨hF k hk hs, rfl⟩) h
/-- A value of one cell. -/
def SV : Type := {v : Value // v.oneCell' = true}
theorem SV.prop (x : SV) : x.1.oneCell' = true := x.2
def Dat.here (d : Dat) (w : World) : Prop := d ⟨w, fun _ => True⟩

structure RelC (B : Base) (c : Nat → Nat) (w : World) (σ : List Dat) : Prop where
  os : w.os = B.W.os
  tape : w.tape = B.W.tape
  output : w.output = B.W.output
  size : B.W.heap.size ≤ w.heap.size
  keepc : ∀ k, B.keep k → k < B.W.heap.size → c k = 0
  same : ∀ k, B.keep k → k < B.W.heap.size → w.heap[k]? = B.W.heap[k]?
  own : ∀ (i : Nat) (d : Dat), σ[i]? = some d → d ⟨w, fun k => c k = i + 1⟩

/-- What the base keeps is there, and these things are one's own, apart from each other. -/
def Rel (B : Base) (w : World) (σ : List Dat) : Prop := ∃ c, RelC B c w σ

/-- A base that keeps more, in a later world. -/
structure Base.ext (B B' : Base) : Prop where
  le : B.le B'
  os : B'.W.os = B.W.os
  tape : B'.W.tape = B.W.tape
  output : B'.W.output = B.W.output
  size : B.W.heap.size ≤ B'.W.heap.size
theorem Base.ext.refl (B : Base) : B.ext B := ⟨Base.le.refl B, rfl, rfl, rfl, Nat.le_refl _⟩
theorem Base.ext.trans {A B C : Base} (h : A.ext B) (h' : B.ext C) : A.ext C :=
  ⟨h.le.trans h'.le, h'.os.trans h.os, h'.tape.trans h.tape, h'.output.trans h.output, Nat.le_trans h.size h'.size⟩

section
variable {B B' : Base} {c c' : Nat → Nat} {w w' : World} {σ τ : List Dat} {d e : Dat} {i j : Nat}

theorem Base.ext.rel (h : B.ext B') (r : Rel B' w σ) : Rel B w σ := by
  obtain ⟨c, r⟩ := r
  refine ⟨c, r.os.trans h.os, r.tape.trans h.tape, r.output.trans h.output, Nat.le_trans h.size r.size, fun k hk hs => ?_, fun k hk hs => ?_, r.own⟩
  · obtain ⟨h1, h2⟩ := h.le k hk hs
    exact r.keepc k h1 (Nat.lt_of_lt_of_le hs h.size)
  · obtain ⟨h1, h2⟩ := h.le k hk hs
    exact (r.same k h1 (Nat.lt_of_lt_of_le hs h.size)).trans h2

theorem RelC.le (h : RelC B c w σ) : B.le ⟨w, fun k => c k = 0⟩ := fun k hk hs => ⟨h.keepc k hk hs, h.same k hk hs⟩
theorem Rel.hereB (h : Rel B w σ) (hd : d B) : d.here w := by
  obtain ⟨c, h⟩ := h
  exact d.mono (fun k hk hs => ⟨trivial, h.same k hk hs⟩) hd
theorem Rel.here (h : Rel B w σ) (hi : σ[i]? = some d) : d.here w := by
  obtain ⟨c, h⟩ := h
  exact d.wide (fun k hk hs => trivial) (h.own i d hi)

theorem RelC.moved (h : RelC B c w σ) {T : Nat → Prop} (st : Step T c w c' w') (h0 : ¬ T 0) (hT : ∀ j d, σ[j]? = some d → ¬ T (j + 1)) : RelC B c' w' σ := by
  refine ⟨st.os.trans h.os, st.tape.trans h.tape, st.output.trans h.output, Nat.le_trans h.size st.size, fun k hk hs => ?_, fun k hk hs => ?_, fun j d hj => ?_⟩
  · rw [st.old k (Nat.lt_of_lt_of_le hs h.size)]; exact h.keepc k hk hs
  · rw [st.same k (Nat.lt_of_lt_of_le hs h.size) (by rw [h.keepc k hk hs]; exact h0)]; exact h.same k hk hs
  · refine d.mono (fun k hk hs => ?_) (h.own j d hj)
    have hk : c k = j + 1 := hk
    exact ⟨(st.old k hs).trans hk, st.same k hs (by rw [hk]; exact hT j d hj)⟩

theorem RelC.step (h : RelC B c w σ) (hi : σ[i]? = some e) (st : Step (only (i + 1)) c w c' w') (hd : d ⟨w', fun k => c' k = i + 1⟩) : RelC B c' w' (σ.set i d) := by
  refine ⟨st.os.trans h.os, st.tape.trans h.tape, st.output.trans h.output, Nat.le_trans h.size st.size, fun k hk hs => ?_, fun k hk hs => ?_, fun j e' hj => ?_⟩
  · rw [st.old k (Nat.lt_of_lt_of_le hs h.size)]; exact h.keepc k hk hs
  · rw [st.same k (Nat.lt_of_lt_of_le hs h.size) (by rw [h.keepc k hk hs]; unfold only; omega)]; exact h.same k hk hs
  · by_cases hji : i = j
    · subst hji
      have hlt : i < σ.length := by
        rcases Nat.lt_or_ge i σ.length with hl | hl
        · exact hl
        · rw [List.getElem?_eq_none hl] at hi; cases hi
      rw [List.getElem?_set_self hlt] at hj
      cases hj
      exact hd
    · rw [List.getElem?_set_ne hji] at hj
      refine e'.mono (fun k hk hs => ?_) (h.own j e' hj)
      have hk : c k = j + 1 := hk
      exact ⟨(st.old k hs).trans hk, st.same k hs (by rw [hk]; unfold only; omega)⟩

theorem RelC.step2 {d1 d2 e1 e2 : Dat} (h : RelC B c w σ) (hi : σ[i]? = some e1) (hj : σ[j]? = some e2) (hij : i ≠ j) (st : Step (two (i + 1) (j + 1)) c w c' w') (h1 : d1 ⟨w', fun k => c' k = i + 1⟩) (h2 : d2 ⟨w', fun k => c' k = j + 1⟩) :
    RelC B c' w' ((σ.set i d1).set j d2) := by
  have hlt : i < σ.length := by
    rcases Nat.lt_or_ge i σ.length with hl | hl
    · exact hl
    · rw [List.getElem?_eq_none hl] at hi; cases hi
  have hltj : j < σ.length := by
    rcases Nat.lt_or_ge j σ.length with hl | hl
    · exact hl
    · rw [List.getElem?_eq_none hl] at hj; cases hj
  refine ⟨st.os.trans h.os, st.tape.trans h.tape, st.output.trans h.output, Nat.le_trans h.size st.size, fun k hk hs => ?_, fun k hk hs => ?_, fun m e' hm => ?_⟩
  · rw [st.old k (Nat.lt_of_lt_of_le hs h.size)]; exact h.keepc k hk hs
  · rw [st.same k (Nat.lt_of_lt_of_le hs h.size) (by rw [h.keepc k hk hs]; unfold two; omega)]; exact h.same k hk hs
  · by_cases e1 : j = m
    · subst e1
      rw [List.getElem?_set_self (by simpa using hltj)] at hm
      cases hm
      exact h2
    · rw [List.getElem?_set_ne e1] at hm
      by_cases e2 : i = m
      · subst e2
        rw [List.getElem?_set_self hlt] at hm
        cases hm
        exact h1
      · rw [List.getElem?_set_ne e2] at hm
        refine e'.mono (fun k hk hs => ?_) (h.own m e' hm)
        have hk : c k = m + 1 := hk
        exact ⟨(st.old k hs).trans hk, st.same k hs (by rw [hk]; unfold two; omega)⟩

theorem RelC.push (h : RelC B c w σ) (st : Step nobody c w c' w') (hd : d ⟨w', fun k => c' k = σ.length + 1⟩) : RelC B c' w' (σ ++ [d]) := by
  have h1 := h.moved st (fun h => h) (fun _ _ _ h => h)
  refine ⟨h1.os, h1.tape, h1.output, h1.size, h1.keepc, h1.same, fun j e hj => ?_⟩
  rcases Nat.lt_trichotomy j σ.length with hl | hl | hl
  · rw [List.getElem?_append_left hl] at hj; exact h1.own j e hj
  · subst hl
    rw [List.getElem?_append_right (Nat.le_refl _)] at hj
    simp at hj
    subst hj
    exact hd
  · rw [List.getElem?_eq_none (by simp; omega)] at hj; cases hj

theorem RelC.tick (h : RelC B c w σ) : RelC B c (tick w) σ := h.moved (Step.tick nobody c w) (fun h => h) fun _ _ _ h => h
theorem Rel.tick (h : Rel B w σ) : Rel B (Go.Proofs.YtoebncgnjbblgaaGreatDoor.tick w) σ := by
  obtain ⟨c, h⟩ := h
  exact ⟨c, h.tick⟩

/-- The whole memory stays: what is one's own and what the base keeps can be read, till it is given back. -/
theorem Rel.frz (h : Rel B w σ) : ∃ B', Rel B' w [] ∧ (∀ w' τ, Rel B' w' τ → Rel B w' (σ ++ τ)) ∧ (∀ {i : Nat} {d : Dat}, σ[i]? = some d → d B') ∧ (∀ {d : Dat}, d B → d B') := by
  obtain ⟨c, h⟩ := h
  refine ⟨⟨w, fun k => True⟩, ⟨fun _ => 0, rfl, rfl, rfl, Nat.le_refl _, fun _ _ _ => rfl, fun _ _ _ => rfl, fun i d hd => by simp at hd⟩, fun w' τ ⟨c2, h2⟩ => ?_, fun {i d} hd => d.wide (fun k hk hs => trivial) (h.own i d hd), fun {d} hd => d.mono (fun k hk hs => ⟨trivial, h.same k hk hs⟩) hd⟩
  refine ⟨fun k => if k < w.heap.size then c k else if c2 k = 0 then 0 else c2 k + σ.length, h2.os.trans h.os, h2.tape.trans h.tape, h2.output.trans h.output, Nat.le_trans h.size h2.size, fun k hk hs => ?_, fun k hk hs => ?_, fun j d hj => ?_⟩
  · rw [if_pos (Nat.lt_of_lt_of_le hs h.size)]; exact h.keepc k hk hs
  · exact (h2.same k trivial (Nat.lt_of_lt_of_le hs h.size)).trans (h.same k hk hs)
  · rcases Nat.lt_or_ge j σ.length with hl | hl
    · rw [List.getElem?_append_left hl] at hj
      refine d.mono (fun k hk hs => ?_) (h.own j d hj)
      have hk : c k = j + 1 := hk
      have hs : k < w.heap.size := hs
      exact ⟨by show (if k < w.heap.size then c k else _) = _; rw [if_pos hs]; exact hk, h2.same k trivial hs⟩
    · rw [List.getElem?_append_right hl] at hj
      refine d.wide (fun k hk hs => ?_) (h2.own _ d hj)
      have hk : c2 k = j - σ.length + 1 := hk
      have hns : ¬ k < w.heap.size := fun hs => by
        have := h2.keepc k trivial hs
        omega
      show (if k < w.heap.size then c k else if c2 k = 0 then 0 else c2 k + σ.length) = j + 1
      rw [if_neg hns, if_neg (by omega)]
      omega

/-- One thing alone is looked at and changed; the others can be read. -/
theorem Rel.focus (h : Rel B w σ) (hi : σ[i]? = some e) : ∃ B', Rel B' w [e] ∧ (∀ w' e' τ, Rel B' w' (e' :: τ) → Rel B w' (σ.set i e' ++ τ)) ∧ (∀ {j : Nat} {d : Dat}, j ≠ i → σ[j]? = some d → d B') ∧ (∀ {d : Dat}, d B → d B') := by
  obtain ⟨c, h⟩ := h
  have hlt : i < σ.length := by
    rcases Nat.lt_or_ge i σ.length with hl | hl
    · exact hl
    · rw [List.getElem?_eq_none hl] at hi; cases hi
  refine ⟨⟨w, fun k => c k ≠ i + 1⟩, ⟨fun k => if c k = i + 1 then 1 else 0, rfl, rfl, rfl, Nat.le_refl _, fun k hk _ => by rw [if_neg hk], fun _ _ _ => rfl, fun j d hd => ?_⟩, fun w' e' τ ⟨c2, h2⟩ => ?_, fun {j d} hj hd => d.wide (fun k hk hs => ?_) (h.own j d hd), fun {d} hd => d.mono (fun k hk hs => ⟨?_, h.same k hk hs⟩) hd⟩
  · cases j with
    | zero =>
      simp at hd
      subst hd
      refine e.wide (fun k hk hs => ?_) (h.own i e hi)
      have hk : c k = i + 1 := hk
      show (if c k = i + 1 then 1 else 0) = 1
      rw [if_pos hk]
    | succ j => simp at hd
  · have hcase : ∀ k, k < w.heap.size → c k ≠ i + 1 → c2 k = 0 ∧ w'.heap[k]? = w.heap[k]? := fun k hs hk => ⟨h2.keepc k hk hs, h2.same k hk hs⟩
    refine ⟨fun k => if k < w.heap.size ∧ c k ≠ i + 1 then c k else if c2 k = 0 then 0 else if c2 k = 1 then i + 1 else c2 k - 1 + σ.length, h2.os.trans h.os, h2.tape.trans h.tape, h2.output.trans h.output, Nat.le_trans h.size h2.size, fun k hk hs => ?_, fun k hk hs => ?_, fun j d hj => ?_⟩
    · have h0 := h.keepc k hk hs
      rw [if_pos ⟨Nat.lt_of_lt_of_le hs h.size, by omega⟩]
      exact h0
    · have h0 := h.keepc k hk hs
      exact (hcase k (Nat.lt_of_lt_of_le hs h.size) (by omega)).2.trans (h.same k hk hs)
    · by_cases hji : j < σ.length
      · rw [List.getElem?_append_left (by simpa using hji)] at hj
        by_cases e1 : i = j
        · subst e1
          rw [List.getElem?_set_self hlt] at hj
          cases hj
          refine Dat.wide _ (fun k hk hs => ?_) (h2.own 0 e' rfl)
          have hk : c2 k = 1 := hk
          show (if k < w.heap.size ∧ c k ≠ i + 1 then c k else if c2 k = 0 then 0 else if c2 k = 1 then i + 1 else c2 k - 1 + σ.length) = i + 1
          rw [if_neg (fun hh => by have := (hcase k hh.1 hh.2).1; omega), if_neg (by omega), if_pos hk]
        · rw [List.getElem?_set_ne e1] at hj
          refine d.mono (fun k hk hs => ?_) (h.own j d hj)
          have hk : c k = j + 1 := hk
          have hs : k < w.heap.size := hs
          exact ⟨by show (if k < w.heap.size ∧ c k ≠ i + 1 then c k else _) = _; rw [if_pos ⟨hs, by omega⟩]; exact hk, (hcase k hs (by omega)).2⟩
      · rw [List.getElem?_append_right (by simpa using hji), List.length_set] at hj
        have hj' : (e' :: τ)[j - σ.length + 1]? = some d := by simpa using hj
        refine d.wide (fun k hk hs => ?_) (h2.own _ d hj')
        have hk : c2 k = j - σ.length + 1 + 1 := hk
        show (if k < w.heap.size ∧ c k ≠ i + 1 then c k else if c2 k = 0 then 0 else if c2 k = 1 then i + 1 else c2 k - 1 + σ.length) = j + 1
        rw [if_neg (fun hh => by have := (hcase k hh.1 hh.2).1; omega), if_neg (by omega), if_neg (by omega)]
        omega
  · have hk : c k = j + 1 := hk
    show c k ≠ i + 1
    omega
  · have := h.keepc k hk hs
    show c k ≠ i + 1
    omega

/-! ### Taking apart, putting together -/
def emp : Dat := ⟨fun _ => True, fun _ _ => trivial⟩
def Dat.star (a b : Dat) : Dat := ⟨fun B => ∃ G : Nat → Prop, a ⟨B.W, fun k => B.keep k ∧ G k⟩ ∧ b ⟨B.W, fun k => B.keep k ∧ ¬ G k⟩, fun {B B'} hl ⟨G, h1, h2⟩ =>
  ⟨G, a.mono (B := ⟨B.W, fun k => B.keep k ∧ G k⟩) (B' := ⟨B'.W, fun k => B'.keep k ∧ G k⟩) (fun k (hk : B.keep k ∧ G k) hs => ⟨⟨(hl k hk.1 hs).1, hk.2⟩, (hl k hk.1 hs).2⟩) h1,
    b.mono (B := ⟨B.W, fun k => B.keep k ∧ ¬ G k⟩) (B' := ⟨B'.W, fun k => B'.keep k ∧ ¬ G k⟩) (fun k (hk : B.keep k ∧ ¬ G k) hs => ⟨⟨(hl k hk.1 hs).1, hk.2⟩, (hl k hk.1 hs).2⟩) h2⟩⟩
def Dat.and (a b : Dat) : Dat := ⟨fun B => a B ∧ b B, fun hl h => ⟨a.mono hl h.1, b.mono hl h.2⟩⟩
def Dat.ex {α : Type} (f : α → Dat) : Dat := ⟨fun B => ∃ x, f x B, fun hl ⟨x, h⟩ => ⟨x, (f x).mono hl h⟩⟩
def Dat.pure (p : Prop) : Dat := ⟨fun _ => p, fun _ h => h⟩

theorem Dat.star.left {a b : Dat} (h : (a.star b) B) : a B := let ⟨_, h1, _⟩ := h; a.mono (B := ⟨B.W, fun k => B.keep k ∧ _⟩) (fun k hk _ => ⟨hk.1, rfl⟩) h1
theorem Dat.star.right {a b : Dat} (h : (a.star b) B) : b B := let ⟨_, _, h2⟩ := h; b.mono (B := ⟨B.W, fun k => B.keep k ∧ _⟩) (fun k hk _ => ⟨hk.1, rfl⟩) h2

theorem Rel.imp (h : Rel B w σ) (hi : σ[i]? = some d) (he : ∀ B, d B → e B) : Rel B w (σ.set i e) := by
  obtain ⟨c, h⟩ := h
  exact ⟨c, h.step hi (Step.refl _ c w) (he _ (h.own i d hi))⟩
theorem Rel.ex {α : Type} {f : α → Dat} (h : Rel B w σ) (hi : σ[i]? = some (Dat.ex f)) : ∃ x, Rel B w (σ.set i (f x)) := by
  obtain ⟨c, h⟩ := h
  obtain ⟨x, hx⟩ := h.own i _ hi
  exact ⟨x, c, h.step hi (Step.refl _ c w) hx⟩
theorem Rel.pureAnd {p : Prop} (h : Rel B w σ) (hi : σ[i]? = some (Dat.and (Dat.pure p) d)) : p ∧ Rel B w (σ.set i d) := by
  obtain ⟨c, h⟩ := h
  obtain ⟨x, hx⟩ := h.own i _ hi
  exact ⟨x, c, h.step hi (Step.refl _ c w) hx⟩
theorem Rel.drop (h : Rel B w (σ ++ τ)) : Rel B w σ := by
  obtain ⟨c, h⟩ := h
  refine ⟨c, h.os, h.tape, h.output, h.size, h.keepc, h.same, fun i d hd => h.own i d ?_⟩
  rw [List.getElem?_append_left]
  · exact hd
  · rcases Nat.lt_or_ge i σ.length with hl | hl
    · exact hl
    · rw [List.getElem?_eq_none hl] at hd; cases hd
theorem Rel.nil (h : Rel B w σ) : Rel B w [] := Rel.drop (σ := []) (τ := σ) h
theorem Rel.take (n : Nat) (h : Rel B w σ) : Rel B w (σ.take n) := Rel.drop (τ := σ.drop n) (by rw [List.take_append_drop]; exact h)

open Classical in
theorem Rel.split {a b : Dat} (h : Rel B w σ) (hi : σ[i]? = some (a.star b)) : Rel B w (σ.set i a ++ [b]) := by
  obtain ⟨c, h⟩ := h
  obtain ⟨G, ha, hb⟩ := h.own i _ hi
  have hlt : i < σ.length := by
    rcases Nat.lt_or_ge i σ.length with hl | hl
    · exact hl
    · rw [List.getElem?_eq_none hl] at hi; cases hi
  refine ⟨fun k => if c k = i + 1 ∧ ¬ G k then σ.length + 1 else c k, h.os, h.tape, h.output, h.size, fun k hk hs => ?_, h.same, fun j d hj => ?_⟩
  · have := h.keepc k hk hs
    show (if c k = i + 1 ∧ ¬ G k then _ else c k) = 0
    rw [if_neg (by omega)]
    exact this
  · by_cases hjl : j < σ.length
    · rw [List.getElem?_append_left (by simpa using hjl)] at hj
      by_cases e1 : i = j
      · subst e1
        rw [List.getElem?_set_self hlt] at hj
        cases hj
        refine Dat.wide _ (fun k hk hs => ?_) ha
        show (if c k = i + 1 ∧ ¬ G k then _ else c k) = i + 1
        rw [if_neg (fun hh => hh.2 hk.2)]
        exact hk.1
      · rw [List.getElem?_set_ne e1] at hj
        refine d.wide (fun k hk hs => ?_) (h.own j d hj)
        have hk : c k = j + 1 := hk
        show (if c k = i + 1 ∧ ¬ G k then _ else c k) = j + 1
        rw [if_neg (by omega)]
        exact hk
    · rw [List.getElem?_append_right (by simpa using hjl), List.length_set] at hj
      have hj0 : j = σ.length := by
        rcases Nat.lt_trichotomy j σ.length with h' | h' | h'
        · omega
        · exact h'
        · rw [List.getElem?_eq_none (by simp; omega)] at hj; cases hj
      subst hj0
      simp at hj
      subst hj
      refine Dat.wide _ (fun k hk hs => ?_) hb
      show (if c k = i + 1 ∧ ¬ G k then _ else c k) = σ.length + 1
      rw [if_pos hk]

/-- The thing at j goes into the one at i. -/
theorem Rel.join {a b : Dat} (h : Rel B w σ) (i j : Nat) (hi : σ[i]? = some a) (hj : σ[j]? = some b) (hij : i ≠ j) : Rel B w ((σ.set i (a.star b)).set j emp) := by
  obtain ⟨c, h⟩ := h
  have hlt : i < σ.length := by
    rcases Nat.lt_or_ge i σ.length with hl | hl
    · exact hl
    · rw [List.getElem?_eq_none hl] at hi; cases hi
  have hltj : j < σ.length := by
    rcases Nat.lt_or_ge j σ.length with hl | hl
    · exact hl
    · rw [List.getElem?_eq_none hl] at hj; cases hj
  refine ⟨fun k => if c k = j + 1 then i + 1 else c k, h.os, h.tape, h.output, h.size, fun k hk hs => ?_, h.same, fun m d hm => ?_⟩
  · have := h.keepc k hk hs
    show (if c k = j + 1 then _ else c k) = 0
    rw [if_neg (by omega)]
    exact this
  · by_cases e1 : j = m
    · subst e1
      rw [List.getElem?_set_self (by simpa using hltj)] at hm
      cases hm
      trivial
    · rw [List.getElem?_set_ne e1] at hm
      by_cases e2 : i = m
      · subst e2
        rw [List.getElem?_set_self hlt] at hm
        cases hm
        refine ⟨fun k => c k = i + 1, a.wide (fun k hk hs => ⟨?_, hk⟩) (h.own i a hi), b.wide (fun k hk hs => ⟨?_, ?_⟩) (h.own j b hj)⟩
        · have hk : c k = i + 1 := hk
          show (if c k = j + 1 then _ else c k) = _
          split
          · rfl
          · exact hk
        · have hk : c k = j + 1 := hk
          show (if c k = j + 1 then _ else c k) = _
          rw [if_pos hk]
        · have hk : c k = j + 1 := hk
          show ¬ (c k = i + 1)
          omega
      · rw [List.getElem?_set_ne e2] at hm
        refine d.wide (fun k hk hs => ?_) (h.own m d hm)
        have hk : c k = m + 1 := hk
        show (if c k = j + 1 then _ else c k) = _
        rw [if_neg (by omega)]
        exact hk

/-- The last thing goes into the one at i. -/
theorem Rel.fuse {a b : Dat} (h : Rel B w (σ ++ [b])) (i : Nat) (hi : σ[i]? = some a) : Rel B w (σ.set i (a.star b)) := by
  have hlt : i < σ.length := by
    rcases Nat.lt_or_ge i σ.length with hl | hl
    · exact hl
    · rw [List.getElem?_eq_none hl] at hi; cases hi
  have := Rel.join (a := a) (b := b) h i σ.length (by rw [List.getElem?_append_left hlt]; exact hi) (by simp) (by omega)
  have e : ((σ ++ [b]).set i (a.star b)).set σ.length emp = σ.set i (a.star b) ++ [emp] := by
    rw [List.set_append_left _ _ hlt, List.set_append_right _ _ (by simp)]
    simp
  rw [e] at this
  exact this.drop

/-- A thing that is not changed any more goes to what the base keeps. -/
theorem Rel.freeze (h : Rel B w σ) (hi : σ[i]? = some d) : ∃ B', B.ext B' ∧ Rel B' w (σ.set i emp) ∧ d B' := by
  obtain ⟨c, h⟩ := h
  have hlt : i < σ.length := by
    rcases Nat.lt_or_ge i σ.length with hl | hl
    · exact hl
    · rw [List.getElem?_eq_none hl] at hi; cases hi
  refine ⟨⟨w, fun k => (B.keep k ∧ k < B.W.heap.size) ∨ c k = i + 1⟩, ⟨fun k hk hs => ⟨.inl ⟨hk, hs⟩, h.same k hk hs⟩, h.os, h.tape, h.output, h.size⟩, ⟨fun k => if c k = i + 1 then 0 else c k, rfl, rfl, rfl, Nat.le_refl _, fun k hk hs => ?_, fun _ _ _ => rfl, fun j e hj => ?_⟩, d.wide (fun k hk hs => .inr hk) (h.own i d hi)⟩
  · show (if c k = i + 1 then 0 else c k) = 0
    split
    · rfl
    · rcases hk with hk | hk
      · exact h.keepc k hk.1 hk.2
      · contradiction
  · by_cases e1 : i = j
    · subst e1
      rw [List.getElem?_set_self hlt] at hj
      cases hj
      trivial
    · rw [List.getElem?_set_ne e1] at hj
      refine e.wide (fun k hk hs => ?_) (h.own j e hj)
      have hk : c k = j + 1 := hk
      show (if c k = i + 1 then 0 else c k) = j + 1
      rw [if_neg (by omega)]
      exact hk
end

/-! ### Blocks and rows as things -/
def cellD (b : Nat) (E : TypeId) (cs : Array Value) : Dat := ⟨fun B => B.keep b ∧ B.W.heap[b]? = some (.cells cs E (0, 0)), fun {B B'} hl ⟨h1, h2⟩ => by
  obtain ⟨h3, h4⟩ := hl b h1 (Array.getElem?_eq_some_iff.1 h2).1
  exact ⟨h3, h4.trans h2⟩⟩
/-- Cells that can be read. -/
def cellsR (g o : Nat) (xs : List Value) : Dat := ⟨fun B => B.keep g ∧ g < B.W.heap.size ∧ ∀ j v, xs[j]? = some v → B.W.cell? ⟨g, o + j, none⟩ = some v, fun {B B'} hl ⟨h1, h2, h3⟩ => by
  obtain ⟨h4, h5⟩ := hl g h1 h2
  have h6 : g < B'.W.heap.size := by
    rw [Array.getElem?_eq_getElem h2] at h5
    exact (Array.getElem?_eq_some_iff.1 h5).1
  refine ⟨h4, h6, fun j v hv => ?_⟩
  rw [World.cell?_of_block (w := B.W) h5]
  exact h3 j v hv⟩
section
variable {α : Type} [Enc α]
/-- A slice that can be read. -/
def rowR (v : Value) (l : List α) : Dat := ⟨fun B => ∃ a cap, v = .slice a l.length cap ∧ l.length ≤ cap ∧ (l = [] ∨ ∃ g o, a = some ⟨g, o, none⟩ ∧ cellsR g o (flat l) B), fun {B B'} hl ⟨a, cap, h1, h2, h3⟩ =>
  ⟨a, cap, h1, h2, h3.imp id fun ⟨g, o, h4, h5⟩ => ⟨g, o, h4, (cellsR g o (flat l)).mono hl h5⟩⟩⟩
/-- A slice of one's own. -/
def rowD (E : TypeId) (v : Value) (l : List α) : Dat := ⟨fun B => (v = .slice none 0 0 ∧ l = []) ∨ ∃ g cap cur, v = .slice (some ⟨g, 0, none⟩) l.length cap ∧ cellD g E cur B ∧ l.length ≤ cap ∧ cap ≤ maxLen ∧ cur.size = cap * Enc.sz α ∧ cur.toList.take (l.length * Enc.sz α) = flat l, fun {B B'} hl h =>
  h.imp id fun ⟨g, cap, cur, h1, h2, h3⟩ => ⟨g, cap, cur, h1, (cellD g E cur).mono hl h2, h3⟩⟩
end

section
variable {α : Type} [Enc α] {B : Base} {c : Nat → Nat} {w : World} {σ : List Dat} {i t : Nat} {E : TypeId} {v : Value} {l : List α}
theorem cellD.blk {b : Nat} {cs : Array Value} (h : cellD b E cs ⟨w, fun k => c k = t⟩) : Blk c t w b E cs := h
theorem Blk.cellD {b : Nat} {cs : Array Value} (h : Blk c t w b E cs) : cellD b E cs ⟨w, fun k => c k = t⟩ := h
theorem rowD.own (h : rowD E v l ⟨w, fun k => c k = t⟩) : RowO c t w E v l := by
  rcases h with ⟨rfl, rfl⟩ | ⟨g, cap, cur, rfl, hb, h1, h2, h3, h4⟩
  · exact RowO.nil _ _ _ _
  · exact RowO.mk_ (cur := cur) hb rfl h1 h2 h3 h4
theorem RowO.rowD (h : RowO c t w E v l) : rowD E v l ⟨w, fun k => c k = t⟩ := h.cases
theorem rowD.read (h : rowD E v l B) : rowR v l B := by
  rcases h with ⟨rfl, rfl⟩ | ⟨g, cap, cur, rfl, hb, h1, h2, h3, h4⟩
  · exact ⟨none, 0, rfl, Nat.le_refl _, .inl rfl⟩
  · refine ⟨_, cap, rfl, h1, .inr ⟨g, 0, rfl, hb.1, (Array.getElem?_eq_some_iff.1 hb.2).1, fun j v hv => ?_⟩⟩
    rw [← h4, List.getElem?_take] at hv
    split at hv
    · rw [Nat.zero_add]
      simp only [World.cell?, hb.2]
      simpa using hv
    · cases hv
theorem rowR.here_row (h : (rowR v l).here w) : RowR (fun _ => 0) 0 w v l := by
  obtain ⟨a, cap, rfl, hc, h⟩ := h
  refine ⟨a, cap, rfl, hc, h.imp id fun ⟨g, o, h1, h2⟩ => ⟨g, o, h1, rfl, h2.2⟩⟩
theorem rowR.col (c : Nat → Nat) (t : Nat) (h : rowR v l ⟨w, fun k => c k = t⟩) : RowR c t w v l := h
theorem RowR.col (h : RowR c t w v l) : rowR v l ⟨w, fun k => c k = t⟩ := h

/-- A slice that may be read: the base keeps it, or it is one's own, and not the one that is written. -/
def Rd (B : Base) (σ : List Dat) (X : List Nat) (v : Value) (l : List α) : Prop := rowR v l B ∨ ∃ j E, j ∉ X ∧ σ[j]? = some (rowD E v l)
theorem Rd.base {X : List Nat} (h : rowR v l B) : Rd B σ X v l := .inl h
theorem Rd.at {X : List Nat} (j : Nat) (hj : σ[j]? = some (rowD E v l)) (hx : j ∉ X := by decide) : Rd B σ X v l := .inr ⟨j, E, hx, hj⟩
theorem Rel.rd {X : List Nat} (h : Rel B w σ) (r : Rd B σ X v l) : (rowR v l).here w := by
  rcases r with r | ⟨j, E, _, hj⟩
  · exact h.hereB r
  · exact rowD.read (h.here hj)
theorem RelC.rds {X : List Nat} (h : RelC B c w σ) (r : Rd B σ X v l) : ∃ u, RowR c u w v l := by
  rcases r with r | ⟨j, E, _, hj⟩
  · exact ⟨0, Dat.mono _ h.le r⟩
  · exact ⟨j + 1, rowD.read (h.own j _ hj)⟩
theorem RelC.rd (h : RelC B c w σ) (r : Rd B σ [i] v l) : ∃ u, u ≠ i + 1 ∧ RowR c u w v l := by
  rcases r with r | ⟨j, E, hx, hj⟩
  · exact ⟨0, by omega, Dat.mono _ h.le r⟩
  · exact ⟨j + 1, by simp at hx; omega, rowD.read (h.own j _ hj)⟩
end

section
variable {P : Program} {K : Value → World → Prop} {Kp : Value → Prop} {B : Base} {w : World} {σ : List Dat} {T E : TypeId}

/-! ### Reading -/
theorem cellsR.ld {g o j : Nat} {xs : List Value} {v : Value} (h : (cellsR g o xs).here w) (hs : scB P T = true) (hv : xs[j]? = some v) : readK P (sLoad T (.pointer (some ⟨g, o + j, none⟩))) w Kp = Kp v :=
  ld_sc hs (h.2.2 j v hv)
theorem cellsR.ld0 {g o : Nat} {xs : List Value} {v : Value} (h : (cellsR g o xs).here w) (hs : scB P T = true) (hv : xs[0]? = some v) : readK P (sLoad T (.pointer (some ⟨g, o, none⟩))) w Kp = Kp v :=
  ld_sc hs (h.2.2 0 v hv)
theorem cellsR.ldAg {g o n : Nat} {xs : List Value} (h : (cellsR g o xs).here w) (hs : agB P T n = true) (hn : xs.length = n) : readK P (sLoad T (.pointer (some ⟨g, o, none⟩))) w Kp = Kp (.agg xs.toArray) :=
  ld_ag hs hn h.2.2
theorem cellsR.is {g o j : Nat} {xs : List Value} {v : Value} (h : (cellsR g o xs).here w) (hs : scB P T = true) (hv : xs[j]? = some v) : Is P (sLoad T (.pointer (some ⟨g, o + j, none⟩))) v w :=
  run_load_sc hs (h.2.2 j v hv)
theorem cellsR.isAg {g o n : Nat} {xs : List Value} (h : (cellsR g o xs).here w) (hs : agB P T n = true) (hn : xs.length = n) : Is P (sLoad T (.pointer (some ⟨g, o, none⟩))) (.agg xs.toArray) w :=
  run_load_ag hs hn h.2.2
theorem cellD.here_cell {b o : Nat} {cs : Array Value} {v : Value} (h : (cellD b E cs).here w) (hv : cs[o]? = some v) : w.cell? ⟨b, o, none⟩ = some v := Blk.cell (c := fun _ => 0) (t := 0) ⟨rfl, h.2⟩ hv
theorem cellD.ld {b o : Nat} {cs : Array Value} {v : Value} (h : (cellD b E cs).here w) (hs : scB P T = true) (hv : cs.toList[o]? = some v) : readK P (sLoad T (.pointer (some ⟨b, o, none⟩))) w Kp = Kp v := ld_sc hs (cellD.here_cell h (by rw [← hv]; simp))
theorem cellD.is {b o : Nat} {cs : Array Value} {v : Value} (h : (cellD b E cs).here w) (hs : scB P T = true) (hv : cs.toList[o]? = some v) : Is P (sLoad T (.pointer (some ⟨b, o, none⟩))) v w := run_load_sc hs (cellD.here_cell h (by rw [← hv]; simp))
theorem cellD.ldAg {b n : Nat} {cs : Array Value} (h : (cellD b E cs).here w) (hs : agB P T n = true) (hn : cs.size = n) : readK P (sLoad T (.pointer (some ⟨b, 0, none⟩))) w Kp = Kp (.agg cs) := by
  have := ld_ag (P := P) (w := w) (K := Kp) (g := b) (o := 0) (vs := cs.toList) hs (by simpa using hn) fun j v hv => by rw [Nat.zero_add]; exact cellD.here_cell h (by simpa using hv)
  simpa using this
theorem cellD.isAg {b n : Nat} {cs : Array Value} (h : (cellD b E cs).here w) (hs : agB P T n = true) (hn : cs.size = n) : Is P (sLoad T (.pointer (some ⟨b, 0, none⟩))) (.agg cs) w := by
  show _ = _
  have := run_load_ag (P := P) (w := w) (g := b) (o := 0) (vs := cs.toList) hs (by simpa using hn) fun j v hv => by rw [Nat.zero_add]; exact cellD.here_cell h (by simpa using hv)
  simpa using this

/-- Some cells of a block. -/
theorem cellD.sub {B : Base} {b o : Nat} {cs : Array Value} {xs : List Value} (h : cellD b E cs B) (hx : (cs.toList.drop o).take xs.length = xs) : cellsR b o xs B := by
  refine ⟨h.1, (Array.getElem?_eq_some_iff.1 h.2).1, fun j v hv => ?_⟩
  have hj : j < xs.length := by
    rcases Nat.lt_or_ge j xs.length with h | h
    · exact h
    · rw [List.getElem?_eq_none h] at hv; cases hv
  have h1 : cs.toList[o + j]? = some v := by
    rw [← hx, List.getElem?_take, if_pos hj, List.getElem?_drop] at hv
    exact hv
  simp only [World.cell?, h.2]
  simpa using h1
section
variable {α : Type} [Enc α] {by_ : Nat} {v : Value} {l : List α} {X : List Nat}
theorem rowR.len (h : rowR v l B) (hT : sliceB P T E (Enc.sz α) by_ = true) {U : TypeId} {bs : Array Bool} : readK P (sBlt .len #[T] U bs #[v]) w Kp = Kp (.int .i64 l.length) := by
  obtain ⟨a, cap, rfl, _⟩ := h
  exact len_slice (sliceB_spec hT).1
theorem rowR.idx (h : rowR v l B) (hT : sliceB P T E (Enc.sz α) by_ = true) {i : Nat} (hi : i < l.length) :
    ∃ g o, (∀ {Kp : Value → Prop}, pureK P (sIdxAddr T v (.int .i64 i)) Kp = Kp (.pointer (some ⟨g, o, none⟩))) ∧ cellsR g o (Enc.cells l[i]) B := by
  obtain ⟨a, cap, rfl, hc, h⟩ := h
  rcases h with rfl | ⟨g, o, rfl, h⟩
  · simp at hi
  · obtain ⟨hu, i', z, hinfo, hz, hs, hb, hzs⟩ := sliceB_spec hT
    refine ⟨g, o + i * Enc.sz α, fun {Kp} => pureK_eq fun w => vN_run ?_, h.1, h.2.1, fun j u hj => ?_⟩
    · simp [Instr.indexAt, asIntOf, run_underlying hu, sizeOf, typeInfo, hinfo, hs, hi, addr_add]
    · rw [Nat.add_assoc]
      exact h.2.2 _ _ (flat_get hi hj)
/-- An element of one cell. -/
theorem rowR.at_sc (h : rowR v l B) (hr : Rel B w σ) (hT : sliceB P T E (Enc.sz α) by_ = true) {i : Nat} (hi : i < l.length) {T' : TypeId} (hs : scB P T' = true) {x : Value} (hx : Enc.cells l[i] = [x]) :
    ∃ p, (∀ {Kp : Value → Prop}, pureK P (sIdxAddr T v (.int .i64 i)) Kp = Kp p) ∧ (∀ {Kp : Value → Prop}, readK P (sLoad T' p) w Kp = Kp x) := by
  obtain ⟨g, o, h1, h2⟩ := rowR.idx h hT hi
  exact ⟨_, h1, fun {Kp} => cellsR.ld0 (hr.hereB h2) hs (by rw [hx]; rfl)⟩
/-- 's[lo:hi]' of a slice that is read. -/
theorem rowR.cut (h : rowR v l B) (hT : sliceB P T E (Enc.sz α) by_ = true) {lo hi : Nat} {lov hiv : Option Value} (hlo : Bnd lov 0 lo) (hhi : Bnd hiv l.length hi) (h1 : lo ≤ hi) (h2 : hi ≤ l.length) :
    ∃ v', (∀ {Kp : Value → Prop}, pureK P (sSlice T v lov hiv none) Kp = Kp v') ∧ rowR v' ((l.take hi).drop lo) B := by
  obtain ⟨a, cap, rfl, hc, h⟩ := h
  refine ⟨_, fun {Kp} => pureK_eq fun w => slice_run hT hlo hhi h1 (by omega) w, ?_⟩
  have hlen : ((l.take hi).drop lo).length = hi - lo := by simp; omega
  refine ⟨_, cap - lo, by rw [hlen], by rw [hlen]; omega, ?_⟩
  rcases h with rfl | ⟨g, o, rfl, h⟩
  · left; simp
  · by_cases he : cap = lo
    · left
      exact List.eq_nil_of_length_eq_zero (by rw [hlen]; omega)
    · right
      refine ⟨g, o + lo * Enc.sz α, ?_, h.1, h.2.1, fun j u hj => ?_⟩
      · simp [he, addr_add]
      · rw [Nat.add_assoc]
        refine h.2.2 _ _ ?_
        rw [← flat_drop, ← flat_take, List.getElem?_drop, List.getElem?_take] at hj
        split at hj
        · exact hj
        · cases hj

/-- A slice of a slice, as a value. -/
def cutV (sz : Nat) (v : Value) (lo hi : Nat) : Value := match v with
  | .slice a _ cap => .slice (if cap = lo then a else a.map (·.add (lo * sz))) (hi - lo) (cap - lo)
  | v => v
theorem rowR.cutE (h : rowR v l B) (hT : sliceB P T E (Enc.sz α) by_ = true) {lo hi : Nat} {lov hiv : Option Value} (hlo : Bnd lov 0 lo) (hhi : Bnd hiv l.length hi) (h1 : lo ≤ hi) (h2 : hi ≤ l.length) :
    pureK P (sSlice T v lov hiv none) Kp = Kp (cutV (Enc.sz α) v lo hi) := by
  obtain ⟨a, cap, rfl, hc, h⟩ := h
  exact pureK_eq fun w => slice_run hT hlo hhi h1 (by omega) w
theorem rowR.cutR (h : rowR v l B) {lo hi : Nat} (h1 : lo ≤ hi) (h2 : hi ≤ l.length) : rowR (cutV (Enc.sz α) v lo hi) ((l.take hi).drop lo) B := by
  obtain ⟨a, cap, rfl, hc, h⟩ := h
  have hlen : ((l.take hi).drop lo).length = hi - lo := by simp; omega
  refine ⟨_, cap - lo, by rw [hlen]; rfl, by rw [hlen]; omega, ?_⟩
  rcases h with rfl | ⟨g, o, rfl, h⟩
  · left; simp
  · by_cases he : cap = lo
    · left
      exact List.eq_nil_of_length_eq_zero (by rw [hlen]; omega)
    · right
      refine ⟨g, o + lo * Enc.sz α, ?_, h.1, h.2.1, fun j u hj => ?_⟩
      · simp [he, addr_add]
      · rw [Nat.add_assoc]
        refine h.2.2 _ _ ?_
        rw [← flat_drop, ← flat_take, List.getElem?_drop, List.getElem?_take] at hj
        split at hj
        · exact hj
        · cases hj

/-! ### Writing -/
/-- A new row from a row that is read: 'append(nil, l...)' and the like are told of their own; here a literal of no element. -/
theorem Rel.build0 (h : Rel B w σ) (hT : sliceB P T E (Enc.sz α) by_ = true) (k : ∀ v w', Rel B w' (σ ++ [rowD E v ([] : List α)]) → v ≠ .slice none 0 0 → K v w') : upK P (sBuildSlice T 0 #[]) w K := by
  obtain ⟨c, h⟩ := h
  exact Go.Proofs.YtoebncgnjbblgaaGreatDoor.build0 (α := α) (c := c) (t := σ.length + 1) hT fun c' v w' st hr hv => k v w' ⟨c', h.push st hr.rowD⟩ hv
theorem Rel.build1 (h : Rel B w σ) (x : α) (hT : sliceB P T E (Enc.sz α) by_ = true) (hsz : Enc.sz α ≤ 16777216) {xv : Value} (k : ∀ v w', Rel B w' (σ ++ [rowD E v [x]]) → K v w') (hx : xv = Enc.val x := by rfl) : upK P (sBuildSlice T 1 #[(0, xv)]) w K := by
  obtain ⟨c, h⟩ := h
  subst hx
  exact Go.Proofs.YtoebncgnjbblgaaGreatDoor.build1 (α := α) (c := c) (t := σ.length + 1) x hT hsz fun c' v w' st hr => k v w' ⟨c', h.push st hr.rowD⟩
theorem Rel.buildN (h : Rel B w σ) (l : List α) {n : Nat} {ps : Array (Nat × Value)} (hT : sliceB P T E (Enc.sz α) by_ = true) (k : ∀ v w', Rel B w' (σ ++ [rowD E v l]) → K v w') (hn : n = l.length := by rfl) (h0 : 0 < n := by decide) (hsz : n * Enc.sz α ≤ 16777216 := by decide)
    (hps : ps = ((l.zipIdx 0).map fun p => (p.2, Enc.val p.1)).toArray := by rfl) : upK P (sBuildSlice T n ps) w K := by
  obtain ⟨c, h⟩ := h
  exact Go.Proofs.YtoebncgnjbblgaaGreatDoor.buildN (c := c) (t := σ.length + 1) l hT hn h0 hsz hps fun c' v w' st hr => k v w' ⟨c', h.push st hr.rowD⟩
theorem Rel.append (h : Rel B w σ) (i : Nat) (hi : σ[i]? = some (rowD E v l)) (hT : sliceB P T E (Enc.sz α) by_ = true) {v2 : Value} {l2 : List α} (r : Rd B σ [i] v2 l2)
    (hb : (l.length + l2.length) * by_ ≤ 140737488355328) (h63 : l.length + l2.length ≤ 140737488355328) {U : TypeId} {bs : Array Bool} (k : ∀ v' w', Rel B w' (σ.set i (rowD E v' (l ++ l2))) → K v' w') : upK P (sBlt .append #[T, T] U bs #[v, v2]) w K := by
  obtain ⟨c, h⟩ := h
  obtain ⟨u, _, r⟩ := h.rd r
  exact append_own hT (rowD.own (h.own i _ hi)) r hb h63 fun c' v' w' st hr => k v' w' ⟨c', h.step hi st hr.rowD⟩
/-- 'append(own, x)': the literal and the append in one. -/
theorem Rel.push1 (h : Rel B w σ) (i : Nat) (hi : σ[i]? = some (rowD E v l)) (x : α) (hT : sliceB P T E (Enc.sz α) by_ = true) (hsz : Enc.sz α ≤ 16777216)
    (hb : (l.length + 1) * by_ ≤ 140737488355328) (h63 : l.length + 1 ≤ 140737488355328) {U : TypeId} {bs : Array Bool} {K' : Value → World → Prop} {xv : Value} (k : ∀ v' w', Rel B w' (σ.set i (rowD E v' (l ++ [x]))) → K' v' w') (hx : xv = Enc.val x := by rfl) :
    upK P (sBuildSlice T 1 #[(0, xv)]) w fun t w1 => upK P (sBlt .append #[T, T] U bs #[v, t]) w1 fun v' w2 => K' v' w2 := by
  have hlt : i < σ.length := by
    rcases Nat.lt_or_ge i σ.length with hl | hl
    · exact hl
    · rw [List.getElem?_eq_none hl] at hi; cases hi
  refine h.build1 x hT hsz (fun t w1 h1 => ?_) hx
  refine h1.append i (by rw [List.getElem?_append_left hlt]; exact hi) hT (l2 := [x]) (Rd.at σ.length (E := E) (by rw [List.getElem?_append_right (Nat.le_refl _)]; simp) (by simp; omega)) hb h63 fun v' w2 h2 => k v' w2 ?_
  rw [List.set_append_left _ _ hlt] at h2
  exact h2.drop
/-- 'append' where there is no room: a new row. -/
theorem Rel.grow (h : Rel B w σ) (hT : sliceB P T E (Enc.sz α) by_ = true) {a : Option Addr} {cap : Nat} (hv : v = .slice a l.length cap) (r1 : Rd B σ [] v l) {v2 : Value} {l2 : List α} (r : Rd B σ [] v2 l2) (hcap : cap < l.length + l2.length)
    (hb : (l.length + l2.length) * by_ ≤ 140737488355328) (h63 : l.length + l2.length ≤ 140737488355328) {U : TypeId} {bs : Array Bool} (k : ∀ v' w', Rel B w' (σ ++ [rowD E v' (l ++ l2)]) → K v' w') : upK P (sBlt .append #[T, T] U bs #[v, v2]) w K := by
  obtain ⟨c, h⟩ := h
  obtain ⟨u1, r1⟩ := h.rds r1
  obtain ⟨u2, r2⟩ := h.rds r
  exact append_grow (c := c) (t := σ.length + 1) hT hv r1 r2 hcap hb h63 fun c' v' w' st hr => k v' w' ⟨c', h.push st hr.rowD⟩
theorem Rel.mkSlice2 (h : Rel B w σ) {m n : Nat} (x : α) (hT : sliceB P T E (Enc.sz α) by_ = true) (hx : ((P.info? E).bind (·.zero)).map (·.cells) = some (Enc.cells x).toArray) (hmn : m ≤ n) (hn : n * by_ ≤ 140737488355328) (hn1 : n ≤ 140737488355328)
    (k : ∀ v w', Rel B w' (σ ++ [rowD E v (List.replicate m x)]) → v ≠ .slice none 0 0 → K v w') : upK P (sMkSlice T (.int .i64 m) (.int .i64 n)) w K := by
  obtain ⟨c, h⟩ := h
  exact mk_slice2 (c := c) (t := σ.length + 1) x hT hx hmn hn hn1 fun c' v w' st hr hv => k v w' ⟨c', h.push st hr.rowD⟩ hv
theorem Rel.mkSlice (h : Rel B w σ) {n : Nat} (x : α) (hT : sliceB P T E (Enc.sz α) by_ = true) (hx : ((P.info? E).bind (·.zero)).map (·.cells) = some (Enc.cells x).toArray) (hn : n * by_ ≤ 140737488355328) (hn1 : n ≤ 140737488355328)
    (k : ∀ v w', Rel B w' (σ ++ [rowD E v (List.replicate n x)]) → v ≠ .slice none 0 0 → K v w') : upK P (sMkSlice T (.int .i64 n) (.int .i64 n)) w K := by
  obtain ⟨c, h⟩ := h
  exact mk_slice (c := c) (t := σ.length + 1) x hT hx hn hn1 fun c' v w' st hr hv => k v w' ⟨c', h.push st hr.rowD⟩ hv
theorem Rel.open_ (h : Rel B w σ) {i : Nat} (hi : σ[i]? = some (rowD E v l)) (hl : 0 < l.length) : ∃ g cap, v = .slice (some ⟨g, 0, none⟩) l.length cap := by
  rcases h.here hi with ⟨_, rfl⟩ | ⟨g, cap, _, rfl, _⟩
  · simp at hl
  · exact ⟨g, cap, rfl⟩
theorem Rel.open_nn (h : Rel B w σ) {i : Nat} (hi : σ[i]? = some (rowD E v l)) (hv : v ≠ .slice none 0 0) : ∃ g cap, v = .slice (some ⟨g, 0, none⟩) l.length cap := by
  rcases h.here hi with ⟨h, _⟩ | ⟨g, cap, _, rfl, _⟩
  · exact absurd h hv
  · exact ⟨g, cap, rfl⟩
theorem Rel.oneCell (h : Rel B w σ) {i : Nat} (hi : σ[i]? = some (rowD E v l)) : v.oneCell' = true := by
  rcases h.here hi with ⟨rfl, _⟩ | ⟨g, cap, _, rfl, _⟩ <;> rfl
theorem rowR.oneCell (h : rowR v l B) : v.oneCell' = true := by
  obtain ⟨a, cap, rfl, _⟩ := h
  rfl
theorem rowR.form (h : rowR v l B) : ∃ a cap, v = .slice a l.length cap ∧ l.length ≤ cap := by
  obtain ⟨a, cap, h1, h2, _⟩ := h
  exact ⟨a, cap, h1, h2⟩
theorem Rel.set_sc (h : Rel B w σ) (i : Nat) {g n cap j f o : Nat} {v' : Value} {T' : TypeId} (hi : σ[i]? = some (rowD E (.slice (some ⟨g, 0, none⟩) n cap) l)) (x : α) (hj : j < l.length) (ho : o = j * Enc.sz α + f) (hf : f < Enc.sz α)
    (hx : Enc.cells x = (Enc.cells l[j]).set f v') (hs : scB P T' = true) (h1 : v'.oneCell' = true) (k : ∀ w', Rel B w' (σ.set i (rowD E (.slice (some ⟨g, 0, none⟩) n cap) (l.set j x))) → K undef w') :
    upK P (sStore T' (.pointer (some ⟨g, o, none⟩)) v') w K := by
  obtain ⟨c, h⟩ := h
  exact (rowD.own (h.own i _ hi)).set_sc x hj ho hf hx hs h1 fun w' st hr => k w' ⟨c, h.step hi st hr.rowD⟩
theorem Rel.set_ag (h : Rel B w σ) (i : Nat) {g n cap j m : Nat} {ds : Array Value} {T' : TypeId} (hi : σ[i]? = some (rowD E (.slice (some ⟨g, 0, none⟩) n cap) l)) (x : α) (hj : j < l.length) (ht : agB P T' m = true) (hm : m = Enc.sz α) (hd : ds.toList = Enc.cells x)
    (k : ∀ w', Rel B w' (σ.set i (rowD E (.slice (some ⟨g, 0, none⟩) n cap) (l.set j x))) → K undef w') : upK P (sStore T' (.pointer (some ⟨g, j * Enc.sz α, none⟩)) (.agg ds)) w K := by
  obtain ⟨c, h⟩ := h
  exact (rowD.own (h.own i _ hi)).set_ag x hj ht hm hd fun w' st hr => k w' ⟨c, h.step hi st hr.rowD⟩
/-- An element of one's own row, where it lies. -/
theorem Rel.elem (h : Rel B w σ) {i : Nat} {g n cap j : Nat} (hi : σ[i]? = some (rowD E (.slice (some ⟨g, 0, none⟩) n cap) l)) (hj : j < l.length) : (cellsR g (j * Enc.sz α) (Enc.cells l[j])).here w := by
  have := (rowD.own (c := fun _ => 0) (t := 0) (by
    have := h.here hi
    exact Dat.wide _ (fun k hk hs => rfl) this)).elem hj
  exact ⟨trivial, this.2.1, this.2.2⟩
/-- 's[:k]' of a slice of one's own, up to its length: still one's own. -/
theorem Rel.front (h : Rel B w σ) (i : Nat) (hi : σ[i]? = some (rowD E v l)) (hT : sliceB P T E (Enc.sz α) by_ = true) {hi' : Nat} {lov hiv : Option Value} (hlo : Bnd lov 0 0) (hhi : Bnd hiv l.length hi') (h2 : hi' ≤ l.length) :
    ∃ v', (∀ {Kp : Value → Prop}, pureK P (sSlice T v lov hiv none) Kp = Kp v') ∧ Rel B w (σ.set i (rowD E v' (l.take hi'))) := by
  obtain ⟨c, h⟩ := h
  obtain ⟨v', h3, h4⟩ := (rowD.own (h.own i _ hi)).front hT hlo hhi h2
  exact ⟨v', h3, c, h.step hi (Step.refl _ c w) h4.rowD⟩
/-- 'copy(own[lo:], src)' -/
theorem Rel.copyPart (h : Rel B w σ) (i : Nat) {g n cap lo : Nat} {l2 : List α} {v2 : Value} {T2 : TypeId} {a : Option Addr} {dc : Nat} (hi : σ[i]? = some (rowD E (.slice (some ⟨g, 0, none⟩) n cap) l)) (hT : sliceB P T E (Enc.sz α) by_ = true) (r : Rd B σ [i] v2 l2)
    (hlo : lo ≤ l.length) (ha : a = some ⟨g, lo * Enc.sz α, none⟩ ∨ lo = l.length ∧ a = some ⟨g, 0, none⟩) {U : TypeId} {bs : Array Bool}
    (k : ∀ w', Rel B w' (σ.set i (rowD E (.slice (some ⟨g, 0, none⟩) n cap) (l.take lo ++ l2.take (l.length - lo) ++ l.drop (lo + (l2.take (l.length - lo)).length)))) → K (.int .i64 (l2.take (l.length - lo)).length) w') :
    upK P (sBlt .copy #[T, T2] U bs #[.slice a (n - lo) dc, v2]) w K := by
  obtain ⟨c, h⟩ := h
  obtain ⟨u, _, r⟩ := h.rd r
  exact copy_part hT (rowD.own (h.own i _ hi)) r hlo ha fun w' st hr => k w' ⟨c, h.step hi st hr.rowD⟩
end

/-! ### Single blocks -/
theorem Rel.box (h : Rel B w σ) {v : Value} (k : ∀ b w', Rel B w' (σ ++ [cellD b T v.cells]) → K (.pointer (some ⟨b, 0, none⟩)) w') : upK P (sBox T v) w K := by
  obtain ⟨c, h⟩ := h
  exact box_of (c := c) (t := σ.length + 1) fun c' w' _ hb st => k _ w' ⟨c', h.push st hb.cellD⟩
theorem Rel.alloc (h : Rel B w σ) {z : Value} (hz : (P.info? T).bind (·.zero) = some z) (k : ∀ b w', Rel B w' (σ ++ [cellD b T z.cells]) → K (.pointer (some ⟨b, 0, none⟩)) w') : upK P (sAlloc T) w K := by
  obtain ⟨c, h⟩ := h
  exact alloc_of (c := c) (t := σ.length + 1) hz fun c' w' _ hb st => k _ w' ⟨c', h.push st hb.cellD⟩
theorem Rel.st (h : Rel B w σ) (i : Nat) {b o : Nat} {cs : Array Value} {v : Value} {T' : TypeId} (hi : σ[i]? = some (cellD b E cs)) (hs : scB P T' = true) (ho : o < cs.size) (h1 : v.oneCell' = true)
    (k : ∀ w', Rel B w' (σ.set i (cellD b E (cs.setIfInBounds o v))) → K undef w') : upK P (sStore T' (.pointer (some ⟨b, o, none⟩)) v) w K := by
  obtain ⟨c, h⟩ := h
  exact st_sc hs (h.own i _ hi) ho h1 fun hb st => k _ ⟨c, h.step hi st hb.cellD⟩
theorem Rel.stAg (h : Rel B w σ) (i : Nat) {n b o : Nat} {cs ds : Array Value} {T' : TypeId} (hi : σ[i]? = some (cellD b E cs)) (ht : agB P T' n = true) (hn : ds.size = n) (ho : o + n ≤ cs.size) (h1 : ∀ v ∈ ds.toList, v.oneCell' = true)
    (k : ∀ w', Rel B w' (σ.set i (cellD b E (cs.toList.take o ++ ds.toList ++ cs.toList.drop (o + n)).toArray)) → K undef w') : upK P (sStore T' (.pointer (some ⟨b, o, none⟩)) (.agg ds)) w K := by
  obtain ⟨c, h⟩ := h
  exact st_ag ht (h.own i _ hi) hn ho (fun v hv => h1 v (by simpa using hv)) fun w' hb st => k w' ⟨c, h.step hi st hb.cellD⟩
/-- A variable that is made and set as a whole. -/
theorem Rel.allocAg (h : Rel B w σ) {n : Nat} {z : Value} {ds : Array Value} (hz : (P.info? T).bind (·.zero) = some z) (hzs : z.cells.size = n) (ht : agB P T n = true) (hn : ds.size = n) (h1 : ∀ v ∈ ds.toList, v.oneCell' = true) {K' : Value → World → Prop}
    (k : ∀ b w', Rel B w' (σ ++ [cellD b T ds]) → K' (.pointer (some ⟨b, 0, none⟩)) w') : upK P (sAlloc T) w fun p w1 => upK P (sStore T p (.agg ds)) w1 fun _ w2 => K' p w2 := by
  refine h.alloc hz fun b w1 h1' => ?_
  refine h1'.stAg (E := T) (cs := z.cells) σ.length (by rw [List.getElem?_append_right (Nat.le_refl _)]; simp) ht hn (by omega) h1 fun w2 h2 => k b w2 ?_
  rw [List.set_append_right _ _ (Nat.le_refl _)] at h2
  simp only [List.take_zero, List.nil_append, Nat.zero_add, Nat.sub_self, List.set_cons_zero] at h2
  rw [List.drop_of_length_le (by simp; omega), List.append_nil, Array.toArray_toList] at h2
  exact h2

theorem Rel.ld (h : Rel B w σ) (i : Nat) {b o : Nat} {cs : Array Value} {v : Value} {T' : TypeId} (hi : σ[i]? = some (cellD b E cs)) (hs : scB P T' = true) (hv : cs.toList[o]? = some v) : readK P (sLoad T' (.pointer (some ⟨b, o, none⟩))) w Kp = Kp v := cellD.ld (h.here hi) hs hv
theorem Rel.is (h : Rel B w σ) (i : Nat) {b o : Nat} {cs : Array Value} {v : Value} {T' : TypeId} (hi : σ[i]? = some (cellD b E cs)) (hs : scB P T' = true) (hv : cs.toList[o]? = some v) : Is P (sLoad T' (.pointer (some ⟨b, o, none⟩))) v w := cellD.is (h.here hi) hs hv
theorem Rel.ldAg (h : Rel B w σ) (i : Nat) {b n : Nat} {cs : Array Value} {T' : TypeId} (hi : σ[i]? = some (cellD b E cs)) (hs : agB P T' n = true) (hn : cs.size = n) : readK P (sLoad T' (.pointer (some ⟨b, 0, none⟩))) w Kp = Kp (.agg cs) := cellD.ldAg (h.here hi) hs hn
theorem Rel.isAg (h : Rel B w σ) (i : Nat) {b n : Nat} {cs : Array Value} {T' : TypeId} (hi : σ[i]? = some (cellD b E cs)) (hs : agB P T' n = true) (hn : cs.size = n) : Is P (sLoad T' (.pointer (some ⟨b, 0, none⟩))) (.agg cs) w := cellD.isAg (h.here hi) hs hn

instance : Enc Bool where
  sz := 1
  cells x := [.bool x]
  val x := .bool x
  pos := by omega
  len _ := rfl
  one _ v hv := by
    simp only [List.mem_cons, List.not_mem_nil, or_false] at hv
    rcases hv with rfl
    rfl
  cells_val _ := rfl
instance : Enc ByteArray where
  sz := 1
  cells x := [.string x]
  val x := .string x
  pos := by omega
  len _ := rfl
  one _ v hv := by
    simp only [List.mem_cons, List.not_mem_nil, or_false] at hv
    rcases hv with rfl
    rfl
  cells_val _ := rfl
instance : Enc SV where
  sz := 1
  cells x := [x.1]
  val x := x.1
  pos := by omega
  len _ := rfl
  one x v hv := by
    simp only [List.mem_cons, List.not_mem_nil, or_false] at hv
    rcases hv with rfl
    exact x.2
  cells_val x := by
    obtain ⟨v, hv⟩ := x
    cases v <;> first | rfl | cases hv
theorem toList_beq {s t : ByteArray} : (s.toList == t.toList) = decide (s = t) := by
  rw [Bool.eq_iff_iff, ByteArray.toList_eq, ByteArray.toList_eq]
  obtain ⟨⟨s⟩⟩ := s
  obtain ⟨⟨t⟩⟩ := t
  simp
theorem eql_str {P : Program} {T : TypeId} {xo yo : Operand} {s t : ByteArray} {K : Value → Prop} : pureK P (sBin .eql T xo yo (.string s) (.string t)) K = K (.bool (decide (s = t))) := by rw [bin_eql_str, toList_beq]
theorem neq_str {P : Program} {T : TypeId} {xo yo : Operand} {s t : ByteArray} {K : Value → Prop} : pureK P (sBin .neq T xo yo (.string s) (.string t)) K = K (.bool (!decide (s = t))) := by rw [bin_neq_str, toList_beq]
/-- Structs are compared field by field. -/
theorem eqF_cons {P : Program} {w : World} {d : Nat} {xs ys : Array Value} {f : Field} {fs : List Field} {a b : Value} {p q : Bool} (hn : (f.name != "_") = true) (ha : (part f.type xs f.offset).run P w = .ok a w) (hb : (part f.type ys f.offset).run P w = .ok b w)
    (he : (Op.equalIn d f.type a b).run P w = .ok p w) (hr : (Op.eqFields d xs ys fs).run P w = .ok q w) : (Op.eqFields d xs ys (f :: fs)).run P w = .ok (p && q) w := by
  unfold Op.eqFields
  rw [if_pos (by simpa using hn), Sem.run_bind, ha]
  simp only [Result.andThen_ok]
  rw [Sem.run_bind, hb]
  simp only [Result.andThen_ok]
  rw [Sem.run_bind, he]
  simp only [Result.andThen_ok]
  cases p
  · rfl
  · simpa using hr
theorem eqF_nil {P : Program} {w : World} {d : Nat} {xs ys : Array Value} : (Op.eqFields d xs ys []).run P w = .ok true w := rfl
theorem set_same {α : Type} {l : List α} {i : Nat} {x : α} (h : l[i]? = some x) : l.set i x = l := by
  obtain ⟨hlt, rfl⟩ := List.getElem?_eq_some_iff.1 h
  exact List.set_getElem_self hlt
theorem Rel.addNil {B : Base} {w : World} {σ : List Dat} (α : Type) [Enc α] (E : TypeId) (h : Rel B w σ) : Rel B w (σ ++ [rowD E (.slice none 0 0) ([] : List α)]) := by
  obtain ⟨c, h⟩ := h
  exact ⟨c, h.push (Step.refl _ c w) (.inl ⟨rfl, rfl⟩)⟩

/-- What is known of the data of an argument. -/
def okInt (_ : World) (n : Int) : Prop := -9223372036854775808 ≤ n ∧ n ≤ 9223372036854775807
def okStr (_ : World) (s : ByteArray) : Prop := s.size ≤ maxLen
def okBool (_ : World) (_ : Bool) : Prop := True

/-! ### A law's beginning and end -/
def lawB (W : World) : Base := ⟨W, fun k => k < W.heap.size⟩
theorem lawB.start (W : World) : Rel (lawB W) W [] := ⟨fun _ => 0, rfl, rfl, rfl, Nat.le_refl _, fun _ _ _ => rfl, fun _ _ _ => rfl, fun i d hd => by simp at hd⟩
theorem lawB.fin {W : World} (h : Rel (lawB W) w σ) : Below W.heap.size W w := by
  obtain ⟨c, h⟩ := h
  exact ⟨h.os, h.tape, h.output, h.size, fun k hk => h.same k hk hk⟩
theorem lawB.row {α : Type} [Enc α] {W : World} {v : Value} {l : List α} (h : RowR (fun _ => 0) 0 W v l) : rowR v l (lawB W) := by
  obtain ⟨a, cap, rfl, hc, h⟩ := h
  exact ⟨a, cap, rfl, hc, h.imp id fun ⟨g, o, h1, h2⟩ => ⟨g, o, h1, h2.2.1, h2.2.1, h2.2.2⟩⟩
theorem lawB.below {W : World} (h : Rel (lawB W) w σ) : Below W.heap.size W w := lawB.fin h
end

end Go.Proofs.YtoebncgnjbblgaaGreatDoor
