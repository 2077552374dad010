/-
  Readers: a call that has not failed has read an encoding. No condition.
-/
import Derived.Test.YtncgdihcplhcoaaDoorWireD
namespace Go.Proofs.YtncgdihcplhcoaaDoor
open Go.RowKit

/-- A call of a reader that has failed fails. -/
structure Ok2 {α : Type} (enc : α → Bs) (good : α → Prop) (one : RS → α × RS) : Prop where
  ok : Ok1 enc good one
  keep : ∀ s : RS, s.bad = true → (one s).2.bad = true
theorem Ok2.back {α : Type} {enc : α → Bs} {good : α → Prop} {one : RS → α × RS} (h : Ok2 enc good one) {s : RS} (hb : (one s).2.bad = false) : s.bad = false ∧ s.rest = enc (one s).1 ++ (one s).2.rest ∧ good (one s).1 := by
  have h1 : s.bad = false := by
    cases hs : s.bad
    · rfl
    · rw [h.keep s hs] at hb; cases hb
  exact ⟨h1, h.ok.back h1 hb⟩
theorem numR_keep {e : UInt8} (he : isEnd e) (lo : Int) (s : RS) (h : s.bad = true) : (numR e lo s).2.bad = true := by
  rcases numR_cases he lo s with ⟨n, r, _, _, _, e4⟩ | ⟨_, e4⟩ <;> rw [e4]
  · exact h
  · rfl
theorem closeR_keep (e : UInt8) (s : RS) (h : s.bad = true) : (closeR e s).bad = true := by
  rcases closeR_cases e s with ⟨r, _, e2⟩ | ⟨_, e2⟩ <;> rw [e2]
  · exact h
  · rfl
theorem intR_ok2 : Ok2 encI (fun n => -9223372036854775808 ≤ n ∧ inI n) intR := ⟨intR_ok, fun s h => numR_keep (.inl rfl) _ s h⟩
theorem natR_ok2 : Ok2 encI (fun n => 0 ≤ n ∧ inI n) natR := ⟨natR_ok, fun s h => numR_keep (.inl rfl) _ s h⟩
theorem textR_ok2 : Ok2 encT (fun t => t.length ≤ 9223372036854775807) textR := by
  refine ⟨textR_ok, fun s h => ?_⟩
  unfold textR
  simp only
  split
  · rfl
  · exact closeR_keep _ _ (numR_keep (.inr (.inl rfl)) _ s h)
theorem loopR_keep {α : Type} {one : RS → α × RS} (k : Nat) (acc : List α) (s : RS) (h : s.bad = true) : (loopR one k acc s).2.bad = true := by
  cases k with
  | zero => rw [loopR]; exact h
  | succ k => rw [loopR, if_pos h]; exact h
theorem itemsR_ok2 {α : Type} {enc : α → Bs} {good : α → Prop} {one : RS → α × RS} (h : Ok1 enc good one) : Ok2 (encL enc) (fun l => l.length ≤ 9223372036854775807 ∧ ∀ x ∈ l, good x) (itemsR one) := by
  refine ⟨itemsR_ok h, fun s hs => ?_⟩
  unfold itemsR
  exact closeR_keep _ _ (loopR_keep _ _ _ (numR_keep (.inr (.inr rfl)) _ s hs))
theorem intsR_ok2 : Ok2 (encL encI) (fun l => l.length ≤ 9223372036854775807 ∧ ∀ x ∈ l, -9223372036854775808 ≤ x ∧ inI x) intsR := itemsR_ok2 intR_ok
theorem textsR_ok2 : Ok2 (encL encT) (fun l => l.length ≤ 9223372036854775807 ∧ ∀ x ∈ l, x.length ≤ 9223372036854775807) textsR := itemsR_ok2 textR_ok
/-! ### Calls, one after the other; a number of times -/
def thenR {α β : Type} (one : RS → α × RS) (two : RS → β × RS) (s : RS) : (α × β) × RS := (((one s).1, (two (one s).2).1), (two (one s).2).2)
def timesR {α : Type} (one : RS → α × RS) : Nat → List α → RS → List α × RS
  | 0, acc, s => (acc, s)
  | k + 1, acc, s => timesR one k (acc ++ [(one s).1]) (one s).2
/-- A call reads an encoding, or fails for good. -/
structure Rd2 {α : Type} (enc : α → Bs) (good : α → Prop) (one : RS → α × RS) : Prop where
  back : ∀ s : RS, (one s).2.bad = false → s.bad = false ∧ s.rest = enc (one s).1 ++ (one s).2.rest ∧ good (one s).1
  fore : ∀ (x : α) (r : Bs), good x → one ⟨enc x ++ r, false⟩ = (x, ⟨r, false⟩)
theorem intR_rd : Rd2 encI inI intR := ⟨fun s h => by
  obtain ⟨h1, h2, h3⟩ := intR_ok2.back h
  exact ⟨h1, h2, h3.2⟩, fun x r hx => intR_enc hx r false⟩
theorem natR_rd : Rd2 encI (fun n => 0 ≤ n ∧ inI n) natR := ⟨fun s h => natR_ok2.back h, fun x r hx => natR_enc hx.1 hx.2 r false⟩
theorem textR_rd : Rd2 encT (fun t => t.length ≤ 9223372036854775807) textR := ⟨fun s h => textR_ok2.back h, fun x r hx => textR_enc hx r⟩
theorem Rd2.seq {α β : Type} {e1 : α → Bs} {e2 : β → Bs} {g1 : α → Prop} {g2 : β → Prop} {one : RS → α × RS} {two : RS → β × RS} (h1 : Rd2 e1 g1 one) (h2 : Rd2 e2 g2 two) : Rd2 (fun p => e1 p.1 ++ e2 p.2) (fun p => g1 p.1 ∧ g2 p.2) (thenR one two) := by
  refine ⟨fun s h => ?_, fun x r hx => ?_⟩
  · obtain ⟨b1, b2, b3⟩ := h2.back _ h
    obtain ⟨a1, a2, a3⟩ := h1.back _ b1
    refine ⟨a1, ?_, a3, b3⟩
    show s.rest = (e1 (one s).1 ++ e2 (two (one s).2).1) ++ (two (one s).2).2.rest
    rw [a2, b2, List.append_assoc]
  · unfold thenR
    rw [List.append_assoc, h1.fore _ _ hx.1, h2.fore _ _ hx.2]
theorem Rd2.times {α : Type} {enc : α → Bs} {good : α → Prop} {one : RS → α × RS} (h : Rd2 enc good one) : ∀ (k : Nat) (acc : List α) (s : RS), (timesR one k acc s).2.bad = false →
    s.bad = false ∧ ∃ l, l.length = k ∧ (timesR one k acc s).1 = acc ++ l ∧ s.rest = l.flatMap enc ++ (timesR one k acc s).2.rest ∧ ∀ x ∈ l, good x
  | 0, acc, s, hb => ⟨hb, [], rfl, by simp [timesR], by simp [timesR], fun x hx => (by cases hx)⟩
  | k + 1, acc, s, hb => by
    rw [timesR] at hb ⊢
    obtain ⟨h1, l, e1, e2, e3, e4⟩ := Rd2.times h k _ _ hb
    obtain ⟨b1, b2, b3⟩ := h.back _ h1
    refine ⟨b1, (one s).1 :: l, by rw [List.length_cons, e1], by rw [e2]; simp, ?_, fun x hx => ?_⟩
    · rw [List.flatMap_cons, List.append_assoc, ← e3]; exact b2
    · rcases List.mem_cons.1 hx with rfl | hx
      · exact b3
      · exact e4 x hx
theorem Rd2.timesFore {α : Type} {enc : α → Bs} {good : α → Prop} {one : RS → α × RS} (h : Rd2 enc good one) : ∀ (l acc : List α) (r : Bs), (∀ x ∈ l, good x) → timesR one l.length acc ⟨l.flatMap enc ++ r, false⟩ = (acc ++ l, ⟨r, false⟩)
  | [], acc, r, _ => by simp [timesR]
  | x :: l, acc, r, hg => by
    rw [List.length_cons, timesR, List.flatMap_cons, List.append_assoc, h.fore _ _ (hg x List.mem_cons_self)]
    rw [Rd2.timesFore h l _ r fun y hy => hg y (List.mem_cons_of_mem _ hy)]
    simp
theorem timesR_len {α : Type} (one : RS → α × RS) : ∀ (k : Nat) (acc : List α) (s : RS), (timesR one k acc s).1.length = acc.length + k
  | 0, acc, s => by rw [timesR]; rfl
  | k + 1, acc, s => by
    rw [timesR, timesR_len one k, List.length_append, List.length_singleton]; omega
theorem timesR_le {α : Type} {one : RS → α × RS} (h : ∀ s, (one s).2.rest.length ≤ s.rest.length) : ∀ (k : Nat) (acc : List α) (s : RS), (timesR one k acc s).2.rest.length ≤ s.rest.length
  | 0, acc, s => by rw [timesR]; exact Nat.le_refl _
  | k + 1, acc, s => by
    rw [timesR]
    exact Nat.le_trans (timesR_le h k _ _) (h s)
theorem done_end {s : RS} (h : doneR s = true) : s.bad = false ∧ s.rest = [] := by
  unfold doneR at h
  cases hb : s.bad <;> rw [hb] at h
  · exact ⟨rfl, by simpa using h⟩
  · cases h
end Go.Proofs.YtncgdihcplhcoaaDoor
