/-
  Readers: a call that has not failed has read an encoding. No condition.
-/
import Derived.Test.YtoebncgnjbblgaaGreatDoorWireD
namespace Go.Proofs.YtoebncgnjbblgaaGreatDoor
open Go.RowKit

/-- A call of a reader that has failed fails. -/
structure Ok2 {α : Type} (enc : α → Bs) (good : α → Prop) (one : RS → α × RS) : Prop where
  ok : Ok1 enc good one
  keep : ∀ s : RS, s.bad = true → (one s).2.bad = true
theorem Ok2.back {α : Type} {enc : α → Bs} {good : α → Prop} {one : RS → α × RS} (h : Ok2 enc good one) {s : RS} (hb : (one s).2.bad = false) : s.bad = false ∧ s.rest = enc (one s).1 ++ (one s).2.rest ∧ good (one s).1 := by
  have h1 : s.bad = false := by
    cases hs : s.bad
    · rfl
    · rw [h.keep s hs] at hb; cases hb
  exact ⟨h1, h.ok.back h1 hb⟩
theorem numR_keep {e : UInt8} (he : isEnd e) (lo : Int) (s : RS) (h : s.bad = true) : (numR e lo s).2.bad = true := by
  rcases numR_cases he lo s with ⟨n, r, _, _, _, e4⟩ | ⟨_, e4⟩ <;> rw [e4]
  · exact h
  · rfl
theorem closeR_keep (e : UInt8) (s : RS) (h : s.bad = true) : (closeR e s).bad = true := by
  rcases closeR_cases e s with ⟨r, _, e2⟩ | ⟨_, e2⟩ <;> rw [e2]
  · exact h
  · rfl
theorem intR_ok2 : Ok2 encI (fun n => -9223372036854775808 ≤ n ∧ inI n) intR := ⟨intR_ok, fun s h => numR_keep (.inl rfl) _ s h⟩
theorem natR_ok2 : Ok2 encI (fun n => 0 ≤ n ∧ inI n) natR := ⟨natR_ok, fun s h => numR_keep (.inl rfl) _ s h⟩
theorem textR_ok2 : Ok2 encT (fun t => t.length ≤ 9223372036854775807) textR := by
  refine ⟨textR_ok, fun s h => ?_⟩
  unfold textR
  simp only
  split
  · rfl
  · exact closeR_keep _ _ (numR_keep (.inr (.inl rfl)) _ s h)
theorem loopR_keep {α : Type} {one : RS → α × RS} (k : Nat) (acc : List α) (s : RS) (h : s.bad = true) : (loopR one k acc s).2.bad = true := by
  cases k with
  | zero => rw [loopR]; exact h
  | succ k => rw [loopR, if_pos h]; exact h
theorem itemsR_ok2 {α : Type} {enc : α → Bs} {good : α → Prop} {one : RS → α × RS} (h : Ok1 enc good one) : Ok2 (encL enc) (fun l => l.length ≤ 9223372036854775807 ∧ ∀ x ∈ l, good x) (itemsR one) := by
  refine ⟨itemsR_ok h, fun s hs => ?_⟩
  unfold itemsR
  exact closeR_keep _ _ (loopR_keep _ _ _ (numR_keep (.inr (.inr rfl)) _ s hs))
theorem intsR_ok2 : Ok2 (encL encI) (fun l => l.length ≤ 9223372036854775807 ∧ ∀ x ∈ l, -9223372036854775808 ≤ x ∧ inI x) intsR := itemsR_ok2 intR_ok
theorem textsR_ok2 : Ok2 (encL encT) (fun l => l.length ≤ 9223372036854775807 ∧ ∀ x ∈ l, x.length ≤ 9223372036854775807) textsR := itemsR_ok2 textR_ok
/-! ### Calls, one after the other; a number of times -/
def thenR {α β : Type} (one : RS → α × RS) (two : RS → β × RS) (s : RS) : (α × β) × RS := (((one s).1, (two (one s).2).1), (two (one s).2).2)
def timesR {α : Type} (one : RS → α × RS) : Nat → List α → RS → List α × RS
  | 0, acc, s => (acc, s)
  | k + 1, acc, s => timesR one k (acc ++ [(one s).1]) (one s).2
/-- A call reads an encoding, or fails for good. -/
structure Rd2 {α : Type} (enc : α → Bs) (good : α → Prop) (one : RS → α × RS) : Prop where
  back : ∀ s : RS, (one s).2.bad = false → s.bad = false ∧ s.rest = enc (one s).1 ++ (one s).2.rest ∧ good (one s).1
  fore : ∀ (x : α) (r : Bs), good x → one ⟨enc x ++ r, false⟩ = (x, ⟨r, false⟩)
theorem intR_rd : Rd2 encI inI intR := ⟨fun s h => by
  obtain ⟨h1, h2, h3⟩ := intR_ok2.back h
  exact ⟨h1, h2, h3.2⟩, fun x r hx => intR_enc hx r false⟩
theorem natR_rd : Rd2 encI (fun n => 0 ≤ n ∧ inI n) natR := ⟨fun s h => natR_ok2.back h, fun x r hx => natR_enc hx.1 hx.2 r false⟩
theorem textR_rd : Rd2 encT (fun t => t.length ≤ 9223372036854775807) textR := ⟨fun s h => textR_ok2.back h, fun x r hx => textR_enc hx r⟩
theorem Rd2.seq {α β : Type} {e1 : α → Bs} {e2 : β → Bs} {g1 : α → Prop} {g2 : β → Prop} {one : RS → α × RS} {two : RS → β × RS} (h1 : Rd2 e1 g1 one) (h2 : Rd2 e2 g2 two) : Rd2 (fun p => e1 p.1 ++ e2 p.2) (fun p => g1 p.1 ∧ g2 p.2) (thenR one two) := by
  refine ⟨fun s h => ?_, fun x r hx => ?_⟩
  · obtain ⟨b1, b2, b3⟩ := h2.back _ h
    obtain ⟨a1, a2, a3⟩ := h1.back _ b1
    refine ⟨a1, ?_, a3, b3⟩
    show s.rest = (e1 (one s).1 ++ e2 (two (one s).2).1) ++ (two (one s).2).2.rest
    rw [a2, b2, List.append_assoc]
  · unfold thenR
    rw [List.append_assoc, h1.fore _ _ hx.1, h2.fore _ _ hx.2]
theorem Rd2.times {α : Type} {enc : α → Bs} {good : α → Prop} {one : RS → α × RS} (h : Rd2 enc good one) : ∀ (k : Nat) (acc : List α) (s : RS), (timesR one k acc s).2.bad = false →
    s.bad = false ∧ ∃ l, l.length = k ∧ (timesR one k acc s).1 = acc ++ l ∧ s.rest = l.flatMap enc ++ (timesR one k acc s).2.rest ∧ ∀ x ∈ l, good x
  | 0, acc, s, hb => ⟨hb, [], rfl, by simp [timesR], by simp [timesR], fun x hx => (by cases hx)⟩
  | k + 1, acc, s, hb => by
    rw [timesR] at hb ⊢
    obtain ⟨h1, l, e1, e2, e3, e4⟩ := Rd2.times h k _ _ hb
    obtain ⟨b1, b2, b3⟩ := h.back _ h1
    refine ⟨b1, (one s).1 :: l, by rw [List.length_cons, e1], by rw [e2]; simp, ?_, fun x hx => ?_⟩
    · rw [List.flatMap_cons, List.append_assoc, ← e3]; exact b2
    · rcases List.mem_cons.1 hx with rfl | hx
      · exact b3
      · exact e4 x hx
theorem Rd2.timesFore {α : Type} {enc : α → Bs} {good : α → Prop} {one : RS → α × RS} (h : Rd2 enc good one) : ∀ (l acc : List α) (r : Bs), (∀ x ∈ l, good x) → timesR one l.length acc ⟨l.flatMap enc ++ r, false⟩ = (acc ++ l, ⟨r, false⟩)
  | [], acc, r, _ => by simp [timesR]
  | x :: l, acc, r, hg => by
    rw [List.length_cons, timesR, List.flatMap_cons, List.append_assoc, h.fore _ _ (hg x List.mem_cons_self)]
    rw [Rd2.timesFore h l _ r fun y hy => hg y (List.mem_cons_of_mem _ hy)]
    simp
theorem timesR_len {α : Type} (one : RS → α × RS) : ∀ (k : Nat) (acc : List α) (s : RS), (timesR one k acc s).1.length = acc.length + k
  | 0, acc, s => by rw [timesR]; rfl
  | k + 1, acc, s => by
    rw [timesR, timesR_len one k, List.length_append, List.length_singleton]; omega
theorem timesR_le {α : Type} {one : RS → α × RS} (h : ∀ s, (one s).2.rest.length ≤ s.rest.length) : ∀ (k : Nat) (acc : List α) (s : RS), (timesR one k acc s).2.rest.length ≤ s.rest.length
  | 0, acc, s => by rw [timesR]; exact Nat.le_refl _
  | k + 1, acc, s => by
    rw [timesR]
    exact Nat.le_trans (timesR_le h k _ _) (h s)
theorem done_end {s : RS} (h : doneR s = true) : s.bad = false ∧ s.rest = [] := by
  unfold doneR at h
  cases hb : s.bad <;> rw [hb] at h
  · exact ⟨rfl, by simpa using h⟩
  · cases h
/-! ### Readers that are sane: one that has failed has nothing left -/
abbrev minI : Int := -9223372036854775808
abbrev Sane (s : RS) : Prop := s.bad = true → s.rest = []
theorem numR_sane {e : UInt8} (he : isEnd e) {lo : Int} {s : RS} (h : Sane s) : Sane (numR e lo s).2 := by
  rcases numR_cases he lo s with ⟨n, r, e1, _, _, e4⟩ | ⟨_, e4⟩ <;> rw [e4]
  · intro hb
    have := h hb
    rw [this] at e1
    exact absurd e1.symm (by simp)
  · exact fun _ => rfl
theorem closeR_sane {e : UInt8} {s : RS} (h : Sane s) : Sane (closeR e s) := by
  rcases closeR_cases e s with ⟨r, e1, e2⟩ | ⟨_, e2⟩ <;> rw [e2]
  · intro hb
    have := h hb
    rw [this] at e1
    cases e1
  · exact fun _ => rfl
theorem sane_drop {s : RS} (h : Sane s) (n : Nat) : Sane ⟨s.rest.drop n, s.bad⟩ := fun hb => by
  show s.rest.drop n = []
  rw [h hb, List.drop_nil]
theorem textR_sane {s : RS} (h : Sane s) : Sane (textR s).2 := by
  have h1 := numR_sane (.inr (.inl rfl) : isEnd 58) (lo := 0) h
  unfold textR
  simp only
  split
  · exact fun _ => rfl
  · exact closeR_sane (sane_drop h1 _)
theorem loopR_sane {α : Type} {one : RS → α × RS} (ho : ∀ s, Sane s → Sane (one s).2) : ∀ (k : Nat) (acc : List α) (s : RS), Sane s → Sane (loopR one k acc s).2
  | 0, acc, s, h => by rw [loopR]; exact h
  | k + 1, acc, s, h => by
    rw [loopR]
    split
    · exact h
    · exact loopR_sane ho k _ _ (ho s h)
theorem itemsR_sane {α : Type} {one : RS → α × RS} (ho : ∀ s, Sane s → Sane (one s).2) {s : RS} (h : Sane s) : Sane (itemsR one s).2 := by
  unfold itemsR
  exact closeR_sane (loopR_sane ho _ _ _ (numR_sane (.inr (.inr rfl)) h))
theorem intR_sane {s : RS} (h : Sane s) : Sane (intR s).2 := numR_sane (.inl rfl) h
theorem natR_sane {s : RS} (h : Sane s) : Sane (natR s).2 := numR_sane (.inl rfl) h
theorem numR_zero {e : UInt8} (he : isEnd e) (s : RS) : numR e 0 s = if (numR e minI s).1 < 0 then (0, failR) else numR e minI s := by
  rcases numR_cases he minI s with ⟨n, r, e1, e2, e3, e4⟩ | ⟨hno, e4⟩ <;> rw [e4]
  · by_cases c : n < 0
    · rw [if_pos c]
      unfold numR
      rw [numS_none.2 fun m r' h1 h2 h3 => ?_]
      rw [e1] at h1
      obtain ⟨h4, _⟩ := split_first (itoa_not he) (itoa_not he) h1
      have := itoa_inj h4
      omega
    · rw [if_neg c]
      unfold numR
      rw [(numS_some he).2 ⟨e1, by omega, e3⟩]
  · rw [if_neg (by decide)]
    unfold numR
    rw [numS_none.2 fun m r' h1 h2 h3 => hno m r' h1 h3.1 h3]
theorem textR_fail {s : RS} {n : Int} {s1 : RS} (hq : numR 58 0 s = (n, s1)) (h : s1.rest = [] ∨ (s1.rest.length : Int) ≤ n) : textR s = ([], failR) := by
  unfold textR
  rw [hq]
  simp only
  by_cases c : (s1.rest.length : Int) < n
  · rw [if_pos c]
  · rw [if_neg c]
    have hd : s1.rest.drop n.toNat = [] := by
      rcases h with h | h
      · rw [h, List.drop_nil]
      · exact List.drop_of_length_le (by omega)
    rw [hd]
    simp [closeR, failR]
/-! ### Lists that are read -/
theorem loopR_all {α : Type} {one : RS → α × RS} {P : α → Prop} {Q : RS → Prop} (h : ∀ s, Q s → P (one s).1 ∧ Q (one s).2) : ∀ (k : Nat) (acc : List α) (s : RS), Q s → (∀ x ∈ acc, P x) → ∀ x ∈ (loopR one k acc s).1, P x
  | 0, acc, s, _, ha => by rw [loopR]; exact ha
  | k + 1, acc, s, hs, ha => by
    rw [loopR]
    split
    · exact ha
    · refine loopR_all h k _ _ (h s hs).2 fun x hx => ?_
      rcases List.mem_append.1 hx with hx | hx
      · exact ha x hx
      · rw [List.mem_singleton.1 hx]; exact (h s hs).1
theorem itemsR_all {α : Type} {one : RS → α × RS} {P : α → Prop} {N : Nat} (h : ∀ s : RS, s.rest.length ≤ N → P (one s).1 ∧ (one s).2.rest.length ≤ N) {s : RS} (hs : s.rest.length ≤ N) : ∀ x ∈ (itemsR one s).1, P x := by
  unfold itemsR
  simp only
  split
  · intro x hx; cases hx
  · exact loopR_all (Q := fun s => s.rest.length ≤ N) h _ _ _ (Nat.le_trans (numR_le (.inr (.inr rfl) : isEnd 91) 0 s).1 hs) fun x hx => by cases hx
theorem itemsR_len {α : Type} {enc : α → Bs} {good : α → Prop} {one : RS → α × RS} (h : Ok1 enc good one) (hne : ∀ x, 0 < (enc x).length) (s : RS) : (itemsR one s).1.length ≤ s.rest.length + 1 := by
  unfold itemsR
  have h1 := (numR_le (.inr (.inr rfl) : isEnd 91) 0 s).1
  have h2 := loopR_le h hne (numR 91 0 s).1.toNat [] (numR 91 0 s).2
  rw [List.length_nil] at h2
  simp only
  split
  · rw [List.length_nil]; omega
  · omega
theorem closeR_le (e : UInt8) (s : RS) : (closeR e s).rest.length ≤ s.rest.length := by
  rcases closeR_cases e s with ⟨r, e1, e2⟩ | ⟨_, e2⟩ <;> rw [e2]
  · rw [e1, List.length_cons]; exact Nat.le_succ _
  · exact Nat.zero_le _
theorem textR_le (s : RS) : (textR s).1.length ≤ s.rest.length ∧ (textR s).2.rest.length ≤ s.rest.length := by
  have h1 := (numR_le (.inr (.inl rfl) : isEnd 58) 0 s).1
  unfold textR
  simp only
  split
  · exact ⟨Nat.zero_le _, Nat.zero_le _⟩
  · have h2 := closeR_le 44 ⟨(numR 58 0 s).2.rest.drop (numR 58 0 s).1.toNat, (numR 58 0 s).2.bad⟩
    have h3 : (⟨(numR 58 0 s).2.rest.drop (numR 58 0 s).1.toNat, (numR 58 0 s).2.bad⟩ : RS).rest.length ≤ (numR 58 0 s).2.rest.length := by
      show ((numR 58 0 s).2.rest.drop _).length ≤ _
      rw [List.length_drop]; omega
    refine ⟨?_, Nat.le_trans h2 (Nat.le_trans h3 h1)⟩
    show (if _ then ([] : Bs) else _).length ≤ _
    split
    · exact Nat.zero_le _
    · rw [List.length_take]; omega
theorem loopR_le2 {α : Type} {one : RS → α × RS} (h : ∀ s, (one s).2.rest.length ≤ s.rest.length) : ∀ (k : Nat) (acc : List α) (s : RS), (loopR one k acc s).2.rest.length ≤ s.rest.length
  | 0, acc, s => by rw [loopR]; exact Nat.le_refl _
  | k + 1, acc, s => by
    rw [loopR]
    split
    · exact Nat.le_refl _
    · exact Nat.le_trans (loopR_le2 h k _ _) (h s)
theorem itemsR_le2 {α : Type} {one : RS → α × RS} (h : ∀ s, (one s).2.rest.length ≤ s.rest.length) (s : RS) : (itemsR one s).2.rest.length ≤ s.rest.length := by
  unfold itemsR
  exact Nat.le_trans (closeR_le _ _) (Nat.le_trans (loopR_le2 h _ _ _) (numR_le (.inr (.inr rfl)) 0 s).1)
theorem intR_le (s : RS) : (intR s).2.rest.length ≤ s.rest.length := (numR_le (.inl rfl) _ s).1
theorem natR_le (s : RS) : (natR s).2.rest.length ≤ s.rest.length := (numR_le (.inl rfl) _ s).1

end Go.Proofs.YtoebncgnjbblgaaGreatDoor
