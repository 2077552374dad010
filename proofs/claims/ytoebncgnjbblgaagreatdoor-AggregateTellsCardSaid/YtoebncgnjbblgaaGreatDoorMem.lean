/-
  Memory for the proofs of this seat: blocks with an owner's number, what a call may write, rows of data. No condition.
-/
import Derived.Test.YtoebncgnjbblgaaGreatDoorOps
namespace Go.Proofs.YtoebncgnjbblgaaGreatDoor
open Go.RowKit

theorem tick_eq (w : World) : tick w = w.drew := rfl

/-- From w to w': blocks of the owners in T alone may have been written; what is new may belong to anybody. -/
structure Step (T : Nat → Prop) (c : Nat → Nat) (w : World) (c' : Nat → Nat) (w' : World) : Prop where
  os : w'.os = w.os
  tape : w'.tape = w.tape
  output : w'.output = w.output
  size : w.heap.size ≤ w'.heap.size
  old : ∀ k, k < w.heap.size → c' k = c k
  same : ∀ k, k < w.heap.size → ¬ T (c k) → w'.heap[k]? = w.heap[k]?

def only (t : Nat) : Nat → Prop := fun x => x = t
def two (t u : Nat) : Nat → Prop := fun x => x = t ∨ x = u
def nobody : Nat → Prop := fun _ => False
def paint (c : Nat → Nat) (s n : Nat) : Nat → Nat := fun k => if k < s then c k else n

section
variable {T T' : Nat → Prop} {c c' c1 c2 : Nat → Nat} {w w' w1 w2 : World} {t u n : Nat}

theorem Step.refl (T : Nat → Prop) (c : Nat → Nat) (w : World) : Step T c w c w :=
  ⟨rfl, rfl, rfl, Nat.le_refl _, fun _ _ => rfl, fun _ _ _ => rfl⟩

theorem Step.trans (h : Step T c w c1 w1) (h' : Step T c1 w1 c2 w2) : Step T c w c2 w2 := by
  refine ⟨h'.os.trans h.os, h'.tape.trans h.tape, h'.output.trans h.output, Nat.le_trans h.size h'.size, fun k hk => ?_, fun k hk ht => ?_⟩
  · rw [h'.old k (Nat.lt_of_lt_of_le hk h.size), h.old k hk]
  · rw [h'.same k (Nat.lt_of_lt_of_le hk h.size) (by rw [h.old k hk]; exact ht), h.same k hk ht]

theorem Step.mono (h : Step T c w c' w') (hT : ∀ x, T x → T' x) : Step T' c w c' w' :=
  ⟨h.os, h.tape, h.output, h.size, h.old, fun k hk ht => h.same k hk fun hh => ht (hT _ hh)⟩

theorem Step.none (h : Step nobody c w c' w') : Step T c w c' w' := h.mono fun _ h => h.elim

/-- Owners that had nothing at the start need not be told. -/
theorem Step.hide (h : Step T c w c' w') (hT : ∀ k, k < w.heap.size → T (c k) → T' (c k)) : Step T' c w c' w' :=
  ⟨h.os, h.tape, h.output, h.size, h.old, fun k hk ht => h.same k hk fun hh => ht (hT k hk hh)⟩

theorem Step.tick (T : Nat → Prop) (c : Nat → Nat) (w : World) : Step T c w c (tick w) :=
  ⟨rfl, rfl, rfl, Nat.le_refl _, fun _ _ => rfl, fun _ _ _ => rfl⟩

theorem Step.ticked (h : Step T c w c' w') : Step T c w c' (Go.Proofs.YtoebncgnjbblgaaGreatDoor.tick w') := h.trans (Step.tick T c' w')

theorem Step.alloc (T : Nat → Prop) (c : Nat → Nat) (w : World) (n : Nat) (o : Obj) : Step T c w (paint c w.heap.size n) (w.alloc o) :=
  ⟨rfl, rfl, rfl, by simp, fun k hk => by simp [paint, hk], fun k hk _ => Below.heap_alloc w o k hk⟩

theorem Step.below (h : Step T c w c' w') (h0 : ∀ k, k < w.heap.size → ¬ T (c k)) : Below w.heap.size w w' :=
  ⟨h.os, h.tape, h.output, h.size, fun k hk => h.same k hk (h0 k hk)⟩

/-- An owner's number that nobody has. -/
theorem exists_fresh (c : Nat → Nat) (n m : Nat) : ∃ j, m < j ∧ ∀ k, k < n → c k < j := by
  have hb : ∃ b, ∀ k, k < n → c k < b := by
    induction n with
    | zero => exact ⟨0, fun k h => absurd h (Nat.not_lt_zero k)⟩
    | succ n ih =>
      obtain ⟨b, hb⟩ := ih
      refine ⟨b + c n + 1, fun k hk => ?_⟩
      rcases Nat.lt_succ_iff_lt_or_eq.1 hk with h | rfl
      · have := hb k h; omega
      · omega
  obtain ⟨b, hb⟩ := hb
  exact ⟨m + b + 1, by omega, fun k hk => by have := hb k hk; omega⟩

/-- A block that is a row of cells, none of them frozen, and its owner. -/
def Blk (c : Nat → Nat) (t : Nat) (w : World) (b : Nat) (E : TypeId) (cs : Array Value) : Prop := c b = t ∧ w.heap[b]? = some (.cells cs E (0, 0))

theorem Blk.lt {b E cs} (h : Blk c t w b E cs) : b < w.heap.size := (Array.getElem?_eq_some_iff.1 h.2).1

theorem Blk.frame {b E cs} (h : Blk c t w b E cs) (s : Step T c w c' w') (ht : ¬ T t) : Blk c' t w' b E cs :=
  ⟨(s.old b h.lt).trans h.1, (s.same b h.lt (by rw [h.1]; exact ht)).trans h.2⟩

theorem Blk.tick {b E cs} (h : Blk c t w b E cs) : Blk c t (Go.Proofs.YtoebncgnjbblgaaGreatDoor.tick w) b E cs := h

theorem Blk.cell {b E cs} (h : Blk c t w b E cs) {o : Nat} {v : Value} (hv : cs[o]? = some v) : w.cell? ⟨b, o, none⟩ = some v := by
  simp only [World.cell?, h.2]
  simpa using hv

theorem Blk.free {b E cs} (h : Blk c t w b E cs) (o : Nat) : w.frozen? ⟨b, o, none⟩ = false := by
  simp [World.frozen?, h.2]

theorem Blk.alloc {n : Nat} (c : Nat → Nat) (w : World) (E : TypeId) (cs : Array Value) : Blk (paint c w.heap.size n) n (w.alloc (.cells cs E)) w.heap.size E cs :=
  ⟨by simp [paint], heap_alloc_new w _⟩

/-- One cell of a block is written. -/
theorem Blk.set {b E cs} (h : Blk c t w b E cs) (o : Nat) (v : Value) : Blk c t (w.setCell ⟨b, o, none⟩ v) b E (cs.setIfInBounds o v) := by
  refine ⟨h.1, ?_⟩
  simp [World.setCell, Array.getElem?_modify, h.2]

theorem Blk.step {b E cs} (h : Blk c t w b E cs) (o : Nat) (v : Value) : Step (only t) c w c (w.setCell ⟨b, o, none⟩ v) :=
  ⟨rfl, rfl, rfl, by simp [World.setCell], fun _ _ => rfl,
    fun k hk hT => Below.heap_setCell w ⟨b, o, none⟩ v k (by rintro rfl; exact hT h.1)⟩

theorem Blk.setRow {b E cs} (h : Blk c t w b E cs) (ds : Array Value) : Blk c t (w.setRow b ds) b E ds := by
  refine ⟨h.1, ?_⟩
  have hlt := h.lt
  simp [World.setRow, Array.getElem?_modify, h.2]

theorem Blk.stepRow {b E cs} (h : Blk c t w b E cs) (ds : Array Value) : Step (only t) c w c (w.setRow b ds) := by
  refine ⟨rfl, rfl, rfl, by simp [World.setRow], fun _ _ => rfl, fun k hk hT => ?_⟩
  have : k ≠ b := by rintro rfl; exact hT h.1
  simp only [World.setRow, Array.getElem?_modify]
  rw [if_neg (fun e => this e.symm)]

/-- Cells that can be read. -/
def Cells (c : Nat → Nat) (t : Nat) (w : World) (g o : Nat) (xs : List Value) : Prop :=
  c g = t ∧ g < w.heap.size ∧ ∀ j v, xs[j]? = some v → w.cell? ⟨g, o + j, none⟩ = some v

theorem Cells.frame {g o xs} (h : Cells c t w g o xs) (s : Step T c w c' w') (ht : ¬ T t) : Cells c' t w' g o xs := by
  refine ⟨(s.old g h.2.1).trans h.1, Nat.lt_of_lt_of_le h.2.1 s.size, fun j v hv => ?_⟩
  rw [World.cell?_of_block (w := w) (s.same g h.2.1 (by rw [h.1]; exact ht))]
  exact h.2.2 j v hv

theorem Blk.cells {b E cs} (h : Blk c t w b E cs) : Cells c t w b 0 cs.toList :=
  ⟨h.1, h.lt, fun j v hv => by rw [Nat.zero_add]; exact h.cell (by simpa using hv)⟩

theorem Cells.drop {g o xs} (h : Cells c t w g o xs) (k : Nat) : Cells c t w g (o + k) (xs.drop k) :=
  ⟨h.1, h.2.1, fun j v hv => by rw [Nat.add_assoc]; exact h.2.2 (k + j) v (by rw [List.getElem?_drop] at hv; exact hv)⟩
theorem Cells.take {g o xs} (h : Cells c t w g o xs) (k : Nat) : Cells c t w g o (xs.take k) :=
  ⟨h.1, h.2.1, fun j v hv => h.2.2 j v (by rw [List.getElem?_take] at hv; split at hv; exact hv; cases hv)⟩
end

/-! ### Data in rows -/

class Enc (α : Type) where
  sz : Nat
  cells : α → List Value
  val : α → Value
  pos : 0 < sz
  len : ∀ a, (cells a).length = sz
  one : ∀ a, ∀ v ∈ cells a, v.oneCell' = true
  cells_val : ∀ a, (val a).cells = (cells a).toArray

def flat {α : Type} [Enc α] (l : List α) : List Value := l.flatMap Enc.cells

section
variable {α : Type} [Enc α] {T : Nat → Prop} {c c' : Nat → Nat} {w w' : World} {t u : Nat}

theorem flat_length (l : List α) : (flat l).length = l.length * Enc.sz α := by
  induction l with
  | nil => simp [flat]
  | cons a l ih =>
    have : flat (a :: l) = Enc.cells a ++ flat l := by simp [flat]
    rw [this, List.length_append, ih, Enc.len, List.length_cons, Nat.add_mul, Nat.one_mul, Nat.add_comm]

theorem flat_append (l m : List α) : flat (l ++ m) = flat l ++ flat m := by simp [flat]
theorem flat_nil : flat ([] : List α) = [] := rfl
theorem flat_cons (a : α) (l : List α) : flat (a :: l) = Enc.cells a ++ flat l := by simp [flat]
theorem flat_one (l : List α) : ∀ v ∈ flat l, v.oneCell' = true := by
  intro v hv
  obtain ⟨a, _, h⟩ := List.mem_flatMap.1 hv
  exact Enc.one a v h

theorem flat_drop (l : List α) (k : Nat) : (flat l).drop (k * Enc.sz α) = flat (l.drop k) := by
  induction k generalizing l with
  | zero => simp
  | succ k ih =>
    cases l with
    | nil => simp [flat]
    | cons a l =>
      rw [flat_cons, List.drop_succ_cons, ← ih l, Nat.add_mul, Nat.one_mul, Nat.add_comm, ← List.drop_drop]
      congr 1
      rw [List.drop_append_of_le_length (by rw [Enc.len]; exact Nat.le_refl _), List.drop_of_length_le (by rw [Enc.len]; exact Nat.le_refl _), List.nil_append]

theorem flat_take (l : List α) (k : Nat) : (flat l).take (k * Enc.sz α) = flat (l.take k) := by
  induction k generalizing l with
  | zero => simp [flat]
  | succ k ih =>
    cases l with
    | nil => simp [flat]
    | cons a l =>
      rw [flat_cons, List.take_succ_cons, flat_cons, ← ih l, Nat.add_mul, Nat.one_mul, Nat.add_comm, List.take_append]
      rw [List.take_of_length_le (by rw [Enc.len]; omega), Enc.len]
      congr 2
      omega

theorem flat_get {l : List α} {i : Nat} (hi : i < l.length) {f : Nat} {v : Value} (hv : (Enc.cells l[i])[f]? = some v) : (flat l)[i * Enc.sz α + f]? = some v := by
  have h1 := flat_drop l i
  rw [← List.getElem?_drop, h1, List.drop_eq_getElem_cons hi, flat_cons]
  rw [List.getElem?_append_left (by
    rcases Nat.lt_or_ge f (Enc.cells l[i]).length with h | h
    · exact h
    · rw [List.getElem?_eq_none h] at hv; cases hv)]
  exact hv

/-- A slice that can be read. -/
def RowR (c : Nat → Nat) (t : Nat) (w : World) (v : Value) (l : List α) : Prop :=
  ∃ a cap, v = .slice a l.length cap ∧ l.length ≤ cap ∧ (l = [] ∨ ∃ g o, a = some ⟨g, o, none⟩ ∧ Cells c t w g o (flat l))

/-- A slice of one's own: nil, or from the head of a block of one's own. -/
def RowO (c : Nat → Nat) (t : Nat) (w : World) (E : TypeId) (v : Value) (l : List α) : Prop :=
  w.ownsRow 0 E (Enc.sz α) v l.length (flat l) ∧ ∀ g, v.ownBlock = some g → c g = t

theorem RowR.frame {v : Value} {l : List α} (h : RowR c t w v l) (s : Step T c w c' w') (ht : ¬ T t) : RowR c' t w' v l := by
  obtain ⟨a, cap, rfl, hc, h⟩ := h
  refine ⟨a, cap, rfl, hc, ?_⟩
  rcases h with h | ⟨g, o, rfl, h⟩
  · exact .inl h
  · exact .inr ⟨g, o, rfl, h.frame s ht⟩

theorem RowO.frame {v : Value} {l : List α} {E : TypeId} (h : RowO c t w E v l) (s : Step T c w c' w') (ht : ¬ T t) : RowO c' t w' E v l := by
  obtain ⟨⟨h1, h2⟩, h3⟩ := h
  rcases h2 with ⟨rfl, h2⟩ | ⟨g, cap, cur, rfl, hb, hg, hr⟩
  · exact ⟨⟨h1, .inl ⟨rfl, h2⟩⟩, fun g hg => by simp [Value.ownBlock] at hg⟩
  · have hb' : Blk c t w g E cur := ⟨h3 g rfl, hg⟩
    have := hb'.frame s ht
    refine ⟨⟨h1, .inr ⟨g, cap, cur, rfl, hb, this.2, hr⟩⟩, fun g' hg' => ?_⟩
    simp [Value.ownBlock] at hg'
    subst hg'
    exact this.1

theorem RowO.nil (c : Nat → Nat) (t : Nat) (w : World) (E : TypeId) : RowO c t w E (.slice none 0 0) ([] : List α) :=
  ⟨World.ownsRow_nil w 0 E _, fun g hg => by simp [Value.ownBlock] at hg⟩

/-- What it is: nil, or a block. -/
theorem RowO.cases {v : Value} {l : List α} {E : TypeId} (h : RowO c t w E v l) :
    (v = .slice none 0 0 ∧ l = []) ∨ ∃ g cap cur, v = .slice (some ⟨g, 0, none⟩) l.length cap ∧ Blk c t w g E cur ∧ l.length ≤ cap ∧ cap ≤ maxLen ∧ cur.size = cap * Enc.sz α ∧ cur.toList.take (l.length * Enc.sz α) = flat l := by
  obtain ⟨⟨h1, h2⟩, h3⟩ := h
  rcases h2 with ⟨rfl, h2⟩ | ⟨g, cap, cur, rfl, hb, hg, hr1, hr2, hr3, hr4⟩
  · exact .inl ⟨rfl, List.eq_nil_of_length_eq_zero h2⟩
  · exact .inr ⟨g, cap, cur, rfl, ⟨h3 g rfl, hg⟩, hr1, hr2, hr3, hr4⟩

theorem RowO.mk_ {l : List α} {E : TypeId} {g n cap : Nat} {cur : Array Value} (hb : Blk c t w g E cur) (hn : n = l.length) (h1 : n ≤ cap) (h2 : cap ≤ maxLen) (h3 : cur.size = cap * Enc.sz α) (h4 : cur.toList.take (n * Enc.sz α) = flat l) :
    RowO c t w E (.slice (some ⟨g, 0, none⟩) n cap) l := by
  subst hn
  refine ⟨⟨by rw [flat_length], .inr ⟨g, cap, cur, rfl, Nat.zero_le _, hb.2, h1, h2, h3, h4⟩⟩, fun g' hg => ?_⟩
  simp [Value.ownBlock] at hg
  subst hg
  exact hb.1

theorem RowO.slice {v : Value} {l : List α} {E : TypeId} (h : RowO c t w E v l) : ∃ a cap, v = .slice a l.length cap ∧ l.length ≤ cap := by
  rcases h.cases with ⟨rfl, rfl⟩ | ⟨g, cap, cur, rfl, _, h, _⟩
  · exact ⟨none, 0, rfl, Nat.le_refl _⟩
  · exact ⟨_, cap, rfl, h⟩

theorem RowO.read {v : Value} {l : List α} {E : TypeId} (h : RowO c t w E v l) : RowR c t w v l := by
  rcases h.cases with ⟨rfl, rfl⟩ | ⟨g, cap, cur, rfl, hb, hc, _, hs, ht⟩
  · exact ⟨none, 0, rfl, Nat.le_refl _, .inl rfl⟩
  · refine ⟨_, cap, rfl, hc, .inr ⟨g, 0, rfl, ?_⟩⟩
    rw [← ht]
    exact hb.cells.take _

theorem RowR.len {v : Value} {l : List α} (h : RowR c t w v l) : ∃ a cap, v = .slice a l.length cap := by
  obtain ⟨a, cap, h, _⟩ := h
  exact ⟨a, cap, h⟩

theorem RowR.tick {v : Value} {l : List α} (h : RowR c t w v l) : RowR c t (Go.Proofs.YtoebncgnjbblgaaGreatDoor.tick w) v l := h.frame (Step.tick nobody c w) (fun h => h)
theorem RowO.tick {v : Value} {l : List α} {E : TypeId} (h : RowO c t w E v l) : RowO c t (Go.Proofs.YtoebncgnjbblgaaGreatDoor.tick w) E v l := h.frame (Step.tick nobody c w) (fun h => h)

/-- What is new gets its owner at the end. -/
theorem Step.repaint {c2 : Nat → Nat} {w2 : World} (h : Step T c w c2 w2) (x : Nat) : Step T c w (paint c w.heap.size x) w2 :=
  ⟨h.os, h.tape, h.output, h.size, fun k hk => by simp [paint, hk], h.same⟩

theorem Blk.retag {b j n x : Nat} {E cs} {c2 : Nat → Nat} {w2 : World} (h : Blk c2 j w2 b E cs) (hold : ∀ k, k < n → c2 k = c k) (hfr : ∀ k, k < n → c k < j) : Blk (paint c n x) x w2 b E cs := by
  refine ⟨?_, h.2⟩
  unfold paint
  split
  · rename_i hlt
    have h1 := (hold b hlt).symm.trans h.1
    have h2 := hfr b hlt
    omega
  · rfl

theorem RowO.retag {v : Value} {l : List α} {E : TypeId} {j n x : Nat} {c2 : Nat → Nat} {w2 : World} (h : RowO c2 j w2 E v l) (hold : ∀ k, k < n → c2 k = c k) (hfr : ∀ k, k < n → c k < j) : RowO (paint c n x) x w2 E v l := by
  refine ⟨h.1, fun g hg => ?_⟩
  unfold paint
  split
  · rename_i hlt
    have h1 := (hold g hlt).symm.trans (h.2 g hg)
    have h2 := hfr g hlt
    omega
  · rfl
end

end Go.Proofs.YtoebncgnjbblgaaGreatDoor
