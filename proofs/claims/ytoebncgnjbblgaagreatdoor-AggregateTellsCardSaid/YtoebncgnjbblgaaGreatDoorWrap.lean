/-
  From a law's walk to its statement: the arguments are opened as rows, and read again behind the call as they read before. No condition.
-/
import Derived.Test.YtoebncgnjbblgaaGreatDoorRules
import Derived.ProofKit
import Derived.OpenShut
import Derived.Deep.Slices
import Derived.Deep.Strs
import Derived.JoinedCond
namespace Go.Proofs.YtoebncgnjbblgaaGreatDoor
open Go.ChangeShapes Go.WideShapes Go.ChangeAt Go.RowKit

section
variable {H : Type} {enc : TypeId × Value → H} {P : Program} {W W' : World}

theorem trodAll_below (hl : laidOutB P = true) (hB : Below W.heap.size W W') : ∀ (ts : List TypeId) (vs : List Value) (ds : List (DataW H)) (ps : List MemPlace),
    (∀ t ∈ ts, P.readableRec t = true ∧ t < P.types.size) → DataW.TrodAll enc P W 0 (fun _ => true) true ts vs ds ps → (∀ x ∈ ps, x.block < W.heap.size) →
    DataW.TrodAll enc P W' 0 (fun b => decide (b < W.heap.size)) true ts vs ds ps := by
  intro ts
  induction ts with
  | nil =>
    intro vs ds ps _ h _
    obtain ⟨rfl, rfl, rfl⟩ := trodAll_nil h
    exact trodAll_mk0
  | cons t ts ih =>
    intro vs ds ps hty h hlt
    obtain ⟨v, vs', d, ds', p, q, rfl, rfl, rfl, h1, h2⟩ := trodAll_cons h
    have ht := hty t List.mem_cons_self
    exact trodAll_cons_mk (Below.trod hl ht.1 ht.2 h1 hB fun x hx => hlt x (List.mem_append_left _ hx))
      (ih _ _ _ (fun t ht => hty t (List.mem_cons_of_mem _ ht)) h2 fun x hx => hlt x (List.mem_append_right _ hx))

/-- A law that has answered true and left what was there alone meets its row. -/
theorem law_post {f : Func} {s : ChangeSpec} {args : Array Value} {ds gs : List (DataW H)} {before : List MemPlace} {tb : TypeId} (hl : laidOutB P = true)
    (hW : DataW.Whole enc P f.params.toList s.vars false W args.toList ds gs before) (hv : s.vars = []) (hspec : s.fn H (ds ++ gs) = { results := [.lit (.bool true)], args := ds })
    (hres : f.resultTypes.toList = [tb]) (hsz : f.resultTypes.size = 1) (hb : P.underlying tb = some .bool) (hty : ∀ t ∈ f.params.toList, P.readableRec t = true ∧ t < P.types.size) (hB : Below W.heap.size W W') :
    s.post enc P f false true false false W args (.bool true) W' := by
  have hW' := hW
  obtain ⟨p, q, hA, hV, rfl, hfz, hnd⟩ := hW
  have hA' := trodAll_below hl hB _ _ _ _ hty hA fun x hx => hW'.lt x (List.mem_append_left _ hx)
  rw [hv] at hV
  obtain ⟨rfl, rfl⟩ := trodVars_none hV
  refine ⟨_, _, _, [], p, [], hW', ?_, ?_, ?_, hB.frame _, fun h => by cases h⟩
  · rw [hspec, hres, hsz]
    exact trodAll_mk1 (shut_bool hb true)
  · rw [hspec]; exact hA'
  · rw [hspec, hv]; exact rfl

theorem exists_list {α : Type} {p : Nat → α → Prop} (n : Nat) (h : ∀ i, i < n → ∃ x, p i x) : ∃ l : List α, l.length = n ∧ ∀ i (hi : i < l.length), p i l[i] := by
  induction n with
  | zero => exact ⟨[], rfl, fun i hi => by simp at hi⟩
  | succ n ih =>
    obtain ⟨l, hl, hp⟩ := ih fun i hi => h i (by omega)
    obtain ⟨x, hx⟩ := h n (by omega)
    refine ⟨l ++ [x], by simp [hl], fun i hi => ?_⟩
    by_cases hn : i < l.length
    · rw [List.getElem_append_left hn]; exact hp i hn
    · have : i = n := by simp at hi; omega
      subst this
      rw [List.getElem_append_right (by omega)]
      simpa [hl] using hx

theorem flat_inv {α : Type} [Enc α] {l : List α} {k : Nat} {v : Value} (h : (flat l)[k]? = some v) : ∃ (hi : k / Enc.sz α < l.length), (Enc.cells l[k / Enc.sz α])[k % Enc.sz α]? = some v := by
  have hpos : 0 < Enc.sz α := Enc.pos
  have hk : k < l.length * Enc.sz α := by
    rcases Nat.lt_or_ge k (flat l).length with hk | hk
    · rw [flat_length] at hk; exact hk
    · rw [List.getElem?_eq_none hk] at h; cases h
  have hi : k / Enc.sz α < l.length := Nat.div_lt_of_lt_mul (by rw [Nat.mul_comm]; exact hk)
  refine ⟨hi, ?_⟩
  have e : k = k / Enc.sz α * Enc.sz α + k % Enc.sz α := by rw [Nat.mul_comm]; exact (Nat.div_add_mod k (Enc.sz α)).symm
  rw [e, ← List.getElem?_drop, flat_drop, List.drop_eq_getElem_cons hi, flat_cons, List.getElem?_append_left (by rw [Enc.len]; exact Nat.mod_lt _ hpos)] at h
  exact h

/-- An argument that is a slice, as a row. -/
theorem open_row {α : Type} [Enc α] {base : Nat} {spare : Nat → Bool} {held : Bool} {t e : TypeId} {fuel : Nat} {v : Value} {x : DataW H × List MemPlace} (ht : P.underlying t = some (.slice e)) (hsz : P.cellsOf e = Enc.sz α)
    (hdec : ∀ (n : Nat) (cs : List Value) (y : DataW H × List MemPlace), DataW.trod enc P W base spare held n e cs = some y → ∃ a : α, cs = Enc.cells a)
    (h : DataW.trod enc P W base spare held fuel t [v] = some x) : ∃ l : List α, RowR (fun _ => 0) 0 W v l ∧ l.length ≤ maxLen := by
  rcases Go.Deep.open_slice ht h with ⟨hcs, _⟩ | ⟨a, len, cap, m, n, D, Pl, hcs, hb, hl, hm, hmm, rfl, hx⟩
  · injection hcs with hv _
    subst hv
    exact ⟨[], ⟨none, 0, rfl, Nat.le_refl _, .inl rfl⟩, by simp⟩
  · injection hcs with hv _
    subst hv
    have hlm : len ≤ m := by rw [hmm]; split <;> omega
    obtain ⟨l, hlen, hp⟩ := exists_list (p := fun i (y : α) => ∀ j v, (Enc.cells y)[j]? = some v → W.cell? ((a.add (i * Enc.sz α)).add j) = some v) len fun i hi => by
      obtain ⟨cs', h1, h2⟩ := hx i (by omega)
      obtain ⟨y, rfl⟩ := hdec _ _ _ h2
      obtain ⟨_, h3, h4⟩ := World.cells?_some h1
      refine ⟨y, fun j v hj => ?_⟩
      have hj' : j < P.cellsOf e := by
        rw [← h3]
        rcases Nat.lt_or_ge j (Enc.cells y).length with h | h
        · exact h
        · rw [List.getElem?_eq_none h] at hj; cases hj
      rw [← hsz, h4 j hj']
      exact hj
    refine ⟨l, ⟨some a, cap, by rw [hlen], by omega, ?_⟩, by omega⟩
    by_cases h0 : l = []
    · exact .inl h0
    · have hl0 : 0 < l.length := List.length_pos_iff.2 h0
      have hpos : 0 < Enc.sz α := Enc.pos
      obtain ⟨v0, hc0⟩ : ∃ v0, W.cell? a = some v0 := by
        have hlt : 0 < (Enc.cells l[0]).length := by rw [Enc.len]; exact hpos
        exact ⟨_, by simpa [Addr.add] using hp 0 hl0 0 (Enc.cells l[0])[0] (by simp [hlt])⟩
      have hsp : a.spot = none := by
        unfold World.cell? at hc0
        split at hc0
        · cases hs : a.spot with
          | none => rfl
          | some z => simp [hs] at hc0
        · cases hc0
      obtain ⟨g, o, sp⟩ := a
      simp only at hsp
      subst hsp
      refine .inr ⟨g, o, rfl, rfl, World.block_lt_of_cell? W _ hc0, fun k v hk => ?_⟩
      obtain ⟨hi, hv⟩ := flat_inv hk
      have := hp _ hi _ _ hv
      rw [addr_add, addr_add] at this
      rw [← this]
      congr 2
      have := Nat.div_add_mod k (Enc.sz α)
      rw [Nat.mul_comm] at this
      omega
/-- An argument that is a slice, as a row of elements with a property. -/
theorem open_rowP {α : Type} [Enc α] {Q : α → Prop} {base : Nat} {spare : Nat → Bool} {held : Bool} {t e : TypeId} {fuel : Nat} {v : Value} {x : DataW H × List MemPlace} (ht : P.underlying t = some (.slice e)) (hsz : P.cellsOf e = Enc.sz α)
    (hdec : ∀ (n : Nat) (cs : List Value) (y : DataW H × List MemPlace), DataW.trod enc P W base spare held n e cs = some y → ∃ a : α, cs = Enc.cells a ∧ Q a)
    (h : DataW.trod enc P W base spare held fuel t [v] = some x) : ∃ l : List α, RowR (fun _ => 0) 0 W v l ∧ l.length ≤ maxLen ∧ ∀ a ∈ l, Q a := by
  rcases Go.Deep.open_slice ht h with ⟨hcs, _⟩ | ⟨a, len, cap, m, n, D, Pl, hcs, hb, hl, hm, hmm, rfl, hx⟩
  · injection hcs with hv _
    subst hv
    exact ⟨[], ⟨none, 0, rfl, Nat.le_refl _, .inl rfl⟩, by simp, fun a ha => by cases ha⟩
  · injection hcs with hv _
    subst hv
    have hlm : len ≤ m := by rw [hmm]; split <;> omega
    obtain ⟨l, hlen, hp⟩ := exists_list (p := fun i (y : α) => Q y ∧ ∀ j v, (Enc.cells y)[j]? = some v → W.cell? ((a.add (i * Enc.sz α)).add j) = some v) len fun i hi => by
      obtain ⟨cs', h1, h2⟩ := hx i (by omega)
      obtain ⟨y, rfl, hQ⟩ := hdec _ _ _ h2
      obtain ⟨_, h3, h4⟩ := World.cells?_some h1
      refine ⟨y, hQ, fun j v hj => ?_⟩
      have hj' : j < P.cellsOf e := by
        rw [← h3]
        rcases Nat.lt_or_ge j (Enc.cells y).length with h | h
        · exact h
        · rw [List.getElem?_eq_none h] at hj; cases hj
      rw [← hsz, h4 j hj']
      exact hj
    refine ⟨l, ⟨some a, cap, by rw [hlen], by omega, ?_⟩, by omega, fun y hy => by obtain ⟨m, hm, rfl⟩ := List.getElem_of_mem hy; exact (hp m hm).1⟩
    by_cases h0 : l = []
    · exact .inl h0
    · have hl0 : 0 < l.length := List.length_pos_iff.2 h0
      have hpos : 0 < Enc.sz α := Enc.pos
      obtain ⟨v0, hc0⟩ : ∃ v0, W.cell? a = some v0 := by
        have hlt : 0 < (Enc.cells l[0]).length := by rw [Enc.len]; exact hpos
        exact ⟨_, by simpa [Addr.add] using (hp 0 hl0).2 0 (Enc.cells l[0])[0] (by simp [hlt])⟩
      have hsp : a.spot = none := by
        unfold World.cell? at hc0
        split at hc0
        · cases hs : a.spot with
          | none => rfl
          | some z => simp [hs] at hc0
        · cases hc0
      obtain ⟨g, o, sp⟩ := a
      simp only at hsp
      subst hsp
      refine .inr ⟨g, o, rfl, rfl, World.block_lt_of_cell? W _ hc0, fun k v hk => ?_⟩
      obtain ⟨hi, hv⟩ := flat_inv hk
      have := (hp _ hi).2 _ _ hv
      rw [addr_add, addr_add] at this
      rw [← this]
      congr 2
      have := Nat.div_add_mod k (Enc.sz α)
      rw [Nat.mul_comm] at this
      omega
end
end Go.Proofs.YtoebncgnjbblgaaGreatDoor
