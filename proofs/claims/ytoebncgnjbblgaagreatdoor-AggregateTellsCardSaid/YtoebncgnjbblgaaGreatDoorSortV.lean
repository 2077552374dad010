/-
  slices.SortFunc at values by value.Compare, slices.SortedFunc over the keys of a bag: sorted. No condition.
-/
import Derived.Test.YtoebncgnjbblgaaGreatDoorSortV0
import Derived.Test.YtoebncgnjbblgaaGreatDoorCmpG
import Derived.Test.YtoebncgnjbblgaaGreatDoorVaP
import Derived.Test.YtoebncgnjbblgaaGreatDoorKeysV
namespace Go.Proofs.YtoebncgnjbblgaaGreatDoor
open Go.RowKit
set_option maxRecDepth 100000

section
variable {α : Type} [Enc α] [Inhabited α]
theorem flatK_flat (l : List α) : Go.Sort.flatK (Enc.cells (α := α)) (Enc.sz α) l.toArray = (flat l).toArray := by
  have hpos : 0 < Enc.sz α := Enc.pos
  refine Go.Sort.ext_get! (by simp [flat_length]) fun t ht => ?_
  have ht' : t < l.length * Enc.sz α := by simpa using ht
  rw [Go.Sort.get_flatK _ _ _ t (by simpa using ht')]
  have hi : t / Enc.sz α < l.length := (Nat.div_lt_iff_lt_mul hpos).2 ht'
  have hm : t % Enc.sz α < Enc.sz α := Nat.mod_lt _ hpos
  have e1 : (l.toArray)[t / Enc.sz α]! = l[t / Enc.sz α] := by simp [hi]
  rw [e1]
  have hl : (Enc.cells l[t / Enc.sz α]).length = Enc.sz α := Enc.len _
  have hv : (Enc.cells l[t / Enc.sz α])[t % Enc.sz α]? = some ((Enc.cells l[t / Enc.sz α])[t % Enc.sz α]'(by omega)) := List.getElem?_eq_getElem _
  have hf := flat_get hi hv
  have hd : t / Enc.sz α * Enc.sz α + t % Enc.sz α = t := by rw [Nat.mul_comm]; exact Nat.div_add_mod t _
  rw [hd] at hf
  have e2 : (flat l).toArray[t]! = (Enc.cells l[t / Enc.sz α])[t % Enc.sz α]'(by omega) := by
    rw [Array.getElem!_eq_getD, Array.getD_eq_getD_getElem?]
    simp [hf]
  rw [e2]
  simp [hl, hm]

variable {B : Base} {w : World} {σ : List Dat} {E : TypeId}
theorem Rel.putRowK (h : Rel B w σ) (i : Nat) {g cap n : Nat} {os : Array Obj} {l l' : List α} (hi : σ[i]? = some (rowD E (.slice (some ⟨g, 0, none⟩) l.length cap) l)) (hl : l'.length = l.length) :
    Rel B (sortWorldK (Enc.cells (α := α)) (Enc.sz α) w g 0 n l'.toArray os) (σ.set i (rowD E (.slice (some ⟨g, 0, none⟩) l.length cap) l')) := by
  unfold sortWorldK Go.Sort.putRowK
  rw [flatK_flat]
  obtain ⟨c, h⟩ := h
  obtain ⟨_, cur, hb, h1, hmx, h3, h4⟩ := (rowD.own (h.own i _ hi)).inv
  have hlt := hb.lt
  have hsz : (flat l').length = l.length * Enc.sz α := by rw [flat_length, hl]
  have hle : l.length * Enc.sz α ≤ cap * Enc.sz α := Nat.mul_le_mul_right _ h1
  have hg : (Go.Sort.grow (Go.Sort.putRow id (Go.Sort.ahead w n) g 0 (flat l').toArray) os).heap[g]? = some (.cells (Go.Sort.putCells id 0 (flat l').toArray cur) E (0, 0)) := by
    rw [Go.Sort.heap_grow_old _ _ (by simpa using hlt)]
    show (w.heap.modify g _)[g]? = _
    rw [Array.getElem?_modify, if_pos rfl, hb.2]
    rfl
  refine ⟨paint c w.heap.size 0, h.step hi ⟨rfl, rfl, rfl, ?_, fun k hk => by simp [paint, hk], fun k hk ht => ?_⟩ (RowO.rowD (RowO.mk_ (cur := Go.Sort.putCells id 0 (flat l').toArray cur) ⟨by simp [paint, hlt, hb.1], hg⟩ hl.symm h1 hmx ?_ ?_))⟩
  · rw [Go.Sort.size_grow, Go.Sort.size_putRow]
    exact Nat.le_add_right _ _
  · rw [Go.Sort.heap_grow_old _ _ (by simpa using hk)]
    show (w.heap.modify g _)[k]? = _
    rw [Array.getElem?_modify, if_neg]
    rintro rfl
    exact ht hb.1
  · rw [← h3]; simp [Go.Sort.putCells]
  · have hcs : (Go.Sort.putCells id 0 (flat l').toArray cur).size = cap * Enc.sz α := by simp [Go.Sort.putCells, h3]
    apply List.ext_getElem
    · simp only [List.length_take, Array.length_toList, hcs, hsz]; omega
    · intro k hk1 hk2
      have hk : k < (flat l').length := hk2
      simp [Go.Sort.putCells, hk]

theorem holdsKD {c : Nat → Nat} {t g cap : Nat} {cur : Array Value} {l : List α} (hb : Blk c t w g E cur) (h1 : l.length ≤ cap) (h3 : cur.size = cap * Enc.sz α) (h4 : cur.toList.take (l.length * Enc.sz α) = flat l) : Go.Sort.HoldsK (Enc.cells (α := α)) (Enc.sz α) w g 0 l.toArray := by
  unfold Go.Sort.HoldsK
  rw [flatK_flat]
  intro j hj
  have hj' : j < l.length * Enc.sz α := by simpa [flat_length] using hj
  refine ⟨?_, hb.free _⟩
  rw [Nat.zero_add]
  refine hb.cell ?_
  have e : (cur.toList.take (l.length * Enc.sz α))[j]? = (flat l)[j]? := by rw [h4]
  rw [List.getElem?_take_of_lt hj', Array.getElem?_toList] at e
  have hj2 : j < (flat l).length := by rw [flat_length]; exact hj'
  rw [e]
  simp [hj2]
end

instance : Inhabited ValD := ⟨vZero⟩
def ltV (a b : ValD) : Bool := decide (compareV a b < 0)
/-- The values in order. -/
def sortV (l : List ValD) : List ValD := l.mergeSort fun x y => !ltV y x
theorem ltOf_V : ltOf compareV = ltV := rfl
theorem swoV : Go.Sort.SWO (ltOf compareV) := by
  have o := compareV_ord
  refine ⟨fun x => ?_, fun x y z h1 h2 => ?_, fun x y z h1 h2 => ?_⟩
  all_goals simp only [ltOf_V, ltV, decide_eq_true_eq, decide_eq_false_iff_not] at *
  · rw [(o.eq x x).2 rfl]; omega
  · exact o.strict (by omega) (by omega) (.inl h1)
  · have a1 := o.anti x y
    have a2 := o.anti y z
    have a3 := o.anti x z
    have := o.trans z y x (by omega) (by omega)
    omega
theorem totV (x y : ValD) : ltOf compareV x y = false → ltOf compareV y x = false → x = y := by
  intro h1 h2
  simp only [ltOf_V, ltV, decide_eq_false_iff_not] at h1 h2
  have o := compareV_ord
  have := o.anti x y
  exact (o.eq x y).1 (by omega)
section
variable {B : Base}
theorem SortV_d {v : Value} {l : List ValD} (hl : l.length ≤ 1000000000) : Does Tryz.prog B (rowD T_api_Value v l) (sCall F_slices_SortFunc_s_api_Value_api_Value #[v, .func (.func F_value_Compare) #[] #[]]) fun u e' τ => u = .tuple #[] ∧ e' = rowD T_api_Value v (sortV l) ∧ τ = [] := by
  refine Does.intro fun B' w K base h k => ?_
  rcases Nat.eq_zero_or_pos l.length with h0 | h0
  · have hl0 : l = [] := List.length_eq_zero_iff.1 h0
    subst hl0
    have hv : ∃ p cap, v = .slice p 0 cap := by
      rcases h.here (i := 0) rfl with ⟨rfl, _⟩ | ⟨g, cap, _, rfl, _⟩
      · exact ⟨_, _, rfl⟩
      · exact ⟨_, _, rfl⟩
    obtain ⟨p, cap, rfl⟩ := hv
    refine slices_SortFunc_s_api_Value_api_Value.up ?_
    refine Calls.mono (AnyF.slices_SortFunc_none { Tryz.laysSortV with } p cap _ w) fun e w' he => ?_
    obtain ⟨rfl, rfl⟩ := he
    have e : sortV [] = [] := by simp [sortV]
    exact k _ _ [] _ ⟨rfl, rfl, rfl⟩ (by rw [e]; exact h)
  · obtain ⟨g, cap, rfl⟩ := h.open_ (i := 0) rfl h0
    obtain ⟨c, h'⟩ := h
    obtain ⟨_, cur, hb, h1, hmx, h3, h4⟩ := (rowD.own (h'.own 0 _ rfl)).inv
    refine slices_SortFunc_s_api_Value_api_Value.up ?_
    refine Calls.mono (AnyQ.slices_SortFunc_total Tryz.laysSortV 3 (fun w => isAgg_ag ag_api_Value) (fun w => size_ag ag_api_Value) (Enc.cells (α := ValD)) (fun x => Enc.len x) (fun x v hv => Enc.one x v hv) compareV swoV F_value_Compare #[] g 0 cap l.toArray w Tryz.entersCmpV
      (fun m os dk hdk x y => compareV_x x y _) (holdsKD hb h1 h3 h4) hb.lt (by simp; omega) totV) fun e w' he => ?_
    obtain ⟨rfl, n, os, rfl⟩ := he
    have := Rel.putRowK (B := B') (σ := [rowD T_api_Value (.slice (some ⟨g, 0, none⟩) l.length cap) l]) ⟨c, h'⟩ 0 (n := n) (os := os) (l' := sortV l) rfl ((List.mergeSort_perm l _).length_eq)
    exact k _ _ [] _ ⟨rfl, rfl, rfl⟩ this
end
end Go.Proofs.YtoebncgnjbblgaaGreatDoor
