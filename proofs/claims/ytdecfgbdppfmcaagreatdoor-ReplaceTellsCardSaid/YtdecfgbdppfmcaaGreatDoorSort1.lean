/-
  slices.Sort and slices.Compact at []int: what they do to a row of one's own. No condition.
-/
import Derived.Test.YtdecfgbdppfmcaaGreatDoorSort0
import Derived.Test.YtdecfgbdppfmcaaGreatDoorSpec
import Derived.Test.YtdecfgbdppfmcaaGreatDoorLib
import Derived.Lib.RowBridge
namespace Go.Proofs.YtdecfgbdppfmcaaGreatDoor
open Go.RowKit
set_option maxRecDepth 100000

theorem flat_int (l : List Int) : flat l = l.map (Value.int .i64) := by
  induction l with
  | nil => rfl
  | cons a l ih => rw [flat_cons, ih]; rfl

section
variable {B : Base} {w : World} {σ : List Dat} {E : TypeId}
theorem Rel.putRow (h : Rel B w σ) (i : Nat) {g cap m n : Nat} {os : Array Obj} {l l' : List Int} (hi : σ[i]? = some (rowD E (.slice (some ⟨g, 0, none⟩) l.length cap) l)) (hl : l'.length = l.length) (hm : m ≤ l.length) :
    Rel B (Go.Sort.grow (Go.Sort.putRow (Value.int .i64) (Go.Sort.ahead w n) g 0 l'.toArray) os) (σ.set i (rowD E (.slice (some ⟨g, 0, none⟩) m cap) (l'.take m))) := by
  obtain ⟨c, h⟩ := h
  obtain ⟨_, cur, hb, h1, hmx, h3, h4⟩ := (rowD.own (h.own i _ hi)).inv
  have hlt := hb.lt
  have h3' : cur.size = cap := by rw [h3]; exact Nat.mul_one cap
  have hg : (Go.Sort.grow (Go.Sort.putRow (Value.int .i64) (Go.Sort.ahead w n) g 0 l'.toArray) os).heap[g]? = some (.cells (Go.Sort.putCells (Value.int .i64) 0 l'.toArray cur) E (0, 0)) := by
    rw [Go.Sort.heap_grow_old _ _ (by simpa using hlt)]
    show (w.heap.modify g _)[g]? = _
    rw [Array.getElem?_modify, if_pos rfl, hb.2]
    rfl
  refine ⟨paint c w.heap.size 0, h.step hi ⟨rfl, rfl, rfl, ?_, fun k hk => by simp [paint, hk], fun k hk ht => ?_⟩ (RowO.rowD (RowO.mk_ (cur := Go.Sort.putCells (Value.int .i64) 0 l'.toArray cur) ⟨by simp [paint, hlt, hb.1], hg⟩ ?_ (Nat.le_trans hm h1) hmx ?_ ?_))⟩
  · rw [Go.Sort.size_grow, Go.Sort.size_putRow]
    exact Nat.le_add_right _ _
  · rw [Go.Sort.heap_grow_old _ _ (by simpa using hk)]
    show (w.heap.modify g _)[k]? = _
    rw [Array.getElem?_modify, if_neg]
    rintro rfl
    exact ht hb.1
  · rw [List.length_take]; omega
  · rw [← h3]; simp [Go.Sort.putCells]
  · rw [flat_int]
    have hcs : (Go.Sort.putCells (Value.int .i64) 0 l'.toArray cur).size = cap := by simp [Go.Sort.putCells, h3']
    have h1' : (Enc.sz Int) = 1 := rfl
    rw [h1', Nat.mul_one]
    apply List.ext_getElem
    · simp [hcs]; omega
    · intro k hk1 hk2
      have hk : k < m := by
        rw [List.length_take] at hk1
        omega
      have hkl : k < l'.length := by omega
      simp [Go.Sort.putCells, hkl]

theorem holdsInt {c : Nat → Nat} {t g cap : Nat} {cur : Array Value} {l : List Int} (hb : Blk c t w g E cur) (h1 : l.length ≤ cap) (h3 : cur.size = cap * Enc.sz Int) (h4 : cur.toList.take (l.length * Enc.sz Int) = flat l) : Go.Sort.Holds (Value.int .i64) w g 0 l.toArray := by
  intro j hj
  have hj' : j < l.length := by simpa using hj
  refine ⟨?_, hb.free _⟩
  rw [Nat.zero_add]
  refine hb.cell ?_
  have e : (cur.toList.take (l.length * Enc.sz Int))[j]? = (flat l)[j]? := by rw [h4]
  have h1' : (Enc.sz Int) = 1 := rfl
  rw [h1', Nat.mul_one, List.getElem?_take_of_lt hj', flat_int] at e
  rw [Array.getElem?_toList] at e
  rw [e]
  simp [hj']

abbrev sortI (l : List Int) : List Int := l.mergeSort fun x y => decide (x ≤ y)
theorem sortI_mem {l : List Int} {x : Int} : x ∈ sortI l ↔ x ∈ l := (List.mergeSort_perm l _).mem_iff
theorem sortI_length (l : List Int) : (sortI l).length = l.length := (List.mergeSort_perm l _).length_eq

theorem SortInt_d {v : Value} {l : List Int} (hl : l.length ≤ 1000000000) : Does Tryz.prog B (rowD T_int v l) (sCall F_slices_Sort_s_int_int #[v]) fun u e' τ => u = .tuple #[] ∧ e' = rowD T_int v (sortI l) ∧ τ = [] := by
  refine Does.intro fun B' w K base h k => ?_
  rcases Nat.eq_zero_or_pos l.length with h0 | h0
  · have hl0 : l = [] := List.length_eq_zero_iff.1 h0
    subst hl0
    have hv : ∃ p cap, v = .slice p 0 cap := by
      rcases h.here (i := 0) rfl with ⟨rfl, _⟩ | ⟨g, cap, _, rfl, _⟩
      · exact ⟨_, _, rfl⟩
      · exact ⟨_, _, rfl⟩
    obtain ⟨p, cap, rfl⟩ := hv
    refine slices_Sort_s_int_int.up ?_
    refine Calls.mono (Any.slices_Sort_int_none Tryz.laysSortInt p cap w) fun e w' he => ?_
    obtain ⟨rfl, rfl⟩ := he
    have e : sortI [] = [] := by simp [sortI]
    exact k _ _ [] _ ⟨rfl, rfl, rfl⟩ (by rw [e]; exact h)
  · obtain ⟨g, cap, rfl⟩ := h.open_ (i := 0) rfl h0
    obtain ⟨c, h'⟩ := h
    obtain ⟨_, cur, hb, h1, hmx, h3, h4⟩ := (rowD.own (h'.own 0 _ rfl)).inv
    refine slices_Sort_s_int_int.up ?_
    refine Calls.mono (Any.slices_Sort_int Tryz.laysSortInt g 0 cap l w (holdsInt hb h1 h3 h4) hb.lt (by omega)) fun e w' he => ?_
    obtain ⟨rfl, n, os, rfl⟩ := he
    have := Rel.putRow (B := B') (σ := [rowD T_int (.slice (some ⟨g, 0, none⟩) l.length cap) l]) ⟨c, h'⟩ 0 (m := l.length) (n := n) (os := os) (l' := sortI l) rfl (sortI_length l) (Nat.le_refl _)
    rw [List.take_of_length_le (by rw [sortI_length]; exact Nat.le_refl _)] at this
    exact k _ _ [] _ ⟨rfl, rfl, rfl⟩ this

theorem CompactInt_d {v : Value} {l : List Int} (hl : l.length ≤ 1000000000) : Does Tryz.prog B (rowD T_int v l) (sCall F_slices_Compact_s_int_int #[v]) fun u e' τ => e' = rowD T_int u (Lib.compact l) ∧ τ = [] := by
  refine Does.intro fun B' w K base h k => ?_
  have hcl := Lib.compact_length_le l
  rcases Nat.eq_zero_or_pos l.length with h0 | h0
  · have hl0 : l = [] := List.length_eq_zero_iff.1 h0
    subst hl0
    have hv : ∃ p cap, v = .slice p 0 cap := by
      rcases h.here (i := 0) rfl with ⟨rfl, _⟩ | ⟨g, cap, _, rfl, _⟩
      · exact ⟨_, _, rfl⟩
      · exact ⟨_, _, rfl⟩
    obtain ⟨p, cap, rfl⟩ := hv
    refine slices_Compact_s_int_int.up ?_
    refine Calls.mono (Any.slices_Compact_int_empty Tryz.laysCompactInt p cap w) fun e w' he => ?_
    obtain ⟨rfl, rfl⟩ := he
    exact k _ _ [] _ ⟨rfl, rfl⟩ h
  · obtain ⟨g, cap, rfl⟩ := h.open_ (i := 0) rfl h0
    obtain ⟨c, h'⟩ := h
    obtain ⟨_, cur, hb, h1, hmx, h3, h4⟩ := (rowD.own (h'.own 0 _ rfl)).inv
    refine slices_Compact_s_int_int.up ?_
    refine Calls.mono (Any.slices_Compact_int Tryz.laysCompactInt g 0 cap l w (holdsInt hb h1 h3 h4) (by omega) h1) fun e w' he => ?_
    obtain ⟨rfl, n, rfl⟩ := he
    have := Rel.putRow (B := B') (σ := [rowD T_int (.slice (some ⟨g, 0, none⟩) l.length cap) l]) ⟨c, h'⟩ 0 (m := (Lib.compact l).length) (n := n) (os := #[]) (l' := Lib.compact l ++ List.replicate (l.length - (Lib.compact l).length) 0) rfl (by rw [List.length_append, List.length_replicate]; omega) hcl
    rw [List.take_left, Go.Sort.grow_empty] at this
    exact k _ _ [] _ ⟨rfl, rfl⟩ this
end

theorem compact_mem {l : List Int} {x : Int} (h : x ∈ l) : x ∈ Lib.compact l := by
  unfold Lib.compact Lib.compactUpTo
  have main : ∀ n (hn : n < l.length), l[n] ∈ ((List.range l.length).filter (Lib.keeps l.toArray)).map (l.toArray[·]!) := by
    intro n
    induction n with
    | zero =>
      intro hn
      refine List.mem_map.2 ⟨0, List.mem_filter.2 ⟨List.mem_range.2 hn, Lib.keeps_lt_one _ 0 (by omega)⟩, by simp [hn]⟩
    | succ n ih =>
      intro hn
      by_cases e : l[n + 1] = l[n]'(by omega)
      · rw [e]; exact ih (by omega)
      · refine List.mem_map.2 ⟨n + 1, List.mem_filter.2 ⟨List.mem_range.2 hn, Lib.keeps_pos ?_⟩, by simp [hn]⟩
        have hn' : n < l.length := by omega
        simpa [hn, hn'] using e
  obtain ⟨n, hn, rfl⟩ := List.getElem_of_mem h
  exact main n hn
end Go.Proofs.YtdecfgbdppfmcaaGreatDoor
