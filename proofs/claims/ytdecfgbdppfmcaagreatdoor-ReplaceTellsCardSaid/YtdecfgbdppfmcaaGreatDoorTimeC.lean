/-
  Timelines in plain words: when two are the same, and what is open. No condition.
-/
import Derived.Test.YtdecfgbdppfmcaaGreatDoorTimeB
import Derived.Test.YtdecfgbdppfmcaaGreatDoorSort1
namespace Go.Proofs.YtdecfgbdppfmcaaGreatDoor
open Go.RowKit
set_option maxRecDepth 100000

theorem behind_is {t : List Seg} (hs : Sorted t) {k : Nat} (hk : k < t.length) {time : Int} (h1 : t[k].from_ ≤ time) (h2 : ∀ h : k + 1 < t.length, time < t[k + 1].from_) : behindS t time = k + 1 := by
  have hle := behindS_le t time
  refine Nat.le_antisymm (Nat.le_of_not_lt fun hlt => ?_) (Nat.le_of_not_lt fun hlt => ?_)
  · obtain ⟨h3, h4⟩ := behindS_lt (t := t) (time := time) (i := k + 1) (by omega)
    have := h2 h3
    omega
  · have := behindS_ge hs (time := time) (i := k) (by omega) hk
    omega
theorem at_eq {t : List Seg} {time : Int} {k : Nat} (hb : behindS t time = k + 1) (hk : k < t.length) : atS t time = t[k].version := by
  unfold atS
  rw [hb, List.getD_eq_getElem?_getD, show max (k + 1) 1 - 1 = k by omega, List.getElem?_eq_getElem hk]
  rfl
theorem at_is {t : List Seg} (hs : Sorted t) {k : Nat} (hk : k < t.length) {time : Int} (h1 : t[k].from_ ≤ time) (h2 : ∀ h : k + 1 < t.length, time < t[k + 1].from_) : atS t time = t[k].version := at_eq (behind_is hs hk h1 h2) hk
theorem at_self {t : List Seg} (hs : Sorted t) {k : Nat} (hk : k < t.length) : atS t t[k].from_ = t[k].version :=
  at_is hs hk (Int.le_refl _) fun h => List.pairwise_iff_getElem.1 hs k (k + 1) hk h (by omega)

theorem same_of {a b : List Seg} (ha : TInv a) (hb : TInv b) (h1 : ∀ i (h : i < a.length), atS b a[i].from_ = a[i].version) (h2 : ∀ i (h : i < b.length), atS a b[i].from_ = b[i].version) : a = b := by
  -- one step: with equal beginnings, the next segments are equal too
  have step : ∀ (a b : List Seg), TInv a → TInv b → (∀ i (h : i < a.length), atS b a[i].from_ = a[i].version) → ∀ k (hk : k < a.length), (∀ j (h : j < k), ∃ hb : j < b.length, a[j]'(by omega) = b[j]) → ∃ hb : k < b.length, b[k].from_ ≤ a[k].from_ := by
    intro a b ha hb h1 k hk hpre
    have hbl : 0 < b.length := List.length_pos_iff.2 hb.some_
    have hal : 0 < a.length := List.length_pos_iff.2 ha.some_
    cases k with
    | zero =>
      refine ⟨hbl, ?_⟩
      rw [ha.zero hal, hb.zero hbl]
      exact Int.le_refl _
    | succ k =>
      obtain ⟨hkb, e⟩ := hpre k (Nat.lt_succ_self k)
      have hlt : (a[k]'(by omega)).from_ < a[k + 1].from_ := List.pairwise_iff_getElem.1 ha.sorted k (k + 1) (by omega) hk (by omega)
      have hd := ha.differ k hk
      refine Classical.byContradiction fun hno => ?_
      have : atS b a[k + 1].from_ = b[k].version := at_is hb.sorted hkb (by rw [← e]; omega) fun h => Int.lt_of_not_ge fun hge => hno ⟨h, hge⟩
      rw [h1 (k + 1) hk, ← e] at this
      exact hd this.symm
  have pre : ∀ k, (∀ j, j < k → j < a.length → ∃ (h1 : j < a.length) (h2 : j < b.length), a[j] = b[j]) ∧ (∀ j, j < k → j < b.length → ∃ (h1 : j < a.length) (h2 : j < b.length), a[j] = b[j]) := by
    intro k
    induction k with
    | zero => exact ⟨fun j hj => absurd hj (Nat.not_lt_zero j), fun j hj => absurd hj (Nat.not_lt_zero j)⟩
    | succ k ih =>
      have key : ∀ (h3 : k < a.length) (h4 : k < b.length), b[k].from_ ≤ a[k].from_ → a[k].from_ ≤ b[k].from_ → a[k] = b[k] := by
        intro h3 h4 h5 h6
        have e : a[k].from_ = b[k].from_ := by omega
        have e2 := h1 k h3
        rw [e, at_self hb.sorted h4] at e2
        cases hA : a[k]; cases hB : b[k]
        rw [hA, hB] at e e2
        simp only at e e2
        rw [e, e2]
      have A : ∀ h3 : k < a.length, ∃ hb : k < b.length, b[k].from_ ≤ a[k].from_ := fun h3 => step a b ha hb h1 k h3 fun j hj => by
        obtain ⟨q1, q2, q3⟩ := ih.1 j hj (by omega)
        exact ⟨q2, q3⟩
      have Bq : ∀ h3 : k < b.length, ∃ hb : k < a.length, a[k].from_ ≤ b[k].from_ := fun h3 => step b a hb ha h2 k h3 fun j hj => by
        obtain ⟨q1, q2, q3⟩ := ih.2 j hj (by omega)
        exact ⟨q1, q3.symm⟩
      refine ⟨fun j hj hja => ?_, fun j hj hjb => ?_⟩
      · by_cases e : j = k
        · subst e
          obtain ⟨q1, q2⟩ := A hja
          obtain ⟨q3, q4⟩ := Bq q1
          exact ⟨hja, q1, key hja q1 q2 q4⟩
        · exact ih.1 j (by omega) hja
      · by_cases e : j = k
        · subst e
          obtain ⟨q1, q2⟩ := Bq hjb
          obtain ⟨q3, q4⟩ := A q1
          exact ⟨q1, hjb, key q1 hjb q4 q2⟩
        · exact ih.2 j (by omega) hjb
  have hlen : a.length = b.length := by
    refine Nat.le_antisymm (Nat.le_of_not_lt fun hlt => ?_) (Nat.le_of_not_lt fun hlt => ?_)
    · obtain ⟨_, q, _⟩ := (pre (b.length + 1)).1 b.length (by omega) hlt
      omega
    · obtain ⟨q, _, _⟩ := (pre (a.length + 1)).2 a.length (by omega) hlt
      omega
  refine List.ext_getElem hlen fun i h1 h2 => ?_
  obtain ⟨_, _, e⟩ := (pre (i + 1)).1 i (by omega) h1
  exact e

/-! ### What is open -/
theorem compact_mem' {l : List Int} {x : Int} : x ∈ Lib.compact l ↔ x ∈ l := by
  refine ⟨fun h => ?_, compact_mem⟩
  unfold Lib.compact Lib.compactUpTo at h
  obtain ⟨n, hn, rfl⟩ := List.mem_map.1 h
  have hn := List.mem_range.1 (List.mem_filter.1 hn).1
  simp [hn]

def versS (t : List Seg) : List Int := Lib.compact (sortI (t.map (·.version)))
theorem versS_mem {t : List Seg} {v : Int} : v ∈ versS t ↔ ∃ s ∈ t, s.version = v := by
  unfold versS
  rw [compact_mem', sortI_mem, List.mem_map]
theorem versS_one (s : Seg) : versS [s] = [s.version] := by
  unfold versS sortI
  simp [Lib.compact, Lib.compactUpTo, List.range, List.range.loop, Lib.keeps]

def openS (t : List Seg) (closed : Int) : List Int := versS (t.drop (max (behindS t (min closed 1099511627776 + 1)) 1 - 1))

theorem openS_mem {t : List Seg} (h : TInv t) {closed : Int} (h0 : -1 ≤ closed) (h1 : closed ≤ 1099511627776) {v : Int} : v ∈ openS t closed ↔ (∃ i, ∃ hi : i < t.length, i + 1 = t.length ∧ t[i].version = v) ∨ atS t (closed + 1) = v ∨ ∃ i, ∃ hi : i < t.length, t[i].version = v ∧ closed < t[i].from_ := by
  unfold openS
  rw [versS_mem, show min closed 1099511627776 = closed by omega]
  have hb := h.behind (time := closed + 1) (by omega)
  have hle := behindS_le t (closed + 1)
  obtain ⟨k, hk⟩ : ∃ k, behindS t (closed + 1) = k + 1 := ⟨behindS t (closed + 1) - 1, by omega⟩
  have hat := at_eq hk (by omega)
  rw [hk, show max (k + 1) 1 - 1 = k by omega]
  constructor
  · rintro ⟨s, hs, rfl⟩
    obtain ⟨j, hj, rfl⟩ := List.getElem_of_mem hs
    rw [List.length_drop] at hj
    rw [List.getElem_drop]
    by_cases e : j = 0
    · subst e; exact .inr (.inl hat)
    · refine .inr (.inr ⟨k + j, by omega, rfl, ?_⟩)
      have := behindS_ge h.sorted (time := closed + 1) (i := k + j) (by omega) (by omega)
      omega
  · have at_ : ∀ i (hi : i < t.length), k ≤ i → ∃ s ∈ t.drop k, s.version = t[i].version := fun i hi hki => by
      refine ⟨t[i], ?_, rfl⟩
      refine List.mem_iff_getElem.2 ⟨i - k, by rw [List.length_drop]; omega, ?_⟩
      rw [List.getElem_drop]
      congr 1
      omega
    rintro (⟨i, hi, h2, rfl⟩ | h2 | ⟨i, hi, rfl, h2⟩)
    · exact at_ i hi (by omega)
    · rw [← h2, hat]; exact at_ k (by omega) (Nat.le_refl _)
    · refine at_ i hi (Nat.le_of_not_lt fun hlt => ?_)
      obtain ⟨h3, h4⟩ := behindS_lt (t := t) (time := closed + 1) (i := k) (by omega)
      have := List.pairwise_iff_getElem.1 h.sorted i k hi h3 hlt
      omega

theorem openS_less {t : List Seg} (h : TInv t) {closed later : Int} (h0 : -1 ≤ closed) (h1 : closed ≤ later) (h2 : later ≤ 1099511627776) {v : Int} (hv : v ∈ openS t later) : v ∈ openS t closed := by
  rw [openS_mem h (by omega) h2] at hv
  rw [openS_mem h h0 (by omega)]
  rcases hv with hv | hv | ⟨i, hi, h3, h4⟩
  · exact .inl hv
  · have hb := h.behind (time := later + 1) (by omega)
    have hle := behindS_le t (later + 1)
    obtain ⟨k, hk⟩ : ∃ k, behindS t (later + 1) = k + 1 := ⟨behindS t (later + 1) - 1, by omega⟩
    rw [at_eq hk (by omega)] at hv
    by_cases hc : closed < (t[k]'(by omega)).from_
    · exact .inr (.inr ⟨k, by omega, hv, hc⟩)
    · refine .inr (.inl ?_)
      rw [← hv]
      refine at_is h.sorted (by omega) (by omega) fun h5 => ?_
      have := behindS_ge h.sorted (time := later + 1) (i := k + 1) (by omega) h5
      omega
  · exact .inr (.inr ⟨i, hi, h3, by omega⟩)

theorem openS_after {t : List Seg} (h : TInv t) {later ver : Int} (h0 : -1 ≤ later) (h1 : later < 1099511627776) (hv : 1 ≤ ver ∧ ver ≤ 50) : openS (replT t (later + 1) ver).1 later = [ver] := by
  obtain ⟨hi, hat⟩ := h.repl (fr := later + 1) (ver := ver) (by omega) hv
  have hm := hat (later + 1) (by omega)
  rw [if_pos (Int.le_refl _)] at hm
  -- no segment begins later
  have hall : ∀ s ∈ (replT t (later + 1) ver).1, s.from_ ≤ later + 1 := by
    intro s hs
    unfold replT at hs
    rw [if_neg (by omega), if_neg (by omega), if_neg (by omega), if_neg (by omega)] at hs
    have ht : ∀ s ∈ t.take (behindS t (later + 1 - 1)), s.from_ ≤ later + 1 := by
      intro s hs
      obtain ⟨i, hi, rfl⟩ := List.getElem_of_mem hs
      rw [List.length_take] at hi
      rw [List.getElem_take]
      obtain ⟨_, h3⟩ := behindS_lt (t := t) (time := later + 1 - 1) (i := i) (by omega)
      omega
    dsimp only at hs
    split at hs
    · rcases List.mem_append.1 hs with hs | hs
      · exact ht s hs
      · simp only [List.mem_cons, List.not_mem_nil, or_false] at hs
        subst hs
        exact Int.le_refl _
    · exact ht s hs
  generalize (replT t (later + 1) ver).1 = m at hi hm hall
  have hml : 0 < m.length := List.length_pos_iff.2 hi.some_
  have hb : behindS m (later + 1) = (m.length - 1) + 1 := behind_is hi.sorted (by omega) (hall _ (List.getElem_mem _)) fun h => by omega
  have hv2 := at_eq hb (by omega)
  unfold openS
  rw [show min later 1099511627776 = later by omega, hb, show max (m.length - 1 + 1) 1 - 1 = m.length - 1 by omega]
  have : m.drop (m.length - 1) = [m[m.length - 1]'(by omega)] := by
    rw [List.drop_eq_getElem_cons (by omega), List.drop_of_length_le (by omega)]
  rw [this, versS_one, ← hv2, hm]
end Go.Proofs.YtdecfgbdppfmcaaGreatDoor
