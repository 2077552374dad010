/-
  The reference of chapter 11, its counts: plain laws. No condition.
-/
import Derived.Test.YtefinemhfgdpdaaGreatDoorIntP
namespace Go.Proofs.YtefinemhfgdpdaaGreatDoor
open Go.RowKit
set_option maxRecDepth 100000

abbrev CoD := D_errataref11_Count
/-- The counts of the reference. -/
structure LOk (cnt : Int → Int) (l : List CoD) : Prop where
  asc : l.Pairwise fun a b => a.time < b.time
  sub : ∀ x ∈ l, x.n = cnt x.time ∧ x.n ≠ 0
  all : ∀ t, cnt t ≠ 0 → ∃ x ∈ l, x.time = t
theorem LOk.nil : LOk (fun _ => 0) [] := ⟨List.Pairwise.nil, fun x hx => (by cases hx), fun t ht => absurd rfl ht⟩
theorem LOk.find {cnt : Int → Int} {l : List CoD} (h : LOk cnt l) {i : Nat} (hi : i < l.length) : l[i].n = cnt l[i].time := (h.sub _ (List.getElem_mem hi)).1
theorem LOk.none {cnt : Int → Int} {l : List CoD} (h : LOk cnt l) {t : Int} (hn : ∀ i (hi : i < l.length), l[i].time ≠ t) : cnt t = 0 := by
  refine Classical.byContradiction fun hh => ?_
  obtain ⟨x, hx, e⟩ := h.all t hh
  obtain ⟨i, hi, rfl⟩ := List.getElem_of_mem hx
  exact hn i hi e
theorem LOk.split {cnt : Int → Int} {l : List CoD} (h : LOk cnt l) {t : Int} {i : Nat} (h1 : ∀ j (hj : j < l.length), j < i → l[j].time < t) (h2 : ∀ hi : i < l.length, t ≤ l[i].time) (hc : cnt t ≠ 0) : ∃ hi : i < l.length, l[i].time = t := by
  obtain ⟨x, hx, e⟩ := h.all t hc
  obtain ⟨j, hj, rfl⟩ := List.getElem_of_mem hx
  have hij : i ≤ j := Nat.le_of_not_lt fun hh => by have := h1 j hj hh; omega
  refine ⟨by omega, ?_⟩
  by_cases e2 : i = j
  · subst e2; exact e
  · have := (List.pairwise_iff_getElem.1 h.asc) i j (by omega) hj (by omega)
    have := h2 (by omega)
    omega
theorem LOk.add {cnt : Int → Int} {l : List CoD} (h : LOk cnt l) (h0 : ∀ t, 0 ≤ cnt t) {t : Int} {i : Nat} (h1 : ∀ j (hj : j < l.length), j < i → l[j].time < t) (h2 : ∀ hi : i < l.length, t ≤ l[i].time) :
    LOk (fun x => if x = t then cnt t + 1 else cnt x) (l.take i ++ (⟨t, 1 + cnt t⟩ : CoD) :: l.drop (if 1 < 1 + cnt t then i + 1 else i)) := by
  have hl : ∀ x ∈ l.take i, x.time < t := fun x hx => by
    obtain ⟨j, hj, rfl⟩ := List.mem_take_iff_getElem.1 hx
    exact h1 j (by omega) (by omega)
  have hd : ∀ x ∈ l.drop (if 1 < 1 + cnt t then i + 1 else i), t < x.time := fun x hx => by
    obtain ⟨j, hj, rfl⟩ := List.mem_drop_iff_getElem.1 hx
    have hpw := List.pairwise_iff_getElem.1 h.asc
    by_cases c : 1 < 1 + cnt t
    · simp only [if_pos c] at hj ⊢
      obtain ⟨hi, e⟩ := h.split h1 h2 (by omega)
      have := hpw i (i + 1 + j) hi (by omega) (by omega)
      omega
    · simp only [if_neg c] at hj ⊢
      have hne : l[i + j].time ≠ t := fun e => by
        have := h.sub _ (List.getElem_mem (show i + j < l.length by omega))
        rw [e] at this
        have := h0 t
        omega
      have := h2 (by omega)
      by_cases e2 : j = 0
      · subst e2; simp only [Nat.add_zero] at hne ⊢; omega
      · have := hpw i (i + j) (by omega) (by omega) (by omega)
        omega
  refine ⟨?_, fun x hx => ?_, fun x hx => ?_⟩
  · rw [List.pairwise_append, List.pairwise_cons]
    refine ⟨h.asc.sublist (List.take_sublist _ _), ⟨hd, h.asc.sublist (List.drop_sublist _ _)⟩, fun x hx y hy => ?_⟩
    rcases List.mem_cons.1 hy with rfl | hy
    · exact hl x hx
    · exact Int.lt_trans (hl x hx) (hd y hy)
  · rcases List.mem_append.1 hx with hx | hx
    · have := hl x hx
      rw [if_neg (by omega)]
      exact h.sub x (List.mem_of_mem_take hx)
    · rcases List.mem_cons.1 hx with rfl | hx
      · have := h0 t
        simp only [if_pos]
        exact ⟨by omega, by omega⟩
      · have := hd x hx
        rw [if_neg (by omega)]
        exact h.sub x (List.mem_of_mem_drop hx)
  · by_cases e : x = t
    · subst e
      exact ⟨_, List.mem_append_right _ List.mem_cons_self, rfl⟩
    · rw [if_neg e] at hx
      obtain ⟨y, hy, rfl⟩ := h.all x hx
      refine ⟨y, ?_, rfl⟩
      obtain ⟨j, hj, rfl⟩ := List.getElem_of_mem hy
      by_cases hji : j < i
      · exact List.mem_append_left _ (List.mem_take_iff_getElem.2 ⟨j, by omega, rfl⟩)
      · refine List.mem_append_right _ (List.mem_cons_of_mem _ (List.mem_drop_iff_getElem.2 ?_))
        by_cases c : 1 < 1 + cnt t
        · simp only [if_pos c]
          obtain ⟨hi, e3⟩ := h.split h1 h2 (by omega)
          have hne : j ≠ i := fun hh => by subst hh; exact e e3
          exact ⟨j - (i + 1), by omega, by congr 1; omega⟩
        · simp only [if_neg c]
          exact ⟨j - i, by omega, by congr 1; omega⟩
theorem LOk.cut {cnt : Int → Int} {l : List CoD} (h : LOk cnt l) (c : Int) : LOk (fun x => if x ≤ c then 0 else cnt x) (l.filter fun x => decide (c < x.time)) := by
  refine ⟨h.asc.filter _, fun x hx => ?_, fun t ht => ?_⟩
  · rw [List.mem_filter, decide_eq_true_iff] at hx
    rw [if_neg (by omega)]
    exact h.sub x hx.1
  · by_cases e : t ≤ c
    · rw [if_pos e] at ht; exact absurd rfl ht
    · rw [if_neg e] at ht
      obtain ⟨x, hx, rfl⟩ := h.all t ht
      exact ⟨x, List.mem_filter.2 ⟨hx, decide_eq_true (by omega)⟩, rfl⟩
theorem LOk.keys {s : IS} {l : List CoD} (h : LOk s.cnt l) (hk : KeysOk s) : l.map (·.time) = keysS s := by
  refine strict_ext ?_ (keysS_asc s) fun t => ?_
  · rw [List.pairwise_map]
    exact h.asc
  · rw [keysS_mem hk, List.mem_map]
    constructor
    · rintro ⟨x, hx, rfl⟩
      have := h.sub x hx
      omega
    · exact h.all t
def encCo (x : CoD) : Bs := encI x.time ++ encI x.n
theorem LOk.enc {s : IS} {l : List CoD} (h : LOk s.cnt l) (hk : KeysOk s) : l.flatMap encCo = (keysS s).flatMap (encC s) ∧ l.length = (keysS s).length := by
  rw [← h.keys hk, List.length_map, List.flatMap_map]
  refine ⟨?_, rfl⟩
  have : ∀ (m : List CoD), (∀ x ∈ m, x.n = s.cnt x.time) → m.flatMap encCo = m.flatMap fun x => encC s x.time := by
    intro m
    induction m with
    | nil => intro _; rfl
    | cons a m ih =>
      intro hm
      rw [List.flatMap_cons, List.flatMap_cons, ih fun x hx => hm x (List.mem_cons_of_mem _ hx)]
      unfold encCo encC
      rw [hm a List.mem_cons_self]
  exact this l fun x hx => (h.sub x hx).1

/-! ### Reading -/
noncomputable def cntR : Nat → List CoD → RS → List CoD × RS
  | 0, acc, r => (acc, r)
  | k + 1, acc, r => if r.rest = [] then (acc, r) else cntR k (acc ++ [⟨(intR r).1, (intR (intR r).2).1⟩]) (intR (intR r).2).2
def chkL (top rate : Int) : Int → List CoD → Prop
  | _, [] => True
  | last, x :: l => ((last < x.time ∧ x.time ≤ top) ∧ 1 ≤ x.n ∧ x.n ≤ rate) ∧ chkL top rate x.time l
theorem cntR_acc : ∀ (k : Nat) (acc : List CoD) (r : RS), cntR k acc r = (acc ++ (cntR k [] r).1, (cntR k [] r).2)
  | 0, acc, r => by simp [cntR]
  | k + 1, acc, r => by
    rw [cntR, cntR]
    split
    · simp
    · rw [cntR_acc k (acc ++ _), cntR_acc k ([] ++ _)]
      simp
theorem readC_ref {top rate : Int} : ∀ (k : Nat) (last : Int) (cnt : Int → Int) (r : RS), (readC top rate k last cnt r).isSome = true ↔ doneR (cntR k [] r).2 = true ∧ (cntR k [] r).1.length = k ∧ chkL top rate last (cntR k [] r).1
  | 0, last, cnt, r => by
    rw [readC, cntR]
    by_cases h : doneR r = true
    · rw [if_pos h]; simp [h, chkL]
    · rw [if_neg h]; simp [h]
  | k + 1, last, cnt, r => by
    rw [readC, cntR]
    by_cases h : r.rest = []
    · rw [if_pos h, if_pos h]; simp
    rw [if_neg h, if_neg h, cntR_acc k]
    simp only [List.nil_append, List.singleton_append, List.length_cons, chkL]
    by_cases c : (last + 1 ≤ (intR r).1 ∧ (intR r).1 ≤ top) ∧ 1 ≤ (intR (intR r).2).1 ∧ (intR (intR r).2).1 ≤ rate
    · rw [if_pos c, readC_ref k]
      constructor
      · rintro ⟨h1, h2, h3⟩
        exact ⟨h1, by omega, ⟨⟨by omega, c.1.2⟩, c.2⟩, h3⟩
      · rintro ⟨h1, h2, _, h3⟩
        exact ⟨h1, by omega, h3⟩
    · rw [if_neg c]
      constructor
      · intro hh; cases hh
      · rintro ⟨_, _, h3, _⟩
        exact absurd ⟨⟨by omega, h3.1.2⟩, h3.2⟩ c
theorem prod_times : ∀ (l acc : List Pr) (r : Bs), (∀ p ∈ l, GoodP p) → timesR prodR l.length acc ⟨l.flatMap encPr ++ r, false⟩ = (acc ++ l, ⟨r, false⟩)
  | [], acc, r, _ => by simp [timesR]
  | p :: l, acc, r, h => by
    rw [List.length_cons, timesR, List.flatMap_cons, List.append_assoc, prodR_enc (h p List.mem_cons_self)]
    rw [prod_times l _ r fun y hy => h y (List.mem_cons_of_mem _ hy)]
    simp
theorem encTab_gt (l : List Pr) : l.length ≤ (encTab l).length := by
  have : ∀ l : List Pr, l.length ≤ (l.flatMap encPr).length := by
    intro l
    induction l with
    | nil => exact Nat.le_refl _
    | cons a l ih =>
      have := encPr_pos a
      rw [List.flatMap_cons, List.length_append, List.length_cons]
      omega
  have := this l
  unfold encTab
  rw [List.length_append]
  omega
/-- What the reference reads of a table. -/
noncomputable def tabF (t : Bs) : List Pr × RS := timesR prodR (min (natR ⟨t, false⟩).1.toNat (t.length + 1)) [] (natR ⟨t, false⟩).2
theorem tab_ref {t : Bs} : (∃ s, TabOk t s) ↔ (doneR (tabF t).2 = true ∧ RightT (tabF t).1 ∧ encTab (tabF t).1 = t) := by
  constructor
  · rintro ⟨s, h1, h2, _, _⟩
    have hl := h1.len
    have hg := encTab_gt s
    have e : tabF t = (s, ⟨[], false⟩) := by
      unfold tabF
      rw [← h2]
      have e1 : natR ⟨encTab s, false⟩ = ((s.length : Int), ⟨s.flatMap encPr, false⟩) := by
        unfold encTab
        exact natR_enc (by omega) ⟨by omega, by omega⟩ _ _
      rw [e1]
      simp only [Int.toNat_natCast]
      rw [Nat.min_eq_left (by omega)]
      have := prod_times s [] [] fun p hp => (h1.fine p hp).good
      rw [List.append_nil, List.nil_append] at this
      exact this
    rw [e]
    exact ⟨rfl, h1, h2⟩
  · rintro ⟨_, h2, h3⟩
    refine ⟨(tabF t).1, ?_⟩
    have := tab_ok h2
    rw [h3] at this
    exact this
end Go.Proofs.YtefinemhfgdpdaaGreatDoor
