/-
  Replacements: what stays right, in plain words. No condition.
-/
import Derived.Test.YtdecfgbdppfmcaaGreatDoorRepAsks
namespace Go.Proofs.YtdecfgbdppfmcaaGreatDoor
open Go.RowKit
set_option maxRecDepth 100000

/-! ### Lists of replacements -/
structure One (r : Rpl) : Prop where
  fr : 0 ≤ r.from_ ∧ r.from_ ≤ 1099511627776
  ver : 1 ≤ r.version ∧ r.version ≤ 50
  start : 0 ≤ r.start ∧ r.start ≤ r.from_
  state : 0 ≤ r.state ∧ r.state ≤ 5
  cut : (r.state = 2 → 1 ≤ r.cut ∧ r.cut ≤ 15) ∧ (r.state = 3 → r.cut = 16) ∧ (r.state ≠ 2 → r.state ≠ 3 → r.cut = 0)

structure RInv (l : List Rpl) : Prop where
  no : ∀ i (h : i < l.length), l[i].no = (i : Int) + 1
  one : ∀ r ∈ l, One r
  order : ∀ i j (hi : i < l.length) (hj : j < l.length), i < j → openR l[i] = true → openR l[j] = true → l[i].from_ < l[j].from_ ∧ l[j].state ≠ 2
  few : (l.filter openR).length ≤ 3
  done : ∀ i j (hi : i < l.length) (hj : j < l.length), i < j → l[j].state = 3 → openR l[i] = false

theorem openR_iff {r : Rpl} : openR r = true ↔ r.state = 0 ∨ r.state = 1 ∨ r.state = 2 := by simp [openR]
theorem openR_false {r : Rpl} : openR r = false ↔ ¬ (r.state = 0 ∨ r.state = 1 ∨ r.state = 2) := by
  cases h : openR r with
  | false => simp [← openR_iff, h]
  | true => simp [← openR_iff, h]

theorem firstR_cases (l : List Rpl) : (firstR l = (zeroR, false) ∧ ∀ x ∈ l, openR x = false) ∨ ∃ (n : Nat) (hn : n < l.length), firstR l = (l[n], true) ∧ openR l[n] = true ∧ ∀ i (hi : i < n), openR (l[i]'(by omega)) = false := by
  rcases idx_cases openR l with ⟨_, h⟩ | ⟨n, _, hn, h1, h2⟩
  · exact .inl ⟨firstR_none h, h⟩
  · exact .inr ⟨n, hn, firstR_at hn h1 h2, h1, fun i hi => h2 _ (List.mem_take_iff_getElem.2 ⟨i, by omega, rfl⟩)⟩

/-- Nothing is being switched. -/
theorem RInv.calm {l : List Rpl} (h : RInv l) (hno : ¬ ((firstR l).2 = true ∧ (firstR l).1.state = 2)) : ∀ r ∈ l, r.state ≠ 2 := by
  intro r hr h2
  obtain ⟨j, hj, rfl⟩ := List.getElem_of_mem hr
  rcases firstR_cases l with ⟨_, hall⟩ | ⟨n, hn, e, ho, hb⟩
  · have := hall _ hr
    rw [openR_false] at this
    exact this (.inr (.inr h2))
  · rw [e] at hno
    have hoj : openR l[j] = true := openR_iff.2 (.inr (.inr h2))
    rcases Nat.lt_trichotomy n j with hnj | hnj | hnj
    · exact (h.order n j hn hj hnj ho hoj).2 h2
    · subst hnj; exact hno ⟨rfl, h2⟩
    · rw [hb j hnj] at hoj; cases hoj

theorem filter_set_le {l : List Rpl} {n : Nat} (hn : n < l.length) {x : Rpl} (h : openR x = true → openR l[n] = true) : ((l.set n x).filter openR).length ≤ (l.filter openR).length := by
  rw [List.set_eq_take_append_cons_drop, if_pos hn]
  conv => rhs; rw [← List.take_append_drop n l, List.drop_eq_getElem_cons hn]
  rw [List.filter_append, List.filter_append, List.length_append, List.length_append]
  refine Nat.add_le_add_left ?_ _
  rw [List.filter_cons, List.filter_cons]
  cases hx : openR x with
  | false =>
    rw [if_neg (by decide)]
    split
    · rw [List.length_cons]; exact Nat.le_succ _
    · exact Nat.le_refl _
  | true => rw [if_pos rfl, if_pos (h hx), List.length_cons, List.length_cons]; exact Nat.le_refl _

/-- One is changed: it stays what it is but for its state and its cut. -/
theorem RInv.set {l : List Rpl} (h : RInv l) {n : Nat} (hn : n < l.length) {x : Rpl} (hno : x.no = l[n].no) (hone : One x) (hfr : x.from_ = l[n].from_) (hop : openR x = true → openR l[n] = true)
    (h2 : x.state = 2 → l[n].state = 2 ∨ ∀ i (hi : i < n), openR (l[i]'(by omega)) = false) (h3 : x.state = 3 → ∀ i (hi : i < n), openR (l[i]'(by omega)) = false) : RInv (l.set n x) := by
  refine ⟨fun i hi => ?_, fun r hr => ?_, fun i j hi hj hij ho1 ho2 => ?_, Nat.le_trans (filter_set_le hn hop) h.few, fun i j hi hj hij hd => ?_⟩
  · rw [List.getElem_set]
    split
    · rename_i e; subst e; rw [hno]; exact h.no n hn
    · exact h.no i (by simpa using hi)
  · rcases List.mem_or_eq_of_mem_set hr with hr | rfl
    · exact h.one r hr
    · exact hone
  · have hi' : i < l.length := by simpa using hi
    have hj' : j < l.length := by simpa using hj
    rw [List.getElem_set] at ho1 ho2
    rw [List.getElem_set, List.getElem_set]
    by_cases ei : n = i
    · subst ei
      rw [if_pos rfl] at ho1 ⊢
      rw [if_neg (by omega)] at ho2 ⊢
      rw [hfr]
      exact h.order n j hi' hj' hij (hop ho1) ho2
    · rw [if_neg ei] at ho1 ⊢
      by_cases ej : n = j
      · subst ej
        rw [if_pos rfl] at ho2 ⊢
        have := h.order i n hi' hj' hij ho1 (hop ho2)
        rw [hfr]
        refine ⟨this.1, fun e2 => ?_⟩
        rcases h2 e2 with h2 | h2
        · exact this.2 h2
        · rw [h2 i hij] at ho1; cases ho1
      · rw [if_neg ej] at ho2 ⊢
        exact h.order i j hi' hj' hij ho1 ho2
  · have hi' : i < l.length := by simpa using hi
    have hj' : j < l.length := by simpa using hj
    rw [List.getElem_set] at hd ⊢
    by_cases ej : n = j
    · subst ej
      rw [if_pos rfl] at hd
      rw [if_neg (by omega)]
      exact h3 hd i hij
    · rw [if_neg ej] at hd
      by_cases ei : n = i
      · subst ei
        rw [if_pos rfl]
        have := h.done n j hi' hj' hij hd
        cases e : openR x with
        | false => rfl
        | true => rw [hop e] at this; cases this
      · rw [if_neg ei]
        exact h.done i j hi' hj' hij hd

theorem supersede_get {l : List Rpl} {f : Int} {i : Nat} (hi : i < (supersede l f).length) : (supersede l f)[i] = if openR (l[i]'(by simpa [supersede] using hi)) = true ∧ f ≤ (l[i]'(by simpa [supersede] using hi)).from_ then { l[i]'(by simpa [supersede] using hi) with state := 5 } else l[i]'(by simpa [supersede] using hi) := by simp [supersede]
theorem supersede_open {l : List Rpl} {f : Int} {i : Nat} (hi : i < (supersede l f).length) (ho : openR (supersede l f)[i] = true) : ∃ hi' : i < l.length, (supersede l f)[i] = l[i] ∧ openR l[i] = true ∧ l[i].from_ < f := by
  have hi' : i < l.length := by simpa [supersede] using hi
  refine ⟨hi', ?_⟩
  rw [supersede_get hi] at ho ⊢
  split at ho
  · rw [openR_iff] at ho
    rcases ho with ho | ho | ho <;> cases ho
  · rename_i hh
    rw [if_neg hh]
    exact ⟨rfl, ho, Int.lt_of_not_ge fun hge => hh ⟨ho, hge⟩⟩

theorem RInv.ask {l : List Rpl} (h : RInv l) (hcalm : ∀ r ∈ l, r.state ≠ 2) {f ver st : Int} (hf : 0 ≤ f ∧ f ≤ 1099511627776) (hv : 1 ≤ ver ∧ ver ≤ 50) (hst : 0 ≤ st ∧ st ≤ f) (hfew : ((supersede l f).filter openR).length < 3) :
    RInv (supersede l f ++ [⟨l.length + 1, f, ver, st, 0, 0⟩]) := by
  have hsl : (supersede l f).length = l.length := by simp [supersede]
  have hnew : openR ⟨l.length + 1, f, ver, st, 0, 0⟩ = true := rfl
  have hget : ∀ i (hi : i < (supersede l f ++ [(⟨l.length + 1, f, ver, st, 0, 0⟩ : Rpl)]).length), (∃ hi' : i < (supersede l f).length, (supersede l f ++ [(⟨l.length + 1, f, ver, st, 0, 0⟩ : Rpl)])[i] = (supersede l f)[i]) ∨ (i = l.length ∧ (supersede l f ++ [(⟨l.length + 1, f, ver, st, 0, 0⟩ : Rpl)])[i] = ⟨l.length + 1, f, ver, st, 0, 0⟩) := by
    intro i hi
    by_cases hlt : i < (supersede l f).length
    · exact .inl ⟨hlt, List.getElem_append_left hlt⟩
    · have hi2 := hi
      rw [List.length_append, List.length_singleton] at hi2
      refine .inr ⟨by omega, ?_⟩
      rw [List.getElem_append_right (by omega)]
      simp
  refine ⟨fun i hi => ?_, fun r hr => ?_, fun i j hi hj hij ho1 ho2 => ?_, ?_, fun i j hi hj hij hd => ?_⟩
  · rcases hget i hi with ⟨hi', e⟩ | ⟨rfl, e⟩
    · rw [e, supersede_get hi']
      have := h.no i (by omega)
      split <;> exact this
    · rw [e]
  · rcases List.mem_append.1 hr with hr | hr
    · obtain ⟨i, hi, rfl⟩ := List.getElem_of_mem hr
      rw [supersede_get hi]
      have ho := h.one (l[i]'(by omega)) (List.getElem_mem _)
      split
      · rename_i hh
        have h2 := hcalm (l[i]'(by omega)) (List.getElem_mem _)
        have hop := openR_iff.1 hh.1
        refine ⟨ho.fr, ho.ver, ho.start, by show (0 : Int) ≤ 5 ∧ (5 : Int) ≤ 5; decide, ⟨fun (e : (5 : Int) = 2) => by omega, fun (e : (5 : Int) = 3) => by omega, fun _ _ => ho.cut.2.2 h2 (by omega)⟩⟩
      · exact ho
    · simp only [List.mem_cons, List.not_mem_nil, or_false] at hr
      subst hr
      exact ⟨hf, hv, hst, by show (0 : Int) ≤ 0 ∧ (0 : Int) ≤ 5; decide, ⟨fun (e : (0 : Int) = 2) => by omega, fun (e : (0 : Int) = 3) => by omega, fun _ _ => rfl⟩⟩
  · rcases hget i hi with ⟨hi', e⟩ | ⟨rfl, e⟩
    · rw [e] at ho1 ⊢
      obtain ⟨q1, q2, q3, q4⟩ := supersede_open hi' ho1
      rcases hget j hj with ⟨hj', e'⟩ | ⟨rfl, e'⟩
      · rw [e'] at ho2 ⊢
        obtain ⟨p1, p2, p3, p4⟩ := supersede_open hj' ho2
        rw [q2, p2]
        exact h.order i j q1 p1 hij q3 p3
      · rw [e', q2]
        exact ⟨q4, by show (0 : Int) ≠ 2; decide⟩
    · have hj2 := hj
      rw [List.length_append, List.length_singleton] at hj2
      omega
  · rw [List.filter_append, List.length_append]
    simp [hnew]
    omega
  · rcases hget j hj with ⟨hj', e'⟩ | ⟨rfl, e'⟩
    · rw [e', supersede_get hj'] at hd
      have hd' : (l[j]'(by omega)).state = 3 := by
        split at hd
        · cases hd
        · exact hd
      rcases hget i hi with ⟨hi', e⟩ | ⟨rfl, e⟩
      · rw [e]
        cases ho : openR (supersede l f)[i] with
        | false => rfl
        | true =>
          obtain ⟨q1, q2, q3, q4⟩ := supersede_open hi' ho
          rw [h.done i j q1 (by omega) hij hd'] at q3
          cases q3
      · omega
    · rw [e'] at hd; cases hd

theorem RInv.first {l : List Rpl} (h : RInv l) {n : Nat} (hn : n < l.length) (he : (firstR l).1.no = (n : Int) + 1) : ∀ i (hi : i < n), openR (l[i]'(by omega)) = false := by
  rcases firstR_cases l with ⟨e, _⟩ | ⟨m, hm, e, ho, hb⟩
  · rw [e] at he
    have : (0 : Int) = (n : Int) + 1 := he
    omega
  · rw [e] at he
    have := h.no m hm
    have : m = n := by dsimp only at he; omega
    subst this
    exact hb

theorem RInv.setS {l : List Rpl} (h : RInv l) {n : Nat} (hn : n < l.length) (hs : l[n].state = 0 ∨ l[n].state = 1) {st : Int} (hst : st = 0 ∨ st = 1 ∨ st = 4) : RInv (l.set n { l[n] with state := st }) := by
  have ho := h.one _ (List.getElem_mem hn)
  refine h.set hn rfl ⟨ho.fr, ho.ver, ho.start, by show 0 ≤ st ∧ st ≤ 5; omega, ⟨fun (e : st = 2) => by omega, fun (e : st = 3) => by omega, fun _ _ => ho.cut.2.2 (by omega) (by omega)⟩⟩ rfl (fun _ => openR_iff.2 (by omega)) (fun (e : st = 2) => by omega) (fun (e : st = 3) => by omega)
theorem RInv.cut {l : List Rpl} (h : RInv l) {n : Nat} (hn : n < l.length) (hs : l[n].state = 1 ∨ l[n].state = 2) (he : (firstR l).1.no = (n : Int) + 1) : RInv (l.set n (cutR l[n])) := by
  have ho := h.one _ (List.getElem_mem hn)
  have hb := h.first hn he
  have hc : 0 ≤ l[n].cut ∧ l[n].cut ≤ 15 := by
    rcases hs with hs | hs
    · have := ho.cut.2.2 (by omega) (by omega); omega
    · have := ho.cut.1 hs; omega
  refine h.set hn rfl ?_ rfl (fun _ => openR_iff.2 (by omega)) (fun _ => .inr hb) (fun _ => hb)
  unfold cutR
  refine ⟨ho.fr, ho.ver, ho.start, ?_, ⟨fun e => ?_, fun e => ?_, fun e1 e2 => ?_⟩⟩
  · dsimp only; split <;> decide
  · dsimp only at e ⊢
    split at e
    · cases e
    · omega
  · dsimp only at e ⊢
    split at e
    · omega
    · cases e
  · dsimp only at e1 e2
    split at e1
    · rename_i h16; rw [if_pos h16] at e2; exact absurd rfl e2
    · exact absurd rfl e1

/-! ### Timelines -/
structure TInv (t : List Seg) : Prop where
  some_ : t ≠ []
  zero : ∀ h : 0 < t.length, t[0].from_ = 0
  each : ∀ s ∈ t, s.from_ ≤ 1099511627776 ∧ 1 ≤ s.version ∧ s.version ≤ 50
  sorted : Sorted t
  differ : ∀ i (h : i + 1 < t.length), t[i].version ≠ t[i + 1].version

theorem TInv.behind {t : List Seg} (h : TInv t) {time : Int} (ht : 0 ≤ time) : 0 < behindS t time := by
  have hl : 0 < t.length := List.length_pos_iff.2 h.some_
  refine Nat.pos_of_ne_zero fun e => ?_
  have := behindS_ge h.sorted (time := time) (i := 0) (by omega) hl
  have := h.zero hl
  omega
theorem TInv.atS {t : List Seg} (h : TInv t) (time : Int) : atS t time = atS t (max time 0) := by
  by_cases h0 : 0 ≤ time
  · rw [show max time 0 = time by omega]
  · have hl : 0 < t.length := List.length_pos_iff.2 h.some_
    have hz := h.zero hl
    have e1 : behindS t time = 0 := by
      refine Nat.eq_zero_of_not_pos fun hp => ?_
      obtain ⟨_, h2⟩ := behindS_lt hp
      omega
    have e2 : behindS t 0 = 1 := by
      have h1 := h.behind (time := 0) (Int.le_refl 0)
      refine Nat.le_antisymm (Nat.le_of_not_lt fun hlt => ?_) h1
      obtain ⟨h2, h3⟩ := behindS_lt (t := t) (time := 0) (i := 1) (by omega)
      have := List.pairwise_iff_getElem.1 h.sorted 0 1 hl h2 (by omega)
      omega
    unfold Go.Proofs.YtdecfgbdppfmcaaGreatDoor.atS
    rw [show max time 0 = 0 by omega, e1, e2]
    rfl

theorem behind_take {t : List Seg} (hs : Sorted t) {a b : Int} (hab : a ≤ b) : behindS (t.take (behindS t b)) a = behindS t a := by
  have e1 := behindS_le (t.take (behindS t b)) a
  have e2 := behindS_le t a
  have e3 := behindS_le t b
  have hs' : Sorted (t.take (behindS t b)) := hs.sublist (List.take_sublist _ _)
  refine Nat.le_antisymm (Nat.le_of_not_lt fun hlt => ?_) (Nat.le_of_not_lt fun hlt => ?_)
  · obtain ⟨h1, h2⟩ := behindS_lt hlt
    simp only [List.getElem_take] at h2
    rw [List.length_take] at h1
    have := behindS_ge hs (time := a) (i := behindS t a) (Nat.le_refl _) (by omega)
    omega
  · obtain ⟨h1, h2⟩ := behindS_lt hlt
    by_cases hb : behindS (t.take (behindS t b)) a < behindS t b
    · have := behindS_ge hs' (time := a) (Nat.le_refl _) (by rw [List.length_take]; omega)
      simp only [List.getElem_take] at this
      omega
    · have := behindS_ge hs (time := b) (i := behindS (t.take (behindS t b)) a) (by omega) h1
      omega
theorem behind_append {T : List Seg} {x : Seg} {a : Int} (hs : Sorted (T ++ [x])) : behindS (T ++ [x]) a = if x.from_ ≤ a then T.length + 1 else behindS T a := by
  have hsT : Sorted T := hs.sublist (List.sublist_append_left _ _)
  have e1 := behindS_le (T ++ [x]) a
  have e2 := behindS_le T a
  rw [List.length_append, List.length_singleton] at e1
  split
  · rename_i hx
    refine Nat.le_antisymm e1 (Nat.le_of_not_lt fun hlt => ?_)
    have h1 := behindS_ge hs (time := a) (Nat.le_refl _) (by simp; omega)
    by_cases hT : behindS (T ++ [x]) a < T.length
    · rw [List.getElem_append_left hT] at h1
      have := (List.pairwise_append.1 hs).2.2 _ (List.getElem_mem hT) x List.mem_cons_self
      omega
    · rw [List.getElem_append_right (by omega)] at h1
      simp at h1
      omega
  · rename_i hx
    refine Nat.le_antisymm (Nat.le_of_not_lt fun hlt => ?_) (Nat.le_of_not_lt fun hlt => ?_)
    · obtain ⟨h1, h2⟩ := behindS_lt hlt
      by_cases hT : behindS T a < T.length
      · rw [List.getElem_append_left hT] at h2
        have := behindS_ge hsT (time := a) (Nat.le_refl _) hT
        omega
      · rw [List.getElem_append_right (by omega)] at h2
        simp at h2
        omega
    · obtain ⟨h1, h2⟩ := behindS_lt hlt
      have := behindS_ge hs (time := a) (Nat.le_refl _) (by simp; omega)
      rw [List.getElem_append_left (by omega)] at this
      omega

theorem TInv.repl {t : List Seg} (h : TInv t) {fr ver : Int} (hf : 0 ≤ fr ∧ fr ≤ 1099511627776) (hv : 1 ≤ ver ∧ ver ≤ 50) : TInv (replT t fr ver).1 ∧ ∀ time, 0 ≤ time → Go.Proofs.YtdecfgbdppfmcaaGreatDoor.atS (replT t fr ver).1 time = if fr ≤ time then ver else Go.Proofs.YtdecfgbdppfmcaaGreatDoor.atS t time := by
  obtain ⟨_, hs', hne, _⟩ := replT_ok hf hv h.sorted
  have hl : 0 < t.length := List.length_pos_iff.2 h.some_
  have hz := h.zero hl
  have hb := behindS_le t (fr - 1)
  have hT0 : fr ≠ 0 → 0 < behindS t (fr - 1) := fun hne => h.behind (by omega)
  have hT1 : fr = 0 → behindS t (fr - 1) = 0 := fun e => by
    refine Nat.eq_zero_of_not_pos fun hp => ?_
    obtain ⟨_, h2⟩ := behindS_lt hp
    omega
  have hTl : (t.take (behindS t (fr - 1))).length = behindS t (fr - 1) := by rw [List.length_take]; omega
  have hbt : ∀ time, time < fr → behindS (t.take (behindS t (fr - 1))) time = behindS t time := fun time ht => behind_take h.sorted (by omega)
  have hle : ∀ time, time < fr → behindS t time ≤ behindS t (fr - 1) := fun time ht => by
    rw [← hbt time ht]
    have := behindS_le (t.take (behindS t (fr - 1))) time
    omega
  have hd : (replT t fr ver).1 = if t.take (behindS t (fr - 1)) = [] ∨ ((t.take (behindS t (fr - 1))).getLast?.map (·.version)) ≠ some ver then t.take (behindS t (fr - 1)) ++ [⟨fr, ver⟩] else t.take (behindS t (fr - 1)) := by
    unfold replT
    rw [if_neg (by omega), if_neg (by omega), if_neg (by omega), if_neg (by omega)]
  generalize hTT : t.take (behindS t (fr - 1)) = T at hd hTl hbt
  have hTg : ∀ i (hi : i < T.length), T[i] = t[i]'(by omega) := fun i hi => by subst hTT; simp
  have hTe : ∀ s ∈ T, s ∈ t := fun s hs => by subst hTT; exact List.mem_of_mem_take hs
  have atEq : ∀ (u : List Seg) time k, behindS u time = k + 1 → ∀ hk : k < u.length, Go.Proofs.YtdecfgbdppfmcaaGreatDoor.atS u time = u[k].version := by
    intro u time k e hk
    unfold Go.Proofs.YtdecfgbdppfmcaaGreatDoor.atS
    rw [e, show max (k + 1) 1 - 1 = k by omega, List.getD_eq_getElem?_getD, List.getElem?_eq_getElem hk]
    rfl
  by_cases hc : T = [] ∨ (T.getLast?.map (·.version)) ≠ some ver
  · rw [if_pos hc] at hd
    rw [hd] at hs' hne ⊢
    refine ⟨⟨hne, fun h0 => ?_, fun s hs => ?_, hs', fun i hi => ?_⟩, fun time ht => ?_⟩
    · by_cases he : fr = 0
      · have : T = [] := List.eq_nil_of_length_eq_zero (by rw [hTl, hT1 he])
        subst this
        exact he
      · rw [List.getElem_append_left (by have := hT0 he; omega), hTg]
        exact hz
    · rcases List.mem_append.1 hs with hs | hs
      · exact h.each s (hTe s hs)
      · simp only [List.mem_cons, List.not_mem_nil, or_false] at hs
        subst hs
        exact ⟨hf.2, hv⟩
    · rw [List.length_append, List.length_singleton] at hi
      by_cases hi2 : i + 1 < T.length
      · rw [List.getElem_append_left (by omega), List.getElem_append_left hi2, hTg, hTg]
        exact h.differ i (by omega)
      · have hi3 : i + 1 = T.length := by omega
        rw [List.getElem_append_left (by omega), List.getElem_append_right (by omega)]
        simp only [hi3, Nat.sub_self, List.getElem_cons_zero]
        rcases hc with hc | hc
        · rw [hc] at hi3; simp at hi3
        · intro e
          refine hc ?_
          rw [List.getLast?_eq_getElem?, List.getElem?_eq_getElem (by omega)]
          simp only [Option.map_some, ← hi3, Nat.add_sub_cancel]
          rw [e]
    · have hba := behind_append (a := time) hs'
      dsimp only at hba
      by_cases hft : fr ≤ time
      · rw [if_pos hft] at hba ⊢
        rw [atEq _ time T.length hba (by simp), List.getElem_append_right (Nat.le_refl _)]
        simp
      · rw [if_neg hft, hbt time (by omega)] at hba
        rw [if_neg hft]
        have hp := h.behind ht
        have hle' := hle time (by omega)
        obtain ⟨k, hk⟩ : ∃ k, behindS t time = k + 1 := ⟨behindS t time - 1, by omega⟩
        rw [atEq _ time k (by omega) (by simp; omega), atEq t time k hk (by omega), List.getElem_append_left (by omega), hTg]
  · rw [if_neg hc] at hd
    rw [hd] at hs' hne ⊢
    have hTne : T ≠ [] := fun e => hc (.inl e)
    have hTpos : 0 < T.length := List.length_pos_iff.2 hTne
    have hlast : (T[T.length - 1]'(by omega)).version = ver := by
      have : T.getLast?.map (·.version) = some ver := Classical.not_not.1 fun hh => hc (.inr hh)
      rw [List.getLast?_eq_getElem?, List.getElem?_eq_getElem (by omega)] at this
      exact Option.some.inj this
    refine ⟨⟨hne, fun h0 => by rw [hTg]; exact hz, fun s hs => h.each s (hTe s hs), hs', fun i hi => by rw [hTg, hTg]; exact h.differ i (by omega)⟩, fun time ht => ?_⟩
    by_cases hft : fr ≤ time
    · rw [if_pos hft]
      have hbT : behindS T time = T.length := by
        refine Nat.le_antisymm (behindS_le _ _) (Nat.le_of_not_lt fun hlt => ?_)
        have h1 := behindS_ge hs' (time := time) (Nat.le_refl _) hlt
        rw [hTg] at h1
        obtain ⟨_, h2⟩ := behindS_lt (t := t) (time := fr - 1) (i := behindS T time) (by omega)
        omega
      rw [atEq T time (T.length - 1) (by omega) (by omega), hlast]
    · rw [if_neg hft]
      have hp := h.behind ht
      have hle' := hle time (by omega)
      obtain ⟨k, hk⟩ : ∃ k, behindS t time = k + 1 := ⟨behindS t time - 1, by omega⟩
      rw [atEq T time k (by rw [hbt time (by omega)]; exact hk) (by omega), atEq t time k hk (by omega), hTg]
end Go.Proofs.YtdecfgbdppfmcaaGreatDoor
