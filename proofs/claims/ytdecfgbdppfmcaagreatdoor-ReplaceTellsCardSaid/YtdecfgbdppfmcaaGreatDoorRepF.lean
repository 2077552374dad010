/-
  Replacements and the timeline together: what stays right. No condition.
-/
import Derived.Test.YtdecfgbdppfmcaaGreatDoorRepE
namespace Go.Proofs.YtdecfgbdppfmcaaGreatDoor
open Go.RowKit
set_option maxRecDepth 100000

def wantF (time : Int) (acc : Int) (r : Rpl) : Int := if r.state = 3 ∧ r.from_ ≤ time then r.version else acc
/-- The version of a time: that of the last replacement that is done and begins by then. -/
def wantS (l : List Rpl) (time : Int) : Int := l.foldl (wantF time) 1

theorem wantF_no {time acc : Int} {r : Rpl} (h : r.state ≠ 3) : wantF time acc r = acc := by unfold wantF; rw [if_neg fun hh => h hh.1]
theorem foldl_no {time : Int} {l : List Rpl} (h : ∀ r ∈ l, r.state ≠ 3) (acc : Int) : l.foldl (wantF time) acc = acc := by
  induction l generalizing acc with
  | nil => rfl
  | cons a l ih =>
    rw [List.foldl_cons, wantF_no (h a List.mem_cons_self)]
    exact ih (fun r hr => h r (List.mem_cons_of_mem _ hr)) acc
theorem wantS_append {l : List Rpl} {x : Rpl} (h : x.state ≠ 3) (time : Int) : wantS (l ++ [x]) time = wantS l time := by
  unfold wantS
  rw [List.foldl_append, List.foldl_cons, wantF_no h]
  rfl
theorem wantS_supersede (l : List Rpl) (f time : Int) : wantS (supersede l f) time = wantS l time := by
  unfold wantS supersede
  rw [List.foldl_map]
  congr 1
  funext acc r
  split
  · rename_i h
    have := openR_iff.1 h.1
    rw [wantF_no (by show (5 : Int) ≠ 3; decide), wantF_no (by omega)]
  · rfl
theorem wantS_split {l : List Rpl} {n : Nat} (hn : n < l.length) (time : Int) : wantS l time = (l.drop (n + 1)).foldl (wantF time) (wantF time ((l.take n).foldl (wantF time) 1) l[n]) := by
  unfold wantS
  conv => lhs; rw [← List.take_append_drop n l, List.drop_eq_getElem_cons hn, List.foldl_append, List.foldl_cons]
theorem wantS_set {l : List Rpl} {n : Nat} (hn : n < l.length) {x : Rpl} (time : Int) : wantS (l.set n x) time = (l.drop (n + 1)).foldl (wantF time) (wantF time ((l.take n).foldl (wantF time) 1) x) := by
  rw [wantS_split (n := n) (by simpa using hn)]
  simp [List.drop_set_of_lt, List.take_set_of_le]
theorem wantS_keep {l : List Rpl} {n : Nat} (hn : n < l.length) {x : Rpl} (h1 : x.state ≠ 3) (h2 : l[n].state ≠ 3) (time : Int) : wantS (l.set n x) time = wantS l time := by
  rw [wantS_set hn, wantS_split hn, wantF_no h1, wantF_no h2]
theorem wantS_done {l : List Rpl} {n : Nat} (hn : n < l.length) {x : Rpl} (h1 : x.state = 3) (h2 : l[n].state ≠ 3) (h3 : ∀ j (hj : j < l.length), n < j → l[j].state ≠ 3) (time : Int) : wantS (l.set n x) time = if x.from_ ≤ time then x.version else wantS l time := by
  have hd : ∀ r ∈ l.drop (n + 1), r.state ≠ 3 := by
    intro r hr
    obtain ⟨j, hj, rfl⟩ := List.getElem_of_mem hr
    rw [List.getElem_drop]
    exact h3 _ _ (by omega)
  rw [wantS_set hn, wantS_split hn, foldl_no hd, foldl_no hd, wantF_no h2]
  unfold wantF
  by_cases hx : x.from_ ≤ time
  · rw [if_pos ⟨h1, hx⟩, if_pos hx]
  · rw [if_neg fun hh => hx hh.2, if_neg hx]

structure SInv (l : List Rpl) (s : List Seg) : Prop where
  r : RInv l
  t : TInv s
  at_ : ∀ time, 0 ≤ time → atS s time = wantS l time

theorem SInv.start : SInv [] seg0 := by
  refine ⟨⟨fun i hi => by simp at hi, fun r hr => by (cases hr), fun i j hi => by simp at hi, by decide, fun i j hi => by simp at hi⟩, ⟨by decide, fun _ => rfl, fun s hs => ?_, sorted0, fun i hi => by simp [seg0] at hi⟩, fun time ht => ?_⟩
  · simp only [seg0, List.mem_cons, List.not_mem_nil, or_false] at hs
    subst hs
    decide
  · unfold atS
    have : behindS seg0 time = 1 := by
      unfold seg0
      rw [behindS_cons, if_pos ht]
      rfl
    rw [this]
    rfl

/-- What an operation does, in words. -/
inductive Did (l : List Rpl) (t : List Seg) (o : OpR) : List Rpl × List Seg → Prop
  | same : (stepS l t o).1.2 ≠ 0 → Did l t o (l, t)
  | ask (f st : Int) : (stepS l t o).1.2 = 0 → o.do_ % 8 ≤ 1 → (∀ r ∈ l, r.state ≠ 2) → Did l t o (supersede l f ++ [⟨l.length + 1, f, o.version, st, 0, 0⟩], t)
  | set (n : Nat) (hn : n < l.length) (st : Int) : (stepS l t o).1.2 = 0 → o.do_ % 8 ≤ 3 → (l[n].state = 0 ∨ l[n].state = 1) → (st = 0 ∨ st = 1 ∨ st = 4) → Did l t o (l.set n { l[n] with state := st }, t)
  | cut (n : Nat) (hn : n < l.length) : (stepS l t o).1.2 = 0 → 4 ≤ o.do_ % 8 → o.no = (n : Int) + 1 → (l[n].state = 1 ∨ l[n].state = 2) → (∀ i (hi : i < n), openR (l[i]'(by omega)) = false) → Did l t o (l.set n (cutR l[n]), if l[n].cut + 1 = 16 then (replT t l[n].from_ l[n].version).1 else t)

theorem SInv.step {l : List Rpl} {t : List Seg} (h : SInv l t) (o : OpR) : SInv (stepS l t o).2.1 (stepS l t o).2.2 ∧ Did l t o (stepS l t o).2 := by
  rcases stepS_cases l t o with ⟨h0, e⟩ | ⟨h0, hd, ha, e⟩ | ⟨h0, hd, st, hst, ha, e⟩ | ⟨h0, hd, ha, e⟩
  · rw [e]
    exact ⟨h, .same h0⟩
  · rw [e]
    obtain ⟨f, hf, hv, hb, hh, hno, hwhy, hfew, e2⟩ := askS_ok ha
    rw [e2]
    have hcalm := h.r.calm hno
    exact ⟨⟨h.r.ask hcalm hf hv (by omega) hfew, h.t, fun time ht => by rw [wantS_append (by show (0 : Int) ≠ 3; decide), wantS_supersede]; exact h.at_ time ht⟩, .ask f _ h0 (by omega) hcalm⟩
  · rw [e]
    obtain ⟨n, hn, _, hs, e2⟩ := setS_ok ha
    rw [e2]
    exact ⟨⟨h.r.setS hn hs hst, h.t, fun time ht => by rw [wantS_keep hn (by show st ≠ 3; omega) (by omega)]; exact h.at_ time ht⟩, .set n hn st h0 (by omega) hs hst⟩
  · rw [e]
    obtain ⟨n, hn, hno, hs, hfn, e2, e3⟩ := cutS_ok ha
    rw [e2, e3]
    have hfn' : (firstR l).1.no = (n : Int) + 1 := by rw [hfn, hno]
    have hb := h.r.first hn hfn'
    have ho := h.r.one _ (List.getElem_mem hn)
    have hopen : openR l[n] = true := openR_iff.2 (by omega)
    refine ⟨⟨h.r.cut hn hs hfn', ?_, fun time ht => ?_⟩, .cut n hn h0 hd hno hs hb⟩
    · dsimp only
      split
      · exact (h.t.repl ho.fr ho.ver).1
      · exact h.t
    · dsimp only
      by_cases h16 : l[n].cut + 1 = 16
      · rw [if_pos h16, (h.t.repl ho.fr ho.ver).2 time ht, wantS_done hn (by unfold cutR; rw [if_pos h16]) (by omega) (fun j hj hnj h3 => by
          rw [h.r.done n j hn hj hnj h3] at hopen; cases hopen), h.at_ time ht]
        rfl
      · rw [if_neg h16, wantS_keep hn (by unfold cutR; rw [if_neg h16]; show (2 : Int) ≠ 3; decide) (by omega)]
        exact h.at_ time ht

/-! ### Sides -/
def sideS (l : List Rpl) (t : List Seg) (time bucket : Int) : Int :=
  if (firstR l).2 = true ∧ (firstR l).1.state = 2 ∧ (firstR l).1.from_ ≤ time ∧ bucket < (firstR l).1.cut then (firstR l).1.version else atS t time

theorem sideS_calm {l : List Rpl} (h : ∀ r ∈ l, r.state ≠ 2) (t : List Seg) (time bucket : Int) : sideS l t time bucket = atS t time := by
  unfold sideS
  rcases firstR_cases l with ⟨e, _⟩ | ⟨n, hn, e, _, _⟩
  · rw [e, if_neg fun hh => by cases hh.1]
  · rw [e, if_neg fun hh => h _ (List.getElem_mem hn) hh.2.1]
theorem firstR_is {l : List Rpl} {n : Nat} (hn : n < l.length) (ho : openR l[n] = true) (hb : ∀ i (hi : i < n), openR (l[i]'(by omega)) = false) : firstR l = (l[n], true) :=
  firstR_at hn ho fun x hx => by
    obtain ⟨i, hi, rfl⟩ := List.getElem_of_mem hx
    rw [List.length_take] at hi
    rw [List.getElem_take]
    exact hb i (by omega)

/-- What the law says of an operation. -/
theorem SInv.sides {l : List Rpl} {t : List Seg} (h : SInv l t) (o : OpR) {time : Int} (ht : 0 ≤ time) {bucket version : Int}
    (hb : (∃ (n : Nat) (hn : n < l.length), (stepS l t o).1.2 = 0 ∧ 4 ≤ o.do_ % 8 ∧ o.no = (n : Int) + 1 ∧ l[n].from_ ≤ time ∧ bucket = l[n].cut ∧ version = l[n].version) ∨
      (bucket = -1 ∧ ¬ ∃ (n : Nat) (hn : n < l.length), (stepS l t o).1.2 = 0 ∧ 4 ≤ o.do_ % 8 ∧ o.no = (n : Int) + 1 ∧ l[n].from_ ≤ time)) {b : Int} (hb0 : 0 ≤ b ∧ b < 16) :
    (b = bucket → sideS (stepS l t o).2.1 (stepS l t o).2.2 time b = version) ∧ (b ≠ bucket → sideS (stepS l t o).2.1 (stepS l t o).2.2 time b = sideS l t time b) := by
  obtain ⟨hs', hdid⟩ := h.step o
  generalize hres : (stepS l t o).2 = res at hs' hdid
  have nocut : ¬ ((stepS l t o).1.2 = 0 ∧ 4 ≤ o.do_ % 8) → sideS res.1 res.2 time b = sideS l t time b → (b = bucket → sideS res.1 res.2 time b = version) ∧ (b ≠ bucket → sideS res.1 res.2 time b = sideS l t time b) := by
    intro hno he
    rcases hb with ⟨n, hn, h1, h2, _⟩ | ⟨h1, _⟩
    · exact absurd ⟨h1, h2⟩ hno
    · exact ⟨fun e => by omega, fun _ => he⟩
  cases hdid with
  | same h0 => exact nocut (fun hh => h0 hh.1) rfl
  | ask f st h0 hd hcalm =>
    refine nocut (fun hh => by omega) ?_
    rw [sideS_calm hcalm, sideS_calm]
    intro r hr
    rcases List.mem_append.1 hr with hr | hr
    · obtain ⟨i, hi, rfl⟩ := List.getElem_of_mem hr
      rw [supersede_get hi]
      split
      · show (5 : Int) ≠ 2; decide
      · exact hcalm _ (List.getElem_mem _)
    · simp only [List.mem_cons, List.not_mem_nil, or_false] at hr
      subst hr
      show (0 : Int) ≠ 2; decide
  | set n hn st h0 hd hs hst =>
    refine nocut (fun hh => by omega) ?_
    by_cases hcut : ∃ r ∈ l, r.state = 2
    · -- what is being switched stays the first
      obtain ⟨r, hr, h2⟩ := hcut
      obtain ⟨m, hm, rfl⟩ := List.getElem_of_mem hr
      have hom : openR l[m] = true := openR_iff.2 (by omega)
      have hbm : ∀ i (hi : i < m), openR (l[i]'(by omega)) = false := fun i hi => by
        cases e : openR (l[i]'(by omega)) with
        | false => rfl
        | true => exact absurd h2 (h.r.order i m (by omega) hm hi e hom).2
      have hnm : n ≠ m := by rintro rfl; omega
      have hnlt : ¬ n < m := fun hlt => by
        have := hbm n hlt
        rw [openR_false] at this
        omega
      have e1 := firstR_is hm hom hbm
      have e2 : firstR (l.set n { l[n] with state := st }) = (l[m], true) := by
        have hm' : m < (l.set n { l[n] with state := st }).length := by simpa using hm
        have hg : (l.set n { l[n] with state := st })[m] = l[m] := by rw [List.getElem_set, if_neg hnm]
        rw [← hg]
        refine firstR_is hm' (by rw [hg]; exact hom) fun i hi => ?_
        rw [List.getElem_set, if_neg (by omega)]
        exact hbm i hi
      unfold sideS
      rw [e1, e2]
    · have hcalm : ∀ r ∈ l, r.state ≠ 2 := fun r hr h2 => hcut ⟨r, hr, h2⟩
      rw [sideS_calm hcalm, sideS_calm]
      intro r hr
      rcases List.mem_or_eq_of_mem_set hr with hr | rfl
      · exact hcalm r hr
      · show st ≠ 2; omega
  | cut n hn h0 hd hno hs hbf =>
    have ho := h.r.one _ (List.getElem_mem hn)
    have hopen : openR l[n] = true := openR_iff.2 (by omega)
    have e1 := firstR_is hn hopen hbf
    have hcutv : 0 ≤ l[n].cut ∧ l[n].cut ≤ 15 ∧ (l[n].state = 1 → l[n].cut = 0) := by
      rcases hs with hs | hs
      · have := ho.cut.2.2 (by omega) (by omega); omega
      · have := ho.cut.1 hs; omega
    have hbefore : sideS l t time b = if l[n].from_ ≤ time ∧ b < l[n].cut then l[n].version else atS t time := by
      unfold sideS
      rw [e1]
      dsimp only
      by_cases hc : l[n].from_ ≤ time ∧ b < l[n].cut
      · rw [if_pos hc, if_pos ⟨rfl, by omega, hc⟩]
      · rw [if_neg hc, if_neg fun hh => hc hh.2.2]
    have hafter : sideS (l.set n (cutR l[n])) (if l[n].cut + 1 = 16 then (replT t l[n].from_ l[n].version).1 else t) time b = if l[n].from_ ≤ time ∧ b < l[n].cut + 1 then l[n].version else atS t time := by
      by_cases h16 : l[n].cut + 1 = 16
      · rw [if_pos h16, sideS_calm, (h.t.repl ho.fr ho.ver).2 time ht]
        · by_cases hft : l[n].from_ ≤ time
          · rw [if_pos hft, if_pos ⟨hft, by omega⟩]
          · rw [if_neg hft, if_neg fun hh => hft hh.1]
        · intro r hr
          obtain ⟨j, hj, rfl⟩ := List.getElem_of_mem hr
          have hj' : j < l.length := by simpa using hj
          rw [List.getElem_set]
          split
          · unfold cutR; rw [if_pos h16]; show (3 : Int) ≠ 2; decide
          · rename_i hjn
            intro h2
            have hoj : openR l[j] = true := openR_iff.2 (by omega)
            by_cases hlt : j < n
            · rw [hbf j hlt] at hoj; cases hoj
            · exact (h.r.order n j hn hj' (by omega) hopen hoj).2 h2
      · rw [if_neg h16]
        have hn' : n < (l.set n (cutR l[n])).length := by simpa using hn
        have hg : (l.set n (cutR l[n]))[n] = cutR l[n] := by simp
        have hoc : openR (cutR l[n]) = true := by unfold cutR; rw [if_neg h16]; rfl
        have e2 : firstR (l.set n (cutR l[n])) = (cutR l[n], true) := by
          have := firstR_is hn' (by rw [hg]; exact hoc) fun i hi => by
            rw [List.getElem_set, if_neg (by omega)]
            exact hbf i hi
          rw [this, hg]
        unfold sideS
        rw [e2]
        unfold cutR
        rw [if_neg h16]
        dsimp only
        by_cases hc : l[n].from_ ≤ time ∧ b < l[n].cut + 1
        · rw [if_pos hc, if_pos ⟨rfl, rfl, hc⟩]
        · rw [if_neg hc, if_neg fun hh => hc hh.2.2]
    dsimp only
    rw [hbefore, hafter]
    by_cases hft : l[n].from_ ≤ time
    · have hbk : bucket = l[n].cut ∧ version = l[n].version := by
        rcases hb with ⟨m, hm, _, _, h3, _, h5, h6⟩ | ⟨_, h2⟩
        · have : m = n := by omega
          subst this
          exact ⟨h5, h6⟩
        · exact absurd ⟨n, hn, h0, hd, hno, hft⟩ h2
      refine ⟨fun e => ?_, fun e => ?_⟩
      · rw [if_pos ⟨hft, by omega⟩, hbk.2]
      · by_cases hlt : b < l[n].cut
        · rw [if_pos ⟨hft, by omega⟩, if_pos ⟨hft, hlt⟩]
        · rw [if_neg (by omega), if_neg (by omega)]
    · refine ⟨fun e => ?_, fun e => by rw [if_neg (by omega), if_neg (by omega)]⟩
      rcases hb with ⟨m, hm, _, _, h3, h4, _⟩ | ⟨h1, _⟩
      · have : m = n := by omega
        subst this
        exact absurd h4 hft
      · omega
end Go.Proofs.YtdecfgbdppfmcaaGreatDoor
