/-
  IntakeOnce: the plain law. No condition.
-/
import Derived.Test.YtefinemhfgdpdaaIntF
namespace Go.Proofs.Ytefinemhfgdpdaa
open Go.RowKit

def isE (id e : Int) (x : EnD) : Bool := decide (x.producer = id) && decide (x.epoch = e)
theorem isE_true {id e : Int} {x : EnD} : isE id e x = true ↔ x.producer = id ∧ x.epoch = e := by simp [isE]
/-- What was accepted of a producer and epoch, with its positions. -/
def sel (done : List EnD) (id e : Int) : List (EnD × Nat) := done.zipIdx.filter fun p => isE id e p.1
theorem sel_snoc (done : List EnD) (x : EnD) (id e : Int) : sel (done ++ [x]) id e = sel done id e ++ if isE id e x = true then [(x, done.length)] else [] := by
  unfold sel
  rw [List.zipIdx_append, List.filter_append]
  congr 1
  simp only [Nat.zero_add, List.zipIdx_singleton, List.filter_cons, List.filter_nil]
theorem sel_mem {done : List EnD} {k : Nat} (hk : k < done.length) : (done[k], k) ∈ sel done done[k].producer done[k].epoch := by
  refine List.mem_filter.2 ⟨?_, isE_true.2 ⟨rfl, rfl⟩⟩
  rw [List.mem_zipIdx_iff_getElem?]
  exact List.getElem?_eq_getElem hk
theorem sel_pos {done : List EnD} {id e : Int} {p : EnD × Nat} (h : p ∈ sel done id e) : p.2 < done.length := by
  have := (List.mem_filter.1 h).1
  rw [List.mem_zipIdx_iff_getElem?] at this
  exact (List.getElem?_eq_some_iff.1 this).1
structure OnceE (s : List Pr) (done : List EnD) : Prop where
  right : RightT s
  seqs : ∀ id e i (h : i < (sel done id e).length), (sel done id e)[i].1.seq = i
  next : ∀ id, (getP s id).next = (sel done id (getP s id).epoch).length
  last : ∀ id, (getP s id).last = ((sel done id (getP s id).epoch).map fun p => (p.2 : Int)).drop ((sel done id (getP s id).epoch).length - 20)
  later : ∀ id e, (getP s id).epoch < e → sel done id e = []
  ok : ∀ x ∈ done, x.kind = 0 ∧ okN x.producer ∧ okN x.epoch ∧ okN x.seq
theorem onceE_start : OnceE [] [] := ⟨right_nil, fun id e i h => absurd h (Nat.not_lt_zero i), fun id => rfl, fun id => rfl, fun id e h => rfl, fun x hx => (by cases hx)⟩
theorem onceE_fence {s : List Pr} {done : List EnD} (h : OnceE s done) {id : Int} (hz : (fenceS s id).2.2 = 0) : OnceE (fenceS s id).1 done := by
  obtain ⟨f1, f2, f3, f4⟩ := fence_ok hz
  have hR := fence_right h.right hz
  rw [f4] at hR ⊢
  have hself := (getP_with h.right.pw ⟨id, (getP s id).epoch + 1, 0, []⟩).1
  have hother := fun i2 : Int => getP_with_ne h.right.pw ⟨id, (getP s id).epoch + 1, 0, []⟩ (id := i2)
  have hself : getP (withS s ⟨id, (getP s id).epoch + 1, 0, []⟩) id = ⟨id, (getP s id).epoch + 1, 0, []⟩ := hself
  have hnil := h.later id ((getP s id).epoch + 1) (by omega)
  refine ⟨hR, h.seqs, fun i2 => ?_, fun i2 => ?_, fun i2 e2 he2 => ?_, h.ok⟩
  · show (getP (withS s _) i2).next = (sel done i2 (getP (withS s _) i2).epoch).length
    by_cases c : i2 = id
    · subst c; rw [hself]; simp only; rw [hnil]; rfl
    · rw [(hother i2 c).1]; exact h.next i2
  · show (getP (withS s _) i2).last = ((sel done i2 (getP (withS s _) i2).epoch).map _).drop ((sel done i2 (getP (withS s _) i2).epoch).length - 20)
    by_cases c : i2 = id
    · subst c; rw [hself]; simp only; rw [hnil]; rfl
    · rw [(hother i2 c).1]; exact h.last i2
  · have he2 : (getP (withS s ⟨id, (getP s id).epoch + 1, 0, []⟩) i2).epoch < e2 := he2
    by_cases c : i2 = id
    · subst c; rw [hself] at he2; exact h.later i2 e2 (by have : (getP s i2).epoch + 1 < e2 := he2; omega)
    · rw [(hother i2 c).1] at he2; exact h.later i2 e2 he2
theorem last20 (l : List Int) (p : Int) : (l.drop (l.length - 20) ++ [p]).drop ((l.drop (l.length - 20) ++ [p]).length - 20) = (l ++ [p]).drop ((l ++ [p]).length - 20) := by
  have e1 : l.drop (l.length - 20) ++ [p] = (l ++ [p]).drop (l.length - 20) := by rw [List.drop_append_of_le_length (by omega)]
  rw [e1, List.drop_drop, List.length_drop]
  congr 1
  simp
  omega
theorem onceE_put {s : List Pr} {done : List EnD} (h : OnceE s done) {x : EnD} (hk : x.kind = 0) (hz : (lookS s x.producer x.epoch x.seq).2 = 0) (hd : done.length ≤ 1000000) :
    x.seq = (sel done x.producer x.epoch).length ∧ OnceE (putS s x.producer x.epoch x.seq done.length) (done ++ [x]) := by
  obtain ⟨⟨g1, g2, g3⟩, he, hq, hfull⟩ := look_ok hz
  have hR := put_right h.right x.producer x.epoch x.seq done.length
  have hnx := h.next x.producer
  have hls := h.last x.producer
  rw [← he] at hnx hls
  have hin : inP (done.length : Int) := ⟨by omega, by omega⟩
  have hb : ¬ (0 < (getP s x.producer).last.length ∧ (done.length : Int) ≤ (getP s x.producer).last.getD ((getP s x.producer).last.length - 1) 0) := by
    rintro ⟨h0, h1⟩
    rw [List.getD_eq_getElem?_getD, List.getElem?_eq_getElem (by omega), Option.getD_some] at h1
    have hm : (getP s x.producer).last[(getP s x.producer).last.length - 1]'(by omega) ∈ (getP s x.producer).last := List.getElem_mem _
    generalize (getP s x.producer).last[(getP s x.producer).last.length - 1]'(by omega) = z at h1 hm
    rw [hls] at hm
    obtain ⟨k, hk, rfl⟩ := List.mem_map.1 (List.mem_of_mem_drop hm)
    have := sel_pos hk
    omega
  have e1 : putS s x.producer x.epoch x.seq done.length = withS s (putP (getP s x.producer) done.length) := by
    unfold putS
    rw [if_neg (fun hh => hh hz), if_neg (fun hh => hh hin), if_neg hb]
  rw [e1] at hR ⊢
  have hidp : (putP (getP s x.producer) done.length).id = x.producer := getP_id s x.producer
  have hself := (getP_with h.right.pw (putP (getP s x.producer) done.length)).1
  have hother := fun i2 : Int => getP_with_ne h.right.pw (putP (getP s x.producer) done.length) (id := i2)
  rw [hidp] at hself
  have hep : (putP (getP s x.producer) done.length).epoch = x.epoch := he.symm
  have hsel : ∀ i2 e2, ¬ (x.producer = i2 ∧ x.epoch = e2) → sel (done ++ [x]) i2 e2 = sel done i2 e2 := fun i2 e2 hn => by
    rw [sel_snoc, if_neg (fun hh => hn (isE_true.1 hh)), List.append_nil]
  have hps : sel (done ++ [x]) x.producer x.epoch = sel done x.producer x.epoch ++ [(x, done.length)] := by
    rw [sel_snoc, if_pos (isE_true.2 ⟨rfl, rfl⟩)]
  refine ⟨by rw [hq, hnx], hR, fun i2 e2 => ?_, fun i2 => ?_, fun i2 => ?_, fun i2 e2 he2 => ?_, fun y hy => ?_⟩
  · by_cases c : x.producer = i2 ∧ x.epoch = e2
    · obtain ⟨rfl, rfl⟩ := c
      rw [hps]
      intro i hi
      by_cases hl : i < (sel done x.producer x.epoch).length
      · rw [List.getElem_append_left hl]; exact h.seqs _ _ i hl
      · have hi' : i = (sel done x.producer x.epoch).length := by rw [List.length_append, List.length_singleton] at hi; omega
        subst hi'
        rw [List.getElem_append_right (Nat.le_refl _)]
        simp only [Nat.sub_self, List.getElem_cons_zero]
        rw [hq, hnx]
    · rw [hsel i2 e2 c]; exact h.seqs i2 e2
  · by_cases c : i2 = x.producer
    · subst c
      rw [hself, hep, hps, List.length_append, List.length_singleton]
      show (getP s x.producer).next + 1 = _
      rw [hnx]; omega
    · rw [(hother i2 (by rw [hidp]; exact c)).1, hsel _ _ (fun hh => c hh.1.symm)]; exact h.next i2
  · by_cases c : i2 = x.producer
    · subst c
      rw [hself, hep, hps, List.map_append]
      show ((getP s x.producer).last ++ [(done.length : Int)]).drop (((getP s x.producer).last ++ [(done.length : Int)]).length - 20) = _
      have e3 : (sel done x.producer x.epoch).length = ((sel done x.producer x.epoch).map fun p => (p.2 : Int)).length := by rw [List.length_map]
      have e4 : (sel done x.producer x.epoch ++ [(x, done.length)]).length = ((sel done x.producer x.epoch).map (fun p => (p.2 : Int)) ++ [(done.length : Int)]).length := by simp
      rw [hls, e4, e3, last20]
      rfl
    · rw [(hother i2 (by rw [hidp]; exact c)).1, hsel _ _ (fun hh => c hh.1.symm)]; exact h.last i2
  · by_cases c : i2 = x.producer
    · subst c
      rw [hself, hep] at he2
      rw [hsel _ _ (fun hh => by omega)]
      exact h.later x.producer e2 (by omega)
    · rw [(hother i2 (by rw [hidp]; exact c)).1] at he2
      rw [hsel _ _ (fun hh => c hh.1.symm)]; exact h.later i2 e2 he2
  · rcases List.mem_append.1 hy with hy | hy
    · exact h.ok y hy
    · rw [List.mem_singleton.1 hy]; exact ⟨hk, g1, g2, g3⟩
/-- Sent again. -/
theorem onceE_again {s : List Pr} {done : List EnD} (h : OnceE s done) {k : Nat} (hk : k < done.length) :
    (lookS s done[k].producer done[k].epoch done[k].seq).2 = 18 ∨ ((lookS s done[k].producer done[k].epoch done[k].seq).2 = 5 ∧ ((lookS s done[k].producer done[k].epoch done[k].seq).1 = k ∨ (lookS s done[k].producer done[k].epoch done[k].seq).1 = -1)) := by
  obtain ⟨_, o1, o2, o3⟩ := h.ok done[k] (List.getElem_mem hk)
  have hm := sel_mem hk
  generalize done[k] = x at *
  unfold lookS
  rw [if_neg (fun hh => hh ⟨o1, o2, o3⟩)]
  by_cases c1 : x.epoch < (getP s x.producer).epoch
  · rw [if_pos c1]; exact .inl rfl
  rw [if_neg c1]
  by_cases c2 : (getP s x.producer).epoch < x.epoch
  · rw [h.later _ _ c2] at hm; cases hm
  rw [if_neg c2]
  have he : (getP s x.producer).epoch = x.epoch := by omega
  have hnx := h.next x.producer
  have hls := h.last x.producer
  rw [he] at hnx hls
  obtain ⟨j, hj, hjx⟩ := List.getElem_of_mem hm
  have hq := h.seqs x.producer x.epoch j hj
  rw [hjx] at hq
  have hq : x.seq = j := hq
  rw [if_neg (by omega)]
  by_cases c4 : hasP s x.producer = false ∧ 50 ≤ s.length
  · have := (getP_none c4.1).1
    rw [this] at hnx
    have hnx : (0 : Int) = ((sel done x.producer x.epoch).length : Int) := hnx
    omega
  rw [if_neg c4, if_neg (by omega)]
  have hll : (getP s x.producer).last.length = (sel done x.producer x.epoch).length - ((sel done x.producer x.epoch).length - 20) := by rw [hls, List.length_drop, List.length_map]
  by_cases c6 : 0 ≤ ((getP s x.producer).last.length : Int) - ((getP s x.producer).next - x.seq)
  · rw [if_pos c6]
    refine .inr ⟨rfl, .inl ?_⟩
    show List.getD _ _ _ = _
    have hmn : (((getP s x.producer).last.length : Int) - ((getP s x.producer).next - x.seq)).toNat = j - ((sel done x.producer x.epoch).length - 20) := by omega
    rw [hmn, hls, List.getD_eq_getElem?_getD, List.getElem?_drop, show (sel done x.producer x.epoch).length - 20 + (j - ((sel done x.producer x.epoch).length - 20)) = j by omega, List.getElem?_map, List.getElem?_eq_getElem hj, hjx]
    rfl
  · rw [if_neg c6]
    exact .inr ⟨rfl, .inr rfl⟩
structure OnceS (s : IS) (done : List EnD) (e : EnD) (x : (Int × Int) × IS) : Prop where
  yes : e.kind = 0 → x.1.2 = 0 → x.1.1 = done.length ∧ e.seq = (sel done e.producer e.epoch).length ∧ OnceE x.2.prods (done ++ [e]) ∧ x.2.next = done.length + 1
  no : ¬ (e.kind = 0 ∧ x.1.2 = 0) → OnceE x.2.prods done ∧ x.2.next = done.length
theorem apply_once {s : IS} {done : List EnD} (h : OnceE s.prods done) (hn : s.next = done.length) (hd : done.length ≤ 1000000) (e : EnD) (r : List ValD) : OnceS s done e (applyS s e r) := by
  unfold applyS
  by_cases c0 : e.kind = 0
  · rw [if_pos c0]
    unfold acceptS
    simp only
    by_cases c : (putI s e r).2 ≠ 0
    · rw [if_pos c]
      split
      · exact ⟨fun _ h2 => absurd h2 c, fun _ => ⟨h, hn⟩⟩
      · exact ⟨fun _ h2 => absurd h2 c, fun _ => ⟨h, hn⟩⟩
    · rw [if_neg c]
      have c := Decidable.of_not_not c
      obtain ⟨p1, _, _, _, _, _, p7⟩ := putI_ok c
      obtain ⟨q1, q2⟩ := onceE_put h c0 p1 hd
      refine ⟨fun _ _ => ⟨by show (putI s e r).1 = _; rw [p7, hn], q1, ?_, by show s.next + 1 = _; rw [hn]⟩, fun hn => absurd ⟨c0, c⟩ hn⟩
      show OnceE (putS s.prods e.producer e.epoch e.seq (putI s e r).1) _
      rw [p7, hn]
      exact q2
  rw [if_neg c0]
  by_cases c1 : e.kind = 1
  · rw [if_pos c1]
    split
    · rename_i hz
      exact ⟨fun h => absurd h c0, fun _ => ⟨onceE_fence h hz, hn⟩⟩
    · exact ⟨fun h => absurd h c0, fun _ => ⟨h, hn⟩⟩
  rw [if_neg c1]
  split
  · split
    · exact ⟨fun h => absurd h c0, fun _ => ⟨h, hn⟩⟩
    · split
      · exact ⟨fun h => absurd h c0, fun _ => ⟨h, hn⟩⟩
      · split
        · exact ⟨fun h => absurd h c0, fun _ => ⟨h, hn⟩⟩
        · exact ⟨fun h => absurd h c0, fun _ => ⟨h, hn⟩⟩
  · exact ⟨fun h => absurd h c0, fun _ => ⟨h, hn⟩⟩
theorem apply_again {s : IS} {done : List EnD} (h : OnceE s.prods done) {k : Nat} (hk : k < done.length) (r : List ValD) :
    (applyS s done[k] r).2.prods = s.prods ∧ (applyS s done[k] r).2.next = s.next ∧ ((applyS s done[k] r).1.2 = 18 ∨ ((applyS s done[k] r).1.2 = 5 ∧ ((applyS s done[k] r).1.1 = k ∨ (applyS s done[k] r).1.1 = -1))) := by
  have ha := onceE_again h hk
  have h0 := (h.ok done[k] (List.getElem_mem hk)).1
  generalize done[k] = x at *
  unfold applyS
  rw [if_pos h0]
  unfold acceptS
  simp only
  have hne : (lookS s.prods x.producer x.epoch x.seq).2 ≠ 0 := by
    rcases ha with ha | ⟨ha, _⟩ <;> rw [ha] <;> decide
  have hp : putI s x r = lookS s.prods x.producer x.epoch x.seq := by
    unfold putI
    rw [if_pos hne]
  rw [hp, if_pos hne]
  refine ⟨?_, ?_, ha⟩
  · simp only; split <;> rfl
  · simp only; split <;> rfl
end Go.Proofs.Ytefinemhfgdpdaa
