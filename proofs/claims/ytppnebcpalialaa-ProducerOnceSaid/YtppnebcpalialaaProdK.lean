/-
  ProducerOnce's plain law. No condition.
-/
import Derived.Test.YtppnebcpalialaaProdJ
namespace Go.Proofs.Ytppnebcpalialaa
open Go.RowKit

abbrev Kp := D_erratalaw10_kept
def isK (id e : Int) (k : Kp) : Bool := decide (k.id = id) && decide (k.epoch = e)
def selK (all : List Kp) (id e : Int) : List Kp := all.filter (isK id e)
theorem isK_true {id e : Int} {k : Kp} : isK id e k = true ↔ k.id = id ∧ k.epoch = e := by simp [isK]
theorem selK_append (all m : List Kp) (id e : Int) : selK (all ++ m) id e = selK all id e ++ selK m id e := List.filter_append ..
def numbered (l : List Kp) : Prop := ∀ i (h : i < l.length), l[i].seq = i

structure OnceI (s : List Pr) (all : List Kp) (ep : List Int) (pos : Int) (n : Nat) : Prop where
  right : RightT s
  eplen : ep.length = 64
  epoch : ∀ (id : Nat) (h : id < ep.length), (getP s id).epoch = ep[id]
  seqs : ∀ id e, numbered (selK all id e)
  next : ∀ (id : Nat) (h : id < ep.length), (getP s id).next = (selK all id ep[id]).length
  last : ∀ (id : Nat) (h : id < ep.length), (getP s id).last = ((selK all id ep[id]).map (·.pos_)).drop ((selK all id ep[id]).length - 20)
  later : ∀ (id : Nat) (h : id < ep.length), ∀ e, ep[id] < e → selK all id e = []
  poss : ∀ k ∈ all, 0 ≤ k.pos_ ∧ k.pos_ ≤ pos
  lo : -1 ≤ pos
  hi : pos ≤ 256 * n - 1
  cnt : all.length ≤ n

theorem once_start : OnceI [] [] (List.replicate 64 0) (-1) 0 := by
  refine ⟨right_nil, rfl, fun id h => ?_, fun id e i h => absurd h (Nat.not_lt_zero i), fun id h => ?_, fun id h => ?_, fun id h e he => rfl, fun k hk => (by cases hk), by omega, by omega, Nat.le_refl _⟩
  · rw [List.getElem_replicate]; rfl
  · rfl
  · rfl
theorem OnceI.more {s : List Pr} {all : List Kp} {ep : List Int} {pos : Int} {n : Nat} (h : OnceI s all ep pos n) : OnceI s all ep pos (n + 1) :=
  { h with hi := by have := h.hi; omega, cnt := by have := h.cnt; omega }

theorem once_fence {s : List Pr} {all : List Kp} {ep : List Int} {pos : Int} {n : Nat} (h : OnceI s all ep pos n) {id : Nat} (hid : id < ep.length) (hz : (fenceS s id).2.2 = 0) :
    (fenceS s id).2.1 = ep[id] + 1 ∧ OnceI (fenceS s id).1 all (ep.set id (fenceS s id).2.1) pos (n + 1) := by
  obtain ⟨f1, f2, f3, f4⟩ := fence_ok hz
  have hR := fence_right h.right hz
  have he := h.epoch id hid
  rw [f4] at hR ⊢
  refine ⟨by show (getP s id).epoch + 1 = _; rw [he], ?_⟩
  rw [he] at hR ⊢
  have hself := getP_with h.right.pw ⟨id, ep[id] + 1, 0, []⟩
  have hother := fun i2 : Nat => getP_with_ne h.right.pw ⟨id, ep[id] + 1, 0, []⟩ (id := (i2 : Int))
  have hnil := h.later id hid (ep[id] + 1) (by omega)
  have hlen : (ep.set id (ep[id] + 1)).length = ep.length := List.length_set ..
  refine ⟨hR, by rw [hlen]; exact h.eplen, fun i2 h2 => ?_, h.seqs, fun i2 h2 => ?_, fun i2 h2 => ?_, fun i2 h2 e2 he2 => ?_, h.poss, h.lo, by have := h.hi; omega, by have := h.cnt; omega⟩
  all_goals
    simp only [List.getElem_set] at *
    by_cases c : id = i2
    · subst c
      simp only [if_true] at *
      first
        | exact congrArg Pr.epoch hself.1
        | (rw [hnil]; exact congrArg Pr.next hself.1)
        | (rw [hnil]; exact congrArg Pr.last hself.1)
        | exact h.later id hid e2 (by omega)
    · simp only [if_neg c] at *
      have hne : (i2 : Int) ≠ (id : Int) := by omega
      have ho := (hother i2 hne).1
      rw [hlen] at h2
      first
        | (show (getP (withS s _) _).epoch = _; rw [ho]; exact h.epoch i2 h2)
        | (show (getP (withS s _) _).next = _; rw [ho]; exact h.next i2 h2)
        | (show (getP (withS s _) _).last = _; rw [ho]; exact h.last i2 h2)
        | exact h.later i2 h2 e2 he2

theorem drop_drop_last (l : List Int) (p : Int) : (l.drop (l.length - 20) ++ [p]).drop ((l.drop (l.length - 20) ++ [p]).length - 20) = (l ++ [p]).drop ((l ++ [p]).length - 20) := by
  have e1 : l.drop (l.length - 20) ++ [p] = (l ++ [p]).drop (l.length - 20) := by rw [List.drop_append_of_le_length (by omega)]
  rw [e1, List.drop_drop, List.length_drop]
  congr 1
  simp
  omega
theorem once_last_bound {s : List Pr} {all : List Kp} {ep : List Int} {pos : Int} {n : Nat} (h : OnceI s all ep pos n) {id : Nat} (hid : id < ep.length) {p : Int} (hp : pos < p) :
    ¬ (0 < (getP s id).last.length ∧ p ≤ (getP s id).last.getD ((getP s id).last.length - 1) 0) := by
  rintro ⟨h0, h1⟩
  rw [List.getD_eq_getElem?_getD, List.getElem?_eq_getElem (by omega), Option.getD_some] at h1
  have hm : (getP s id).last[(getP s id).last.length - 1]'(by omega) ∈ (getP s id).last := List.getElem_mem _
  generalize (getP s id).last[(getP s id).last.length - 1]'(by omega) = x at h1 hm
  rw [h.last id hid] at hm
  have hm := List.mem_of_mem_drop hm
  obtain ⟨k, hk, rfl⟩ := List.mem_map.1 hm
  have := h.poss k (List.mem_filter.1 hk).1
  omega

theorem once_put {s : List Pr} {all : List Kp} {ep : List Int} {pos : Int} {n : Nat} (h : OnceI s all ep pos n) {id : Nat} (hid : id < ep.length) {e q p : Int} (hz : (lookS s id e q).2 = 0) (hp : pos < p) (hp2 : p ≤ pos + 256) (hp3 : p ≤ 1099511627776) :
    OnceI (putS s id e q p) (all ++ [⟨id, e, q, p⟩]) ep p (n + 1) := by
  obtain ⟨⟨g1, g2, g3⟩, he, hq, hfull⟩ := look_ok hz
  have hR := put_right h.right id e q p
  have hlo := h.lo
  have hin : inP p := ⟨by omega, hp3⟩
  have hb := once_last_bound h hid hp
  have e1 : putS s id e q p = withS s (putP (getP s id) p) := by
    unfold putS
    rw [if_neg (fun hh => hh hz), if_neg (fun hh => hh hin), if_neg hb]
  rw [e1] at hR ⊢
  have hidp : (putP (getP s id) p).id = id := getP_id s id
  have hself := (getP_with h.right.pw (putP (getP s id) p)).1
  have hother := fun i2 : Nat => getP_with_ne h.right.pw (putP (getP s id) p) (id := (i2 : Int))
  rw [hidp] at hself
  have hep := h.epoch id hid
  have hnx := h.next id hid
  have hls := h.last id hid
  have hek : e = ep[id] := by rw [he, hep]
  have sel1 : ∀ i2 e2, selK [⟨id, e, q, p⟩] i2 e2 = if i2 = (id : Int) ∧ e2 = e then [⟨id, e, q, p⟩] else [] := fun i2 e2 => by
    unfold selK
    by_cases c : i2 = (id : Int) ∧ e2 = e
    · rw [if_pos c]
      obtain ⟨rfl, rfl⟩ := c
      exact List.filter_eq_self.2 fun k hk => by rw [List.mem_singleton.1 hk]; simp [isK]
    · rw [if_neg c]
      refine List.filter_eq_nil_iff.2 fun k hk => ?_
      rw [List.mem_singleton.1 hk, isK_true]
      exact fun hh => c ⟨hh.1.symm, hh.2.symm⟩
  have hp' : ∀ (i2 : Nat), i2 ≠ id → ∀ e2, selK (all ++ [⟨id, e, q, p⟩]) i2 e2 = selK all i2 e2 := fun i2 hne e2 => by
    rw [selK_append, sel1, if_neg (fun hh => hne (by have := hh.1; omega)), List.append_nil]
  have hps : selK (all ++ [⟨id, e, q, p⟩]) id ep[id] = selK all id ep[id] ++ [⟨id, e, q, p⟩] := by
    rw [selK_append, sel1, if_pos ⟨rfl, hek.symm⟩]
  refine ⟨hR, h.eplen, fun i2 h2 => ?_, fun i2 e2 => ?_, fun i2 h2 => ?_, fun i2 h2 => ?_, fun i2 h2 e2 he2 => ?_, fun k hk => ?_, by omega, by have := h.hi; omega, by rw [List.length_append]; have := h.cnt; simp; omega⟩
  · by_cases c : i2 = id
    · subst c; rw [hself]; exact hep
    · rw [(hother i2 (by rw [hidp]; omega)).1]; exact h.epoch i2 h2
  · rw [selK_append, sel1]
    by_cases c : i2 = (id : Int) ∧ e2 = e
    · rw [if_pos c]
      obtain ⟨rfl, rfl⟩ := c
      intro i hi
      by_cases hl : i < (selK all id e2).length
      · rw [List.getElem_append_left hl]; exact h.seqs id e2 i hl
      · have hi' : i = (selK all id e2).length := by rw [List.length_append, List.length_singleton] at hi; omega
        subst hi'
        rw [List.getElem_append_right (Nat.le_refl _)]
        simp only [Nat.sub_self, List.getElem_cons_zero]
        rw [hq, hnx, hek]
    · rw [if_neg c, List.append_nil]; exact h.seqs i2 e2
  · by_cases c : i2 = id
    · subst c
      rw [hself, hps, List.length_append, List.length_singleton]
      show (getP s i2).next + 1 = _
      rw [hnx]; omega
    · rw [(hother i2 (by rw [hidp]; omega)).1, hp' i2 c]; exact h.next i2 h2
  · by_cases c : i2 = id
    · subst c
      rw [hself, hps, List.map_append]
      show ((getP s i2).last ++ [p]).drop (((getP s i2).last ++ [p]).length - 20) = _
      have e3 : (selK all i2 ep[i2]).length = ((selK all i2 ep[i2]).map (·.pos_)).length := by rw [List.length_map]
      have e4 : (selK all i2 ep[i2] ++ [(⟨i2, e, q, p⟩ : Kp)]).length = ((selK all i2 ep[i2]).map (·.pos_) ++ [p]).length := by simp
      rw [hls, e4, e3, drop_drop_last]
      rfl
    · rw [(hother i2 (by rw [hidp]; omega)).1, hp' i2 c]; exact h.last i2 h2
  · by_cases c : i2 = id
    · subst c
      rw [selK_append, sel1, if_neg (fun hh => by have := hh.2; omega), List.append_nil]
      exact h.later i2 h2 e2 he2
    · rw [hp' i2 c]; exact h.later i2 h2 e2 he2
  · rcases List.mem_append.1 hk with hk | hk
    · have := h.poss k hk; omega
    · rw [List.mem_singleton.1 hk]; exact ⟨hin.1, Int.le_refl _⟩

/-- What Look says, by what was kept. -/
theorem once_look {s : List Pr} {all : List Kp} {ep : List Int} {pos : Int} {n : Nat} (h : OnceI s all ep pos n) {id : Nat} (hid : id < ep.length) (e q : Int) :
    ((lookS s id e q).2 = 0 → e = ep[id] ∧ q = (selK all id e).length) ∧
    ((lookS s id e q).2 = 18 → e < ep[id]) ∧ ((lookS s id e q).2 = 19 → (selK all id e).length < q) ∧
    ((lookS s id e q).2 = 5 → e = ep[id] ∧ 0 ≤ q ∧ q < (selK all id e).length ∧
      (20 < ((selK all id e).length : Int) - q → (lookS s id e q).1 = -1) ∧ (((selK all id e).length : Int) - q ≤ 20 → ∀ k ∈ selK all id e, k.seq = q → (lookS s id e q).1 = k.pos_)) := by
  have hep := h.epoch id hid
  have hnx := h.next id hid
  have hls := h.last id hid
  unfold lookS
  by_cases c0 : ¬ (okN id ∧ okN e ∧ okN q)
  · rw [if_pos c0]; exact ⟨fun hh => (by cases hh), fun hh => (by cases hh), fun hh => (by cases hh), fun hh => (by cases hh)⟩
  rw [if_neg c0]
  have c0 := Decidable.of_not_not c0
  by_cases c1 : e < (getP s id).epoch
  · rw [if_pos c1]; exact ⟨fun hh => (by cases hh), fun hh => by omega, fun hh => (by cases hh), fun hh => (by cases hh)⟩
  rw [if_neg c1]
  by_cases c2 : (getP s id).epoch < e
  · rw [if_pos c2]; exact ⟨fun hh => (by cases hh), fun hh => (by cases hh), fun hh => (by cases hh), fun hh => (by cases hh)⟩
  rw [if_neg c2]
  have hee : e = ep[id] := by omega
  rw [← hee] at hnx hls
  by_cases c3 : (getP s id).next < q
  · rw [if_pos c3]; exact ⟨fun hh => (by cases hh), fun hh => (by cases hh), fun hh => by omega, fun hh => (by cases hh)⟩
  rw [if_neg c3]
  by_cases c4 : hasP s id = false ∧ 50 ≤ s.length
  · rw [if_pos c4]; exact ⟨fun hh => (by cases hh), fun hh => (by cases hh), fun hh => (by cases hh), fun hh => (by cases hh)⟩
  rw [if_neg c4]
  by_cases c5 : q = (getP s id).next
  · rw [if_pos c5]; exact ⟨fun hh => ⟨hee, by omega⟩, fun hh => (by cases hh), fun hh => (by cases hh), fun hh => (by cases hh)⟩
  rw [if_neg c5]
  have hq0 := c0.2.2.1
  have hll : (getP s id).last.length = (selK all id e).length - ((selK all id e).length - 20) := by rw [hls, List.length_drop, List.length_map]
  have hlt : q < (selK all id e).length := by omega
  by_cases c6 : 0 ≤ ((getP s id).last.length : Int) - ((getP s id).next - q)
  · rw [if_pos c6]
    refine ⟨fun hh => (by cases hh), fun hh => (by cases hh), fun hh => (by cases hh), fun _ => ⟨hee, hq0, hlt, fun hh => by omega, fun h20 k hk hkq => ?_⟩⟩
    show List.getD _ _ _ = _
    obtain ⟨j, hj, rfl⟩ := List.getElem_of_mem hk
    have hjq := h.seqs id e j hj
    have hm : (((getP s id).last.length : Int) - ((getP s id).next - q)).toNat = j - ((selK all id e).length - 20) := by omega
    rw [hm, hls, List.getD_eq_getElem?_getD, List.getElem?_drop, show (selK all id e).length - 20 + (j - ((selK all id e).length - 20)) = j by omega, List.getElem?_map, List.getElem?_eq_getElem hj]
    rfl
  · rw [if_neg c6]
    exact ⟨fun hh => (by cases hh), fun hh => (by cases hh), fun hh => (by cases hh), fun _ => ⟨hee, hq0, hlt, fun hh => rfl, fun h20 => by omega⟩⟩
theorem numbered_mem {l : List Kp} (h : numbered l) {q : Int} : (∃ k ∈ l, k.seq = q) ↔ 0 ≤ q ∧ q < l.length := by
  constructor
  · rintro ⟨k, hk, rfl⟩
    obtain ⟨i, hi, rfl⟩ := List.getElem_of_mem hk
    rw [h i hi]; omega
  · rintro ⟨h0, h1⟩
    refine ⟨l[q.toNat]'(by omega), List.getElem_mem _, ?_⟩
    rw [h _ _]; omega
end Go.Proofs.Ytppnebcpalialaa
