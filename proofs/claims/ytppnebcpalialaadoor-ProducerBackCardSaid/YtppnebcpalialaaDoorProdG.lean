/-
  Plain laws of tables. No condition.
-/
import Derived.Test.YtppnebcpalialaaDoorProdF
namespace Go.Proofs.YtppnebcpalialaaDoor
open Go.RowKit
set_option maxRecDepth 100000

abbrev Asc (s : List Pr) : Prop := s.Pairwise fun a b => a.id < b.id
theorem asc_iff {s : List Pr} : (∀ i (h : i < s.length), 0 < i → s[i - 1].id < s[i].id) ↔ Asc s := by
  constructor
  · intro h
    show s.Pairwise fun a b => a.id < b.id
    rw [List.pairwise_iff_getElem]
    intro i j hi hj hij
    exact asc_lt h hij hj
  · intro h i hi h0
    have h : s.Pairwise fun a b => a.id < b.id := h
    rw [List.pairwise_iff_getElem] at h
    exact h (i - 1) i (by omega) hi (by omega)
theorem RightT.pw {s : List Pr} (h : RightT s) : Asc s := asc_iff.1 h.asc
theorem asc_uniq {s : List Pr} (h : Asc s) {x y : Pr} (hx : x ∈ s) (hy : y ∈ s) (e : x.id = y.id) : x = y := by
  have h : s.Pairwise fun a b => a.id < b.id := h
  rw [List.pairwise_iff_getElem] at h
  obtain ⟨i, hi, rfl⟩ := List.getElem_of_mem hx
  obtain ⟨j, hj, rfl⟩ := List.getElem_of_mem hy
  rcases Nat.lt_trichotomy i j with hij | rfl | hij
  · have := h i j hi hj hij; omega
  · rfl
  · have := h j i hj hi hij; omega
theorem getP_of {s : List Pr} (h : Asc s) {x : Pr} (hx : x ∈ s) : getP s x.id = x ∧ hasP s x.id = true := by
  have hh : hasP s x.id = true := by
    unfold hasP
    rw [List.find?_isSome]
    exact ⟨x, hx, decide_eq_true rfl⟩
  obtain ⟨h1, h2⟩ := getP_mem hh
  exact ⟨asc_uniq h h1 hx h2, hh⟩
theorem hasP_false {s : List Pr} {id : Int} (h : ∀ x ∈ s, x.id ≠ id) : hasP s id = false := by
  cases e : hasP s id
  · rfl
  · obtain ⟨h1, h2⟩ := getP_mem e
    exact absurd h2 (h _ h1)
theorem withS_eq {s : List Pr} (h : Asc s) (p : Pr) : ∃ c d, withS s p = s.take c ++ p :: s.drop d ∧ (∀ x ∈ s.take c, x.id < p.id) ∧ (∀ x ∈ s.drop d, p.id < x.id) ∧ c ≤ s.length ∧ d ≤ s.length ∧ ((d = c ∧ hasP s p.id = false) ∨ (d = c + 1 ∧ hasP s p.id = true ∧ ∃ hc : c < s.length, s[c].id = p.id)) := by
  have ha := asc_iff.2 h
  have hlt : ∀ x ∈ s.take (cntLt s p.id), x.id < p.id := fun x hx => by
    obtain ⟨i, hi, rfl⟩ := List.mem_take_iff_getElem.1 hx
    exact cnt_lt (by omega) (by omega)
  have hle := cnt_le s p.id
  cases e : hasP s p.id
  · refine ⟨cntLt s p.id, cntLt s p.id, by unfold withS; rw [if_neg (by rw [e]; decide)], hlt, fun x hx => ?_, hle, hle, .inl ⟨rfl, rfl⟩⟩
    obtain ⟨i, hi, rfl⟩ := List.mem_drop_iff_getElem.1 hx
    have h1 := cnt_ge ha (id := p.id) (i := cntLt s p.id + i) (by omega) (by omega)
    have h2 := (getP_none e).2 _ (List.getElem_mem (show cntLt s p.id + i < s.length by omega))
    omega
  · obtain ⟨hc, hid⟩ := (has_iff ha).1 e
    refine ⟨cntLt s p.id, cntLt s p.id + 1, by unfold withS; rw [if_pos e, List.set_eq_take_append_cons_drop, if_pos hc], hlt, fun x hx => ?_, hle, by omega, .inr ⟨rfl, rfl, hc, hid⟩⟩
    obtain ⟨i, hi, rfl⟩ := List.mem_drop_iff_getElem.1 hx
    have := asc_lt ha (i := cntLt s p.id) (j := cntLt s p.id + 1 + i) (by omega) (by omega)
    omega
theorem withS_asc {s : List Pr} (h : Asc s) (p : Pr) : Asc (withS s p) := by
  obtain ⟨c, d, e, h1, h2, _, _, hcd⟩ := withS_eq h p
  rw [e]
  unfold Asc
  rw [List.pairwise_append, List.pairwise_cons]
  refine ⟨h.sublist (List.take_sublist _ _), ⟨h2, h.sublist (List.drop_sublist _ _)⟩, fun x hx y hy => ?_⟩
  rcases List.mem_cons.1 hy with rfl | hy
  · exact h1 x hx
  · exact Int.lt_trans (h1 x hx) (h2 y hy)
theorem withS_mem {s : List Pr} (h : Asc s) (p x : Pr) : x ∈ withS s p ↔ x = p ∨ (x ∈ s ∧ x.id ≠ p.id) := by
  obtain ⟨c, d, e, h1, h2, hc, hd, hcd⟩ := withS_eq h p
  rw [e, List.mem_append, List.mem_cons]
  constructor
  · rintro (hx | rfl | hx)
    · exact .inr ⟨List.mem_of_mem_take hx, by have := h1 x hx; omega⟩
    · exact .inl rfl
    · exact .inr ⟨List.mem_of_mem_drop hx, by have := h2 x hx; omega⟩
  · rintro (rfl | ⟨hx, hne⟩)
    · exact .inr (.inl rfl)
    · have hs : s = s.take c ++ s.drop c := (List.take_append_drop c s).symm
      rw [hs] at hx
      rcases List.mem_append.1 hx with hx | hx
      · exact .inl hx
      · rcases hcd with ⟨rfl, _⟩ | ⟨rfl, _, hlt, hid⟩
        · exact .inr (.inr hx)
        · rw [List.drop_eq_getElem_cons hlt] at hx
          rcases List.mem_cons.1 hx with rfl | hx
          · exact absurd hid hne
          · exact .inr (.inr hx)
theorem getP_with {s : List Pr} (h : Asc s) (p : Pr) : getP (withS s p) p.id = p ∧ hasP (withS s p) p.id = true := getP_of (withS_asc h p) ((withS_mem h p p).2 (.inl rfl))
theorem getP_with_ne {s : List Pr} (h : Asc s) (p : Pr) {id : Int} (hid : id ≠ p.id) : getP (withS s p) id = getP s id ∧ hasP (withS s p) id = hasP s id := by
  cases e : hasP s id
  · obtain ⟨e1, e2⟩ := getP_none e
    have : hasP (withS s p) id = false := hasP_false fun x hx => by
      rcases (withS_mem h p x).1 hx with rfl | ⟨hx, _⟩
      · exact Ne.symm hid
      · exact e2 x hx
    exact ⟨by rw [(getP_none this).1, e1], this⟩
  · obtain ⟨e1, e2⟩ := getP_mem e
    have hm : getP s id ∈ withS s p := (withS_mem h p _).2 (.inr ⟨e1, by rw [e2]; exact hid⟩)
    have := getP_of (withS_asc h p) hm
    rw [e2] at this
    exact this
theorem with_len {s : List Pr} (h : Asc s) (p : Pr) : (withS s p).length = if hasP s p.id = true then s.length else s.length + 1 := by
  obtain ⟨c, d, e, h1, h2, hc, hd, hcd⟩ := withS_eq h p
  rw [e, List.length_append, List.length_cons, List.length_take, List.length_drop]
  rcases hcd with ⟨rfl, hh⟩ | ⟨rfl, hh, hlt, _⟩
  · rw [if_neg (by rw [hh]; decide)]; omega
  · rw [if_pos hh]; omega
theorem with_right {s : List Pr} (h : RightT s) {p : Pr} (hp : FineP p) (hl : hasP s p.id = true ∨ s.length < 50) : RightT (withS s p) := by
  refine ⟨fun x hx => ?_, asc_iff.2 (withS_asc h.pw p), ?_⟩
  · rcases (withS_mem h.pw p x).1 hx with rfl | ⟨hx, _⟩
    · exact hp
    · exact h.fine x hx
  · rw [with_len h.pw p]
    have := h.len
    split
    · exact this
    · rename_i hh
      rcases hl with hl | hl
      · exact absurd hl hh
      · omega
/-- A producer with one more position. -/
theorem putP_fine {p : Pr} (hp : FineP p) (hn : p.next < 1099511627776) {pos : Int} (hpos : inP pos) (hb : ¬ (0 < p.last.length ∧ pos ≤ p.last.getD (p.last.length - 1) 0)) : FineP (putP p pos) := by
  have hnext := hp.next
  have hlen := hp.len
  have hl2 : (p.last ++ [pos]).length = p.last.length + 1 := by simp
  have hget : ∀ i (h : i < (p.last ++ [pos]).length), (p.last ++ [pos])[i] = if h' : i < p.last.length then p.last[i] else pos := fun i h => by
    by_cases h' : i < p.last.length
    · rw [dif_pos h', List.getElem_append_left h']
    · rw [dif_neg h', List.getElem_append_right (by omega)]
      simp
  have each : ∀ i (h : i < (p.last ++ [pos]).length), inP (p.last ++ [pos])[i] := fun i h => by
    rw [hget i h]
    split
    · rename_i h'; exact hp.each i h'
    · exact hpos
  have asc : ∀ i (h : i < (p.last ++ [pos]).length), 0 < i → (p.last ++ [pos])[i - 1] < (p.last ++ [pos])[i] := fun i h h0 => by
    rw [hget i h, hget (i - 1) (by omega)]
    by_cases h' : i < p.last.length
    · rw [dif_pos h', dif_pos (by omega)]; exact hp.asc i h' h0
    · rw [dif_neg h', dif_pos (by omega)]
      have hi : i - 1 = p.last.length - 1 := by omega
      have hgd : p.last.getD (p.last.length - 1) 0 = p.last[p.last.length - 1]'(by omega) := by rw [List.getD_eq_getElem?_getD, List.getElem?_eq_getElem (by omega)]; rfl
      rw [hgd] at hb
      simp only [hi]
      omega
  unfold inP at hnext
  have hdl : (putP p pos).last.length = (p.last ++ [pos]).length - ((p.last ++ [pos]).length - 20) := List.length_drop ..
  refine ⟨hp.id, hp.epoch, ⟨by show 0 ≤ p.next + 1; omega, by show p.next + 1 ≤ _; omega⟩, ?_, fun i h => ?_, fun i h h0 => ?_⟩
  · rw [hdl]
    show _ = min (p.next + 1) 20
    omega
  · have : (putP p pos).last[i] = (p.last ++ [pos])[(p.last ++ [pos]).length - 20 + i]'(by rw [hdl] at h; omega) := List.getElem_drop ..
    rw [this]
    exact each _ _
  · have e1 : (putP p pos).last[i] = (p.last ++ [pos])[(p.last ++ [pos]).length - 20 + i]'(by rw [hdl] at h; omega) := List.getElem_drop ..
    have e2 : (putP p pos).last[i - 1] = (p.last ++ [pos])[(p.last ++ [pos]).length - 20 + (i - 1)]'(by rw [hdl] at h; omega) := List.getElem_drop ..
    rw [e1, e2]
    have := asc ((p.last ++ [pos]).length - 20 + i) (by rw [hdl] at h; omega) (by omega)
    have e3 : (p.last ++ [pos]).length - 20 + i - 1 = (p.last ++ [pos]).length - 20 + (i - 1) := by omega
    simp only [e3] at this
    exact this
end Go.Proofs.YtppnebcpalialaaDoor
