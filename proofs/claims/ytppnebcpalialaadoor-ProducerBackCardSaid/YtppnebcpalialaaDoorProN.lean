/-
  A table of producers: its encoding. No condition.
-/
import Derived.Test.YtppnebcpalialaaDoorWireX
import Derived.Test.YtppnebcpalialaaDoorProdH
namespace Go.Proofs.YtppnebcpalialaaDoor
open Go.RowKit
set_option maxRecDepth 100000

def encPr (p : Pr) : Bs := encI p.id ++ encI p.epoch ++ encI p.next ++ encL encI p.last
def encTab (s : List Pr) : Bs := encI s.length ++ s.flatMap encPr
structure GoodP (p : Pr) : Prop where
  id : inI p.id
  epoch : inI p.epoch
  next : inI p.next
  len : p.last.length ≤ 9223372036854775807
  last : ∀ x ∈ p.last, inI x
theorem inP_in {n : Int} (h : inP n) : inI n := ⟨by have := h.1; omega, by have := h.2; omega⟩
theorem FineP.good {p : Pr} (h : FineP p) : GoodP p := ⟨inP_in h.id, inP_in h.epoch, inP_in h.next, by have := h.len; have := h.next; omega, fun x hx => by
  obtain ⟨i, hi, rfl⟩ := List.getElem_of_mem hx
  exact inP_in (h.each i hi)⟩
/-- What a reader makes of a producer. -/
noncomputable def prodR (s : RS) : Pr × RS :=
  let a := intR s
  let b := intR a.2
  let c := intR b.2
  let d := intsR c.2
  (⟨a.1, b.1, c.1, d.1⟩, d.2)
theorem prodR_enc {p : Pr} (h : GoodP p) (r : Bs) : prodR ⟨encPr p ++ r, false⟩ = (p, ⟨r, false⟩) := by
  unfold prodR encPr
  simp only [List.append_assoc]
  rw [intR_enc h.id]
  simp only
  rw [intR_enc h.epoch]
  simp only
  rw [intR_enc h.next]
  simp only
  rw [intsR_enc h.len h.last]
theorem encPr_pos (p : Pr) : 0 < (encPr p).length := by
  unfold encPr
  have := encI_pos p.id
  simp only [List.length_append]
  omega
noncomputable def tabR : Nat → List Pr → RS → List Pr × RS
  | 0, acc, s => (acc, s)
  | k + 1, acc, s => if s.rest = [] then (acc, s) else tabR k (acc ++ [(prodR s).1]) (prodR s).2
theorem tabR_enc : ∀ (l acc : List Pr) (r : Bs), (∀ p ∈ l, GoodP p) → tabR l.length acc ⟨l.flatMap encPr ++ r, false⟩ = (acc ++ l, ⟨r, false⟩)
  | [], acc, r, _ => by simp [tabR]
  | p :: l, acc, r, h => by
    have hne : ¬ ((p :: l).flatMap encPr ++ r) = [] := fun hh => by
      have := congrArg List.length hh
      have h2 := encPr_pos p
      rw [List.flatMap_cons, List.length_append, List.length_append, List.length_nil] at this
      omega
    rw [List.length_cons, tabR, if_neg hne, List.flatMap_cons, List.append_assoc, prodR_enc (h p List.mem_cons_self)]
    rw [tabR_enc l _ r fun y hy => h y (List.mem_cons_of_mem _ hy)]
    simp
/-- What Read accepts. -/
def TabOk (t : Bs) (s : List Pr) : Prop := RightT s ∧ encTab s = t ∧ doneR (tabR (natR ⟨t, false⟩).1.toNat [] (natR ⟨t, false⟩).2).2 = true ∧ (tabR (natR ⟨t, false⟩).1.toNat [] (natR ⟨t, false⟩).2).1 = s
theorem tab_enc {s : List Pr} (h : RightT s) : tabR (natR ⟨encTab s, false⟩).1.toNat [] (natR ⟨encTab s, false⟩).2 = (s, ⟨[], false⟩) := by
  have hl := h.len
  unfold encTab
  rw [natR_enc (by omega) ⟨by omega, by omega⟩]
  simp only [Int.toNat_natCast]
  have := tabR_enc s [] [] fun p hp => (h.fine p hp).good
  rw [List.append_nil, List.nil_append] at this
  exact this
theorem tab_ok {s : List Pr} (h : RightT s) : TabOk (encTab s) s := by
  unfold TabOk
  rw [tab_enc h]
  exact ⟨h, rfl, rfl, rfl⟩
theorem tab_uniq {s s' : List Pr} (h : RightT s) (h' : TabOk (encTab s) s') : s' = s := by
  have := h'.2.2.2
  rw [tab_enc h] at this
  exact this.symm
theorem encPr_len {p : Pr} (h : FineP p) : (encPr p).length ≤ 600 := by
  have g := h.good
  have hl := h.len
  have hn := h.next
  have h1 := encI_len g.id
  have h2 := encI_len g.epoch
  have h3 := encI_len g.next
  have h4 := (encL_len encI p.last (by omega)).2
  have h5 := flat_len encI p.last 21 fun y hy => encI_len (g.last y hy)
  unfold encPr
  simp only [List.length_append]
  omega
theorem encTab_len {s : List Pr} (h : RightT s) : (encTab s).length ≤ 31000 := by
  have hl := h.len
  have h1 := encI_len (n := s.length) ⟨by omega, by omega⟩
  have h2 := flat_len encPr s 600 fun p hp => encPr_len (h.fine p hp)
  unfold encTab
  rw [List.length_append]
  omega
theorem prodR_rest {s : RS} (hs : Sane s) (hr : s.rest ≠ []) : Sane (prodR s).2 ∧ (prodR s).2.rest.length + 1 ≤ s.rest.length := by
  have h1 := numR_sane (.inl rfl : isEnd 59) (lo := -9223372036854775808) hs
  have l1 := (numR_le (.inl rfl : isEnd 59) (-9223372036854775808) s).1
  have l2 := (numR_le (.inl rfl : isEnd 59) (-9223372036854775808) (intR s).2).1
  have l3 := (numR_le (.inl rfl : isEnd 59) (-9223372036854775808) (intR (intR s).2).2).1
  have hs0 : s.bad = false := by
    cases hb : s.bad
    · rfl
    · exact absurd (hs hb) hr
  have hlen : 0 < s.rest.length := List.length_pos_iff.2 hr
  have hsan : Sane (prodR s).2 := itemsR_sane (fun s => intR_sane) (intR_sane (intR_sane (intR_sane hs)))
  have hle : (prodR s).2.rest.length ≤ (intR s).2.rest.length := Nat.le_trans (itemsR_le2 intR_le _) (Nat.le_trans l3 l2)
  refine ⟨hsan, ?_⟩
  obtain ⟨s1, s2⟩ := Ok1.shrink intR_ok encI_pos hs0
  cases hb : (intR s).2.bad
  · have := s2 hb; omega
  · have := (intR_sane hs) hb
    rw [this] at hle
    simp at hle
    rw [hle]
    simp
    omega
end Go.Proofs.YtppnebcpalialaaDoor
