/-
  The encoding of a store, and how it is read. No condition.
-/
import Derived.Test.YtmllhipiahlihaaGreatDoorRetainC
import Derived.Test.YtmllhipiahlihaaGreatDoorValB
namespace Go.Proofs.YtmllhipiahlihaaGreatDoor
open Go.RowKit
set_option maxRecDepth 100000

def evB (e : Ev) : Bs := ((encT (bl e.source) ++ encI e.schema) ++ encI e.time) ++ encT (encRow e.row)
def encSt (s : St) : Bs := (((encI s.part ++ encI s.first) ++ encI s.horizon) ++ encI s.events.length) ++ s.events.flatMap evB
/-- What every event of a right store is. -/
structure GoodEv (s : St) (e : Ev) : Prop where
  right : rightE s e = true
  row : rightRow e.row = true
  vals : ∀ v ∈ e.row, GoodVal v
  schema : inI e.schema
  time : inI e.time
theorem GoodEv.src {s : St} {e : Ev} (h : GoodEv s e) : (bl e.source).length ≤ 200 := by
  have := h.right
  unfold rightE at this
  simp only [Bool.and_eq_true, decide_eq_true_eq] at this
  rw [bl_length]; exact this.2.1
theorem GoodEv.part {s : St} {e : Ev} (h : GoodEv s e) : e.part = s.part := by
  have := h.right
  unfold rightE at this
  simp only [Bool.and_eq_true, decide_eq_true_eq] at this
  exact this.1
theorem GoodEv.tm {s : St} {e : Ev} (h : GoodEv s e) : 0 ≤ e.time ∧ e.time ≤ 1099511627776 ∧ 0 ≤ e.schema := by
  have := h.right
  unfold rightE at this
  simp only [Bool.and_eq_true, decide_eq_true_eq] at this
  exact ⟨this.2.2.2.1, this.2.2.2.2, this.2.2.1⟩
theorem GoodEv.len {s : St} {e : Ev} (h : GoodEv s e) : e.row.length ≤ 12 ∧ ∀ v ∈ e.row, (bl v.s).length ≤ 200 := by
  have := h.row
  unfold rightRow at this
  rw [Bool.and_eq_true] at this
  refine ⟨of_decide_eq_true this.1, fun v hv => ?_⟩
  have hv := List.all_eq_true.1 this.2 v hv
  unfold rightV at hv
  by_cases h0 : v.kind = 0
  · rw [if_pos h0] at hv
    rw [of_decide_eq_true hv]; exact Nat.zero_le _
  rw [if_neg h0] at hv
  by_cases h1 : v.kind = 1
  · rw [if_pos h1, Bool.and_eq_true] at hv
    rw [bl_length]; exact of_decide_eq_true hv.2
  rw [if_neg h1, Bool.and_eq_true] at hv
  rw [of_decide_eq_true hv.2]; exact Nat.zero_le _
theorem encRow_len {l : List Val} (h1 : l.length ≤ 12) (h2 : ∀ v ∈ l, (bl v.s).length ≤ 200) (hg : ∀ v ∈ l, GoodVal v) : (encRow l).length ≤ 4000 := by
  have := flat_len encV1 l 264 fun v hv => encV1_len (hg v hv) (h2 v hv)
  have h3 := encI_len (n := (l.length : Int)) ⟨by omega, by omega⟩
  unfold encRow
  rw [List.length_append]
  have : 264 * l.length ≤ 264 * 12 := Nat.mul_le_mul_left _ h1
  omega
theorem evB_len {s : St} {e : Ev} (h : GoodEv s e) : (evB e).length ≤ 5000 := by
  have h1 := encT_len (bl e.source) (by have := h.src; omega)
  have h2 := encI_len h.schema
  have h3 := encI_len h.time
  have h4 := encRow_len h.len.1 h.len.2 h.vals
  have h5 := encT_len (encRow e.row) (by omega)
  have := h.src
  unfold evB
  simp only [List.length_append]
  omega
structure RightS (s : St) : Prop where
  part : inI s.part
  first : 0 ≤ s.first ∧ s.first ≤ 1152921504606846976
  horz : 0 ≤ s.horizon ∧ s.horizon ≤ 1099511627777
  zero : s.horizon = 0 ↔ s.first = 0
  count : s.events.length ≤ 2000
  good : ∀ e ∈ s.events, GoodEv s e
  pos : ∀ i (h : i < s.events.length), s.events[i].pos = s.first + i
noncomputable def evR (s : RS) : (((Bs × Int) × Int) × Bs) × RS := thenR (thenR (thenR textR intR) intR) textR s
theorem evR_rd : Rd2 (fun p : ((Bs × Int) × Int) × Bs => ((encT p.1.1.1 ++ encI p.1.1.2) ++ encI p.1.2) ++ encT p.2) (fun p => ((p.1.1.1.length ≤ 9223372036854775807 ∧ inI p.1.1.2) ∧ inI p.1.2) ∧ p.2.length ≤ 9223372036854775807) evR :=
  ((textR_rd.seq intR_rd).seq intR_rd).seq textR_rd
/-- The events of an encoding, added to a store. -/
noncomputable def readEvs : Nat → St → RS → Option St
  | 0, s, r => if doneR r = true then some s else none
  | k + 1, s, r => match readRow (evR r).1.2 with
    | none => none
    | some row => if (addS s ⟨s.part, s.next, ofL (evR r).1.1.1.1, (evR r).1.1.1.2, (evR r).1.1.2, row⟩).1 = 0 then readEvs k (addS s ⟨s.part, s.next, ofL (evR r).1.1.1.1, (evR r).1.1.1.2, (evR r).1.1.2, row⟩).2 (evR r).2 else none
noncomputable def headR (s : RS) : (((Int × Int) × Int) × Int) × RS := thenR (thenR (thenR intR intR) intR) natR s
def headBad (p : ((Int × Int) × Int) × Int) : Bool := decide (p.1.1.2 < 0) || decide (1152921504606846976 < p.1.1.2) || decide (p.1.2 < 0) || decide (1099511627777 < p.1.2) || (decide (p.1.2 = 0) != decide (p.1.1.2 = 0)) || decide (2000 < p.2)
noncomputable def readSt (b : Bs) : Option St := if headBad (headR ⟨b, false⟩).1 = true then none else
  readEvs (headR ⟨b, false⟩).1.2.toNat ⟨(headR ⟨b, false⟩).1.1.1.1, (headR ⟨b, false⟩).1.1.1.2, (headR ⟨b, false⟩).1.1.2, []⟩ (headR ⟨b, false⟩).2
theorem headR_rd : Rd2 (fun p : ((Int × Int) × Int) × Int => ((encI p.1.1.1 ++ encI p.1.1.2) ++ encI p.1.2) ++ encI p.2) (fun p => ((inI p.1.1.1 ∧ inI p.1.1.2) ∧ inI p.1.2) ∧ (0 ≤ p.2 ∧ inI p.2)) headR :=
  ((intR_rd.seq intR_rd).seq intR_rd).seq natR_rd
theorem addS_cases (s : St) (e : Ev) : ((addS s e).1 = 0 ∧ (addS s e).2 = { s with events := s.events ++ [e] } ∧ rightE s e = true ∧ rightRow e.row = true ∧ e.pos = s.next ∧ s.events.length < 2000) ∨ ((addS s e).1 ≠ 0 ∧ (addS s e).2 = s) := by
  unfold addS
  by_cases h1 : rightE s e = true
  · rw [if_pos h1]
    by_cases h2 : rightRow e.row = true
    · rw [if_pos h2]
      by_cases h3 : e.pos = s.next
      · rw [if_pos h3]
        by_cases h4 : s.events.length < 2000
        · rw [if_pos h4]; exact .inl ⟨rfl, rfl, h1, h2, h3, h4⟩
        · rw [if_neg h4]; exact .inr ⟨show (6 : Int) ≠ 0 by decide, rfl⟩
      · rw [if_neg h3]; exact .inr ⟨show (25 : Int) ≠ 0 by decide, rfl⟩
    · rw [if_neg h2]; exact .inr ⟨show (16 : Int) ≠ 0 by decide, rfl⟩
  · rw [if_neg h1]; exact .inr ⟨show (1 : Int) ≠ 0 by decide, rfl⟩
theorem addS_ok {s : St} {e : Ev} (h1 : rightE s e = true) (h2 : rightRow e.row = true) (h3 : e.pos = s.next) (h4 : s.events.length < 2000) : addS s e = (0, { s with events := s.events ++ [e] }) := by
  unfold addS
  rw [if_pos h1, if_pos h2, if_pos h3, if_pos h4]
theorem readEvs_fore : ∀ (l : List Ev) (s : St), (∀ e ∈ l, GoodEv s e) → s.events.length + l.length ≤ 2000 → (∀ i (h : i < l.length), l[i].pos = s.first + (s.events.length + i : Nat)) →
    readEvs l.length s ⟨l.flatMap evB, false⟩ = some { s with events := s.events ++ l }
  | [], s, _, _, _ => by
    show readEvs 0 s ⟨[], false⟩ = _
    rw [readEvs, if_pos (by rfl), List.append_nil]
  | e :: l, s, hg, hl, hp => by
    have g := hg e List.mem_cons_self
    rw [List.length_cons] at hl
    have hrow := encRow_len g.len.1 g.len.2 g.vals
    have hf := evR_rd.fore (((bl e.source, e.schema), e.time), encRow e.row) (l.flatMap evB) ⟨⟨⟨by have := g.src; show (bl e.source).length ≤ _; omega, g.schema⟩, g.time⟩, by show (encRow e.row).length ≤ _; omega⟩
    have e1 : ((e :: l).flatMap evB) = evB e ++ l.flatMap evB := rfl
    rw [List.length_cons, readEvs, e1, show evR ⟨evB e ++ l.flatMap evB, false⟩ = _ from hf]
    simp only
    rw [readRow_enc (by have := g.len.1; omega) g.vals]
    simp only
    have ee : (⟨s.part, s.next, ofL (bl e.source), e.schema, e.time, e.row⟩ : Ev) = e := by
      have h0 := hp 0 (Nat.succ_pos _)
      rw [ofL_bl]
      obtain ⟨p, q, sr, sc, t, rw_⟩ := e
      have hpart : p = s.part := g.part
      simp only [Nat.add_zero, List.getElem_cons_zero] at h0
      subst hpart
      rw [h0]; rfl
    rw [ee]
    have hnext : e.pos = s.next := by
      have h0 := hp 0 (Nat.succ_pos _)
      simp only [Nat.add_zero, List.getElem_cons_zero] at h0
      exact h0
    rw [addS_ok g.right g.row hnext (by omega), if_pos rfl]
    have ih := readEvs_fore l { s with events := s.events ++ [e] } (fun x hx => by
      have gx := hg x (List.mem_cons_of_mem _ hx)
      exact ⟨gx.right, gx.row, gx.vals, gx.schema, gx.time⟩) (by simp only [List.length_append, List.length_singleton]; omega) (fun i hi => by
      have := hp (i + 1) (by rw [List.length_cons]; omega)
      simp only [List.getElem_cons_succ] at this
      rw [this]
      simp only [List.length_append, List.length_singleton]
      omega)
    rw [ih]
    simp
theorem readSt_enc {s : St} (h : RightS s) : readSt (encSt s) = some s := by
  obtain ⟨part, first, hor, evs⟩ := s
  have f1 : inI first := by have h1 : 0 ≤ first ∧ first ≤ 1152921504606846976 := h.first; constructor <;> omega
  have f2 : inI hor := by have h1 : 0 ≤ hor ∧ hor ≤ 1099511627777 := h.horz; constructor <;> omega
  have f3 : inI (evs.length : Int) := by have h1 : evs.length ≤ 2000 := h.count; constructor <;> omega
  have hf := headR_rd.fore (((part, first), hor), (evs.length : Int)) (evs.flatMap evB) ⟨⟨⟨h.part, f1⟩, f2⟩, by show (0 : Int) ≤ evs.length; omega, f3⟩
  unfold readSt
  rw [show headR ⟨encSt ⟨part, first, hor, evs⟩, false⟩ = _ from hf]
  simp only
  have hb : headBad (((part, first), hor), (evs.length : Int)) = false := by
    unfold headBad
    have h1 := h.first
    have h2 := h.horz
    have h3 := h.count
    have h4 : decide (hor = 0) = decide (first = 0) := decide_eq_decide.2 h.zero
    simp only at h1 h2 h3 ⊢
    rw [h4, decide_eq_false (show ¬ first < 0 by omega), decide_eq_false (show ¬ 1152921504606846976 < first by omega), decide_eq_false (show ¬ hor < 0 by omega), decide_eq_false (show ¬ 1099511627777 < hor by omega), decide_eq_false (show ¬ (2000 : Int) < evs.length by omega)]
    simp
  rw [hb, if_neg (by decide), Int.toNat_natCast]
  have := readEvs_fore evs ⟨part, first, hor, []⟩ (fun e he => by
    have g := h.good e he
    exact ⟨g.right, g.row, g.vals, g.schema, g.time⟩) (by have := h.count; simpa using this) (fun i hi => by
    have := h.pos i hi
    rw [List.length_nil, Nat.zero_add]
    exact this)
  rw [this]
  simp
theorem readEvs_back : ∀ (k : Nat) (s s' : St) (r : RS), readEvs k s r = some s' → r.bad = false ∧ ∃ l, l.length = k ∧ s' = { s with events := s.events ++ l } ∧ r.rest = l.flatMap evB ∧ (∀ e ∈ l, GoodEv s e) ∧ (k = 0 ∨ s.events.length + l.length ≤ 2000) ∧ ∀ i (h : i < l.length), l[i].pos = s.first + (s.events.length + i : Nat)
  | 0, s, s', r, h => by
    rw [readEvs] at h
    split at h
    · rename_i hd
      injection h with h
      obtain ⟨d1, d2⟩ := done_end hd
      exact ⟨d1, [], rfl, by rw [← h]; simp, by rw [d2]; rfl, fun e he => (by cases he), .inl rfl, fun i hi => absurd hi (Nat.not_lt_zero i)⟩
    · cases h
  | k + 1, s, s', r, h => by
    rw [readEvs] at h
    cases hr : readRow (evR r).1.2 with
    | none => rw [hr] at h; cases h
    | some row =>
      rw [hr] at h
      simp only at h
      rcases addS_cases s ⟨s.part, s.next, ofL (evR r).1.1.1.1, (evR r).1.1.1.2, (evR r).1.1.2, row⟩ with ⟨a1, a2, a3, a4, a5, a6⟩ | ⟨a1, _⟩
      · rw [if_pos a1, a2] at h
        obtain ⟨b1, l, l1, l2, l3, l4, l5, l6⟩ := readEvs_back k _ s' _ h
        obtain ⟨c1, c2, ⟨⟨c3, c4⟩, c5⟩, c6⟩ := evR_rd.back r b1
        obtain ⟨d1, d2⟩ := readRow_back hr
        refine ⟨c1, ⟨s.part, s.next, ofL (evR r).1.1.1.1, (evR r).1.1.1.2, (evR r).1.1.2, row⟩ :: l, by rw [List.length_cons, l1], by rw [l2]; simp only [List.append_assoc, List.singleton_append], ?_, fun e he => ?_, .inr ?_, fun i hi => ?_⟩
        · rw [List.flatMap_cons, ← l3]
          rw [c2]
          congr 1
          unfold evB
          simp only [bl_ofL]
          rw [d1]
        · rcases List.mem_cons.1 he with rfl | he
          · exact ⟨a3, a4, d2, c4, c5⟩
          · have g := l4 e he
            exact ⟨g.right, g.row, g.vals, g.schema, g.time⟩
        · rw [List.length_cons]
          rcases l5 with l5 | l5
          · rw [l1, l5]; omega
          · simp only [List.length_append, List.length_singleton] at l5; omega
        · cases i with
          | zero => rfl
          | succ i =>
            rw [List.getElem_cons_succ, l6 i (by rw [List.length_cons] at hi; omega)]
            simp only [List.length_append, List.length_singleton]
            omega
      · rw [if_neg a1] at h; cases h
theorem readSt_back {b : Bs} {s : St} (h : readSt b = some s) : encSt s = b ∧ RightS s := by
  unfold readSt at h
  cases hb : headBad (headR ⟨b, false⟩).1 with
  | true => rw [hb, if_pos rfl] at h; cases h
  | false =>
    rw [hb, if_neg (by decide)] at h
    obtain ⟨b1, l, l1, l2, l3, l4, l5, l6⟩ := readEvs_back _ _ _ _ h
    obtain ⟨_, c2, ⟨⟨c3, c4⟩, c5⟩, c6, c7⟩ := headR_rd.back _ b1
    generalize (headR ⟨b, false⟩).1 = p at *
    obtain ⟨⟨⟨pt, f⟩, hz⟩, n⟩ := p
    simp only at c2 c3 c4 c5 c6 c7 l1 l2 l4 l5 l6
    unfold headBad at hb
    simp only [Bool.or_eq_false_iff, decide_eq_false_iff_not, bne_eq_false_iff_eq, decide_eq_decide] at hb
    obtain ⟨⟨⟨⟨⟨h1, h2⟩, h3⟩, h4⟩, h5⟩, h6⟩ := hb
    have hn : (l.length : Int) = n := by omega
    subst l2
    refine ⟨?_, ?_⟩
    · unfold encSt
      simp only [List.nil_append, hn, ← l3]
      exact c2.symm
    · refine ⟨c3, ⟨by show 0 ≤ f; omega, by show f ≤ _; omega⟩, ⟨by show 0 ≤ hz; omega, by show hz ≤ _; omega⟩, h5, by simp only [List.nil_append]; omega, fun e he => ?_, fun i hi => ?_⟩
      · have g := l4 e (by simpa using he)
        exact ⟨g.right, g.row, g.vals, g.schema, g.time⟩
      · simp only [List.nil_append] at hi ⊢
        have := l6 i hi
        rw [List.length_nil, Nat.zero_add] at this
        exact this
theorem hor_ge (h : Int) : ∀ l : List Ev, h ≤ hor h l ∧ ∀ e ∈ l, e.time + 1 ≤ hor h l
  | [] => ⟨Int.le_refl _, fun e he => by cases he⟩
  | a :: l => by
    obtain ⟨h1, h2⟩ := hor_ge (max h (a.time + 1)) l
    show h ≤ hor (max h (a.time + 1)) l ∧ ∀ e ∈ a :: l, e.time + 1 ≤ hor (max h (a.time + 1)) l
    refine ⟨by omega, fun e he => ?_⟩
    rcases List.mem_cons.1 he with rfl | he
    · omega
    · exact h2 e he
theorem hor_le {M : Int} : ∀ (l : List Ev) (h : Int), h ≤ M → (∀ e ∈ l, e.time + 1 ≤ M) → hor h l ≤ M
  | [], h, h1, _ => h1
  | a :: l, h, h1, h2 => hor_le l (max h (a.time + 1)) (by have := h2 a List.mem_cons_self; omega) fun e he => h2 e (List.mem_cons_of_mem _ he)
theorem RightS.add {s : St} (h : RightS s) (e : Ev) (hv : ∀ v ∈ e.row, GoodVal v) (hs : inI e.schema) (ht : inI e.time) : RightS (addS s e).2 := by
  rcases addS_cases s e with ⟨_, e2, e3, e4, e5, e6⟩ | ⟨_, e2⟩
  · rw [e2]
    refine ⟨h.part, h.first, h.horz, h.zero, by simp only [List.length_append, List.length_singleton]; omega, fun x hx => ?_, fun i hi => ?_⟩
    · rcases List.mem_append.1 hx with hx | hx
      · have g := h.good x hx
        exact ⟨g.right, g.row, g.vals, g.schema, g.time⟩
      · rw [List.mem_singleton.1 hx]; exact ⟨e3, e4, hv, hs, ht⟩
    · simp only [List.length_append, List.length_singleton] at hi
      by_cases c : i < s.events.length
      · simp only [List.getElem_append_left c]; exact h.pos i c
      · have e7 : i = s.events.length := by omega
        subst e7
        simp only [List.getElem_append_right (Nat.le_refl _), Nat.sub_self, List.getElem_cons_zero]
        exact e5
  · rw [e2]; exact h
theorem RightS.cut {s : St} (h : RightS s) {n : Nat} (hn : n ≤ s.events.length) (hb : s.first + s.events.length ≤ 1152921504606846976) : RightS (cutS s n) := by
  have h1 := h.first
  have h2 := h.horz
  obtain ⟨g1, g2⟩ := hor_ge s.horizon (s.events.take n)
  have htm : ∀ e ∈ s.events.take n, 0 ≤ e.time ∧ e.time + 1 ≤ 1099511627777 := fun e he => by
    have := (h.good e (List.mem_of_mem_take he)).tm
    omega
  refine ⟨h.part, ⟨by show 0 ≤ s.first + n; omega, by show s.first + n ≤ _; omega⟩, ⟨by show 0 ≤ hor s.horizon (s.events.take n); omega, hor_le _ _ h2.2 fun e he => (htm e he).2⟩, ?_, by show (s.events.drop n).length ≤ _; rw [List.length_drop]; have := h.count; omega, fun e he => ?_, fun i hi => ?_⟩
  · show hor s.horizon (s.events.take n) = 0 ↔ s.first + n = 0
    by_cases c : n = 0
    · subst c
      rw [List.take_zero]
      show s.horizon = 0 ↔ s.first + 0 = 0
      rw [Int.add_zero]; exact h.zero
    · have hm : s.events[0]'(by omega) ∈ s.events.take n := by
        rw [List.mem_take_iff_getElem]; exact ⟨0, by omega, rfl⟩
      have := g2 _ hm
      have := (htm _ hm).1
      exact ⟨fun hh => by omega, fun hh => by omega⟩
  · have g := h.good e (List.mem_of_mem_drop he)
    exact ⟨g.right, g.row, g.vals, g.schema, g.time⟩
  · have hi2 : i < (s.events.drop n).length := hi
    have e : (cutS s n).events[i] = (s.events.drop n)[i]'hi2 := rfl
    refine (congrArg Ev.pos e).trans ?_
    rw [List.getElem_drop, h.pos]
    show s.first + ((n + i : Nat) : Int) = s.first + n + i
    omega
theorem addS_len (s : St) (e : Ev) : (addS s e).2.first = s.first ∧ (addS s e).2.part = s.part ∧ (addS s e).2.events.length ≤ s.events.length + 1 := by
  rcases addS_cases s e with ⟨_, e2, _⟩ | ⟨_, e2⟩ <;> rw [e2]
  · exact ⟨rfl, rfl, by simp⟩
  · exact ⟨rfl, rfl, by omega⟩
theorem encSt_len {s : St} (h : RightS s) : (encSt s).length ≤ 20000000 := by
  have := flat_len evB s.events 5000 fun e hx => evB_len (h.good e hx)
  have h1 := encI_len h.part
  have h2 := encI_len (n := s.first) (by have := h.first; constructor <;> omega)
  have h3 := encI_len (n := s.horizon) (by have := h.horz; constructor <;> omega)
  have h4 := encI_len (n := (s.events.length : Int)) (by have := h.count; constructor <;> omega)
  have := h.count
  have : 5000 * s.events.length ≤ 5000 * 2000 := Nat.mul_le_mul_left _ h.count
  unfold encSt
  simp only [List.length_append]
  omega
end Go.Proofs.YtmllhipiahlihaaGreatDoor
