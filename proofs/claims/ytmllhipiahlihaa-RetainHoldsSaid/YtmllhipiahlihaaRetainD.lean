/-
  The references' comparing of events, and the laws' small functions. No condition.
-/
import Derived.Test.YtmllhipiahlihaaRetainC
namespace Go.Proofs.Ytmllhipiahlihaa
open Go.RowKit

section
variable {B : Base}

theorem bytesLess_irrefl (l : List UInt8) : Op.bytesLess l l = false := by
  induction l with
  | nil => rfl
  | cons a l ih => simp [Op.bytesLess, ih]
theorem bytesLess_total {l m : List UInt8} (h1 : Op.bytesLess l m = false) (h2 : Op.bytesLess m l = false) : l = m := by
  induction l generalizing m with
  | nil => cases m with
    | nil => rfl
    | cons b m => simp [Op.bytesLess] at h1
  | cons a l ih => cases m with
    | nil => simp [Op.bytesLess] at h2
    | cons b m =>
      simp only [Op.bytesLess, Bool.or_eq_false_iff, Bool.and_eq_false_iff, decide_eq_false_iff_not, beq_eq_false_iff_ne] at h1 h2
      obtain ⟨p1, p2⟩ := h1
      obtain ⟨q1, q2⟩ := h2
      have hab : a = b := by
        rcases UInt8.lt_or_lt_of_ne (a := a) (b := b) |> fun h => Classical.em (a = b) with h | h
        · exact h
        · rcases UInt8.lt_or_lt_of_ne h with h | h
          · exact absurd h p1
          · exact absurd h q1
      subst hab
      have p2 := p2.resolve_left (by simp)
      have q2 := q2.resolve_left (by simp)
      rw [ih p2 q2]

/-- The order of values: -1, 0 or 1. -/
def cmpV (a b : Val) : Int := if a.kind < b.kind then -1 else if b.kind < a.kind then 1 else if a.n < b.n then -1 else if b.n < a.n then 1 else if Op.bytesLess a.s.toList b.s.toList = true then -1 else if a.s = b.s then 0 else 1
theorem cmpV_eq {a b : Val} : cmpV a b = 0 ↔ a = b := by
  unfold cmpV
  constructor
  · intro h
    repeat' split at h
    all_goals first | (cases h; done) | skip
    obtain ⟨k, n, s⟩ := a
    obtain ⟨k', n', s'⟩ := b
    simp_all
    omega
  · rintro rfl
    rw [if_neg (by omega), if_neg (by omega), if_neg (by omega), if_neg (by omega), if_neg (by simp [bytesLess_irrefl]), if_pos rfl]

theorem compare_g (x y : Val) : Gives Try.prog B (sCall F_errataref03_Compare #[x.v, y.v]) (.int .i64 (cmpV x y)) := by
  refine Gives.intro fun B' w K base h k => ?_
  refine errataref03_Compare.up (errataref03_Compare.call ?_)
  unfold errataref03_Compare.pt
  refine h.box fun a w1 h => ?_
  refine h.box fun b w2 h => ?_
  replace h : Rel B' w2 [cellD a T_api_Value #[.int .i64 x.kind, .int .i64 x.n, .string x.s], cellD b T_api_Value #[.int .i64 y.kind, .int .i64 y.n, .string y.s]] := h
  have e1 : (x.s.toList == y.s.toList) = decide (x.s = y.s) := toList_beq
  simp -zeta only [field_addr f_api_Value_0, field_addr f_api_Value_1, field_addr f_api_Value_2, Nat.zero_add, h.ld 0 rfl sc_int (o := 0) rfl, h.ld 0 rfl sc_int (o := 1) rfl, h.ld 0 rfl sc_string (o := 2) rfl, h.ld 1 rfl sc_int (o := 0) rfl, h.ld 1 rfl sc_int (o := 1) rfl, h.ld 1 rfl sc_string (o := 2) rfl,
    bin_lss, bin_gtr, str_lss, str_gtr, e1, ifB_dec]
  have kk := fun c (hc : cmpV x y = c) => (show K (.int .i64 c) w2 by rw [← hc]; exact k _ _ h)
  refine ⟨fun h1 => kk _ (by unfold cmpV; rw [if_pos h1]), fun h1 => ⟨fun h2 => kk _ (by unfold cmpV; rw [if_neg h1, if_pos h2]), fun h2 => ⟨fun h3 => kk _ (by unfold cmpV; rw [if_neg h1, if_neg h2, if_pos h3]), fun h3 => ⟨fun h4 => kk _ (by unfold cmpV; rw [if_neg h1, if_neg h2, if_neg h3, if_pos h4]), fun h4 => ?_⟩⟩⟩⟩
  rw [ifB_bool]
  refine ⟨fun h5 => kk _ (by unfold cmpV; rw [if_neg h1, if_neg h2, if_neg h3, if_neg h4, if_pos h5]), fun h5 => ?_⟩
  rw [h5]
  simp -zeta only [Bool.false_or, ifB_not, ifB_dec]
  refine ⟨fun h6 => kk _ (by unfold cmpV; rw [if_neg h1, if_neg h2, if_neg h3, if_neg h4, if_neg (by rw [h5]; decide), if_pos h6]), fun h6 => kk _ (by unfold cmpV; rw [if_neg h1, if_neg h2, if_neg h3, if_neg h4, if_neg (by rw [h5]; decide), if_neg h6])⟩

def cmpRows : List Val → List Val → Int
  | [], [] => 0
  | [], _ :: _ => -1
  | _ :: _, [] => 1
  | a :: l, b :: m => if cmpV a b ≠ 0 then cmpV a b else cmpRows l m
theorem cmpRows_eq {l m : List Val} : cmpRows l m = 0 ↔ l = m := by
  induction l generalizing m with
  | nil => cases m <;> simp [cmpRows]
  | cons a l ih => cases m with
    | nil => simp [cmpRows]
    | cons b m =>
      simp only [cmpRows]
      split
      · rename_i h
        constructor
        · intro h'; exact absurd h' h
        · intro h'; cases h'; exact absurd (cmpV_eq.2 rfl) h
      · rename_i h
        have h : cmpV a b = 0 := Classical.not_not.1 h
        rw [ih]
        have := cmpV_eq.1 h
        subst this
        simp
theorem cmpRows_drop {l m : List Val} {i : Nat} (h : l.take i = m.take i) (hi : i ≤ l.length) (hm : i ≤ m.length) : cmpRows l m = cmpRows (l.drop i) (m.drop i) := by
  induction i generalizing l m with
  | zero => simp
  | succ i ih => cases l with
    | nil => simp at hi
    | cons a l => cases m with
      | nil => simp at hm
      | cons b m =>
        simp only [List.take_succ_cons, List.cons.injEq] at h
        obtain ⟨rfl, h⟩ := h
        simp only [List.length_cons] at hi hm
        have : cmpRows (a :: l) (a :: m) = cmpRows l m := by simp only [cmpRows]; rw [if_neg (by simp [cmpV_eq])]
        rw [this, ih h (by omega) (by omega)]
        rfl

theorem compareRows_g {va vb : Value} {l m : List Val} (ra : rowR va l B) (rb : rowR vb m B) (hl : l.length ≤ 4611686018427387904) : Gives Try.prog B (sCall F_errataref03_CompareRows #[va, vb]) (.int .i64 (cmpRows l m)) := by
  refine Gives.intro fun B' w K base h k => ?_
  replace ra := base ra
  replace rb := base rb
  refine errataref03_CompareRows.up (errataref03_CompareRows.call ?_)
  unfold errataref03_CompareRows.pt
  refine LETJ_intro fun J hJ => ?_
  have hJ2 : ∀ w' (i : Nat), l.take i = m.take i → i ≤ l.length → i ≤ m.length → (i = l.length ∨ i = m.length) → Rel B' w' [] → J () w' := by
    intro w' i h1 h2 h3 h4 h
    refine hJ _ _ ?_
    simp -zeta only [rowR.len ra sl_s_api_Value, rowR.len rb sl_s_api_Value, bin_lss, bin_gtr, ifB_dec]
    have hd := cmpRows_drop h1 h2 h3
    rw [hd] at k
    refine ⟨fun e => ?_, fun e => ⟨fun e' => ?_, fun e' => ?_⟩⟩
    · have : i = l.length := by omega
      subst this
      rw [List.drop_length, List.drop_eq_getElem_cons (by omega)] at k
      exact k _ _ h
    · have : i = m.length := by omega
      subst this
      rw [List.drop_length, List.drop_eq_getElem_cons (by omega)] at k
      exact k _ _ h
    · rw [List.drop_of_length_le (by omega), List.drop_of_length_le (by omega)] at k
      exact k _ _ h
  clear hJ
  refine LOOP_intro (fun x w' => ∃ i : Nat, i ≤ l.length ∧ i ≤ m.length ∧ x = (.int .i64 i, ()) ∧ l.take i = m.take i ∧ Rel B' w' []) (fun x _ => l.length - (match x.1 with | .int _ n => n.toNat | _ => 0)) ⟨0, Nat.zero_le _, Nat.zero_le _, rfl, rfl, h⟩ ?_
  clear h
  rintro x w1 ⟨i, hi, hi', rfl, he, h⟩ next hnext
  simp -zeta only [rowR.len ra sl_s_api_Value, rowR.len rb sl_s_api_Value, bin_lss, ifB_dec]
  refine ⟨fun h1 => ⟨fun h2 => ?_, fun h2 => hJ2 _ i he hi hi' (by omega) h⟩, fun h1 => hJ2 _ i he hi hi' (by omega) h⟩
  have hil : i < l.length := by omega
  have him : i < m.length := by omega
  have h := h.tick
  obtain ⟨g, o, hx, hc⟩ := rowR.idx ra sl_s_api_Value hil
  obtain ⟨g', o', hx', hc'⟩ := rowR.idx rb sl_s_api_Value him
  simp -zeta only [hx, hx', cellsR.ldAg (h.hereB hc) ag_api_Value rfl, cellsR.ldAg (h.hereB hc') ag_api_Value rfl]
  refine h.ask (fun _ _ _ => compare_g l[i] m[i]) fun w2 h => ?_
  simp -zeta only [bin_neq, ifB_not, ifB_dec]
  have hd := cmpRows_drop he hi hi'
  rw [List.drop_eq_getElem_cons hil, List.drop_eq_getElem_cons him] at hd
  refine ⟨fun e => ?_, fun e => ?_⟩
  · rw [bin_add, wrap_id (by omega) (by omega)]
    refine hnext _ _ ⟨i + 1, by omega, by omega, rfl, ?_, h⟩ (by simp only; omega)
    rw [List.take_succ_eq_append_getElem hil, List.take_succ_eq_append_getElem him, he, cmpV_eq.1 e]
  · have : cmpRows l m = cmpV l[i] m[i] := by rw [hd]; simp only [cmpRows]; rw [if_pos e]
    rw [this] at k
    exact k _ _ h

theorem sameRow_g {va vb : Value} {l m : List Val} (ra : rowR va l B) (rb : rowR vb m B) (hl : l.length ≤ 4611686018427387904) : Gives Try.prog B (sCall F_errataref03_Same #[va, vb]) (.bool (decide (l = m))) := by
  refine Gives.intro fun B' w K base h k => ?_
  refine errataref03_Same.up (errataref03_Same.call ?_)
  unfold errataref03_Same.pt
  refine h.ask (fun _ _ base2 => compareRows_g (base2 (base ra)) (base2 (base rb)) hl) fun w1 h => ?_
  rw [bin_eql]
  have : decide (cmpRows l m = 0) = decide (l = m) := by rw [decide_eq_decide]; exact cmpRows_eq
  rw [this]
  exact k _ _ h

theorem Ev.ext_ {a b : Ev} (h0 : a.part = b.part) (h1 : a.pos = b.pos) (h2 : a.source = b.source) (h3 : a.schema = b.schema) (h4 : a.time = b.time) (h5 : a.row = b.row) : a = b := by
  cases a; cases b; simp_all
theorem sameEv_g {va vb : Value} {L M : EvL} (ra : evsR va L B) (rb : evsR vb M B) (hl : L.length ≤ 4611686018427387904) (hrl : ∀ p ∈ L, p.1.row.length ≤ 4611686018427387904) : Gives Try.prog B (sCall F_errataref12_Same #[va, vb]) (.bool (decide (evs L = evs M))) := by
  refine Gives.intro fun B' w K base h k => ?_
  have ra1 := base ra.1
  have rb1 := base rb.1
  have ra2 := base ra.2
  have rb2 := base rb.2
  refine errataref12_Same.up (errataref12_Same.call ?_)
  unfold errataref12_Same.pt
  have hL : (raws L).length = L.length := by simp [raws]
  have hM : (raws M).length = M.length := by simp [raws]
  simp -zeta only [rowR.len ra1 sl_s_api_Event, rowR.len rb1 sl_s_api_Event, hL, hM, bin_neq, ifB_not, ifB_dec]
  have no : ∀ w', Rel B' w' [] → evs L ≠ evs M → K (.bool false) w' := fun w' h hne => by
    rw [decide_eq_false hne] at k
    exact k _ _ h
  refine ⟨fun e => ?_, fun e => no _ h fun he => e (by have := congrArg List.length he; simp [evs] at this; omega)⟩
  have hlm : L.length = M.length := by omega
  refine LOOP_intro (fun x w' => ∃ i : Nat, i ≤ L.length ∧ x = (.int .i64 i, ()) ∧ (evs L).take i = (evs M).take i ∧ Rel B' w' []) (fun x _ => L.length - (match x.1 with | .int _ n => n.toNat | _ => 0)) ⟨0, Nat.zero_le _, rfl, rfl, h⟩ ?_
  clear h
  rintro x w1 ⟨i, hi, rfl, he, h⟩ next hnext
  simp -zeta only [bin_lss, ifB_dec]
  refine ⟨fun h1 => ?_, fun h1 => ?_⟩
  · have hil : i < L.length := by omega
    have him : i < M.length := by omega
    obtain ⟨g, o, hx, hc⟩ := rowR.idx ra1 sl_s_api_Event (i := i) (by omega)
    obtain ⟨g', o', hx', hc'⟩ := rowR.idx rb1 sl_s_api_Event (i := i) (by omega)
    have hel : (raws L)[i]'(by omega) = L[i].1.raw L[i].2 := by simp [raws]
    have hem : (raws M)[i]'(by omega) = M[i].1.raw M[i].2 := by simp [raws]
    rw [hel] at hc
    rw [hem] at hc'
    have rr1 : rowR L[i].2.1 L[i].1.row B' := ra2 L[i] (List.getElem_mem hil)
    have rr2 : rowR M[i].2.1 M[i].1.row B' := rb2 M[i] (List.getElem_mem him)
    simp -zeta only [hx, cellsR.ldAg (h.hereB hc) ag_api_Event rfl]
    refine h.allocAg (ds := (L[i].1.raw L[i].2).cs.toArray) z_api_Event rfl ag_api_Event rfl (fun v hv => Enc.one (L[i].1.raw L[i].2) v hv) fun bx w2 h => ?_
    simp -zeta only [hx', cellsR.ldAg (h.hereB hc') ag_api_Event rfl]
    refine h.allocAg (ds := (M[i].1.raw M[i].2).cs.toArray) z_api_Event rfl ag_api_Event rfl (fun v hv => Enc.one (M[i].1.raw M[i].2) v hv) fun by' w3 h => ?_
    have q : ∀ (h' : (evs L).take (i + 1) ≠ (evs M).take (i + 1)), evs L ≠ evs M := fun h' e => h' (by rw [e])
    have s1 : (evs L).take (i + 1) = (evs L).take i ++ [L[i].1] := by rw [List.take_succ_eq_append_getElem (by simpa [evs] using hil)]; simp [evs]
    have s2 : (evs M).take (i + 1) = (evs M).take i ++ [M[i].1] := by rw [List.take_succ_eq_append_getElem (by simpa [evs] using him)]; simp [evs]
    have ne : L[i].1 ≠ M[i].1 → evs L ≠ evs M := fun hne => q (by rw [s1, s2, he]; simpa using hne)
    simp -zeta only [field_addr f_api_Event_0, field_addr f_api_Event_1, field_addr f_api_Event_2, field_addr f_api_Event_3, field_addr f_api_Event_4, field_addr f_api_Event_5, Nat.zero_add,
      h.ld 0 rfl sc_int (o := 0) rfl, h.ld 0 rfl sc_int (o := 1) rfl, h.ld 0 rfl sc_string (o := 2) rfl, h.ld 0 rfl sc_int (o := 3) rfl, h.ld 0 rfl sc_int (o := 4) rfl, h.ld 0 rfl sc_s_api_Value (o := 5) rfl,
      h.ld 1 rfl sc_int (o := 0) rfl, h.ld 1 rfl sc_int (o := 1) rfl, h.ld 1 rfl sc_string (o := 2) rfl, h.ld 1 rfl sc_int (o := 3) rfl, h.ld 1 rfl sc_int (o := 4) rfl, h.ld 1 rfl sc_s_api_Value (o := 5) rfl, bin_neq, neq_str, ifB_not, ifB_dec]
    have no' : L[i].1 ≠ M[i].1 → K (.bool false) w3 := fun hne => no _ h.nil (ne hne)
    refine ⟨fun (p0 : L[i].1.part = M[i].1.part) => ⟨fun (p1 : L[i].1.pos = M[i].1.pos) => ⟨fun (p2 : L[i].1.source = M[i].1.source) => ⟨fun (p3 : L[i].1.schema = M[i].1.schema) => ⟨fun (p4 : L[i].1.time = M[i].1.time) => ?_, fun (p : ¬ L[i].1.time = M[i].1.time) => no' fun e => p (by rw [e])⟩, fun (p : ¬ L[i].1.schema = M[i].1.schema) => no' fun e => p (by rw [e])⟩,
      fun (p : ¬ L[i].1.source = M[i].1.source) => no' fun e => p (by rw [e])⟩, fun (p : ¬ L[i].1.pos = M[i].1.pos) => no' fun e => p (by rw [e])⟩, fun (p : ¬ L[i].1.part = M[i].1.part) => no' fun e => p (by rw [e])⟩
    refine h.ask (fun _ _ base2 => sameRow_g (base2 rr1) (base2 rr2) (hrl _ (List.getElem_mem hil))) fun w4 h => ?_
    simp -zeta only [un_not, ifB_not, ifB_dec]
    refine ⟨fun p5 => ?_, fun p => no _ h.nil (ne fun e => p (by rw [e]))⟩
    rw [bin_add, wrap_id (by omega) (by omega)]
    refine hnext _ _ ⟨i + 1, by omega, rfl, ?_, h.nil⟩ (by simp only; omega)
    rw [s1, s2, he]
    rw [Ev.ext_ p0 p1 p2 p3 p4 p5]
  · have : i = L.length := by omega
    subst this
    rw [List.take_of_length_le (by simp [evs]), List.take_of_length_le (by simp [evs]; omega)] at he
    rw [decide_eq_true he] at k
    exact k _ _ h
end
end Go.Proofs.Ytmllhipiahlihaa
