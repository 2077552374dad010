/-
  The text of a value and the value of a text; where a value's text ends; rows. No condition.
-/
import Derived.Test.YtifhbaphlmhoeaaGreatDoorValE
--@auto
namespace Go.Proofs.YtifhbaphlmhoeaaGreatDoor
open Go.RowKit
set_option maxRecDepth 100000

/-! ### What a value's text looks like -/
theorem right_kind {v : ValD} (h : vRight v = true) : (v.kind = 0 ∧ v = vInt v.n) ∨ (v.kind = 1 ∧ v = vText v.s ∧ (bl v.s).length ≤ 200) ∨ (v = vBool false) ∨ (v = vBool true) := by
  unfold vRight at h
  by_cases c0 : v.kind = 0
  · rw [if_pos c0] at h
    exact .inl ⟨c0, of_decide_eq_true h⟩
  rw [if_neg c0] at h
  by_cases c1 : v.kind = 1
  · rw [if_pos c1, Bool.and_eq_true] at h
    refine .inr (.inl ⟨c1, of_decide_eq_true h.1, ?_⟩)
    have := of_decide_eq_true h.2
    rw [bl_length]; omega
  rw [if_neg c1, Bool.or_eq_true] at h
  exact .inr (.inr (h.imp of_decide_eq_true of_decide_eq_true))
theorem right_int (n : Int) : vRight (vInt n) = true := by unfold vRight vInt; simp
theorem right_text {s : ByteArray} (h : (bl s).length ≤ 200) : vRight (vText s) = true := by
  unfold vRight vText
  rw [bl_length] at h
  have : (s.size : Int) ≤ 200 := by omega
  simp [this]
theorem right_bool (b : Bool) : vRight (vBool b) = true := by cases b <;> rfl
theorem show_int (n : Int) : showS (vInt n) = Go.Lib.itoa n := by
  unfold showS
  rw [right_int, if_neg (by decide), if_pos (show (vInt n).kind = 0 from rfl)]; rfl
theorem show_text {s : ByteArray} (h : (bl s).length ≤ 200) : showS (vText s) = quoteS (bl s) := by
  unfold showS
  rw [right_text h, if_neg (by decide), if_neg (by show ¬ (1 : Int) = 0; decide), if_pos (show (vText s).kind = 1 from rfl)]; rfl
theorem show_true : showS (vBool true) = trueL := rfl
theorem show_false : showS (vBool false) = falseL := rfl
theorem show_wrong {v : ValD} (h : vRight v = false) : showS v = [] := by unfold showS; rw [if_pos h]
theorem itoa_bytes {n : Int} {s : Bs} {b : UInt8} (h : s = Go.Lib.itoa n) (hb : b ∈ s) : b = 45 ∨ (48 ≤ b.toNat ∧ b.toNat ≤ 57) := itoa_byte (by rw [← h]; exact hb)
theorem itoa_ne_of {n : Int} {s : Bs} (b : UInt8) (hb : b ∈ s) (h45 : b ≠ 45) (hd : ¬ (48 ≤ b.toNat ∧ b.toNat ≤ 57)) : s ≠ Go.Lib.itoa n := fun h => (itoa_bytes h hb).elim h45 hd
theorem itoa_ne_true (n : Int) : trueL ≠ Go.Lib.itoa n := itoa_ne_of 116 (by decide) (by decide) (by decide)
theorem itoa_ne_false (n : Int) : falseL ≠ Go.Lib.itoa n := itoa_ne_of 102 (by decide) (by decide) (by decide)
theorem itoa_ne_quote (n : Int) (t : Bs) : quoteS t ≠ Go.Lib.itoa n := itoa_ne_of 34 (by unfold quoteS; exact List.mem_cons_self) (by decide) (by decide)
theorem quote_ne_true (t : Bs) : quoteS t ≠ trueL := fun h => by unfold quoteS trueL at h; injection h with h _; exact absurd h (by decide)
theorem quote_ne_false (t : Bs) : quoteS t ≠ falseL := fun h => by unfold quoteS falseL at h; injection h with h _; exact absurd h (by decide)

/-- A value's text is read as the value. -/
theorem parse_show {v : ValD} (h : vRight v = true) (hn : inI v.n) : parseV (showS v) = some v := by
  rcases right_kind h with ⟨_, e⟩ | ⟨_, e, hl⟩ | e | e
  · rw [e, show_int]
    unfold parseV
    rw [if_neg fun hh => itoa_ne_true _ hh.symm, if_neg fun hh => itoa_ne_false _ hh.symm, intOf_itoa hn]
  · rw [e, show_text hl]
    unfold parseV
    rw [if_neg (quote_ne_true _), if_neg (quote_ne_false _), intOf_none fun n _ => itoa_ne_quote n _, unquote_quote]
    simp only
    rw [if_pos hl, ofL_bl]
  · rw [e, show_false]
    unfold parseV
    rw [if_neg (by decide), if_pos rfl]
  · rw [e, show_true]
    unfold parseV
    rw [if_pos rfl]
/-- What is read of a text has this text. -/
theorem parse_back {s : Bs} {v : ValD} (h : parseV s = some v) : showS v = s ∧ vRight v = true ∧ inI v.n ∧ inI v.kind ∧ (bl v.s).length ≤ 200 := by
  unfold parseV at h
  by_cases c0 : s = trueL
  · rw [if_pos c0] at h; injection h with h; subst h; subst c0
    exact ⟨rfl, rfl, by show inI 1; decide, by show inI 2; decide, by show 0 ≤ 200; decide⟩
  rw [if_neg c0] at h
  by_cases c1 : s = falseL
  · rw [if_pos c1] at h; injection h with h; subst h; subst c1
    exact ⟨rfl, rfl, by show inI 0; decide, by show inI 2; decide, by show 0 ≤ 200; decide⟩
  rw [if_neg c1] at h
  cases hi : intOf s with
  | some n =>
    rw [hi] at h; simp only at h; injection h with h; subst h
    obtain ⟨h1, h2⟩ := intOf_back hi
    exact ⟨by rw [show_int, h2], right_int n, h1, by show inI 0; decide, by show 0 ≤ 200; decide⟩
  | none =>
    rw [hi] at h; simp only at h
    cases hu : unquoteS s with
    | none => rw [hu] at h; cases h
    | some t =>
      rw [hu] at h; simp only at h
      by_cases c2 : t.length ≤ 200
      · rw [if_pos c2] at h; injection h with h; subst h
        have hb : (bl (ofL t)).length ≤ 200 := by rw [bl_ofL]; exact c2
        refine ⟨?_, right_text hb, by show inI 0; decide, by show inI 1; decide, hb⟩
        rw [show_text hb, bl_ofL, unquote_back hu]
      · rw [if_neg c2] at h; cases h

/-! ### Where a value's text ends -/
theorem hexd_not (n : Nat) : hexd n ≠ 92 ∧ hexd n ≠ 34 := by
  have : ∀ x ∈ hexL, x ≠ 92 ∧ x ≠ 34 := by decide
  unfold hexd
  rw [List.getD_eq_getElem?_getD]
  cases h : hexL[n]? with
  | none => exact ⟨by show (0 : UInt8) ≠ 92; decide, by show (0 : UInt8) ≠ 34; decide⟩
  | some x => exact this x (List.mem_of_getElem? h)
theorem endQ_escB (c : UInt8) (r : Bs) : endQ (escB c ++ r) = (escB c).length + endQ r := by
  unfold escB
  by_cases c1 : c.toNat = 34 ∨ c.toNat = 92
  · rw [if_pos c1]
    simp only [List.cons_append, List.nil_append, endQ_esc, List.length_cons, List.length_nil]; omega
  rw [if_neg c1]
  by_cases c2 : c.toNat = 10
  · rw [if_pos c2]
    simp only [List.cons_append, List.nil_append, endQ_esc, List.length_cons, List.length_nil]; omega
  rw [if_neg c2]
  by_cases c3 : 32 ≤ c.toNat ∧ c.toNat ≤ 126
  · rw [if_pos c3]
    simp only [List.cons_append, List.nil_append, List.length_cons, List.length_nil]
    rw [endQ_other (fun h => c1 (.inr (by rw [h]; rfl))) (fun h => c1 (.inl (by rw [h]; rfl)))]; omega
  rw [if_neg c3]
  simp only [List.cons_append, List.nil_append, endQ_esc, List.length_cons, List.length_nil]
  rw [endQ_other (hexd_not _).1 (hexd_not _).2, endQ_other (hexd_not _).1 (hexd_not _).2]; omega
theorem endQ_body : ∀ (t r : Bs), endQ (t.flatMap escB ++ 34 :: r) = (t.flatMap escB).length + 1
  | [], r => by simp [endQ_quote]
  | c :: t, r => by
    rw [List.flatMap_cons, List.append_assoc, endQ_escB, endQ_body t r, List.length_append]; omega
theorem endQ_le : ∀ (s : Bs), endQ s ≤ s.length
  | [] => by rw [endQ_nil]; exact Nat.le_refl _
  | [c] => by
    by_cases h1 : c = 92
    · rw [h1, endQ_last]; exact Nat.le_refl _
    by_cases h2 : c = 34
    · rw [h2, endQ_quote]; exact Nat.le_refl _
    rw [endQ_other h1 h2, endQ_nil]; exact Nat.le_refl _
  | c :: d :: r => by
    by_cases h1 : c = 92
    · rw [h1, endQ_esc]; have := endQ_le r; simp only [List.length_cons]; omega
    by_cases h2 : c = 34
    · rw [h2, endQ_quote]; simp only [List.length_cons]; omega
    rw [endQ_other h1 h2]; have := endQ_le (d :: r); simp only [List.length_cons] at this ⊢; omega
/-- The end lies in the string. -/
theorem endS_nat (s : Bs) : ∃ n : Nat, n ≤ s.length ∧ endS s = n := by
  unfold endS
  by_cases c : s.head? = some 34
  · rw [if_pos c]
    refine ⟨_, ?_, rfl⟩
    cases s with
    | nil => cases c
    | cons a s => have := endQ_le s; simp only [List.tail_cons, List.length_cons]; omega
  · rw [if_neg c]
    by_cases h : (44 : UInt8) ∈ s
    · obtain ⟨a, r, rfl, ha⟩ := first_split h
      rw [List.append_assoc, List.cons_append, index_first _ ha]
      exact ⟨a.length, by rw [List.length_append]; omega, rfl⟩
    · rw [index_first [] h]
      exact ⟨s.length, Nat.le_refl _, rfl⟩
/-- Behind a value's text: nothing, or a comma. -/
abbrev Stop (r : Bs) : Prop := r = [] ∨ r.head? = some 44
theorem endS_plain {a r : Bs} (ha : (44 : UInt8) ∉ a) (hq : a.head? ≠ some 34) (hne : a ≠ []) (hr : Stop r) : endS (a ++ r) = a.length := by
  have hh : (a ++ r).head? = a.head? := by cases a with
    | nil => exact absurd rfl hne
    | cons x a => rfl
  unfold endS
  rw [hh, if_neg hq]
  rcases hr with rfl | hr
  · rw [List.append_nil, index_first [] ha]
  · cases r with
    | nil => cases hr
    | cons c r =>
      injection hr with hr
      subst hr
      rw [List.append_assoc, List.cons_append, index_first _ ha]
theorem end_show {v : ValD} (h : vRight v = true) {r : Bs} (hr : Stop r) : endS (showS v ++ r) = (showS v).length := by
  rcases right_kind h with ⟨_, e⟩ | ⟨_, e, hl⟩ | e | e
  · rw [e, show_int]
    refine endS_plain (fun hm => ?_) (fun hh => ?_) (itoa_ne _) hr
    · exact (itoa_byte hm).elim (by decide) (by decide)
    · exact (itoa_byte (List.mem_of_mem_head? hh)).elim (by decide) (by decide)
  · rw [e, show_text hl]
    unfold endS quoteS
    rw [if_pos (by rfl)]
    simp only [List.cons_append, List.tail_cons, List.append_assoc, List.nil_append, endQ_body, List.length_cons, List.length_append, List.length_nil]
    omega
  · rw [e, show_false]
    exact endS_plain (by decide) (by decide) (by decide) hr
  · rw [e, show_true]
    exact endS_plain (by decide) (by decide) (by decide) hr
theorem show_ne {v : ValD} (h : vRight v = true) : showS v ≠ [] := by
  rcases right_kind h with ⟨_, e⟩ | ⟨_, e, hl⟩ | e | e <;> rw [e]
  · rw [show_int]; exact itoa_ne _
  · rw [show_text hl]; unfold quoteS; exact List.cons_ne_nil _ _
  · exact (by decide : falseL ≠ [])
  · exact (by decide : trueL ≠ [])

/-! ### Rows -/
def sepL : Bs := [44, 32]
/-- The values of a row's text, one after the other. -/
noncomputable def parseLoop : Nat → Bs → List ValD → Option (List ValD)
  | 0, _, _ => none
  | k + 1, s, acc => match parseV (s.take (endS s).toNat) with
    | none => none
    | some v => if s.drop (endS s).toNat = [] then some (acc ++ [v]) else if Go.Lib.hasPrefix (s.drop (endS s).toNat) sepL = true then parseLoop k ((s.drop (endS s).toNat).drop 2) (acc ++ [v]) else none
noncomputable def parseRowS (s : Bs) : Option (List ValD) := if s.length < 2 ∨ s.head? ≠ some 40 ∨ s.getLast? ≠ some 41 then none else
  if (s.drop 1).take (s.length - 2) = [] then some [] else parseLoop (((s.drop 1).take (s.length - 2)).length + 1) ((s.drop 1).take (s.length - 2)) []
def joinL : List Bs → Bs
  | [] => []
  | [a] => a
  | a :: b :: r => a ++ sepL ++ joinL (b :: r)
def showRowS (l : List ValD) : Bs := if l.all vRight then 40 :: (joinL (l.map showS) ++ [41]) else []
theorem prefix_sep (r : Bs) : Go.Lib.hasPrefix r sepL = true ↔ ∃ r', r = sepL ++ r' := by
  unfold Go.Lib.hasPrefix
  constructor
  · intro h
    have h := List.isPrefixOf_iff_prefix.1 h
    obtain ⟨r', h⟩ := h
    exact ⟨r', h.symm⟩
  · rintro ⟨r', rfl⟩
    exact List.isPrefixOf_iff_prefix.2 ⟨r', rfl⟩
theorem parseLoop_back : ∀ (k : Nat) (s : Bs) (acc l : List ValD), parseLoop k s acc = some l → ∃ m, m ≠ [] ∧ l = acc ++ m ∧ s = joinL (m.map showS) ∧ ∀ v ∈ m, vRight v = true ∧ inI v.n ∧ inI v.kind ∧ (bl v.s).length ≤ 200
  | 0, s, acc, l, h => by rw [parseLoop] at h; cases h
  | k + 1, s, acc, l, h => by
    rw [parseLoop] at h
    have hs := List.take_append_drop (endS s).toNat s
    cases hp : parseV (s.take (endS s).toNat) with
    | none => rw [hp] at h; cases h
    | some v =>
      rw [hp] at h; simp only at h
      obtain ⟨h1, h2, h3, h4⟩ := parse_back hp
      by_cases c : s.drop (endS s).toNat = []
      · rw [if_pos c] at h; injection h with h
        refine ⟨[v], by simp, h.symm, ?_, fun x hx => by rw [List.mem_singleton.1 hx]; exact ⟨h2, h3, h4⟩⟩
        rw [c, List.append_nil] at hs
        show s = showS v
        rw [h1, hs]
      · rw [if_neg c] at h
        by_cases c2 : Go.Lib.hasPrefix (s.drop (endS s).toNat) sepL = true
        · rw [if_pos c2] at h
          obtain ⟨r', hr⟩ := (prefix_sep _).1 c2
          obtain ⟨m, hm, e1, e2, e3⟩ := parseLoop_back k _ _ _ h
          refine ⟨v :: m, by simp, by rw [e1]; simp, ?_, fun x hx => ?_⟩
          · have e4 : (s.drop (endS s).toNat).drop 2 = r' := by rw [hr]; rfl
            rw [e4] at e2
            cases m with
            | nil => exact absurd rfl hm
            | cons a m =>
              show s = showS v ++ sepL ++ joinL ((a :: m).map showS)
              rw [← e2, h1, List.append_assoc, ← hr, hs]
          · rcases List.mem_cons.1 hx with rfl | hx
            · exact ⟨h2, h3, h4⟩
            · exact e3 x hx
        · rw [if_neg c2] at h; cases h
theorem parseLoop_show : ∀ (m : List ValD) (k : Nat) (acc : List ValD), m ≠ [] → (joinL (m.map showS)).length < k → (∀ v ∈ m, vRight v = true ∧ inI v.n) → parseLoop k (joinL (m.map showS)) acc = some (acc ++ m)
  | [], k, acc, h, _, _ => absurd rfl h
  | m, 0, acc, _, hk, _ => absurd hk (Nat.not_lt_zero _)
  | [v], k + 1, acc, _, hk, hg => by
    obtain ⟨h1, h2⟩ := hg v List.mem_cons_self
    show parseLoop (k + 1) (showS v) acc = _
    have he := end_show h1 (r := []) (.inl rfl)
    rw [List.append_nil] at he
    rw [parseLoop, he, Int.toNat_natCast, List.take_length, parse_show h1 h2]
    simp only
    rw [List.drop_length, if_pos rfl]
  | v :: a :: m, k + 1, acc, _, hk, hg => by
    obtain ⟨h1, h2⟩ := hg v List.mem_cons_self
    have ej : joinL ((v :: a :: m).map showS) = showS v ++ (sepL ++ joinL ((a :: m).map showS)) := by
      show showS v ++ sepL ++ joinL ((a :: m).map showS) = _
      rw [List.append_assoc]
    rw [ej] at hk ⊢
    have he := end_show h1 (r := sepL ++ joinL ((a :: m).map showS)) (.inr rfl)
    rw [parseLoop, he, Int.toNat_natCast, List.take_left, parse_show h1 h2]
    simp only
    rw [List.drop_left, if_neg (by unfold sepL; simp), if_pos ((prefix_sep _).2 ⟨_, rfl⟩)]
    have e2 : (sepL ++ joinL ((a :: m).map showS)).drop 2 = joinL ((a :: m).map showS) := rfl
    rw [e2, parseLoop_show (a :: m) k _ (by simp) (by rw [List.length_append, List.length_append] at hk; have : sepL.length = 2 := rfl; omega) fun x hx => hg x (List.mem_cons_of_mem _ hx)]
    simp
theorem inner_row (t : Bs) : ((40 :: (t ++ [41])).drop 1).take ((40 :: (t ++ [41])).length - 2) = t := by
  simp only [List.drop_succ_cons, List.drop_zero, List.length_cons, List.length_append, List.length_nil]
  rw [show t.length + (0 + 1) + 1 - 2 = t.length by omega, List.take_left]
theorem outer_row {s : Bs} (h : ¬ (s.length < 2 ∨ s.head? ≠ some 40 ∨ s.getLast? ≠ some 41)) : s = 40 :: ((s.drop 1).take (s.length - 2) ++ [41]) := by
  obtain ⟨h1, h2⟩ := not_or.1 h
  obtain ⟨h2, h3⟩ := not_or.1 h2
  have h2 := Classical.not_not.1 h2
  have h3 := Classical.not_not.1 h3
  cases s with
  | nil => cases h2
  | cons a s =>
    injection h2 with h2
    subst h2
    have hs : s ≠ [] := fun hh => h1 (by rw [hh]; simp)
    rw [List.getLast?_cons, List.getLast?_eq_some_getLast hs] at h3
    simp only [Option.getD_some, Option.some.injEq] at h3
    have := List.dropLast_concat_getLast hs
    rw [h3] at this
    simp only [List.drop_succ_cons, List.drop_zero, List.length_cons]
    rw [show s.length + 1 - 2 = s.length - 1 by omega, ← List.dropLast_eq_take, this]
/-- What is read of a row's text has this text. -/
theorem parseRow_back {s : Bs} {l : List ValD} (h : parseRowS s = some l) : showRowS l = s ∧ ∀ v ∈ l, vRight v = true ∧ inI v.n ∧ inI v.kind ∧ (bl v.s).length ≤ 200 := by
  unfold parseRowS at h
  by_cases c : s.length < 2 ∨ s.head? ≠ some 40 ∨ s.getLast? ≠ some 41
  · rw [if_pos c] at h; cases h
  rw [if_neg c] at h
  have hs := outer_row c
  by_cases c2 : (s.drop 1).take (s.length - 2) = []
  · rw [if_pos c2] at h; injection h with h; subst h
    refine ⟨?_, fun v hv => by cases hv⟩
    rw [c2] at hs
    rw [hs]; rfl
  · rw [if_neg c2] at h
    obtain ⟨m, _, e1, e2, e3⟩ := parseLoop_back _ _ _ _ h
    rw [List.nil_append] at e1
    subst e1
    refine ⟨?_, e3⟩
    unfold showRowS
    rw [if_pos (List.all_eq_true.2 fun v hv => (e3 v hv).1), ← e2]
    exact hs.symm
theorem joinL_nil : ∀ {m : List ValD}, m ≠ [] → (∀ v ∈ m, vRight v = true) → joinL (m.map showS) ≠ []
  | [], h, _ => absurd rfl h
  | [v], _, hg => show_ne (hg v List.mem_cons_self)
  | v :: a :: m, _, hg => by
    show showS v ++ sepL ++ joinL ((a :: m).map showS) ≠ []
    simp [sepL]
/-- A row's text is read as the row. -/
theorem parseRow_show {l : List ValD} (hg : ∀ v ∈ l, vRight v = true ∧ inI v.n) : parseRowS (showRowS l) = some l := by
  unfold showRowS
  rw [if_pos (List.all_eq_true.2 fun v hv => (hg v hv).1)]
  unfold parseRowS
  rw [if_neg, inner_row]
  · by_cases c : l = []
    · subst c; rw [if_pos (by rfl)]
    · rw [if_neg (joinL_nil c fun v hv => (hg v hv).1), parseLoop_show l _ [] c (Nat.lt_succ_self _) hg, List.nil_append]
  · refine not_or.2 ⟨by simp, not_or.2 ⟨fun h => h rfl, fun h => h ?_⟩⟩
    rw [List.getLast?_cons, List.getLast?_append]; simp
theorem parseRow_nil : parseRowS [] = none := by unfold parseRowS; rw [if_pos (.inl (by decide))]
end Go.Proofs.YtifhbaphlmhoeaaGreatDoor
