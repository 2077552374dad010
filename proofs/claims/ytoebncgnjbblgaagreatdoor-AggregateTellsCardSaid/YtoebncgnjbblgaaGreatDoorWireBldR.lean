/-
  Builder.WriteString where a row of one's own lies beside the builder. No condition.
-/
import Derived.Test.YtoebncgnjbblgaaGreatDoorWiA
namespace Go.Proofs.YtoebncgnjbblgaaGreatDoor
open Go.RowKit
set_option maxRecDepth 100000

section
variable {w : World}
theorem bCheckK {lo b : Nat} {bs : List Value} {K : Value → World → Prop} (h : Lib.IsBuilderF T_strings_Builder T_uint8 lo b bs w)
    (k : ∀ w1, Lib.BuilderAtF T_strings_Builder T_uint8 lo b (.pointer (some ⟨b, 0, none⟩)) bs w1 → Below lo w w1 → (∀ j, j < w.heap.size → j ≠ b → w1.heap[j]? = w.heap[j]?) → K (.tuple #[]) w1) :
    upK Tryz.prog (sCall F_strings_Builder_copyCheck #[.pointer (some ⟨b, 0, none⟩)]) w K := by
  obtain ⟨j, hj, hjs⟩ := builder_info
  have hpt : Tryz.prog.underlying T_p_strings_Builder = some (.pointer T_strings_Builder) := by kernel_rfl
  have hup : Tryz.prog.underlying T_unsafe_Pointer = some .unsafePointer := by kernel_rfl
  refine strings_Builder_copyCheck.up (strings_Builder_copyCheck.call ?_)
  unfold strings_Builder_copyCheck.pt
  rcases h with h | h
  · simp -zeta only [nil_ptr, field_addr f_strings_Builder_0, Nat.add_zero, ld_sc sc_p_strings_Builder h.cell0, eql_pnil_pnil U_p_strings_Builder, ifB_true]
    refine upK_of (vN_run (Lib.run_to_unsafe (w := w) ⟨b, 0, none⟩ hpt hup hj (by rw [hjs]; decide) h.shape (Nat.zero_lt_succ 1))) ?_
    refine noEscape_up ?_
    refine upK_of (vN_run (Lib.run_from_unsafe (w := w) ⟨b, 0, none⟩ hup hpt hj h.shape (by kernel_rfl))) ?_
    obtain ⟨h1, v, h2, h3, h4⟩ := h
    refine st_sc (c := fun j => if j = b then 1 else 0) (t := 1) sc_p_strings_Builder (cs := #[.pointer none, v]) ⟨if_pos rfl, h2⟩ (by show 0 < 2; omega) rfl fun _ st => ?_
    exact k _ (Lib.BuilderAtF.used ⟨h1, v, h2, h3, h4⟩ _) ((Below.refl lo w).setCell (p := ⟨b, 0, none⟩) h1 _) fun j hj hne => st.same j hj fun hh => by
      have hh : (if j = b then (1 : Nat) else 0) = 1 := hh
      rw [if_neg hne] at hh; cases hh
  · have hne : ∀ {Kp : Value → Prop} {xo yo : Operand}, pureK Tryz.prog (sBin .neq T_p_strings_Builder xo yo (.pointer (some ⟨b, 0, none⟩)) (.pointer (some ⟨b, 0, none⟩))) Kp = Kp (.bool false) := fun {Kp xo yo} => pureK_eq fun w => sBin_eq rfl (Lib.run_neq_ptr_same w ⟨b, 0, none⟩ hpt hj)
    simp -zeta only [nil_ptr, field_addr f_strings_Builder_0, Nat.add_zero, ld_sc sc_p_strings_Builder h.cell0, bin_eql_ptr_nil U_p_strings_Builder, ifB_false, hne]
    exact k _ h (Below.refl lo w) fun _ _ _ => rfl
theorem bWriteK {lo b : Nat} {bs : List Value} {s : ByteArray} {K : Value → World → Prop} (h : Lib.IsBuilderF T_strings_Builder T_uint8 lo b bs w) (hlen : bs.length + s.size ≤ 140737488355328) (hlo : lo ≤ w.heap.size)
    (k : ∀ v w', Lib.BuilderAtF T_strings_Builder T_uint8 lo b (.pointer (some ⟨b, 0, none⟩)) (bs ++ Lib.strCells s) w' → Below lo w w' →
      (∀ j, j < w.heap.size → j ≠ b → (∀ cs fz, w.heap[j]? ≠ some (.cells cs T_uint8 fz)) → w'.heap[j]? = w.heap[j]?) → K v w') : upK Tryz.prog (sCall F_strings_Builder_WriteString #[.pointer (some ⟨b, 0, none⟩), .string s]) w K := by
  obtain ⟨i0, hi, hz0, hz1, hz2⟩ := info_parts (show (Tryz.prog.info? T_uint8).map (fun i => (i.zero, i.size, i.bytes)) = some (some (.int .u8 0), 1, 1) by kernel_rfl)
  refine strings_Builder_WriteString.up (strings_Builder_WriteString.call ?_)
  unfold strings_Builder_WriteString.pt
  refine bCheckK h fun w1 h1 hb1 hk1 => ?_
  obtain ⟨hB, v, hbk, hown, hne⟩ := h1
  have c1 : w1.cell? ⟨b, 1, none⟩ = some v := by rw [Lib.cell_of_heap hbk]; rfl
  simp -zeta only [nil_ptr, field_addr f_strings_Builder_1, Nat.zero_add, ld_sc sc_s_uint8 c1]
  have hlt : b < w1.heap.size := (Array.getElem?_eq_some_iff.1 hbk).1
  obtain ⟨v', w2, hr, hown', hgrow, _⟩ := Lib.run_append_own_stringF (P := Tryz.prog) w1 lo T_s_uint8 T_string T_s_uint8 T_uint8 i0 U_s_uint8 U_string hi hz0 hz1 hz2 v bs.length bs hown s (by unfold maxLen; omega) (by omega) (by have := hb1.size; omega)
  refine upK_of (vN_run hr) ?_
  have hb2 : w2.heap[b]? = some (.cells #[.pointer (some ⟨b, 0, none⟩), v] T_strings_Builder (0, 0)) := by
    rw [hgrow.block b hlt (fun e => hne e.symm)]
    exact hbk
  have h1c : v'.oneCell' = true := by
    rcases hown'.2 with ⟨hv, _⟩ | ⟨g, cap, cur, fz, hv, _⟩ <;> rw [hv] <;> rfl
  refine st_sc (c := fun j => if j = b then 1 else 0) (t := 1) sc_s_uint8 (cs := #[.pointer (some ⟨b, 0, none⟩), v]) ⟨if_pos rfl, hb2⟩ (by show 1 < 2; omega) h1c fun _ st => ?_
  simp -zeta only [len_string U_string]
  refine k _ _ (Lib.BuilderAtF.put (T := T_strings_Builder) (e := T_uint8) hB hb2 (bs' := bs ++ Lib.strCells s) (by simpa [Lib.strCells_length] using hown') (by decide)) ?_ ?_
  · exact (hb1.grown hgrow (by have := hb1.size; omega) (fun k hk => (hown.lt k hk).1)).setCell (p := ⟨b, 1, none⟩) hB _
  · intro j hj hjb hjt
    have hj1 : j < w1.heap.size := Nat.lt_of_lt_of_le hj hb1.size
    have e1 := hk1 j hj hjb
    have e2 : w2.heap[j]? = w1.heap[j]? := hgrow.block j hj1 fun e => by
      rcases hown.2 with ⟨hv, _⟩ | ⟨g, cap, cur, fz, hv, _, hg, _⟩
      · rw [hv] at e; cases e
      · rw [hv] at e
        have hgj : j = g := by injection e
        subst hgj
        rw [e1] at hg
        exact hjt _ _ hg
    have hj2 : j < w2.heap.size := by
      rcases Nat.lt_or_ge j w2.heap.size with h | h
      · exact h
      · rw [Array.getElem?_eq_none h, Array.getElem?_eq_getElem hj1] at e2; cases e2
    have hno : ¬ only 1 (if j = b then (1 : Nat) else 0) := fun hh => by
      have hh : (if j = b then (1 : Nat) else 0) = 1 := hh
      rw [if_neg hjb] at hh; cases hh
    rw [st.same j hj2 hno, e2, e1]
theorem bldD.of2 {lo b : Nat} {l : Bs} {S : Nat → Prop} (h : Lib.IsBuilderF T_strings_Builder T_uint8 lo b (Lib.byteCells l) w) (hb : lo ≤ b → S b) (hg : ∀ g cur fz, lo ≤ g → w.heap[g]? = some (.cells cur T_uint8 fz) → S g) : (bldD lo b l) ⟨w, S⟩ := by
  have key : ∀ p, (p = .pointer none ∨ p = .pointer (some ⟨b, 0, none⟩)) → Lib.BuilderAtF T_strings_Builder T_uint8 lo b p (Lib.byteCells l) w → (bldD lo b l) ⟨w, S⟩ := by
    rintro p hp ⟨h1, v, h2, ⟨_, h3⟩, h4⟩
    refine ⟨hb h1, h1, p, v, hp, h2, ?_⟩
    rw [byteCells_len] at h3
    rcases h3 with ⟨e1, e2⟩ | ⟨g, cap, cur, fz, e1, e2, e3, e4, e5, e6, e7, e8⟩
    · exact .inl ⟨e1, List.eq_nil_of_length_eq_zero e2⟩
    · refine .inr ⟨g, cap, cur, fz, e1, e2, fun hh => h4 ?_, hg g cur fz e2 e3, e3, by omega, e5, e6, by omega, by rw [Nat.mul_one] at e8; exact e8⟩
      rw [e1, hh]; rfl
  rcases h with h | h
  · exact key _ (.inl rfl) h
  · exact key _ (.inr rfl) h
theorem Rel.bldWriteR {B : Base} {lo b : Nat} {l : Bs} {s : ByteArray} {α : Type} [Enc α] {E : TypeId} {v : Value} {L : List α} {K : Value → World → Prop} (h : Rel B w [bldD lo b l, rowD E v L]) (hE : E ≠ T_uint8) (hlo : B.W.heap.size ≤ lo) (hlen : l.length + s.size ≤ 140737488355328)
    (k : ∀ u w', Rel B w' [bldD lo b (l ++ bl s), rowD E v L] → K u w') : upK Tryz.prog (sCall F_strings_Builder_WriteString #[.pointer (some ⟨b, 0, none⟩), .string s]) w K := by
  have hs : lo ≤ w.heap.size := by
    obtain ⟨_, h2, p, v, _, h4, _⟩ := h.here (i := 0) rfl
    have : b < w.heap.size := (Array.getElem?_eq_some_iff.1 h4).1
    have h2 : lo ≤ b := h2
    omega
  have hbl := h.here (i := 0) rfl
  obtain ⟨c, h⟩ := h
  have d0 := h.own 0 _ rfl
  have d1 := h.own 1 _ rfl
  refine bWriteK (bldD.is hbl) (by rw [byteCells_len]; exact hlen) hs fun u w' h1 h2 hk => ?_
  have cb : c b = 1 := d0.1
  have hg : ∀ g, v.ownBlock = some g → c g = 2 ∧ g < w.heap.size ∧ ∃ cur, w.heap[g]? = some (.cells cur E (0, 0)) ∧ w'.heap[g]? = some (.cells cur E (0, 0)) := by
    intro g e
    rcases d1 with ⟨e1, _⟩ | ⟨g2, cap, cur, e1, ⟨h3, h4⟩, _⟩
    · rw [e1] at e; cases e
    · rw [e1] at e
      have : g2 = g := by injection e
      subst this
      have h3 : c g2 = 2 := h3
      have h4 : w.heap[g2]? = some (.cells cur E (0, 0)) := h4
      have h5 := (Array.getElem?_eq_some_iff.1 h4).1
      refine ⟨h3, h5, cur, h4, ?_⟩
      rw [hk g2 h5 (fun hh => by rw [hh, cb] at h3; cases h3) (fun cs fz hh => by
        rw [h4] at hh
        injection hh with hh
        injection hh with _ hh
        exact hE hh)]
      exact h4
  refine k _ _ ⟨fun j => if v.ownBlock = some j then 2 else if j < lo then 0 else 1, h2.os.trans h.os, h2.tape.trans h.tape, h2.output.trans h.output, Nat.le_trans h.size h2.size, fun j hj hs => ?_, fun j hj hs => ?_, fun j d hj => ?_⟩
  · show (if v.ownBlock = some j then 2 else if j < lo then 0 else 1) = 0
    by_cases e : v.ownBlock = some j
    · have := (hg j e).1
      rw [h.keepc j hj hs] at this; cases this
    · rw [if_neg e, if_pos (by omega)]
  · rw [h2.block j (by omega)]; exact h.same j hj hs
  · cases j with
    | zero =>
      cases hj
      rw [bytes_str] at h1
      have e : Lib.byteCells (l ++ bl s) = Lib.byteCells l ++ Lib.byteCells (bl s) := by simp [Lib.byteCells]
      refine bldD.of2 (.inr (by rw [e]; exact h1)) (fun hb => ?_) fun g cur fz hl hh => ?_
      · show (if v.ownBlock = some b then 2 else if b < lo then 0 else 1) = 1
        rw [if_neg fun e => (by have := (hg b e).1; rw [cb] at this; cases this), if_neg (by omega)]
      · show (if v.ownBlock = some g then 2 else if g < lo then 0 else 1) = 1
        have hne : ¬ v.ownBlock = some g := fun e => by
          obtain ⟨_, _, cur2, _, h5⟩ := hg g e
          rw [h5] at hh
          injection hh with hh
          injection hh with _ hh
          exact hE hh
        rw [if_neg hne, if_neg (by omega)]
    | succ j => cases j with
      | zero =>
        cases hj
        rcases d1 with d1 | ⟨g2, cap, cur, e1, ⟨h3, h4⟩, hrest⟩
        · exact .inl d1
        · have e : v.ownBlock = some g2 := by rw [e1]; rfl
          obtain ⟨_, _, cur2, h5, h6⟩ := hg g2 e
          have h4 : w.heap[g2]? = some (.cells cur E (0, 0)) := h4
          have : cur2 = cur := by
            rw [h4] at h5
            injection h5 with h5
            injection h5 with h5
            exact h5.symm
          subst this
          refine .inr ⟨g2, cap, cur2, e1, ⟨?_, h6⟩, hrest⟩
          show (if v.ownBlock = some g2 then 2 else if g2 < lo then 0 else 1) = 2
          rw [if_pos e]
      | succ j => simp at hj
end
end Go.Proofs.YtoebncgnjbblgaaGreatDoor
