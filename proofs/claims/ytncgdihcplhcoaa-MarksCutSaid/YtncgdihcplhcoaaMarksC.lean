/-
  The trackers as things of one's own: their functions over them; the laws' do and small; MarksCut. No condition.
-/
import Derived.Test.YtncgdihcplhcoaaHeap
import Derived.Test.YtncgdihcplhcoaaMarksB
import Derived.Test.YtncgdihcplhcoaaTypes
namespace Go.Proofs.Ytncgdihcplhcoaa
open Go.RowKit

def marksD (b : Nat) (s : MarkS) : Dat := Dat.ex fun v => (Dat.pure (s.l.length ≤ 200)).and ((cellD b T_marks_Marks #[v, .int .i64 s.common]).star (rowD T_marks_input v s.l))

section
variable {K : Value → World → Prop} {B : Base} {w : World} {σ : List Dat} {b : Nat} {s : MarkS}

theorem marks_lift (h : Rel B w σ) (i : Nat) (hi : σ[i]? = some (marksD b s)) : ∃ c, MarksAt c 1 2 w b s ∧ ∀ c' w' s', Step (two 1 2) c w c' w' → MarksAt c' 1 2 w' b s' → Rel B w' (σ.set i (marksD b s')) := by
  obtain ⟨B', h', back, _, _⟩ := h.focus hi
  obtain ⟨v, h1⟩ := h'.ex (i := 0) rfl
  obtain ⟨hl, h1⟩ := h1.pureAnd (i := 0) rfl
  obtain ⟨c, h1⟩ := h1.split (i := 0) rfl
  refine ⟨c, ⟨v, h1.own 0 _ rfl, rowD.own (h1.own 1 _ rfl), hl⟩, fun c' w' s' st ⟨v', hb, hr, hl'⟩ => ?_⟩
  have h2 := h1.step2 (i := 0) (j := 1) rfl rfl (by omega) st (Blk.cellD hb) hr.rowD
  have h3 : Rel B' w' ([cellD b T_marks_Marks #[v', .int .i64 s'.common]] ++ [rowD T_marks_input v' s'.l]) := ⟨c', h2⟩
  have h4 := h3.fuse 0 rfl
  have h5 := h4.imp (i := 0) (e := marksD b s') rfl fun B hB => ⟨v', hl', hB⟩
  have := back w' _ [] h5
  simpa using this

theorem new_r (h : Rel B w σ) (n : Int) (k : ∀ b w', Rel B w' (σ ++ [marksD b (fresh n)]) → K (ptr b) w') : upK Try.prog (sCall F_marks_New #[.int .i64 n]) w K := by
  obtain ⟨B', h', back, _, _⟩ := h.frz
  obtain ⟨c, h'⟩ := h'
  refine new_sp (c := c) 1 2 n fun c' b w' st ⟨v, hb, hr, hl⟩ => ?_
  refine k b w' (back w' _ ?_)
  have h0 := h'.moved st (fun h => h) fun _ _ _ h => h
  have h3 : Rel B' w' ([cellD b T_marks_Marks #[v, .int .i64 (fresh n).common]] ++ [rowD T_marks_input v (fresh n).l]) := ⟨c', h0.os, h0.tape, h0.output, h0.size, h0.keepc, h0.same, fun j d hj => by
    match j with
    | 0 => cases hj; exact Blk.cellD hb
    | 1 => cases hj; exact hr.rowD
    | j + 2 => simp at hj⟩
  have h4 := h3.fuse 0 rfl
  exact h4.imp (i := 0) (e := marksD b (fresh n)) rfl fun B hB => ⟨v, hl, hB⟩

theorem note_r (h : Rel B w σ) (i : Nat) (hi : σ[i]? = some (marksD b s)) (x m : Int) (k : ∀ w', Rel B w' (σ.set i (marksD b (note s x m).2)) → K (.int .i64 (note s x m).1) w') : upK Try.prog (sCall F_marks_Marks_Note #[ptr b, .int .i64 x, .int .i64 m]) w K := by
  obtain ⟨c, hm, back⟩ := marks_lift h i hi
  exact note_sp hm (by omega) x m fun c' w' st hm' => k w' (back c' w' _ st hm')
theorem idle_r (h : Rel B w σ) (i : Nat) (hi : σ[i]? = some (marksD b s)) (x : Int) (on : Bool) (k : ∀ w', Rel B w' (σ.set i (marksD b (idle s x on).2)) → K (.int .i64 (idle s x on).1) w') : upK Try.prog (sCall F_marks_Marks_Idle #[ptr b, .int .i64 x, .bool on]) w K := by
  obtain ⟨c, hm, back⟩ := marks_lift h i hi
  exact idle_sp hm (by omega) x on fun c' w' st hm' => k w' (back c' w' _ st hm')
theorem of_r (h : Rel B w σ) (i : Nat) (hi : σ[i]? = some (marksD b s)) (x : Int) (k : ∀ w', Rel B w' σ → K (.tuple #[.int .i64 (if has s x = true then (inp s x).mark else -1), .bool (if has s x = true then (inp s x).idle else false)]) w') :
    upK Try.prog (sCall F_marks_Marks_Of #[ptr b, .int .i64 x]) w K := by
  obtain ⟨c, hm, back⟩ := marks_lift h i hi
  refine of_sp hm x fun w' st => k w' ?_
  have := back c w' s st.none (hm.frame st (fun h => h) fun h => h)
  rwa [set_same hi] at this
theorem mark_r (h : Rel B w σ) (i : Nat) (hi : σ[i]? = some (marksD b s)) (k : K (.int .i64 s.common) w) : upK Try.prog (sCall F_marks_Marks_Mark #[ptr b]) w K := by
  obtain ⟨c, hm, _⟩ := marks_lift h i hi
  exact mark_sp hm k
theorem count_r (h : Rel B w σ) (i : Nat) (hi : σ[i]? = some (marksD b s)) (k : K (.int .i64 s.l.length) w) : upK Try.prog (sCall F_marks_Marks_Count #[ptr b]) w K := by
  obtain ⟨c, hm, _⟩ := marks_lift h i hi
  exact count_sp hm k

theorem small_r (h : Rel B w σ) (k : ∀ w', Rel B w' σ → K (.bool true) w') : upK Try.prog (sCall F_erratalaw35_small #[]) w K := by
  refine erratalaw35_small.up (erratalaw35_small.call ?_)
  unfold erratalaw35_small.pt
  refine new_r h 2 fun b w1 h => ?_
  have hi : ∀ s, (σ ++ [marksD b s])[σ.length]? = some (marksD b s) := fun s => by rw [List.getElem?_append_right (Nat.le_refl _)]; simp
  have hs : ∀ s s', (σ ++ [marksD b s]).set σ.length (marksD b s') = σ ++ [marksD b s'] := fun s s' => by rw [List.set_append_right _ _ (Nat.le_refl _)]; simp
  simp -zeta only [bin_eql_ptr_nil UpM, ifB_false]
  refine note_r h _ (hi _) 0 5 fun w2 h => ?_
  rw [hs] at h
  refine mark_r h _ (hi _) ?_
  refine note_r h _ (hi _) 1 3 fun w3 h => ?_
  rw [hs] at h
  refine mark_r h _ (hi _) ?_
  refine idle_r h _ (hi _) 1 true fun w4 h => ?_
  rw [hs] at h
  refine mark_r h _ (hi _) ?_
  refine note_r h _ (hi _) 1 4 fun w5 h => ?_
  rw [hs] at h
  have e1 : (note (fresh 2) 0 5).2.common = -1 := by decide +kernel
  have e2 : (note (note (fresh 2) 0 5).2 1 3).2.common = 3 := by decide +kernel
  have e3 : (idle (note (note (fresh 2) 0 5).2 1 3).2 1 true).2.common = 5 := by decide +kernel
  have e4 : (note (idle (note (note (fresh 2) 0 5).2 1 3).2 1 true).2 1 4).2.common = 5 := by decide +kernel
  rw [e1, e2, e3]
  simp -zeta only [bin_eql, decide_true, ifB_true]
  refine mark_r h _ (hi _) ?_
  rw [e4]
  simp -zeta only [bin_eql, decide_true, ifB_true]
  refine cut_sp 100 40 10 ?_
  have e5 : cut 100 40 10 = 50 := by decide +kernel
  rw [e5]
  simp -zeta only [bin_eql, decide_true, ifB_true]
  refine cut_sp 45 40 10 ?_
  have e6 : cut 45 40 10 = 45 := by decide +kernel
  rw [e6]
  simp -zeta only [bin_eql, decide_true]
  exact k _ h.drop

abbrev OpM := D_erratalaw35_Op
theorem TO : sliceB Try.prog T_s_erratalaw35_Op T_erratalaw35_Op (Enc.sz OpM) 24 = true := by kernel_rfl
theorem TOag : agB Try.prog T_erratalaw35_Op 3 = true := by kernel_rfl
theorem TOz : (Try.prog.info? T_erratalaw35_Op).bind (·.zero) = some (.agg #[.int .i64 0, .int .i64 0, .int .i64 0]) := by kernel_rfl
theorem TO0 : fieldB Try.prog T_erratalaw35_Op 0 0 = true := by kernel_rfl
theorem TO1 : fieldB Try.prog T_erratalaw35_Op 1 1 = true := by kernel_rfl
theorem TO2 : fieldB Try.prog T_erratalaw35_Op 2 2 = true := by kernel_rfl
def oval (p : OpM) : Value := .agg #[.int .i64 p.do_, .int .i64 p.i, .int .i64 p.mark]
theorem and3 (a : Int) : IntKind.wrap .i64 (BitVec.ofInt IntKind.i64.bits a &&& BitVec.ofInt IntKind.i64.bits 3).toNat = a % 4 := and_low a 2 (by omega) 3 (by decide)
theorem and7 (a : Int) : IntKind.wrap .i64 (BitVec.ofInt IntKind.i64.bits a &&& BitVec.ofInt IntKind.i64.bits 7).toNat = a % 8 := and_low a 3 (by omega) 7 (by decide)
theorem and63 (a : Int) : IntKind.wrap .i64 (BitVec.ofInt IntKind.i64.bits a &&& BitVec.ofInt IntKind.i64.bits 63).toNat = a % 64 := and_low a 6 (by omega) 63 (by decide)

def doOp (s : MarkS) (x : OpM) : Int × MarkS := if x.do_ % 4 = 2 then idle s x.i true else if x.do_ % 4 = 3 then idle s x.i false else note s x.i x.mark
theorem do_r (h : Rel B w σ) (i : Nat) (hi : σ[i]? = some (marksD b s)) (x : OpM) (k : ∀ w', Rel B w' (σ.set i (marksD b (doOp s x).2)) → K (.int .i64 (doOp s x).1) w') : upK Try.prog (sCall F_erratalaw35_do #[ptr b, oval x]) w K := by
  refine erratalaw35_do.up (erratalaw35_do.call ?_)
  unfold erratalaw35_do.pt
  have hlt : i < σ.length := (List.getElem?_eq_some_iff.1 hi).1
  refine h.box fun b1 w1 h => ?_
  have hl : (σ ++ [cellD b1 T_erratalaw35_Op (oval x).cells])[σ.length]? = some (cellD b1 T_erratalaw35_Op #[.int .i64 x.do_, .int .i64 x.i, .int .i64 x.mark]) := by rw [List.getElem?_append_right (Nat.le_refl _)]; simp [oval, Value.cells]
  have hi' : (σ ++ [cellD b1 T_erratalaw35_Op (oval x).cells])[i]? = some (marksD b s) := by rw [List.getElem?_append_left hlt]; exact hi
  simp -zeta only [field_addr TO0, field_addr TO1, field_addr TO2, h.ld σ.length hl TI (o := 0) rfl, h.ld σ.length hl TI (o := 1) rfl, h.ld σ.length hl TI (o := 2) rfl, bin_and, and3, bin_eql, ifB_dec]
  have fin : ∀ w' s', Rel B w' ((σ ++ [cellD b1 T_erratalaw35_Op (oval x).cells]).set i (marksD b s')) → Rel B w' (σ.set i (marksD b s')) := fun w' s' h => by
    rw [List.set_append_left _ _ hlt] at h
    exact h.drop
  unfold doOp at k
  refine ⟨fun e => ?_, fun e => ⟨fun e' => ?_, fun e' => ?_⟩⟩
  · rw [if_pos e] at k
    exact idle_r h i hi' _ _ fun w' h => k w' (fin _ _ h)
  · rw [if_neg e, if_pos e'] at k
    exact idle_r h i hi' _ _ fun w' h => k w' (fin _ _ h)
  · rw [if_neg e, if_neg e'] at k
    exact note_r h i hi' _ _ fun w' h => k w' (fin _ _ h)
end

theorem marksCut_pt {W : World} {time now ahead : Int} (h1 : -9223372036854775808 ≤ time ∧ time ≤ 9223372036854775807) (h2 : -9223372036854775808 ≤ now ∧ now ≤ 9223372036854775807) (h3 : -9223372036854775808 ≤ ahead ∧ ahead ≤ 9223372036854775807) {K : Value → World → Prop}
    (fin : ∀ w' σ, Rel (lawB W) w' σ → K (.bool true) w') : erratalaw35_MarksCut.pt (.int .i64 time) (.int .i64 now) (.int .i64 ahead) W K := by
  unfold erratalaw35_MarksCut.pt
  refine small_r (lawB.start W) fun w1 h => ?_
  refine cut_sp time now ahead ?_
  have hf := fin w1 _ h
  have hw : ∃ k : Int, (k = 0 ∨ k = 1 ∨ k = -1) ∧ IntKind.wrap .i64 (now + ahead) = now + ahead - k * 18446744073709551616 ∧ -9223372036854775808 ≤ now + ahead - k * 18446744073709551616 ∧ now + ahead - k * 18446744073709551616 ≤ 9223372036854775807 := by
    by_cases e1 : now + ahead > 9223372036854775807
    · refine ⟨1, .inr (.inl rfl), ?_, by omega, by omega⟩
      rw [IntKind.wrap_i64]; omega
    · by_cases e2 : now + ahead < -9223372036854775808
      · refine ⟨-1, .inr (.inr rfl), ?_, by omega, by omega⟩
        rw [IntKind.wrap_i64]; omega
      · refine ⟨0, .inl rfl, ?_, by omega, by omega⟩
        rw [wrap_id (by omega) (by omega)]; omega
  simp only [bin_gtr, bin_add, bin_lss, bin_leq, bin_geq, bin_eql, ifB_dec, ifB_true, ifB_false]
  have hc : ∃ x : Int, cut time now ahead = min time x ∧ ((0 < now ∧ 0 < ahead ∧ IntKind.wrap .i64 (now + ahead) < 0 ∧ x = 9223372036854775807) ∨ (¬ (0 < now ∧ 0 < ahead ∧ IntKind.wrap .i64 (now + ahead) < 0) ∧ now < 0 ∧ ahead < 0 ∧ 0 ≤ IntKind.wrap .i64 (now + ahead) ∧ x = -9223372036854775808) ∨
      (¬ (0 < now ∧ 0 < ahead ∧ IntKind.wrap .i64 (now + ahead) < 0) ∧ ¬ (now < 0 ∧ ahead < 0 ∧ 0 ≤ IntKind.wrap .i64 (now + ahead)) ∧ x = IntKind.wrap .i64 (now + ahead))) := by
    refine ⟨_, rfl, ?_⟩
    split
    · rename_i h; exact .inl ⟨h.1, h.2.1, h.2.2, rfl⟩
    · rename_i h
      split
      · rename_i h'; exact .inr (.inl ⟨h, h'.1, h'.2.1, h'.2.2, rfl⟩)
      · rename_i h'; exact .inr (.inr ⟨h, h', rfl⟩)
  generalize cut time now ahead = y at hc ⊢
  generalize IntKind.wrap .i64 (now + ahead) = q at hw hc ⊢
  obtain ⟨k, hk, hq, hq1, hq2⟩ := hw
  obtain ⟨x, rfl, hx⟩ := hc
  have hK : ∀ b : Bool, b = true → K (.bool b) w1 := fun b e => by subst e; exact hf
  repeat' (first | apply And.intro | intro _)
  all_goals first | (exfalso; omega) | exact hf | (refine hK _ (decide_eq_true ?_); omega)
end Go.Proofs.Ytncgdihcplhcoaa
