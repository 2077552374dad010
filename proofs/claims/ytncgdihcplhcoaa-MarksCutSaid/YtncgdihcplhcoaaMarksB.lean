/-
  The trackers of package marks: New, Note, Idle, Of, Cut; the laws' do and small. No condition.
-/
import Derived.Test.YtncgdihcplhcoaaMarksA
namespace Go.Proofs.Ytncgdihcplhcoaa
open Go.RowKit

section
variable {K : Value → World → Prop} {w : World} {c : Nat → Nat} {t u b : Nat} {s : MarkS}

theorem mul_sp (n : Nat) (hn : n ≤ 200) (k : K (.tuple #[.int .u64 0, .int .u64 n]) w) : upK Try.prog (sCall F_math_bits_Mul #[.int .u64 1, .int .u64 n]) w K := by
  refine math_bits_Mul.up (math_bits_Mul.call ?_)
  unfold math_bits_Mul.pt
  refine math_bits_Mul64.up (math_bits_Mul64.call ?_)
  unfold math_bits_Mul64.pt
  simp only [bin_and, bin_shr (show (0 : Int) ≤ 32 by omega), bin_mul, bin_add, ext_2_0, ext_2_1]
  refine (congr (congrArg (fun a b => K (.tuple #[.int .u64 a, .int .u64 b]) w) ?_) ?_).mpr k
  · clear k
    revert n
    decide +kernel
  · clear k
    revert n
    decide +kernel

theorem repeat_sp {v : Value} {a : Inp} (x : Nat) (h : RowR c t w v [a]) {n : Nat} (hn : n ≤ 200) (k : ∀ c' v' w', Step nobody c w c' w' → RowO c' x w' T_marks_input v' (List.replicate n a) → K v' w') :
    upK Try.prog (sCall F_slices_Repeat_s_marks_input_marks_input #[v, .int .i64 n]) w K := by
  refine slices_Repeat_s_marks_input_marks_input.up (slices_Repeat_s_marks_input_marks_input.call ?_)
  unfold slices_Repeat_s_marks_input_marks_input.pt
  have e1 : IntKind.wrap .u64 (([a] : List Inp).length : Int) = 1 := rfl
  have e2 : IntKind.wrap .u64 (n : Int) = n := IntWalk.u64_in _ (by omega)
  simp -zeta only [bin_lss, ifB_dec, h.len_eq TM]
  refine ⟨fun h0 => by omega, fun _ => ?_⟩
  rw [conv_int UInt' UUint, conv_int UInt' UUint, e1, e2]
  refine mul_sp n hn ?_
  have e3 : ¬ ((9223372036854775807 : Int) < n) := by omega
  simp -zeta only [ext_2_0, ext_2_1, bin_gtr, ifB_dec]
  refine ⟨fun h => absurd h (by omega), fun _ => ⟨fun h => absurd h e3, fun _ => ?_⟩⟩
  rw [conv_int UUint UInt', wrap_id (by omega) (by omega)]
  obtain ⟨j, hj, hfr⟩ := exists_fresh c w.heap.size (t + x)
  refine mk_slice (α := Inp) (c := c) (t := j) ⟨0, false⟩ TM TMzz (by omega) (by omega) fun c1 v1 w1 st1 hr1 hv1 => ?_
  obtain ⟨g, cap, rfl⟩ := ne_nil_open hr1 hv1
  rw [List.length_replicate] at hr1 ⊢
  have h1 := h.frame st1 fun h => h
  refine copy_part (lo := 0) TM hr1 h1 (Nat.zero_le _) (.inl (by simp)) fun w2 st2 hr2 => ?_
  have st : Step (only j) c w c1 w2 := st1.none.trans st2
  intro J1
  have hJ : ∀ w', Step (only j) c w c1 w' → RowO c1 j w' T_marks_input (.slice (some ⟨g, 0, none⟩) n cap) (List.replicate n a) → J1 w' := by
    intro w' st' hr'
    have hst : Step nobody c w c1 w' := st'.hide fun k hk e => Nat.ne_of_lt (hfr k hk) e
    exact k _ _ w' (hst.repaint x) (hr'.retag (fun k hk => hst.old k hk) hfr)
  clear_value J1
  have el : (List.take 0 (List.replicate n (⟨0, false⟩ : Inp)) ++ List.take ((List.replicate n (⟨0, false⟩ : Inp)).length - 0) [a] ++ List.drop (0 + (List.take ((List.replicate n (⟨0, false⟩ : Inp)).length - 0) [a]).length) (List.replicate n ⟨0, false⟩)) =
      List.replicate (min n 1) a ++ List.replicate (n - min n 1) ⟨0, false⟩ := by
    cases n with
    | zero => rfl
    | succ n => simp [List.replicate_succ]
  rw [el] at hr2
  refine LOOP_intro (fun x w' => ∃ i : Nat, i ≤ n ∧ (1 ≤ i ∨ n = 0) ∧ x = (.int .i64 i, ()) ∧ Step (only j) c w c1 w' ∧ RowO c1 j w' T_marks_input (.slice (some ⟨g, 0, none⟩) n cap) (List.replicate i a ++ List.replicate (n - i) ⟨0, false⟩))
    (fun x _ => n - (match x.1 with | .int _ n => n.toNat | _ => 0)) ⟨min n 1, by omega, by omega, by simp, st, hr2⟩ ?_
  clear hr1 hr2 st st1 st2
  rintro y w3 ⟨i, hi, hi1, rfl, st, hr⟩ next hnext
  have hlen : (List.replicate i a ++ List.replicate (n - i) (⟨0, false⟩ : Inp)).length = n := by simp; omega
  simp -zeta only [len_slice (sliceB_spec TM).1, bin_lss, ifB_dec]
  refine ⟨fun hlt => ?_, fun hge => ?_⟩
  · have hrr := hr.read
    obtain ⟨rfl', cur, hb, hcap, _⟩ := hr.inv
    obtain ⟨a1, ha1, q1⟩ := cut_own (α := Inp) (P := Try.prog) (g := g) (lo := i) TM hi (show n ≤ cap by omega)
    obtain ⟨v2, q2, hr2⟩ := hrr.tick.cut TM (lov := none) (hiv := some (.int .i64 i)) Bnd.none Bnd.some (Nat.zero_le _) (by omega)
    simp -zeta only [q1, q2]
    refine copy_part (lo := i) TM hr.tick hr2 (by omega) (by rcases ha1 with rfl | ⟨rfl, rfl⟩; exact .inl rfl; exact .inr ⟨hlen.symm, rfl⟩) fun w4 st4 hr4 => ?_
    have e4 : List.drop 0 (List.take i (List.replicate i a ++ List.replicate (n - i) (⟨0, false⟩ : Inp))) = List.replicate i a := by
      rw [List.drop_zero]
      exact List.take_left' (by simp)
    rw [e4, hlen] at hr4
    rw [e4, hlen]
    have e5 : List.take (n - i) (List.replicate i a) = List.replicate (min (n - i) i) a := by rw [List.take_replicate]
    rw [e5] at hr4
    rw [e5]
    simp only [List.length_replicate, bin_add] at hr4 ⊢
    rw [wrap_id (by omega) (by omega)]
    refine hnext _ _ ⟨i + min (n - i) i, by omega, by omega, by simp, st.ticked.trans st4, ?_⟩ ?_
    · have e6 : List.take i (List.replicate i a ++ List.replicate (n - i) (⟨0, false⟩ : Inp)) = List.replicate i a := List.take_left' (by simp)
      have e7 : List.drop (i + min (n - i) i) (List.replicate i a ++ List.replicate (n - i) (⟨0, false⟩ : Inp)) = List.replicate (n - (i + min (n - i) i)) ⟨0, false⟩ := by
        rw [List.drop_append, List.drop_of_length_le (by simp), List.nil_append, List.drop_replicate]
        congr 1
        simp
        omega
      rw [e6, e7, List.replicate_append_replicate] at hr4
      exact hr4
    · simp only
      omega
  · have : i = n := by omega
    subst this
    refine hJ w3 st ?_
    simpa using hr

theorem new_sp (t u : Nat) (n : Int) (k : ∀ c' b w', Step nobody c w c' w' → MarksAt c' t u w' b (fresh n) → K (ptr b) w') : upK Try.prog (sCall F_marks_New #[.int .i64 n]) w K := by
  refine marks_New.up (marks_New.call ?_)
  unfold marks_New.pt
  simp only [build_inp, blt_max, blt_min]
  refine build1 (α := Inp) (c := c) (t := u) ⟨-1, false⟩ TM (by decide) fun c1 v1 w1 st1 hr1 => ?_
  have e : min (max n 0) 200 = (((min (max n 0) 200).toNat : Nat) : Int) := by omega
  rw [e]
  refine repeat_sp u hr1.read (by omega) fun c2 v2 w2 st2 hr2 => ?_
  obtain ⟨a, cap, rfl, _⟩ := hr2.slice
  simp only [build_marks]
  refine box_of (t := t) (c := c2) fun c3 w3 _ hb st3 => ?_
  exact k c3 _ w3 (st1.trans (st2.trans st3)) ⟨_, hb, hr2.frame st3 fun h => h, by simp [fresh]; omega⟩

theorem note_sp (h : MarksAt c t u w b s) (htu : t ≠ u) (i m : Int) (k : ∀ c' w', Step (two t u) c w c' w' → MarksAt c' t u w' b (note s i m).2 → K (.int .i64 (note s i m).1) w') :
    upK Try.prog (sCall F_marks_Marks_Note #[ptr b, .int .i64 i, .int .i64 m]) w K := by
  refine marks_Marks_Note.up (marks_Marks_Note.call ?_)
  unfold marks_Marks_Note.pt
  refine has_sp h i ?_
  have same : ∀ e, note s i m = (e, s) → K (.int .i64 e) w := by
    intro e he
    rw [he] at k
    exact k c w (Step.refl _ c w) h
  simp only [un_not, ifB_not]
  rw [ifB_bool]
  refine ⟨fun hi => ?_, fun hi => same 4 (by simp [note, hi])⟩
  simp only [bin_lss, bin_gtr, ifB_dec]
  refine ⟨fun h1 => same 3 (by simp only [note, hi, if_true]; rw [if_neg (by omega)]), fun h1 => ⟨fun h2 => same 3 (by simp only [note, hi, if_true]; rw [if_neg (by omega)]), fun h2 => ?_⟩⟩
  have e0 : note s i m = (0, upd s i ⟨max m (inp s i).mark, false⟩) := by
    simp only [note, hi, if_true]
    rw [if_pos (by omega)]
  rw [e0] at k
  obtain ⟨n, rfl, hn⟩ := has_iff.1 hi
  have einp : inp s n = s.l[n] := by simp [inp, List.getD, hn]
  rw [einp] at k
  obtain ⟨v, hb, hr, hl⟩ := h.tick
  obtain ⟨g, cap, rfl⟩ := hr.open_ (by rintro e; rw [e] at hn; simp at hn)
  simp only [nil_ptr, field_addr TM0, ld_sc TSl (hb.cell (o := 0) (v := .slice (some ⟨g, 0, none⟩) s.l.length cap) rfl), idx_own TM hn, field_addr Ti0, ld_sc TI ((hr.elem hn).2.2 0 (.int .i64 s.l[n].mark) rfl), blt_max, build_inp]
  refine hr.set_ag (m := 2) ⟨max m s.l[n].mark, false⟩ hn TMag rfl rfl fun w2 st2 hr2 => ?_
  have hb2 := hb.frame st2 htu
  refine settled_sp (s := ⟨s.l.set n ⟨max m s.l[n].mark, false⟩, s.common⟩) ⟨_, hb2, hr2, by simpa using hl⟩ fun c3 w3 st3 => ?_
  have hb3 := hb2.frame st3 fun h => h
  have hr3 := hr2.frame st3 fun h => h
  simp only [nil_ptr, field_addr TM1]
  refine st_sc TI hb3 (by simp) rfl fun hb4 st4 => ?_
  refine k c3 _ ((Step.tick _ c w).trans ((st2.mono fun x h => .inr h).trans (st3.none.trans (st4.mono fun x h => .inl h)))) ⟨_, hb4, hr3.frame st4 fun e => htu e.symm, by simpa [upd] using hl⟩

theorem idle_sp (h : MarksAt c t u w b s) (htu : t ≠ u) (i : Int) (on : Bool) (k : ∀ c' w', Step (two t u) c w c' w' → MarksAt c' t u w' b (idle s i on).2 → K (.int .i64 (idle s i on).1) w') :
    upK Try.prog (sCall F_marks_Marks_Idle #[ptr b, .int .i64 i, .bool on]) w K := by
  refine marks_Marks_Idle.up (marks_Marks_Idle.call ?_)
  unfold marks_Marks_Idle.pt
  refine has_sp h i ?_
  have same : ∀ e, idle s i on = (e, s) → K (.int .i64 e) w := by
    intro e he
    rw [he] at k
    exact k c w (Step.refl _ c w) h
  simp only [un_not, ifB_not]
  rw [ifB_bool]
  refine ⟨fun hi => ?_, fun hi => same 4 (by simp [idle, hi])⟩
  have e0 : idle s i on = (0, upd s i ⟨(inp s i).mark, on⟩) := by
    simp only [idle, hi, if_true]
  rw [e0] at k
  obtain ⟨n, rfl, hn⟩ := has_iff.1 hi
  have einp : inp s n = s.l[n] := by simp [inp, List.getD, hn]
  rw [einp] at k
  obtain ⟨v, hb, hr, hl⟩ := h
  obtain ⟨g, cap, rfl⟩ := hr.open_ (by rintro e; rw [e] at hn; simp at hn)
  simp only [nil_ptr, field_addr TM0, ld_sc TSl (hb.cell (o := 0) (v := .slice (some ⟨g, 0, none⟩) s.l.length cap) rfl), idx_own TM hn, field_addr Ti1]
  refine hr.set_sc (f := 1) ⟨s.l[n].mark, on⟩ hn rfl (by decide) rfl TB rfl fun w2 st2 hr2 => ?_
  have hb2 := hb.frame st2 htu
  refine settled_sp (s := ⟨s.l.set n ⟨s.l[n].mark, on⟩, s.common⟩) ⟨_, hb2, hr2, by simpa using hl⟩ fun c3 w3 st3 => ?_
  have hb3 := hb2.frame st3 fun h => h
  have hr3 := hr2.frame st3 fun h => h
  simp only [nil_ptr, field_addr TM1]
  refine st_sc TI hb3 (by simp) rfl fun hb4 st4 => ?_
  refine k c3 _ ((st2.mono fun x h => .inr h).trans (st3.none.trans (st4.mono fun x h => .inl h))) ⟨_, hb4, hr3.frame st4 fun e => htu e.symm, by simpa [upd] using hl⟩

theorem of_sp (h : MarksAt c t u w b s) (i : Int) (k : ∀ w', Step nobody c w c w' → K (.tuple #[.int .i64 (if has s i = true then (inp s i).mark else -1), .bool (if has s i = true then (inp s i).idle else false)]) w') :
    upK Try.prog (sCall F_marks_Marks_Of #[ptr b, .int .i64 i]) w K := by
  refine marks_Marks_Of.up (marks_Marks_Of.call ?_)
  unfold marks_Marks_Of.pt
  refine has_sp h i ?_
  simp only [un_not, ifB_not]
  rw [ifB_bool]
  refine ⟨fun hi => ?_, fun hi => ?_⟩
  · simp only [hi, if_true] at k
    obtain ⟨n, rfl, hn⟩ := has_iff.1 hi
    have einp : inp s n = s.l[n] := by simp [inp, List.getD, hn]
    rw [einp] at k
    obtain ⟨v, hb, hr, hl⟩ := h.tick
    obtain ⟨g, o, _, _, hx, hc⟩ := hr.read.idx TM hn
    simp only [nil_ptr, field_addr TM0, ld_sc TSl (hb.cell (o := 0) (v := v) rfl), hx, field_addr Ti0, field_addr Ti1, ld_sc TI (hc 0 (.int .i64 s.l[n].mark) rfl), ld_sc TB (hc 1 (.bool s.l[n].idle) rfl)]
    exact k _ (Step.tick _ c w)
  · simp only [hi, Bool.false_eq_true, if_false] at k
    exact k w (Step.refl _ c w)

def cut (time now ahead : Int) : Int := min time (if 0 < now ∧ 0 < ahead ∧ IntKind.wrap .i64 (now + ahead) < 0 then 9223372036854775807 else if now < 0 ∧ ahead < 0 ∧ 0 ≤ IntKind.wrap .i64 (now + ahead) then -9223372036854775808 else IntKind.wrap .i64 (now + ahead))
theorem cut_sp (time now ahead : Int) (k : K (.int .i64 (cut time now ahead)) w) : upK Try.prog (sCall F_marks_Cut #[.int .i64 time, .int .i64 now, .int .i64 ahead]) w K := by
  refine marks_Cut.up (marks_Cut.call ?_)
  unfold marks_Cut.pt
  unfold cut at k
  simp -zeta only [bin_add]
  intro J1
  have hJ : ∀ x : Int, x = (if 0 < now ∧ 0 < ahead ∧ IntKind.wrap .i64 (now + ahead) < 0 then 9223372036854775807 else if now < 0 ∧ ahead < 0 ∧ 0 ≤ IntKind.wrap .i64 (now + ahead) then -9223372036854775808 else IntKind.wrap .i64 (now + ahead)) → J1 (.int .i64 x) w := by
    rintro x rfl
    show pureK _ _ _
    rw [blt_min]
    exact k
  clear_value J1
  simp only [bin_gtr, bin_lss, bin_geq, ifB_dec]
  refine ⟨fun h1 => ⟨fun h2 => ⟨fun h3 => hJ _ (by rw [if_pos ⟨h1, h2, h3⟩]), fun h3 => ⟨fun h4 => by omega, fun h4 => hJ _ (by rw [if_neg (by omega), if_neg (by omega)])⟩⟩, fun h2 => ⟨fun h4 => by omega, fun h4 => hJ _ (by rw [if_neg (by omega), if_neg (by omega)])⟩⟩,
    fun h1 => ⟨fun h4 => ⟨fun h5 => ⟨fun h6 => hJ _ (by rw [if_neg (by omega), if_pos ⟨h4, h5, h6⟩]), fun h6 => hJ _ (by rw [if_neg (by omega), if_neg (by omega)])⟩, fun h5 => hJ _ (by rw [if_neg (by omega), if_neg (by omega)])⟩, fun h4 => hJ _ (by rw [if_neg (by omega), if_neg (by omega)])⟩⟩
end
end Go.Proofs.Ytncgdihcplhcoaa
