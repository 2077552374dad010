/-
  The trackers of package marks: what their functions do, over a heap with owners. No condition.
-/
import Derived.Test.YtncgdihcplhcoaaMore
import Derived.Test.YtncgdihcplhcoaaPt0
namespace Go.Proofs.Ytncgdihcplhcoaa
open Go.RowKit

structure Inp where
  mark : Int
  idle : Bool
  deriving DecidableEq

instance : Enc Inp where
  sz := 2
  cells p := [.int .i64 p.mark, .bool p.idle]
  val p := .agg #[.int .i64 p.mark, .bool p.idle]
  pos := by omega
  len _ := rfl
  one _ v hv := by
    simp only [List.mem_cons, List.not_mem_nil, or_false] at hv
    rcases hv with rfl | rfl <;> rfl
  cells_val _ := rfl

theorem TM : sliceB Try.prog T_s_marks_input T_marks_input (Enc.sz Inp) 16 = true := by kernel_rfl
theorem TIs : sliceB Try.prog T_s_int T_int (Enc.sz Int) 8 = true := by kernel_rfl
theorem TMag : agB Try.prog T_marks_input 2 = true := by kernel_rfl
theorem TMz : (Try.prog.info? T_marks_input).bind (·.zero) = some (.agg #[.int .i64 0, .bool false]) := by kernel_rfl
theorem TMzz : ((Try.prog.info? T_marks_input).bind (·.zero)).map (·.cells) = some (Enc.cells (⟨0, false⟩ : Inp)).toArray := by kernel_rfl
theorem TI : scB Try.prog T_int = true := by kernel_rfl
theorem TB : scB Try.prog T_bool = true := by kernel_rfl
theorem TSl : scB Try.prog T_s_marks_input = true := by kernel_rfl
theorem TM0 : fieldB Try.prog T_marks_Marks 0 0 = true := by kernel_rfl
theorem TM1 : fieldB Try.prog T_marks_Marks 1 1 = true := by kernel_rfl
theorem Ti0 : fieldB Try.prog T_marks_input 0 0 = true := by kernel_rfl
theorem Ti1 : fieldB Try.prog T_marks_input 1 1 = true := by kernel_rfl
theorem UInt' : Try.prog.underlying T_int = some (.int .i64) := by kernel_rfl
theorem UUint : Try.prog.underlying T_uint = some (.int .u64) := by kernel_rfl
theorem UBool : Try.prog.underlying T_bool = some .bool := by kernel_rfl
theorem UpM : Try.prog.underlying T_p_marks_Marks = some (.pointer (Try.prog.pointee T_p_marks_Marks)) := by kernel_rfl

def ival (p : Inp) : Value := .agg #[.int .i64 p.mark, .bool p.idle]
theorem build_inp {K : Value → Prop} (m : Int) : pureK Try.prog (sBuild T_marks_input #[(0, .int .i64 m)]) K = K (ival ⟨m, false⟩) := pureK_eq fun w => by
  kernel_rfl
theorem build_marks {K : Value → Prop} {a : Option Addr} {n c : Nat} {k : Int} : pureK Try.prog (sBuild T_marks_Marks #[(0, .slice a n c), (1, .int .i64 k)]) K = K (.agg #[.slice a n c, .int .i64 k]) := pureK_eq fun w => by
  kernel_rfl
/-! ### The tracker's state, and what its functions do to it -/
structure MarkS where
  l : List Inp
  common : Int

def lowest : List Int → Int
  | [] => 0
  | a :: r => r.foldl min a
theorem lowest_append {l : List Int} (h : l ≠ []) (x : Int) : lowest (l ++ [x]) = min (lowest l) x := by
  cases l with
  | nil => exact absurd rfl h
  | cons a r => simp [lowest]
def alive (l : List Inp) : List Int := (l.filter (fun x => !x.idle)).map (·.mark)
def settled (s : MarkS) : Int := if alive s.l = [] then s.common else max (lowest (alive s.l)) s.common
def has (s : MarkS) (i : Int) : Bool := decide (0 ≤ i) && decide (i < s.l.length)
def upd (s : MarkS) (i : Int) (x : Inp) : MarkS := { l := s.l.set i.toNat x, common := settled ⟨s.l.set i.toNat x, s.common⟩ }
def inp (s : MarkS) (i : Int) : Inp := s.l.getD i.toNat ⟨-1, false⟩
def note (s : MarkS) (i m : Int) : Int × MarkS :=
  if has s i = true then
    if -1 ≤ m ∧ m ≤ 1099511627776 then (0, upd s i ⟨max m (inp s i).mark, false⟩) else (3, s)
  else (4, s)
def idle (s : MarkS) (i : Int) (on : Bool) : Int × MarkS := if has s i = true then (0, upd s i ⟨(inp s i).mark, on⟩) else (4, s)
def fresh (n : Int) : MarkS := ⟨List.replicate (min (max n 0) 200).toNat ⟨-1, false⟩, -1⟩

theorem has_iff {s : MarkS} {i : Int} : has s i = true ↔ ∃ n : Nat, i = n ∧ n < s.l.length := by
  simp only [has, Bool.and_eq_true, decide_eq_true_eq]
  constructor
  · rintro ⟨h1, h2⟩; exact ⟨i.toNat, by omega, by omega⟩
  · rintro ⟨n, rfl, h⟩; omega

/-- The tracker object: its header of owner t, its inputs of owner u. -/
def MarksAt (c : Nat → Nat) (t u : Nat) (w : World) (b : Nat) (s : MarkS) : Prop :=
  ∃ v, Blk c t w b T_marks_Marks #[v, .int .i64 s.common] ∧ RowO c u w T_marks_input v s.l ∧ s.l.length ≤ 200

theorem MarksAt.frame {T : Nat → Prop} {c c' : Nat → Nat} {t u : Nat} {w w' : World} {b : Nat} {s : MarkS} (h : MarksAt c t u w b s) (st : Step T c w c' w') (ht : ¬ T t) (hu : ¬ T u) : MarksAt c' t u w' b s := by
  obtain ⟨v, h1, h2, h3⟩ := h
  exact ⟨v, h1.frame st ht, h2.frame st hu, h3⟩
theorem MarksAt.tick {c : Nat → Nat} {t u : Nat} {w : World} {b : Nat} {s : MarkS} (h : MarksAt c t u w b s) : MarksAt c t u (Go.Proofs.Ytncgdihcplhcoaa.tick w) b s :=
  h.frame (Step.tick nobody c w) (fun h => h) (fun h => h)

section
variable {K : Value → World → Prop} {w : World} {c : Nat → Nat} {t u b : Nat} {s : MarkS}

theorem has_sp (h : MarksAt c t u w b s) (i : Int) (k : K (.bool (has s i)) w) : upK Try.prog (sCall F_marks_Marks_has #[ptr b, .int .i64 i]) w K := by
  refine marks_Marks_has.up (marks_Marks_has.call ?_)
  unfold marks_Marks_has.pt
  obtain ⟨v, hb, hr, hl⟩ := h
  simp only [bin_geq, ifB_dec, nil_ptr, field_addr TM0, ld_sc TSl (hb.cell (o := 0) (v := v) rfl), hr.read.len_eq TM, bin_lss]
  refine ⟨fun h0 => ?_, fun h0 => ?_⟩
  · have : has s i = decide (i < s.l.length) := by simp [has, h0]
    rw [this] at k; exact k
  · have : has s i = false := by simp [has, h0]
    rw [this] at k; exact k

theorem mark_sp (h : MarksAt c t u w b s) (k : K (.int .i64 s.common) w) : upK Try.prog (sCall F_marks_Marks_Mark #[ptr b]) w K := by
  refine marks_Marks_Mark.up (marks_Marks_Mark.call ?_)
  unfold marks_Marks_Mark.pt
  obtain ⟨v, hb, hr, hl⟩ := h
  simp only [nil_ptr, field_addr TM1, ld_sc TI (hb.cell (o := 1) (v := .int .i64 s.common) rfl)]
  exact k

theorem count_sp (h : MarksAt c t u w b s) (k : K (.int .i64 s.l.length) w) : upK Try.prog (sCall F_marks_Marks_Count #[ptr b]) w K := by
  refine marks_Marks_Count.up (marks_Marks_Count.call ?_)
  unfold marks_Marks_Count.pt
  obtain ⟨v, hb, hr, hl⟩ := h
  simp only [nil_ptr, field_addr TM0, ld_sc TSl (hb.cell (o := 0) (v := v) rfl), hr.read.len_eq TM]
  exact k

/-- slices.Min -/
theorem min_sp {v : Value} {l : List Int} (h : RowR c t w v l) (hl : 0 < l.length) (hm : l.length ≤ 1000000) (k : K (.int .i64 (lowest l)) w) : upK Try.prog (sCall F_slices_Min_s_int_int #[v]) w K := by
  refine slices_Min_s_int_int.up (slices_Min_s_int_int.call ?_)
  unfold slices_Min_s_int_int.pt
  have h1 : ¬ ((l.length : Int) < 1) := by omega
  obtain ⟨q, hx, hc⟩ := h.at_sc TIs hl TI rfl
  have hx0 : ∀ {Kp : Value → Prop}, pureK Try.prog (sIdxAddr T_s_int v (.int .i64 0)) Kp = Kp q := hx
  simp only [h.len_eq TIs, bin_lss, ifB_dec, hx0, hc]
  refine ⟨fun h => absurd h h1, fun _ => ?_⟩
  refine LOOP_intro (fun x w' => w' = w ∧ ∃ i : Nat, 1 ≤ i ∧ i ≤ l.length ∧ x = (.int .i64 (lowest (l.take i)), .int .i64 i, ())) (fun x _ => l.length - (match x.2.1 with | .int _ n => n.toNat | _ => 0)) ⟨rfl, 1, Nat.le_refl _, hl, ?_⟩ ?_
  · obtain ⟨a, r, rfl⟩ := List.exists_cons_of_length_pos hl
    rfl
  · rintro x w' ⟨rfl, i, hi1, hi, rfl⟩ next hnext
    simp only [h.len_eq TIs, bin_lss, ifB_dec]
    refine ⟨fun hlt => ?_, fun hge => ?_⟩
    · have hil : i < l.length := by omega
      obtain ⟨q, hx, hc⟩ := h.at_sc TIs hil TI rfl
      simp only [hx, hc, blt_min, bin_add]
      rw [wrap_id (by omega) (by omega)]
      have e : lowest (l.take (i + 1)) = min (lowest (l.take i)) l[i] := by
        rw [List.take_succ_eq_append_getElem hil, lowest_append]
        intro e
        have := congrArg List.length e
        rw [List.length_take, List.length_nil] at this
        omega
      refine hnext _ _ ⟨rfl, i + 1, by omega, by omega, by rw [e]; rfl⟩ ?_
      simp only
      omega
    · have : i = l.length := by omega
      subst this
      rw [List.take_length]
      exact k

theorem least_sp {v : Value} {l : List Int} (h : RowR c t w v l) (hm : l.length ≤ 1000000) (k : K (.tuple #[.int .i64 (lowest l), .bool (decide (l ≠ []))]) w) : upK Try.prog (sCall F_marks_least_int #[v]) w K := by
  refine marks_least_int.up (marks_least_int.call ?_)
  unfold marks_least_int.pt
  simp only [h.len_eq TIs, bin_eql, ifB_dec]
  refine ⟨fun h0 => ?_, fun h0 => ?_⟩
  · have : l = [] := List.eq_nil_of_length_eq_zero (by omega)
    subst this
    exact k
  · refine min_sp h (by omega) hm ?_
    have : decide (l ≠ []) = true := by
      rw [decide_eq_true_eq]; rintro rfl; exact h0 rfl
    rw [this] at k
    exact k

/-- A variable that holds an input. -/
theorem alloc_store_i (t : Nat) (c : Nat → Nat) (q : Inp) {K' : Value → World → Prop} (k : ∀ c' b w', Step nobody c w c' w' → Blk c' t w' b T_marks_input #[.int .i64 q.mark, .bool q.idle] → K' (ptr b) w') :
    upK Try.prog (sAlloc T_marks_input) w fun p w1 => upK Try.prog (sStore T_marks_input p (ival q)) w1 fun _ w2 => K' p w2 := by
  obtain ⟨j, hj, hfr⟩ := exists_fresh c w.heap.size t
  refine alloc_of (t := j) (c := c) TMz fun c1 w1 _ hv st1 => ?_
  refine st_ag (n := 2) TMag hv rfl (by simp [Value.cells]) ?_ fun w2 hv2 st2 => ?_
  · intro v hv
    simp only [List.mem_toArray, List.mem_cons, List.not_mem_nil, or_false] at hv
    rcases hv with rfl | rfl <;> rfl
  have st : Step nobody c w c1 w2 := (st1.none.trans st2).hide fun k hk e => Nat.ne_of_lt (hfr k hk) e
  exact k _ _ w2 (st.repaint t) (Blk.retag (by simpa [Value.cells] using hv2) (fun k hk => st.old k hk) hfr)

theorem inpAt {v : Value} {l : List Inp} (h : RowR c t w v l) {i : Nat} (hi : i < l.length) : ∃ x, (∀ {Kp : Value → Prop}, pureK Try.prog (sIdxAddr T_s_marks_input v (.int .i64 i)) Kp = Kp x) ∧ (∀ {Kp : Value → Prop}, readK Try.prog (sLoad T_marks_input x) w Kp = Kp (ival l[i])) := by
  obtain ⟨g, o, _, _, h1, h2⟩ := h.idx TM hi
  refine ⟨_, h1, fun {Kp} => ?_⟩
  exact ld_ag (vs := [.int .i64 l[i].mark, .bool l[i].idle]) TMag rfl h2

theorem settled_sp (h : MarksAt c t u w b s) (k : ∀ c' w', Step nobody c w c' w' → K (.int .i64 (settled s)) w') : upK Try.prog (sCall F_marks_Marks_settled #[ptr b]) w K := by
  refine marks_Marks_settled.up (marks_Marks_settled.call ?_)
  unfold marks_Marks_settled.pt
  obtain ⟨v, hb, hr, hl⟩ := h
  simp -zeta only [nil_ptr, field_addr TM0, ld_sc TSl (hb.cell (o := 0) (v := v) rfl), hr.read.len_eq TM]
  obtain ⟨j, hj, hfr⟩ := exists_fresh c w.heap.size (t + u)
  let T : Nat → Prop := fun x => j ≤ x
  have nt : ¬ T t := fun e => by have : j ≤ t := e; omega
  have nu : ¬ T u := fun e => by have : j ≤ u := e; omega
  refine LOOP_intro (fun x w' => ∃ (i : Nat) (c' : Nat → Nat) (vl : Value), i ≤ s.l.length ∧ x = (vl, .int .i64 i, ()) ∧ Step T c w c' w' ∧ RowO c' j w' T_int vl (alive (s.l.take i)))
    (fun x _ => s.l.length - (match x.2.1 with | .int _ n => n.toNat | _ => 0)) ⟨0, c, _, Nat.zero_le _, rfl, Step.refl _ _ _, RowO.nil _ _ _ _⟩ ?_
  rintro x w1 ⟨i, c1, vl, hi, rfl, st, hvl⟩ next hnext
  simp -zeta only [bin_lss, ifB_dec]
  refine ⟨fun hlt => ?_, fun hge => ?_⟩
  · have hil : i < s.l.length := by omega
    have esucc : alive (s.l.take (i + 1)) = alive (s.l.take i) ++ (if s.l[i].idle = true then [] else [s.l[i].mark]) := by
      unfold alive
      rw [List.take_succ_eq_append_getElem hil, List.filter_append, List.map_append]
      by_cases e : s.l[i].idle = true <;> simp [e]
    intro J1
    have hJ : ∀ c' vl w', Step T c w c' w' → RowO c' j w' T_int vl (alive (s.l.take (i + 1))) → J1 vl w' := by
      intro c' vl w' st' hvl'
      show pureK _ _ _
      rw [bin_add, wrap_id (by omega) (by omega)]
      refine hnext _ _ ⟨i + 1, c', vl, by omega, rfl, st', hvl'⟩ ?_
      simp only
      omega
    clear_value J1
    obtain ⟨x, q1, q2⟩ := inpAt (hr.frame st nu).read hil
    simp -zeta only [q1, q2]
    refine alloc_store_i (j + 1) c1 _ fun c2 b2 w2 st2 hv2 => ?_
    have hvl2 := hvl.frame st2 fun h => h
    replace st := st.trans st2.none
    simp -zeta only [field_addr Ti0, field_addr Ti1, ld_sc TB (hv2.cell (o := 1) (v := .bool s.l[i].idle) rfl), ld_sc TI (hv2.cell (o := 0) (v := .int .i64 s.l[i].mark) rfl), un_not, ifB_not]
    rw [ifB_bool]
    refine ⟨fun e => ?_, fun e => ?_⟩
    · refine hJ c2 vl w2 st ?_
      rw [esucc, if_pos e, List.append_nil]
      exact hvl2
    · refine build1 (α := Int) (c := c2) (t := j + 2) s.l[i].mark TIs (by decide) fun c3 v3 w3 st3 hr3 => ?_
      have hle : (alive (s.l.take i)).length ≤ i := by
        unfold alive
        rw [List.length_map]
        exact Nat.le_trans (List.length_filter_le _ _) (List.length_take_le _ _)
      refine append_own TIs (hvl2.frame st3 fun h => h) hr3.read (by simp; omega) (by simp; omega) fun c4 v4 w4 st4 hr4 => ?_
      refine hJ c4 v4 w4 (st.trans (st3.none.trans (st4.mono fun x (e : x = j) => (show j ≤ x by omega)))) ?_
      rw [esucc, if_neg (by rw [e]; decide)]
      exact hr4
  · have : i = s.l.length := by omega
    subst this
    rw [List.take_length] at hvl
    have hle : (alive s.l).length ≤ s.l.length := by
      unfold alive
      rw [List.length_map]
      exact List.length_filter_le _ _
    refine least_sp hvl.read (by omega) ?_
    have hb1 := hb.frame st nt
    have st' : Step nobody c w c1 w1 := st.hide fun k hk e => by have := hfr k hk; have : j ≤ c k := e; omega
    have kk := k c1 w1 st'
    have ec : (!decide (alive s.l ≠ [])) = decide (alive s.l = []) := by
      by_cases e : alive s.l = [] <;> simp [e]
    simp -zeta only [ext_2_0, ext_2_1, un_not, ec, ifB_dec, field_addr TM1, ld_sc TI (hb1.cell (o := 1) (v := .int .i64 s.common) rfl), blt_max]
    refine ⟨fun e => ?_, fun e => ?_⟩
    · have : settled s = s.common := by simp [settled, e]
      rw [this] at kk
      exact kk
    · have : settled s = max (lowest (alive s.l)) s.common := by simp [settled, e]
      rw [this] at kk
      exact kk
end
end Go.Proofs.Ytncgdihcplhcoaa
