/-
  Chapter 35's reference: a tracker in memory; what its functions do. No condition.
-/
import Derived.Test.YtncgdihcplhcoaaDoorMkE
import Derived.Test.YtncgdihcplhcoaaDoorWireS
namespace Go.Proofs.YtncgdihcplhcoaaDoor
open Go.RowKit
set_option maxRecDepth 100000

abbrev lM (s : MarkS) : List Int := s.l.map (·.mark)
abbrev lO (s : MarkS) : List Bool := s.l.map (·.idle)
abbrev rcs (u v : SV) (s : MarkS) : Array Value := #[u.1, v.1, .int .i64 s.common]
def refMD (p : Nat) (s : MarkS) : Dat := Dat.ex fun v : SV × SV => stars [cellD p T_errataref35_Marks (rcs v.1 v.2 s), rowD T_int v.1.1 (lM s), rowD T_bool v.2.1 (lO s)]
theorem nil_bool : sliceB Tryd.prog T_s_bool T_bool (Enc.sz Bool) 1 = true := by kernel_rfl
section
variable {B : Base} {w : World} {σ : List Dat} {p : Nat} {s : MarkS}
theorem refMD.open_ (h : Rel B w [refMD p s]) : ∃ u v : SV, Rel B w [cellD p T_errataref35_Marks (rcs u v s), rowD T_int u.1 (lM s), rowD T_bool v.1 (lO s)] := by
  obtain ⟨v, h⟩ := h.ex (i := 0) rfl
  have h := Rel.unstars (σ := []) (L := [cellD p T_errataref35_Marks (rcs v.1 v.2 s), rowD T_int v.1.1 (lM s), rowD T_bool v.2.1 (lO s)]) h
  exact ⟨v.1, v.2, h⟩
theorem refMD.close {u v : SV} (h : Rel B w [cellD p T_errataref35_Marks (rcs u v s), rowD T_int u.1 (lM s), rowD T_bool v.1 (lO s)]) : Rel B w [refMD p s] := by
  have h := Rel.restars (σ := []) h
  exact h.imp (i := 0) (e := refMD p s) rfl fun B hB => ⟨(u, v), hB⟩
theorem refMD.peek (h : refMD p s B) : ∃ u v : SV, cellD p T_errataref35_Marks (rcs u v s) B ∧ rowR u.1 (lM s) B ∧ rowR v.1 (lO s) B := by
  obtain ⟨v, h⟩ := h
  exact ⟨v.1, v.2, Dat.star.left h, rowD.read (Dat.star.left (Dat.star.right h)), rowD.read (Dat.star.left (Dat.star.right (Dat.star.right h)))⟩
theorem lM_len : (lM s).length = s.l.length := List.length_map ..
theorem lO_len : (lO s).length = s.l.length := List.length_map ..
theorem alive_succ {l : List MkD} {i : Nat} (h : i < l.length) : alive (l.take (i + 1)) = alive (l.take i) ++ (if l[i].idle = true then [] else [l[i].mark]) := by
  unfold alive
  rw [List.take_succ_eq_append_getElem h, List.filter_append, List.map_append]
  by_cases e : l[i].idle = true <;> simp [e]
theorem rsettled_c {u v : SV} (hc : cellD p T_errataref35_Marks (rcs u v s) B) (hu : rowR u.1 (lM s) B) (hv : rowR v.1 (lO s) B) (hl : s.l.length ≤ 200) : Gives Tryd.prog B (sCall F_errataref35_Marks_settled #[ptr1 p]) (.int .i64 (settled s)) := by
  refine Gives.intro fun B' w K base h k => ?_
  replace hc := base hc
  replace hu := base hu
  replace hv := base hv
  refine errataref35_Marks_settled.up (errataref35_Marks_settled.call ?_)
  unfold errataref35_Marks_settled.pt
  have e1 : (lM s).length = s.l.length := lM_len
  have e2 : (lO s).length = s.l.length := lO_len
  refine LOOP_intro (fun x w' => ∃ i : Nat, i ≤ s.l.length ∧ x = (.int .i64 (lowest (alive (s.l.take i))), .bool (decide (alive (s.l.take i) ≠ [])), .int .i64 i, ()) ∧ Rel B' w' [])
    (fun x _ => s.l.length - (match x.2.2.1 with | .int _ n => n.toNat | _ => 0)) ⟨0, Nat.zero_le _, rfl, h⟩ ?_
  clear h
  rintro x w1 ⟨i, hi, rfl, h⟩ next hnext
  simp -zeta only [nil_ptr, field_addr f_errataref35_Marks_0, Nat.add_zero, cellD.ld (h.hereB hc) sc_s_int (o := 0) rfl, rowR.len hu sl_s_int, bin_lss, ifB_dec]
  rw [e1]
  refine ⟨fun hlt => ?_, fun hge => ?_⟩
  · have hil : i < s.l.length := by omega
    have esucc := alive_succ hil
    obtain ⟨a, q1, q2⟩ := rowR.at_sc hu h sl_s_int (i := i) (by omega) sc_int (x := .int .i64 s.l[i].mark) (by simp [lM, Enc.cells])
    obtain ⟨b, q3, q4⟩ := rowR.at_sc hv h nil_bool (i := i) (by omega) sc_bool (x := .bool s.l[i].idle) (by simp [lO, Enc.cells])
    refine LETJ_intro fun J1 hJ1 => ?_
    replace hJ1 : J1 (.int .i64 (lowest (alive (s.l.take (i + 1)))), .bool (decide (alive (s.l.take (i + 1)) ≠ [])), ()) w1 := by
      refine hJ1 _ _ ?_
      rw [bin_add, wrap_id (by omega) (by omega)]
      exact hnext _ _ ⟨i + 1, by omega, rfl, h⟩ (by simp only; omega)
    clear hnext
    simp -zeta only [field_addr f_errataref35_Marks_1, Nat.zero_add, cellD.ld (h.hereB hc) sc_s_bool (o := 1) rfl, q3, q4]
    rw [un_not, ifB_not, ifB_bool]
    refine ⟨fun e => ?_, fun e => ?_⟩
    · rw [esucc, if_pos e, List.append_nil] at hJ1
      exact hJ1
    · rw [esucc, if_neg (by rw [e]; decide)] at hJ1
      rw [decide_eq_true (show alive (s.l.take i) ++ [s.l[i].mark] ≠ [] by simp)] at hJ1
      rw [un_not, ifB_not, ifB_dec]
      refine ⟨fun hne => ?_, fun hemp => ?_⟩
      · rw [lowest_append hne] at hJ1
        simp -zeta only [q1, q2, bin_lss, ifB_dec]
        refine ⟨fun c => ?_, fun c => ?_⟩
        · rw [show min (lowest (alive (s.l.take i))) s.l[i].mark = s.l[i].mark by omega] at hJ1
          exact hJ1
        · rw [show min (lowest (alive (s.l.take i))) s.l[i].mark = lowest (alive (s.l.take i)) by omega] at hJ1
          rw [decide_eq_true hne]
          exact hJ1
      · have hemp := Decidable.of_not_not hemp
        rw [hemp] at hJ1
        simp -zeta only [q1, q2]
        exact hJ1
  · have : i = s.l.length := by omega
    subst this
    rw [List.take_length]
    unfold settled at k
    refine LETJ_intro fun J2 hJ2 => ?_
    replace hJ2 : K (.int .i64 s.common) w1 → J2 () w1 := by
      intro hk
      refine hJ2 _ _ ?_
      simp -zeta only [field_addr f_errataref35_Marks_2, Nat.zero_add, cellD.ld (h.hereB hc) sc_int (o := 2) rfl]
      exact hk
    refine ⟨fun hne => ?_, fun hemp => ?_⟩
    · rw [if_neg hne] at k
      simp -zeta only [field_addr f_errataref35_Marks_2, Nat.zero_add, cellD.ld (h.hereB hc) sc_int (o := 2) rfl, bin_gtr, ifB_dec]
      refine ⟨fun c => ?_, fun c => ?_⟩
      · rw [show max (lowest (alive s.l)) s.common = lowest (alive s.l) by omega] at k
        exact k _ _ h
      · rw [show max (lowest (alive s.l)) s.common = s.common by omega] at k
        exact hJ2 (k _ _ h)
    · rw [if_pos (Decidable.of_not_not hemp)] at k
      exact hJ2 (k _ _ h)
def rmPost (p : Nat) (x : Int × MarkS) : Value → Dat → List Dat → Prop := fun u e' τ => u = .int .i64 x.1 ∧ e' = refMD p x.2 ∧ τ = []
theorem inp_at {j : Nat} (hj : j < s.l.length) : inp s j = s.l[j] := by
  unfold inp
  rw [List.getD_eq_getElem?_getD, Int.toNat_natCast, List.getElem?_eq_getElem hj]
  rfl
theorem has_false {i : Int} (h : i < 0 ∨ (s.l.length : Int) ≤ i) : has s i = false := by
  unfold has
  rcases h with h | h
  · rw [decide_eq_false (by omega), Bool.false_and]
  · rw [decide_eq_false (show ¬ i < s.l.length by omega), Bool.and_false]
/-- What was set, and settled. -/
theorem rset_r {g1 c1 g2 c2 : Nat} {K : Value → World → Prop} (hl : s.l.length ≤ 200) {j : Nat} (hj : j < s.l.length) {x : MkD}
    (h : Rel B w [cellD p T_errataref35_Marks (rcs ⟨.slice (some ⟨g1, 0, none⟩) (lM s).length c1, rfl⟩ ⟨.slice (some ⟨g2, 0, none⟩) (lO s).length c2, rfl⟩ s), rowD T_int (.slice (some ⟨g1, 0, none⟩) (lM s).length c1) ((lM s).set j x.mark), rowD T_bool (.slice (some ⟨g2, 0, none⟩) (lO s).length c2) ((lO s).set j x.idle)])
    (k : ∀ w', Rel B w' [refMD p (upd s j x)] → K (.int .i64 0) w') :
    upK Tryd.prog (sCall F_errataref35_Marks_settled #[ptr1 p]) w fun t w3 => pureK Tryd.prog (sFieldAddr T_errataref35_Marks (ptr1 p) 2) fun b => upK Tryd.prog (sStore T_int b t) w3 fun _ w4 => K (.int .i64 0) w4 := by
  have e1 : (lM s).set j x.mark = lM ⟨s.l.set j x, s.common⟩ := by simp [lM]
  have e2 : (lO s).set j x.idle = lO ⟨s.l.set j x, s.common⟩ := by simp [lO]
  rw [e1, e2] at h
  refine h.ask (fun B2 own base2 => rsettled_c (s := ⟨s.l.set j x, s.common⟩) (u := ⟨.slice (some ⟨g1, 0, none⟩) (lM s).length c1, rfl⟩) (v := ⟨.slice (some ⟨g2, 0, none⟩) (lO s).length c2, rfl⟩) (own (i := 0) rfl) (rowD.read (own (i := 1) rfl)) (rowD.read (own (i := 2) rfl)) (by show (s.l.set _ _).length ≤ 200; rw [List.length_set]; exact hl)) fun w4 h => ?_
  simp -zeta only [field_addr f_errataref35_Marks_2, Nat.zero_add]
  refine h.st 0 rfl sc_int (show 2 < 3 by omega) rfl fun w5 h => ?_
  refine k _ ?_
  refine refMD.close (u := ⟨.slice (some ⟨g1, 0, none⟩) (lM s).length c1, rfl⟩) (v := ⟨.slice (some ⟨g2, 0, none⟩) (lO s).length c2, rfl⟩) ?_
  unfold upd
  rw [Int.toNat_natCast]
  exact h
theorem rnote_d (hl : s.l.length ≤ 200) (i m : Int) : Does Tryd.prog B (refMD p s) (sCall F_errataref35_Marks_Note #[ptr1 p, .int .i64 i, .int .i64 m]) (rmPost p (note s i m)) := by
  refine Does.intro fun B' w K base h k => ?_
  refine errataref35_Marks_Note.up (errataref35_Marks_Note.call ?_)
  unfold errataref35_Marks_Note.pt
  have fin : ∀ (y : Int × MarkS), note s i m = y → ∀ w', Rel B' w' [refMD p y.2] → K (.int .i64 y.1) w' := fun y e w' h => k _ _ [] _ ⟨by rw [e], by rw [e], rfl⟩ h
  clear k
  unfold note at fin
  obtain ⟨⟨u, hu⟩, ⟨v, hv⟩, h⟩ := refMD.open_ h
  have e1 : (lM s).length = s.l.length := lM_len
  have e2 : (lO s).length = s.l.length := lO_len
  have h : Rel B' w [cellD p T_errataref35_Marks (rcs ⟨u, hu⟩ ⟨v, hv⟩ s), rowD T_int u (lM s), rowD T_bool v (lO s)] := h
  have no : has s i = false → K (.int .i64 4) w := fun hn => fin (4, s) (by rw [if_pos hn]) w (refMD.close (u := ⟨u, hu⟩) (v := ⟨v, hv⟩) h)
  rw [bin_lss, ifB_dec]
  refine ⟨fun c => no (has_false (.inl c)), fun c0 => ?_⟩
  have hrd := rowD.read (h.here (i := 1) rfl)
  simp -zeta only [nil_ptr, field_addr f_errataref35_Marks_0, Nat.add_zero, h.ld 0 rfl sc_s_int (o := 0) rfl, rowR.len hrd sl_s_int, bin_geq]
  rw [e1, ifB_dec]
  refine ⟨fun c => no (has_false (.inr c)), fun c1 => ?_⟩
  obtain ⟨j, rfl⟩ : ∃ j : Nat, i = j := ⟨i.toNat, by omega⟩
  have hj : j < s.l.length := by omega
  have hh : has s j = true := has_iff.2 ⟨j, rfl, hj⟩
  rw [if_neg (by rw [hh]; decide)] at fin
  rw [bin_lss, ifB_dec]
  refine ⟨fun c2 => fin (3, s) (if_pos (.inl c2)) w (refMD.close (u := ⟨u, hu⟩) (v := ⟨v, hv⟩) h), fun c2 => ?_⟩
  rw [bin_gtr, ifB_dec]
  refine ⟨fun c3 => fin (3, s) (if_pos (.inr c3)) w (refMD.close (u := ⟨u, hu⟩) (v := ⟨v, hv⟩) h), fun c3 => ?_⟩
  rw [if_neg (fun hh => hh.elim (fun h => c2 h) (fun h => c3 h))] at fin
  clear hrd
  obtain ⟨g1, cc1, rfl⟩ := h.open_ (i := 1) rfl (by omega)
  obtain ⟨g2, cc2, rfl⟩ := h.open_ (i := 2) rfl (by omega)
  have hx1 : ∀ {Kp : Value → Prop}, pureK Tryd.prog (sIdxAddr T_s_int (.slice (some ⟨g1, 0, none⟩) (lM s).length cc1) (.int .i64 j)) Kp = Kp (.pointer (some ⟨g1, j * Enc.sz Int, none⟩)) := fun {Kp} => idx_own (α := Int) sl_s_int (by omega)
  have hx2 : ∀ {Kp : Value → Prop}, pureK Tryd.prog (sIdxAddr T_s_bool (.slice (some ⟨g2, 0, none⟩) (lO s).length cc2) (.int .i64 j)) Kp = Kp (.pointer (some ⟨g2, j * Enc.sz Bool, none⟩)) := fun {Kp} => idx_own (α := Bool) nil_bool (by omega)
  have hel := h.elem (i := 1) rfl (show j < (lM s).length by omega)
  have hel : (cellsR g1 (j * Enc.sz Int) [.int .i64 s.l[j].mark]).here w := by simpa [lM, Enc.cells] using hel
  refine LETJ_intro fun J1 hJ1 => ?_
  replace hJ1 : ∀ w', Rel B' w' [cellD p T_errataref35_Marks (rcs ⟨.slice (some ⟨g1, 0, none⟩) (lM s).length cc1, hu⟩ ⟨.slice (some ⟨g2, 0, none⟩) (lO s).length cc2, hv⟩ s), rowD T_int (.slice (some ⟨g1, 0, none⟩) (lM s).length cc1) ((lM s).set j (max m s.l[j].mark)), rowD T_bool (.slice (some ⟨g2, 0, none⟩) (lO s).length cc2) (lO s)] → J1 () w' := by
    intro w' h
    refine hJ1 _ _ ?_
    clear hJ1
    simp -zeta only [nil_ptr, field_addr f_errataref35_Marks_1, Nat.zero_add, h.ld 0 rfl sc_s_bool (o := 1) rfl, hx2]
    refine h.set_sc 2 (j := j) (f := 0) rfl false (by omega) (Nat.add_zero _).symm (by decide) rfl sc_bool rfl fun w3 h => ?_
    refine rset_r (x := ⟨max m s.l[j].mark, false⟩) hl hj h fun w4 h => ?_
    refine fin (0, upd s j ⟨max m s.l[j].mark, false⟩) ?_ _ h
    rw [inp_at hj]
  simp -zeta only [h.ld 0 rfl sc_s_int (o := 0) rfl, hx1, cellsR.ld0 hel sc_int rfl, bin_gtr, ifB_dec]
  refine ⟨fun c4 => ?_, fun c4 => ?_⟩
  · refine h.set_sc 1 (j := j) (f := 0) rfl m (by omega) (Nat.add_zero _).symm (by decide) rfl sc_int rfl fun w3 h => ?_
    rw [show max m s.l[j].mark = m by omega] at hJ1
    exact hJ1 _ h
  · have e3 : (lM s).set j (max m s.l[j].mark) = lM s := by
      have : max m s.l[j].mark = (lM s)[j]'(by omega) := by simp [lM]; omega
      rw [this, List.set_getElem_self]
    rw [e3] at hJ1
    exact hJ1 _ h
theorem ridle_d (hl : s.l.length ≤ 200) (i : Int) (on : Bool) : Does Tryd.prog B (refMD p s) (sCall F_errataref35_Marks_Idle #[ptr1 p, .int .i64 i, .bool on]) (rmPost p (idle s i on)) := by
  refine Does.intro fun B' w K base h k => ?_
  refine errataref35_Marks_Idle.up (errataref35_Marks_Idle.call ?_)
  unfold errataref35_Marks_Idle.pt
  have fin : ∀ (y : Int × MarkS), idle s i on = y → ∀ w', Rel B' w' [refMD p y.2] → K (.int .i64 y.1) w' := fun y e w' h => k _ _ [] _ ⟨by rw [e], by rw [e], rfl⟩ h
  clear k
  unfold idle at fin
  obtain ⟨⟨u, hu⟩, ⟨v, hv⟩, h⟩ := refMD.open_ h
  have e1 : (lM s).length = s.l.length := lM_len
  have e2 : (lO s).length = s.l.length := lO_len
  have h : Rel B' w [cellD p T_errataref35_Marks (rcs ⟨u, hu⟩ ⟨v, hv⟩ s), rowD T_int u (lM s), rowD T_bool v (lO s)] := h
  have no : has s i = false → K (.int .i64 4) w := fun hn => fin (4, s) (by rw [if_pos hn]) w (refMD.close (u := ⟨u, hu⟩) (v := ⟨v, hv⟩) h)
  rw [bin_lss, ifB_dec]
  refine ⟨fun c => no (has_false (.inl c)), fun c0 => ?_⟩
  have hrd := rowD.read (h.here (i := 1) rfl)
  simp -zeta only [nil_ptr, field_addr f_errataref35_Marks_0, Nat.add_zero, h.ld 0 rfl sc_s_int (o := 0) rfl, rowR.len hrd sl_s_int, bin_geq]
  rw [e1, ifB_dec]
  refine ⟨fun c => no (has_false (.inr c)), fun c1 => ?_⟩
  obtain ⟨j, rfl⟩ : ∃ j : Nat, i = j := ⟨i.toNat, by omega⟩
  have hj : j < s.l.length := by omega
  have hh : has s j = true := has_iff.2 ⟨j, rfl, hj⟩
  rw [if_neg (by rw [hh]; decide)] at fin
  clear hrd
  obtain ⟨g1, cc1, rfl⟩ := h.open_ (i := 1) rfl (by omega)
  obtain ⟨g2, cc2, rfl⟩ := h.open_ (i := 2) rfl (by omega)
  have hx2 : ∀ {Kp : Value → Prop}, pureK Tryd.prog (sIdxAddr T_s_bool (.slice (some ⟨g2, 0, none⟩) (lO s).length cc2) (.int .i64 j)) Kp = Kp (.pointer (some ⟨g2, j * Enc.sz Bool, none⟩)) := fun {Kp} => idx_own (α := Bool) nil_bool (by omega)
  simp -zeta only [field_addr f_errataref35_Marks_1, Nat.zero_add, h.ld 0 rfl sc_s_bool (o := 1) rfl, hx2]
  refine h.set_sc 2 (j := j) (f := 0) rfl on (by omega) (Nat.add_zero _).symm (by decide) rfl sc_bool rfl fun w3 h => ?_
  have e3 : (lM s) = (lM s).set j (⟨s.l[j].mark, on⟩ : MkD).mark := by
    have : (⟨s.l[j].mark, on⟩ : MkD).mark = (lM s)[j]'(by omega) := by simp [lM]
    rw [this, List.set_getElem_self]
  have h : Rel B' w3 [cellD p T_errataref35_Marks (rcs ⟨.slice (some ⟨g1, 0, none⟩) (lM s).length cc1, hu⟩ ⟨.slice (some ⟨g2, 0, none⟩) (lO s).length cc2, hv⟩ s), rowD T_int (.slice (some ⟨g1, 0, none⟩) (lM s).length cc1) (lM s), rowD T_bool (.slice (some ⟨g2, 0, none⟩) (lO s).length cc2) ((lO s).set j on)] := h
  refine rset_r (x := ⟨s.l[j].mark, on⟩) hl hj (by rw [← e3]; exact h) fun w4 h => ?_
  refine fin (0, upd s j ⟨s.l[j].mark, on⟩) ?_ _ h
  rw [inp_at hj]
theorem tell_d (hl : s.l.length ≤ 200) (x : MOp) : Does Tryd.prog B (refMD p s) (sCall F_erratalaw35_tell #[ptr1 p, .agg x.cs.toArray]) (rmPost p (doM s x)) := by
  refine Does.intro fun B' w K base h k => ?_
  refine erratalaw35_tell.up (erratalaw35_tell.call ?_)
  unfold erratalaw35_tell.pt
  refine h.box fun o w1 h => ?_
  have h : Rel B' w1 [refMD p s, cellD o T_erratalaw35_Op x.cs.toArray] := h
  have fin : ∀ (y : Int × MarkS), doM s x = y → ∀ w', Rel B' w' [refMD p y.2, cellD o T_erratalaw35_Op x.cs.toArray] → K (.int .i64 y.1) w' := fun y e w' h => k _ _ [] _ ⟨by rw [e], by rw [e], rfl⟩ (h.take 1)
  clear k
  unfold doM at fin
  simp -zeta only [field_addr f_erratalaw35_Op_0, field_addr f_erratalaw35_Op_1, field_addr f_erratalaw35_Op_2, Nat.add_zero, Nat.zero_add, h.ld 1 rfl sc_int (o := 0) rfl, h.ld 1 rfl sc_int (o := 1) rfl, h.ld 1 rfl sc_int (o := 2) rfl, bin_and, and3m, bin_eql, ifB_dec]
  refine ⟨fun c => ?_, fun c => ⟨fun c2 => ?_, fun c2 => ?_⟩⟩
  · rw [if_pos c] at fin
    refine h.act 0 rfl (fun B2 own base2 => ridle_d hl x.i true) fun v e' τ w3 hp h => ?_
    obtain ⟨rfl, rfl, rfl⟩ := hp
    exact fin _ rfl _ h
  · rw [if_neg c, if_pos c2] at fin
    refine h.act 0 rfl (fun B2 own base2 => ridle_d hl x.i false) fun v e' τ w3 hp h => ?_
    obtain ⟨rfl, rfl, rfl⟩ := hp
    exact fin _ rfl _ h
  · rw [if_neg c, if_neg c2] at fin
    refine h.act 0 rfl (fun B2 own base2 => rnote_d hl x.i x.mark) fun v e' τ w3 hp h => ?_
    obtain ⟨rfl, rfl, rfl⟩ := hp
    exact fin _ rfl _ h
theorem rnew_m (n : Int) : Makes Tryd.prog B (sCall F_errataref35_New #[.int .i64 n]) fun u τ => ∃ p, u = ptr1 p ∧ τ = [refMD p (fresh n)] := by
  refine Makes.intro fun B' w K base h k => ?_
  refine errataref35_New.up (errataref35_New.call ?_)
  unfold errataref35_New.pt
  rw [bd_errataref35_Marks_2]
  refine h.box fun p w1 h => ?_
  have h := (h.addNil Int T_int).addNil Bool T_bool
  have h : Rel B' w1 [cellD p T_errataref35_Marks #[.slice none 0 0, .slice none 0 0, .int .i64 (-1)], rowD T_int (.slice none 0 0) ([] : List Int), rowD T_bool (.slice none 0 0) ([] : List Bool)] := h
  refine LETJ_intro fun J1 hJ1 => ?_
  replace hJ1 : ∀ (i : Nat) (u v : SV), (i : Int) = min (max n 0) 200 → ∀ w', Rel B' w' [cellD p T_errataref35_Marks #[u.1, v.1, .int .i64 (-1)], rowD T_int u.1 (List.replicate i (-1)), rowD T_bool v.1 (List.replicate i false)] → J1 () w' := by
    intro i u v hi w' h
    refine hJ1 _ _ ?_
    refine k _ _ _ ⟨p, rfl, rfl⟩ (refMD.close (s := fresh n) (u := u) (v := v) ?_)
    have e : (min (max n 0) 200).toNat = i := by omega
    unfold fresh
    rw [e]
    have e1 : lM ⟨List.replicate i ⟨-1, false⟩, -1⟩ = List.replicate i (-1) := by simp [lM]
    have e2 : lO ⟨List.replicate i ⟨-1, false⟩, -1⟩ = List.replicate i false := by simp [lO]
    rw [e1, e2]
    exact h
  refine LOOP_intro (fun x w' => ∃ (i : Nat) (u v : SV), (i : Int) ≤ max n 0 ∧ i ≤ 200 ∧ x = (.int .i64 i, ()) ∧ Rel B' w' [cellD p T_errataref35_Marks #[u.1, v.1, .int .i64 (-1)], rowD T_int u.1 (List.replicate i (-1)), rowD T_bool v.1 (List.replicate i false)]) (fun x _ => 200 - (match x.1 with | .int _ n => n.toNat | _ => 0))
    ⟨0, ⟨.slice none 0 0, rfl⟩, ⟨.slice none 0 0, rfl⟩, by omega, by omega, rfl, h⟩ ?_
  clear h
  rintro x w2 ⟨i, u, v, hi, hi2, rfl, h⟩ next hnext
  rw [bin_lss, ifB_dec]
  refine ⟨fun c1 => ?_, fun c1 => hJ1 i u v (by omega) _ h⟩
  rw [bin_lss, ifB_dec]
  refine ⟨fun c2 => ?_, fun c2 => hJ1 i u v (by omega) _ h⟩
  simp -zeta only [nil_ptr, field_addr f_errataref35_Marks_0, Nat.add_zero, h.ld 0 rfl sc_s_int (o := 0) rfl]
  refine h.push1 (α := Int) 1 rfl (-1) sl_s_int (by decide) (by rw [List.length_replicate]; omega) (by rw [List.length_replicate]; omega) fun u2 w4 h => ?_
  have h1 : u2.oneCell' = true := h.oneCell (i := 1) rfl
  refine h.st 0 rfl sc_s_int (show 0 < 3 by omega) h1 fun w5 h => ?_
  have h : Rel B' w5 [cellD p T_errataref35_Marks #[u2, v.1, .int .i64 (-1)], rowD T_int u2 (List.replicate i (-1) ++ [-1]), rowD T_bool v.1 (List.replicate i false)] := h
  simp -zeta only [field_addr f_errataref35_Marks_1, Nat.zero_add, h.ld 0 rfl sc_s_bool (o := 1) rfl]
  refine h.push1 (α := Bool) 2 rfl false nil_bool (by decide) (by rw [List.length_replicate]; omega) (by rw [List.length_replicate]; omega) fun v2 w7 h => ?_
  have h2 : v2.oneCell' = true := h.oneCell (i := 2) rfl
  refine h.st 0 rfl sc_s_bool (show 1 < 3 by omega) h2 fun w8 h => ?_
  have h : Rel B' w8 [cellD p T_errataref35_Marks #[u2, v2, .int .i64 (-1)], rowD T_int u2 (List.replicate i (-1) ++ [-1]), rowD T_bool v2 (List.replicate i false ++ [false])] := h
  rw [bin_add, wrap_id (by omega) (by omega)]
  refine hnext _ _ ⟨i + 1, ⟨u2, h1⟩, ⟨v2, h2⟩, by omega, by omega, rfl, ?_⟩ (by simp only; omega)
  rw [List.replicate_succ', List.replicate_succ']
  exact h
end
end Go.Proofs.YtncgdihcplhcoaaDoor
