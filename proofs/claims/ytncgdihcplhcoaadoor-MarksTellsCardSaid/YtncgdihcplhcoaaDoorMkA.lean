/-
  A tracker of marks in memory: what its functions do. No condition.
-/
import Derived.Test.YtncgdihcplhcoaaDoorMkP
import Derived.Test.YtncgdihcplhcoaaDoorPt2
namespace Go.Proofs.YtncgdihcplhcoaaDoor
open Go.RowKit
set_option maxRecDepth 100000

def marksD (p : Nat) (s : MarkS) : Dat := Dat.ex fun v : SV => stars [cellD p T_marks_Marks #[v.1, .int .i64 s.common], rowD T_marks_input v.1 s.l]
section
variable {B : Base} {w : World} {σ : List Dat} {p : Nat} {s : MarkS}
theorem marksD.open_ (h : Rel B w [marksD p s]) : ∃ v : SV, Rel B w [cellD p T_marks_Marks #[v.1, .int .i64 s.common], rowD T_marks_input v.1 s.l] := by
  obtain ⟨v, h⟩ := h.ex (i := 0) rfl
  have h := Rel.unstars (σ := []) (L := [cellD p T_marks_Marks #[v.1, .int .i64 s.common], rowD T_marks_input v.1 s.l]) h
  exact ⟨v, h⟩
theorem marksD.close {v : SV} (h : Rel B w [cellD p T_marks_Marks #[v.1, .int .i64 s.common], rowD T_marks_input v.1 s.l]) : Rel B w [marksD p s] := by
  have h := Rel.restars (σ := []) h
  exact h.imp (i := 0) (e := marksD p s) rfl fun B hB => ⟨v, hB⟩
theorem marksD.peek (h : marksD p s B) : ∃ v : SV, cellD p T_marks_Marks #[v.1, .int .i64 s.common] B ∧ rowR v.1 s.l B := by
  obtain ⟨v, h⟩ := h
  exact ⟨v, Dat.star.left h, rowD.read (Dat.star.left (Dat.star.right h))⟩
theorem has_c {v : SV} (hc : cellD p T_marks_Marks #[v.1, .int .i64 s.common] B) (hr : rowR v.1 s.l B) (i : Int) : Gives Tryd.prog B (sCall F_marks_Marks_has #[ptr1 p, .int .i64 i]) (.bool (has s i)) := by
  refine Gives.intro fun B' w K base h k => ?_
  replace hc := base hc
  replace hr := base hr
  refine marks_Marks_has.up (marks_Marks_has.call ?_)
  unfold marks_Marks_has.pt
  simp -zeta only [bin_geq, ifB_dec, nil_ptr, field_addr f_marks_Marks_0, Nat.add_zero, cellD.ld (h.hereB hc) sc_s_marks_input (o := 0) rfl, rowR.len hr sl_s_marks_input, bin_lss]
  refine ⟨fun h0 => ?_, fun h0 => ?_⟩
  · have : has s i = decide (i < s.l.length) := by simp [has, h0]
    rw [this] at k; exact k _ _ h
  · have : has s i = false := by simp [has, h0]
    rw [this] at k; exact k _ _ h
theorem mMark_g (hM : marksD p s B) : Gives Tryd.prog B (sCall F_marks_Marks_Mark #[ptr1 p]) (.int .i64 s.common) := by
  refine Gives.intro fun B' w K base h k => ?_
  obtain ⟨v, hc, hr⟩ := marksD.peek (base hM)
  refine marks_Marks_Mark.up (marks_Marks_Mark.call ?_)
  unfold marks_Marks_Mark.pt
  simp -zeta only [nil_ptr, field_addr f_marks_Marks_1, Nat.zero_add, cellD.ld (h.hereB hc) sc_int (o := 1) rfl]
  exact k _ _ h
theorem min_g {v : Value} {l : List Int} (r : rowR v l B) (hl : 0 < l.length) (hm : l.length ≤ 1000000) : Gives Tryd.prog B (sCall F_slices_Min_s_int_int #[v]) (.int .i64 (lowest l)) := by
  refine Gives.intro fun B' w K base h k => ?_
  replace r := base r
  refine slices_Min_s_int_int.up (slices_Min_s_int_int.call ?_)
  unfold slices_Min_s_int_int.pt
  have h1 : ¬ ((l.length : Int) < 1) := by omega
  obtain ⟨q, hx, hc⟩ := rowR.at_sc r h sl_s_int hl sc_int (x := .int .i64 l[0]) rfl
  have hx0 : ∀ {Kp : Value → Prop}, pureK Tryd.prog (sIdxAddr T_s_int v (.int .i64 0)) Kp = Kp q := fun {Kp} => hx
  simp -zeta only [rowR.len r sl_s_int, bin_lss, ifB_dec, hx0, hc]
  refine ⟨fun h => absurd h h1, fun _ => ?_⟩
  refine LOOP_intro (fun x w' => ∃ i : Nat, 1 ≤ i ∧ i ≤ l.length ∧ x = (.int .i64 (lowest (l.take i)), .int .i64 i, ()) ∧ Rel B' w' []) (fun x _ => l.length - (match x.2.1 with | .int _ n => n.toNat | _ => 0)) ⟨1, Nat.le_refl _, hl, ?_, h⟩ ?_
  · obtain ⟨a, r, rfl⟩ := List.exists_cons_of_length_pos hl
    rfl
  clear h hx hc hx0
  rintro x w' ⟨i, hi1, hi, rfl, h⟩ next hnext
  simp -zeta only [bin_lss, ifB_dec]
  refine ⟨fun hlt => ?_, fun hge => ?_⟩
  · have hil : i < l.length := by omega
    obtain ⟨q, hx, hc⟩ := rowR.at_sc r h sl_s_int hil sc_int (x := .int .i64 l[i]) rfl
    simp -zeta only [hx, hc, blt_min, bin_add]
    rw [wrap_id (by omega) (by omega)]
    have e : lowest (l.take (i + 1)) = min (lowest (l.take i)) l[i] := by
      rw [List.take_succ_eq_append_getElem hil, lowest_append]
      intro e
      have := congrArg List.length e
      rw [List.length_take, List.length_nil] at this
      omega
    exact hnext _ _ ⟨i + 1, by omega, by omega, by rw [e]; rfl, h⟩ (by simp only; omega)
  · have : i = l.length := by omega
    subst this
    rw [List.take_length]
    exact k _ _ h
theorem least_g {v : Value} {l : List Int} (r : rowR v l B) (hm : l.length ≤ 1000000) : Gives Tryd.prog B (sCall F_marks_least_int #[v]) (.tuple #[.int .i64 (lowest l), .bool (decide (l ≠ []))]) := by
  refine Gives.intro fun B' w K base h k => ?_
  replace r := base r
  refine marks_least_int.up (marks_least_int.call ?_)
  unfold marks_least_int.pt
  simp -zeta only [rowR.len r sl_s_int, bin_eql, ifB_dec]
  refine ⟨fun h0 => ?_, fun h0 => ?_⟩
  · have : l = [] := List.eq_nil_of_length_eq_zero (by omega)
    subst this
    exact k _ _ h
  · refine h.ask (fun B2 own base2 => min_g (base2 r) (by omega) hm) fun w2 h => ?_
    have : decide (l ≠ []) = true := by
      rw [decide_eq_true_eq]; rintro rfl; exact h0 rfl
    rw [this] at k
    exact k _ _ h
theorem settled_c {v : SV} (hc : cellD p T_marks_Marks #[v.1, .int .i64 s.common] B) (hr : rowR v.1 s.l B) (hl : s.l.length ≤ 200) : Gives Tryd.prog B (sCall F_marks_Marks_settled #[ptr1 p]) (.int .i64 (settled s)) := by
  refine Gives.intro fun B' w K base h k => ?_
  replace hc := base hc
  replace hr := base hr
  refine marks_Marks_settled.up (marks_Marks_settled.call ?_)
  unfold marks_Marks_settled.pt
  simp -zeta only [nil_ptr, field_addr f_marks_Marks_0, Nat.add_zero, cellD.ld (h.hereB hc) sc_s_marks_input (o := 0) rfl, rowR.len hr sl_s_marks_input]
  have h := h.addNil Int T_int
  refine LOOP_intro (fun x w' => ∃ (i : Nat) (vl : Value), i ≤ s.l.length ∧ x = (vl, .int .i64 i, ()) ∧ Rel B' w' [rowD T_int vl (alive (s.l.take i))])
    (fun x _ => s.l.length - (match x.2.1 with | .int _ n => n.toNat | _ => 0)) ⟨0, _, Nat.zero_le _, rfl, h⟩ ?_
  clear h
  rintro x w1 ⟨i, vl, hi, rfl, h⟩ next hnext
  simp -zeta only [bin_lss, ifB_dec]
  refine ⟨fun hlt => ?_, fun hge => ?_⟩
  · have hil : i < s.l.length := by omega
    have esucc : alive (s.l.take (i + 1)) = alive (s.l.take i) ++ (if s.l[i].idle = true then [] else [s.l[i].mark]) := by
      unfold alive
      rw [List.take_succ_eq_append_getElem hil, List.filter_append, List.map_append]
      by_cases e : s.l[i].idle = true <;> simp [e]
    refine LETJ_intro fun J1 hJ1 => ?_
    replace hJ1 : ∀ vl w', Rel B' w' [rowD T_int vl (alive (s.l.take (i + 1)))] → J1 (vl, ()) w' := by
      intro vl w' h
      refine hJ1 _ _ ?_
      rw [bin_add, wrap_id (by omega) (by omega)]
      exact hnext _ _ ⟨i + 1, vl, by omega, rfl, h⟩ (by simp only; omega)
    obtain ⟨g, o, hx, hcl⟩ := rowR.idx hr sl_s_marks_input (P := Tryd.prog) hil
    have hcl : cellsR g o s.l[i].cs B' := hcl
    rw [hx, cellsR.ldAg (h.hereB hcl) ag_marks_input rfl]
    refine h.allocAg (ds := s.l[i].cs.toArray) z_marks_input rfl ag_marks_input rfl (fun v hv => Enc.one s.l[i] v hv) fun a w3 h => ?_
    have h : Rel B' w3 [rowD T_int vl (alive (s.l.take i)), cellD a T_marks_input s.l[i].cs.toArray] := h
    simp -zeta only [field_addr f_marks_input_0, field_addr f_marks_input_1, Nat.add_zero, Nat.zero_add, h.ld 1 rfl sc_bool (o := 1) rfl, h.ld 1 rfl sc_int (o := 0) rfl]
    rw [un_not, ifB_not, ifB_bool]
    refine ⟨fun e => ?_, fun e => ?_⟩
    · rw [esucc, if_pos e, List.append_nil] at hJ1
      exact hJ1 _ _ (h.take 1)
    · refine h.build1 s.l[i].mark sl_s_int (by decide) fun v3 w5 h => ?_
      have hle : (alive (s.l.take i)).length ≤ i := by
        unfold alive
        rw [List.length_map]
        exact Nat.le_trans (List.length_filter_le _ _) (List.length_take_le _ _)
      refine h.append 0 rfl sl_s_int (Rd.at (l := [s.l[i].mark]) 2 rfl) (by rw [List.length_singleton]; omega) (by rw [List.length_singleton]; omega) fun v4 w6 h => ?_
      rw [esucc, if_neg (by rw [e]; decide)] at hJ1
      exact hJ1 _ _ (h.take 1)
  · have : i = s.l.length := by omega
    subst this
    rw [List.take_length] at h
    have hle : (alive s.l).length ≤ s.l.length := by
      unfold alive
      rw [List.length_map]
      exact List.length_filter_le _ _
    refine h.ask (fun B2 own base2 => least_g (rowD.read (own (i := 0) rfl)) (by omega)) fun w7 h => ?_
    simp -zeta only [ext_2_0, ext_2_1, field_addr f_marks_Marks_1, Nat.zero_add, cellD.ld (h.hereB hc) sc_int (o := 1) rfl, blt_max]
    unfold settled at k
    rw [un_not, ifB_not, ifB_dec]
    refine ⟨fun e => ?_, fun e => ?_⟩
    · rw [if_neg e] at k
      exact k _ _ h
    · rw [if_pos (Decidable.of_not_not e)] at k
      exact k _ _ h
def mPost (p : Nat) (x : Int × MarkS) : Value → Dat → List Dat → Prop := fun u e' τ => u = .int .i64 x.1 ∧ e' = marksD p x.2 ∧ τ = []
theorem note_d (hl : s.l.length ≤ 200) (i m : Int) : Does Tryd.prog B (marksD p s) (sCall F_marks_Marks_Note #[ptr1 p, .int .i64 i, .int .i64 m]) (mPost p (note s i m)) := by
  refine Does.intro fun B' w K base h k => ?_
  refine marks_Marks_Note.up (marks_Marks_Note.call ?_)
  unfold marks_Marks_Note.pt
  obtain ⟨⟨u, hu⟩, h⟩ := marksD.open_ h
  have h : Rel B' w [cellD p T_marks_Marks #[u, .int .i64 s.common], rowD T_marks_input u s.l] := h
  refine h.ask (fun B2 own base2 => has_c (v := ⟨u, hu⟩) (own (i := 0) rfl) (rowD.read (own (i := 1) rfl)) i) fun w1 h => ?_
  unfold note at k
  have keep : ∀ n w', Rel B' w' [cellD p T_marks_Marks #[u, .int .i64 s.common], rowD T_marks_input u s.l] → (Rel B' w' [marksD p s] → K (.int .i64 n) w') → K (.int .i64 n) w' := fun n w' h f => f (marksD.close (v := ⟨u, hu⟩) h)
  rw [un_not, ifB_not, ifB_bool]
  refine ⟨fun c1 => ?_, fun c1 => ?_⟩
  · rw [if_neg (by rw [c1]; decide)] at k
    rw [bin_lss, ifB_dec]
    refine ⟨fun c2 => ?_, fun c2 => ?_⟩
    · rw [if_pos (.inl c2)] at k
      exact keep 3 _ h fun h => k _ _ [] _ ⟨rfl, rfl, rfl⟩ h
    rw [bin_gtr, ifB_dec]
    refine ⟨fun c3 => ?_, fun c3 => ?_⟩
    · rw [if_pos (.inr c3)] at k
      exact keep 3 _ h fun h => k _ _ [] _ ⟨rfl, rfl, rfl⟩ h
    rw [if_neg (fun hh => hh.elim (fun h => c2 h) (fun h => c3 h))] at k
    obtain ⟨j, rfl, hj⟩ := has_iff.1 c1
    obtain ⟨g, cap, rfl⟩ := h.open_ (i := 1) rfl (by omega)
    have h := h.tick
    have hel := h.elem (i := 1) rfl hj
    have hel : (cellsR g (j * Enc.sz MkD) s.l[j].cs).here (tick w1) := hel
    have hidx : ∀ {Kp : Value → Prop}, pureK Tryd.prog (sIdxAddr T_s_marks_input (.slice (some ⟨g, 0, none⟩) s.l.length cap) (.int .i64 j)) Kp = Kp (.pointer (some ⟨g, j * Enc.sz MkD, none⟩)) := fun {Kp} => idx_own (α := MkD) sl_s_marks_input hj
    simp -zeta only [nil_ptr, field_addr f_marks_Marks_0, Nat.add_zero, h.ld 0 rfl sc_s_marks_input (o := 0) rfl, hidx, field_addr f_marks_input_0, cellsR.ld0 hel sc_int rfl, blt_max]
    rw [bd_marks_input_0]
    have hin : inp s j = s.l[j] := by
      unfold inp
      rw [List.getD_eq_getElem?_getD, Int.toNat_natCast, List.getElem?_eq_getElem hj]
      rfl
    refine h.set_ag 1 (j := j) rfl (⟨max m s.l[j].mark, false⟩ : MkD) hj ag_marks_input rfl rfl fun w3 h => ?_
    have h : Rel B' w3 [cellD p T_marks_Marks #[.slice (some ⟨g, 0, none⟩) s.l.length cap, .int .i64 s.common], rowD T_marks_input (.slice (some ⟨g, 0, none⟩) s.l.length cap) (s.l.set j ⟨max m s.l[j].mark, false⟩)] := h
    refine h.ask (fun B2 own base2 => settled_c (s := ⟨s.l.set j ⟨max m s.l[j].mark, false⟩, s.common⟩) (v := ⟨.slice (some ⟨g, 0, none⟩) s.l.length cap, rfl⟩) (own (i := 0) rfl) (rowD.read (own (i := 1) rfl)) (by show (s.l.set _ _).length ≤ 200; rw [List.length_set]; exact hl)) fun w4 h => ?_
    simp -zeta only [field_addr f_marks_Marks_1, Nat.zero_add]
    refine h.st 0 rfl sc_int (show 1 < 2 by omega) rfl fun w5 h => ?_
    refine k _ _ [] _ ⟨rfl, rfl, rfl⟩ ?_
    refine marksD.close (v := ⟨.slice (some ⟨g, 0, none⟩) s.l.length cap, rfl⟩) ?_
    unfold upd
    rw [hin, Int.toNat_natCast]
    exact h
  · rw [if_pos c1] at k
    exact keep 4 _ h fun h => k _ _ [] _ ⟨rfl, rfl, rfl⟩ h
theorem idle_d (hl : s.l.length ≤ 200) (i : Int) (on : Bool) : Does Tryd.prog B (marksD p s) (sCall F_marks_Marks_Idle #[ptr1 p, .int .i64 i, .bool on]) (mPost p (idle s i on)) := by
  refine Does.intro fun B' w K base h k => ?_
  refine marks_Marks_Idle.up (marks_Marks_Idle.call ?_)
  unfold marks_Marks_Idle.pt
  obtain ⟨⟨u, hu⟩, h⟩ := marksD.open_ h
  have h : Rel B' w [cellD p T_marks_Marks #[u, .int .i64 s.common], rowD T_marks_input u s.l] := h
  refine h.ask (fun B2 own base2 => has_c (v := ⟨u, hu⟩) (own (i := 0) rfl) (rowD.read (own (i := 1) rfl)) i) fun w1 h => ?_
  unfold idle at k
  rw [un_not, ifB_not, ifB_bool]
  refine ⟨fun c1 => ?_, fun c1 => ?_⟩
  · rw [if_neg (by rw [c1]; decide)] at k
    obtain ⟨j, rfl, hj⟩ := has_iff.1 c1
    obtain ⟨g, cap, rfl⟩ := h.open_ (i := 1) rfl (by omega)
    have hidx : ∀ {Kp : Value → Prop}, pureK Tryd.prog (sIdxAddr T_s_marks_input (.slice (some ⟨g, 0, none⟩) s.l.length cap) (.int .i64 j)) Kp = Kp (.pointer (some ⟨g, j * Enc.sz MkD, none⟩)) := fun {Kp} => idx_own (α := MkD) sl_s_marks_input hj
    simp -zeta only [nil_ptr, field_addr f_marks_Marks_0, Nat.add_zero, h.ld 0 rfl sc_s_marks_input (o := 0) rfl, hidx, field_addr f_marks_input_1]
    have hin : inp s j = s.l[j] := by
      unfold inp
      rw [List.getD_eq_getElem?_getD, Int.toNat_natCast, List.getElem?_eq_getElem hj]
      rfl
    refine h.set_sc 1 (j := j) (f := 1) rfl (⟨s.l[j].mark, on⟩ : MkD) hj rfl (by decide) rfl sc_bool rfl fun w3 h => ?_
    have h : Rel B' w3 [cellD p T_marks_Marks #[.slice (some ⟨g, 0, none⟩) s.l.length cap, .int .i64 s.common], rowD T_marks_input (.slice (some ⟨g, 0, none⟩) s.l.length cap) (s.l.set j ⟨s.l[j].mark, on⟩)] := h
    refine h.ask (fun B2 own base2 => settled_c (s := ⟨s.l.set j ⟨s.l[j].mark, on⟩, s.common⟩) (v := ⟨.slice (some ⟨g, 0, none⟩) s.l.length cap, rfl⟩) (own (i := 0) rfl) (rowD.read (own (i := 1) rfl)) (by show (s.l.set _ _).length ≤ 200; rw [List.length_set]; exact hl)) fun w4 h => ?_
    simp -zeta only [field_addr f_marks_Marks_1, Nat.zero_add]
    refine h.st 0 rfl sc_int (show 1 < 2 by omega) rfl fun w5 h => ?_
    refine k _ _ [] _ ⟨rfl, rfl, rfl⟩ ?_
    refine marksD.close (v := ⟨.slice (some ⟨g, 0, none⟩) s.l.length cap, rfl⟩) ?_
    unfold upd
    rw [hin, Int.toNat_natCast]
    exact h
  · rw [if_pos c1] at k
    exact k _ _ [] _ ⟨rfl, rfl, rfl⟩ (marksD.close (v := ⟨u, hu⟩) h)
end
end Go.Proofs.YtncgdihcplhcoaaDoor
