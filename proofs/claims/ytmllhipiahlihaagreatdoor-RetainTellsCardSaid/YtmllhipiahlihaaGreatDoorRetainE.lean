/-
  The laws' small functions. No condition.
-/
import Derived.Test.YtmllhipiahlihaaGreatDoorRetainC
import Derived.Test.YtmllhipiahlihaaGreatDoorArgs
namespace Go.Proofs.YtmllhipiahlihaaGreatDoor
open Go.RowKit
set_option maxRecDepth 100000

section
variable {B : Base}

theorem pick_g (n : Int) : Gives Tryz.prog B (sCall F_erratalaw12_pick #[.int .i64 n, .int .i64 5]) (.int .i64 (n % 5)) := by
  refine Gives.intro fun B' w K base h k => ?_
  refine erratalaw12_pick.up (erratalaw12_pick.call ?_)
  unfold erratalaw12_pick.pt
  rw [bin_rem (by omega)]
  refine LETJ_intro fun J hJ => ?_
  have hr : n.tmod 5 = n % 5 ∨ (n.tmod 5 < 0 ∧ n.tmod 5 + 5 = n % 5 ∧ -5 < n.tmod 5) := by
    by_cases h0 : 0 ≤ n
    · left; exact Int.tmod_eq_emod_of_nonneg h0
    · have h1 : n.tmod 5 = -((-n) % 5) := by
        have : n = -(-n) := by omega
        rw [this, Int.neg_tmod, Int.tmod_eq_emod_of_nonneg (by omega)]
        simp
      omega
  have hn : 0 ≤ n % 5 ∧ n % 5 < 5 := by omega
  simp -zeta only [bin_lss, ifB_dec]
  refine ⟨fun hlt => ?_, fun hge => ?_⟩
  · rw [bin_add, wrap_id (by omega) (by omega), show n.tmod 5 + 5 = n % 5 by omega]
    exact hJ _ _ (k _ _ h)
  · rw [show n.tmod 5 = n % 5 by omega]
    exact hJ _ _ (k _ _ h)

def fewEv (e : Ev) : Bool := decide (e.row.length ≤ 13) && decide (e.source.size ≤ 300) && e.row.all fun x => decide (x.s.size ≤ 300)

theorem Few_g {v : Value} {L : EvL} (r : evsR v L B) (hl : L.length ≤ 1000000) (n : Int) : Gives Tryz.prog B (sCall F_errataref12_Few #[v, .int .i64 n]) (.bool ((evs L).all fewEv && decide ((L.length : Int) ≤ n))) := by
  refine Gives.intro fun B' w K base h k => ?_
  have r1 := base r.1
  have r2 := base r.2
  refine errataref12_Few.up (errataref12_Few.call ?_)
  unfold errataref12_Few.pt
  have hL : (raws L).length = L.length := by simp [raws]
  refine LOOP_intro (fun x w' => ∃ i : Nat, i ≤ L.length ∧ x = (.int .i64 i, ()) ∧ ((evs L).take i).all fewEv = true ∧ Rel B' w' []) (fun x _ => L.length - (match x.1 with | .int _ n => n.toNat | _ => 0)) ⟨0, Nat.zero_le _, rfl, rfl, h⟩ ?_
  clear h
  rintro x w1 ⟨i, hi, rfl, hall, h⟩ next hnext
  simp -zeta only [rowR.len r1 sl_s_api_Event, hL, bin_lss, ifB_dec]
  refine ⟨fun hlt => ?_, fun hge => ?_⟩
  · have hil : i < L.length := by omega
    refine LETJ_intro fun J hJ => ?_
    have hJ2 : ∀ w', fewEv L[i].1 = true → Rel B' w' [] → J () w' := by
      intro w' hf h
      refine hJ _ _ ?_
      show pureK _ _ _
      rw [bin_add, wrap_id (by omega) (by omega)]
      refine hnext _ _ ⟨i + 1, by omega, rfl, ?_, h⟩ (by simp only; omega)
      rw [List.take_succ_eq_append_getElem (by simpa [evs] using hil), List.all_append, hall]
      simpa [evs] using hf
    clear hJ hnext
    have no : ∀ w', fewEv L[i].1 = false → Rel B' w' [] → K (.bool false) w' := by
      intro w' hf h
      have : (evs L).all fewEv = false := by
        cases e : (evs L).all fewEv with
        | false => rfl
        | true =>
          rw [List.all_eq_true] at e
          rw [e L[i].1 (List.mem_map.2 ⟨L[i], List.getElem_mem hil, rfl⟩)] at hf
          cases hf
      rw [this] at k
      exact k _ _ h
    obtain ⟨g, o, hx, hc⟩ := rowR.idx r1 sl_s_api_Event (i := i) (by omega)
    have hel : (raws L)[i]'(by omega) = L[i].1.raw L[i].2 := by simp [raws]
    rw [hel] at hc
    have rr : rowR L[i].2.1 L[i].1.row B' := r2 L[i] (List.getElem_mem hil)
    have hc' := h.hereB hc
    have e5 : (L[i].1.raw L[i].2).row.1 = L[i].2.1 := rfl
    simp -zeta only [hx, field_addr f_api_Event_5, field_addr f_api_Event_2, cellsR.ld hc' sc_s_api_Value (j := 5) rfl, e5, cellsR.ld hc' sc_string (j := 2) rfl, rowR.len rr sl_s_api_Value, len_string U_string, bin_gtr, ifB_dec]
    refine ⟨fun h1 => no _ (by unfold fewEv; rw [decide_eq_false (p := L[i].1.row.length ≤ 13) (by omega)]; rfl) h, fun h1 => ⟨fun (h2 : 300 < (L[i].1.source.size : Int)) => no _ (by unfold fewEv; rw [decide_eq_false (p := L[i].1.source.size ≤ 300) (by omega)]; simp) h, fun (h2 : ¬ 300 < (L[i].1.source.size : Int)) => ?_⟩⟩
    refine LOOP_intro (fun x w' => ∃ j : Nat, j ≤ L[i].1.row.length ∧ x = (.int .i64 j, ()) ∧ ((L[i].1.row).take j).all (fun x => decide (x.s.size ≤ 300)) = true ∧ Rel B' w' []) (fun x _ => L[i].1.row.length - (match x.1 with | .int _ n => n.toNat | _ => 0)) ⟨0, Nat.zero_le _, rfl, rfl, h⟩ ?_
    clear h hc'
    rintro x w2 ⟨j, hj, rfl, hall2, h⟩ next hnext
    have hc' := h.hereB hc
    simp -zeta only [hx, field_addr f_api_Event_5, cellsR.ld hc' sc_s_api_Value (j := 5) rfl]
    simp -zeta only [e5, rowR.len rr sl_s_api_Value, bin_lss, ifB_dec]
    refine ⟨fun hlt => ?_, fun hge => ?_⟩
    · have hjl : j < L[i].1.row.length := by omega
      obtain ⟨g2, o2, hx2, hc2⟩ := rowR.idx rr sl_s_api_Value hjl
      simp -zeta only [hx2, field_addr f_api_Value_2, cellsR.ld (h.hereB hc2) sc_string (j := 2) rfl, len_string U_string, bin_gtr, ifB_dec]
      refine ⟨fun h3 => no _ ?_ h, fun h3 => ?_⟩
      · unfold fewEv
        have : L[i].1.row.all (fun x => decide (x.s.size ≤ 300)) = false := by
          cases e : L[i].1.row.all (fun x => decide (x.s.size ≤ 300)) with
          | false => rfl
          | true =>
            rw [List.all_eq_true] at e
            have := e _ (List.getElem_mem hjl)
            simp only [decide_eq_true_eq] at this
            omega
        rw [this, Bool.and_false]
      · rw [bin_add, wrap_id (by omega) (by omega)]
        refine hnext _ _ ⟨j + 1, by omega, rfl, ?_, h⟩ (by simp only; omega)
        rw [List.take_succ_eq_append_getElem hjl, List.all_append, hall2]
        simp
        omega
    · have : j = L[i].1.row.length := by omega
      subst this
      rw [List.take_length] at hall2
      refine hJ2 _ ?_ h
      unfold fewEv
      rw [hall2, decide_eq_true (show L[i].1.row.length ≤ 13 by omega), decide_eq_true (show L[i].1.source.size ≤ 300 by omega)]
      rfl
  · have : i = L.length := by omega
    subst this
    rw [List.take_of_length_le (by simp [evs])] at hall
    rw [hall] at k
    rw [bin_leq]
    exact k _ _ h

def fewOp (W : World) (o : D_erratalaw12_Op) (row : List Val) : Prop := rowR o.e.row.1 row (lawB W) ∧ row.length ≤ 13 ∧ o.e.source.size ≤ 300 ∧ (∀ x ∈ row, x.s.size ≤ 300) ∧ ∀ x ∈ row, ok_api_Value W x

def evOf (x : D_api_Event) (row : List Val) : Ev := ⟨x.part, x.pos_, x.source, x.schema, x.time, row⟩
theorem evOf_raw (x : D_api_Event) (row : List Val) : (evOf x row).raw x.row = x := rfl

theorem few_r {W w : World} {σ : List Dat} {v : Value} {ops : List D_erratalaw12_Op} {K : Value → World → Prop} (h : Rel (lawB W) w σ) (r : rowR v ops (lawB W)) (hm : ops.length ≤ maxLen) (hq : ∀ o ∈ ops, ok_erratalaw12_Op W o)
    (k : ∀ b w', (b = true → ops.length ≤ 60 ∧ ∀ o ∈ ops, ∃ row, fewOp W o row) → Rel (lawB W) w' σ → K (.bool b) w') : upK Tryz.prog (sCall F_erratalaw12_few #[v]) w K := by
  have hm' : ops.length ≤ 9223372036854775807 := by unfold maxLen at hm; omega
  refine erratalaw12_few.up (erratalaw12_few.call ?_)
  unfold erratalaw12_few.pt
  refine LOOP_intro (fun x w' => ∃ i : Nat, i ≤ ops.length ∧ x = (.int .i64 i, ()) ∧ (∀ o ∈ ops.take i, ∃ row, fewOp W o row) ∧ Rel (lawB W) w' σ) (fun x _ => ops.length - (match x.1 with | .int _ n => n.toNat | _ => 0)) ⟨0, Nat.zero_le _, rfl, (fun o ho => by simp at ho), h⟩ ?_
  clear h
  rintro x w1 ⟨i, hi, rfl, hall, h⟩ next hnext
  simp -zeta only [rowR.len r sl_s_erratalaw12_Op, bin_lss, ifB_dec]
  refine ⟨fun hlt => ?_, fun hge => ?_⟩
  · have hil : i < ops.length := by omega
    obtain ⟨g, o, hx, hc⟩ := rowR.idx r sl_s_erratalaw12_Op hil
    obtain ⟨-, ⟨-, -, -, -, -, row, hrow, hrm, hrq⟩, -⟩ := hq _ (List.getElem_mem hil)
    have hce : cellsR g (o + 1) (Enc.cells ops[i].e) (lawB W) := by
      refine ⟨hc.1, hc.2.1, fun j u hj => ?_⟩
      rw [Nat.add_assoc]
      refine hc.2.2 _ _ ?_
      match j with
      | 0 | 1 | 2 | 3 | 4 | 5 => exact hj
      | j + 6 => simp [Enc.cells] at hj
    simp -zeta only [hx, field_addr f_erratalaw12_Op_1, cellsR.ldAg (h.hereB hce) ag_api_Event rfl]
    refine h.build1 ops[i].e sl_s_api_Event (by decide) fun t w2 h => ?_
    refine h.ask (fun B2 own base2 => Few_g (L := [(evOf ops[i].e row, ops[i].e.row)]) ⟨rowD.read (own get_last), fun p hp => by
      simp only [List.mem_cons, List.not_mem_nil, or_false] at hp
      subst hp
      exact base2 hrow⟩ (by simp) 1) fun w3 h => ?_
    simp -zeta only [un_not, ifB_not]
    rw [ifB_bool]
    refine ⟨fun e => ?_, fun e => k _ _ (fun e => by cases e) h.drop⟩
    rw [bin_add, wrap_id (by omega) (by omega)]
    refine hnext _ _ ⟨i + 1, by omega, rfl, ?_, h.drop⟩ (by simp only; omega)
    intro o' ho'
    rw [List.take_succ_eq_append_getElem hil] at ho'
    rcases List.mem_append.1 ho' with ho' | ho'
    · exact hall _ ho'
    · simp only [List.mem_cons, List.not_mem_nil, or_false] at ho'
      subst ho'
      simp [evs, fewEv, evOf] at e
      exact ⟨row, hrow, e.1.1, e.1.2, e.2, hrq⟩
  · have : i = ops.length := by omega
    subst this
    rw [List.take_length] at hall
    rw [bin_leq]
    exact k _ _ (fun e => ⟨by simp at e; omega, hall⟩) h

/-- What came out can be read. -/
theorem newEvs.read {σ : List Dat} {u : Value} {L' : EvL} {B2 : Base} (own : ∀ {i : Nat} {d : Dat}, (σ ++ rowD T_api_Event u (raws L') :: L'.map rowEnt)[i]? = some d → d B2) : evsR u L' B2 := by
  refine ⟨rowD.read (E := T_api_Event) (own (i := σ.length) (by rw [List.getElem?_append_right (Nat.le_refl _)]; simp)), fun p hp => ?_⟩
  obtain ⟨m, hm, rfl⟩ := List.getElem_of_mem hp
  have : rowEnt L'[m] B2 := own (i := σ.length + (m + 1)) (by rw [List.getElem?_append_right (by omega)]; simp [hm])
  exact rowD.read (E := T_api_Value) (v := L'[m].2.1) (l := L'[m].1.row) this
end
end Go.Proofs.YtmllhipiahlihaaGreatDoor
