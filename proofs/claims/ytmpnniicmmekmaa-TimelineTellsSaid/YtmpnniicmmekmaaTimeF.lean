/-
  TimelineLast: the walk. No condition.
-/
import Derived.Test.YtmpnniicmmekmaaTimeE
namespace Go.Proofs.Ytmpnniicmmekmaa
open Go.RowKit

theorem replT_bad {t : List Seg} {fr ver : Int} (h : ¬ ((0 ≤ fr ∧ fr ≤ 1099511627776) ∧ 1 ≤ ver ∧ ver ≤ 50)) : replT t fr ver = ([], 3) := by
  unfold replT
  by_cases h1 : fr < 0
  · rw [if_pos h1]
  by_cases h2 : 1099511627776 < fr
  · rw [if_neg h1, if_pos h2]
  by_cases h3 : ver < 1
  · rw [if_neg h1, if_neg h2, if_pos h3]
  by_cases h4 : 50 < ver
  · rw [if_neg h1, if_neg h2, if_neg h3, if_pos h4]
  · omega

set_option maxRecDepth 4000 in
theorem timelineLast_pt {W : World} {v1 : Value} {first time : Int} {l : List D_erratalaw45_Change} (r : rowR v1 l (lawB W)) {K : Value → World → Prop}
    (fin : ∀ w' σ, Rel (lawB W) w' σ → K (.bool true) w') : erratalaw45_TimelineLast.pt (.int .i64 first) v1 (.int .i64 time) W K := by
  unfold erratalaw45_TimelineLast.pt
  refine small_r (lawB.start W) fun w1 h => ?_
  simp -zeta only [rowR.len r sl_s_erratalaw45_Change, bin_lss, bin_gtr, ifB_dec]
  refine ⟨fun _ => fin _ _ h, fun h1 => ⟨fun _ => fin _ _ h, fun h2 => ⟨fun _ => fin _ _ h, fun hlen => ⟨fun _ => fin _ _ h, fun htime => ?_⟩⟩⟩⟩
  refine h.make (fun _ _ _ => begun_m first) fun u τ w2 hp h => ?_
  subst hp
  have h : Rel (lawB W) w2 ([] ++ [rowD T_api_Seg u [(⟨0, first⟩ : Seg)]]) := h
  obtain ⟨B0, hext0, h, hrow⟩ := h.frz1
  have hr0 := rowD.read hrow
  have hb0 : TInv [⟨0, first⟩] := begun_inv (v := first) (by omega)
  have ha0 : atS [⟨0, first⟩] time = first := at_is hb0.sorted (k := 0) (by simp) (by show (0 : Int) ≤ time; omega) fun h => by simp at h
  refine LOOP_intro (fun x w' => ∃ (i : Nat) (B : Base) (vt : Value) (t : List Seg), i ≤ l.length ∧ x = (vt, .int .i64 (atS t time), .int .i64 i, ()) ∧ (lawB W).ext B ∧ rowR vt t B ∧ TInv t ∧ t.length ≤ i + 1 ∧ Rel B w' []) (fun x _ => l.length - (match x.2.2.1 with | .int _ n => n.toNat | _ => 0))
    ⟨0, B0, u, [⟨0, first⟩], Nat.zero_le _, by rw [ha0]; rfl, hext0, hr0, hb0, by simp, h⟩ ?_
  clear h hr0 hrow hext0 hb0 ha0
  rintro x w3 ⟨i, B, vt, t, hi, rfl, hext, ht, hti, htl, h⟩ next hnext
  simp -zeta only [rowR.len r sl_s_erratalaw45_Change, bin_lss, ifB_dec]
  refine ⟨fun hlt => ?_, fun _ => fin _ _ (hext.rel h)⟩
  have hil : i < l.length := by omega
  refine LETJ_intro fun J hJ => ?_
  replace hJ : ∀ (B' : Base) vt' t' w', B.ext B' → rowR vt' t' B' → TInv t' → t'.length ≤ i + 2 → Rel B' w' [] → J (vt', .int .i64 (atS t' time), ()) w' := by
    intro B' vt' t' w' hext2 ht' hti' htl' h
    refine hJ _ _ ?_
    rw [bin_add, wrap_id (by omega) (by omega)]
    exact hnext _ _ ⟨i + 1, B', vt', t', by omega, rfl, hext.trans hext2, ht', hti', by omega, h⟩ (by simp only; omega)
  clear hnext
  have h := h.tick
  obtain ⟨g, o, hx, hc⟩ := rowR.idx r sl_s_erratalaw45_Change (P := Try.prog) hil
  have hc : cellsR g o l[i].cs B := Dat.mono _ hext.le hc
  generalize hop : l[i] = op at hc
  simp -zeta only [hx, field_addr f_erratalaw45_Change_0, field_addr f_erratalaw45_Change_1, Nat.add_zero, cellsR.ld0 (h.hereB hc) sc_int rfl, cellsR.ld (h.hereB hc) sc_int (j := 1) rfl]
  refine h.make (fun B2 own base2 => Replace_m (base2 ht) hti.sorted (by omega) op.from_ op.version) fun u2 τ w4 hp h => ?_
  obtain ⟨v', rfl, rfl⟩ := hp
  have h : Rel B w4 ([] ++ [rowD T_api_Seg v' (replT t op.from_ op.version).1]) := h
  simp -zeta only [ext_2_0, ext_2_1, cellsR.ld0 (h.hereB hc) sc_int rfl, cellsR.ld (h.hereB hc) sc_int (j := 1) rfl, bin_geq, bin_leq, bin_eql, ifB_dec]
  have bad : ¬ ((0 ≤ op.from_ ∧ op.from_ ≤ 1099511627776) ∧ 1 ≤ op.version ∧ op.version ≤ 50) → J (vt, .int .i64 (atS t time), ()) w4 := fun _ => hJ B vt t w4 (Base.ext.refl B) ht hti (by omega) h.nil
  have badE : ¬ ((0 ≤ op.from_ ∧ op.from_ ≤ 1099511627776) ∧ 1 ≤ op.version ∧ op.version ≤ 50) → decide ((replT t op.from_ op.version).2 = 0) = false := fun hb => by rw [replT_bad hb]; decide
  refine ⟨fun g1 => ⟨fun g2 => ⟨fun g3 => ?_, fun g3 => ?_⟩, fun g2 => ?_⟩, fun g1 => ?_⟩
  · by_cases g4 : op.version ≤ 50
    · obtain ⟨hok, hs', hne', hl'⟩ := replT_ok (t := t) ⟨g1, g2⟩ ⟨g3, g4⟩ hti.sorted
      obtain ⟨hti', hat⟩ := hti.repl (fr := op.from_) (ver := op.version) ⟨g1, g2⟩ ⟨g3, g4⟩
      obtain ⟨B', hext2, h, hrow⟩ := h.frz1
      have ht' := rowD.read hrow
      have ht0 : rowR vt t B' := Dat.mono _ hext2.le ht
      have hc' : cellsR g o op.cs B' := Dat.mono _ hext2.le hc
      rw [hok]
      generalize (replT t op.from_ op.version).1 = t' at ht' hti' hat hl'
      rw [decide_eq_true g4, decide_eq_true (rfl : (0 : Int) = 0), bin_neq_bool U_bool]
      simp -zeta only [beq_self_eq_true, Bool.not_true, ifB_false, un_not]
      refine LETJ_intro fun J2 hJ2 => ?_
      replace hJ2 : ∀ w', Rel B' w' [] → J2 () w' := by
        intro w' h
        refine hJ2 _ _ ?_
        clear hJ2
        refine LETJ_intro fun J3 hJ3 => ?_
        replace hJ3 : J3 (.int .i64 (atS t' time), ()) w' := by
          refine hJ3 _ _ ?_
          refine h.ask (fun B2 own base2 => At_g (base2 ht') hti'.sorted hti'.some_ (by omega) time) fun w5 h => ?_
          simp -zeta only [bin_neq, decide_true, Bool.not_true, ifB_false]
          exact hJ B' v' t' w5 hext2 ht' hti' (by omega) h
        simp -zeta only [cellsR.ld0 (h.hereB hc') sc_int rfl, cellsR.ld (h.hereB hc') sc_int (j := 1) rfl, bin_leq, ifB_dec]
        have hatt := hat time (by omega)
        refine ⟨fun hle => ?_, fun hgt => ?_⟩
        · rw [if_pos hle] at hatt; rw [hatt] at hJ3; exact hJ3
        · rw [if_neg hgt] at hatt; rw [hatt] at hJ3; exact hJ3
      have h := h.tick
      refine h.ask (fun B2 own base2 => Right_g (base2 ht') (by omega)) fun w5 h => ?_
      rw [rightT_yes hti']
      simp -zeta only [un_not, Bool.not_true, ifB_false, cellsR.ld0 (h.hereB hc') sc_int rfl, bin_gtr, ifB_dec]
      refine ⟨fun hpos => ?_, fun hz => ?_⟩
      · simp -zeta only [bin_sub]
        rw [wrap_id (by omega) (by omega)]
        refine h.ask (fun B2 own base2 => At_g (base2 ht') hti'.sorted hti'.some_ (by omega) (op.from_ - 1)) fun w6 h => ?_
        refine ⟨cellsR.is (j := 0) (h.hereB hc') sc_int rfl, ?_⟩
        refine h.ask (fun B2 own base2 => At_g (base2 ht0) hti.sorted hti.some_ (by omega) (op.from_ - 1)) fun w7 h => ?_
        have e1 := hat (op.from_ - 1) (by omega)
        rw [if_neg (by omega)] at e1
        rw [e1]
        simp -zeta only [bin_neq, decide_true, Bool.not_true, ifB_false, cellsR.ld0 (h.hereB hc') sc_int rfl, cellsR.ld (h.hereB hc') sc_int (j := 1) rfl]
        refine h.ask (fun B2 own base2 => At_g (base2 ht') hti'.sorted hti'.some_ (by omega) op.from_) fun w8 h => ?_
        refine ⟨cellsR.is (h.hereB hc') sc_int rfl, ?_⟩
        have e2 := hat op.from_ g1
        rw [if_pos (Int.le_refl _)] at e2
        rw [e2]
        simp -zeta only [bin_neq, decide_true, Bool.not_true, ifB_false]
        exact hJ2 _ h
      · simp -zeta only [cellsR.ld0 (h.hereB hc') sc_int rfl, cellsR.ld (h.hereB hc') sc_int (j := 1) rfl]
        refine h.ask (fun B2 own base2 => At_g (base2 ht') hti'.sorted hti'.some_ (by omega) op.from_) fun w8 h => ?_
        refine ⟨cellsR.is (h.hereB hc') sc_int rfl, ?_⟩
        have e2 := hat op.from_ g1
        rw [if_pos (Int.le_refl _)] at e2
        rw [e2]
        simp -zeta only [bin_neq, decide_true, Bool.not_true, ifB_false]
        exact hJ2 _ h
    · have hb : ¬ ((0 ≤ op.from_ ∧ op.from_ ≤ 1099511627776) ∧ 1 ≤ op.version ∧ op.version ≤ 50) := by omega
      rw [badE hb, decide_eq_false g4, bin_neq_bool U_bool]
      simp -zeta only [beq_self_eq_true, Bool.not_true, ifB_false, un_not, Bool.not_false, ifB_true]
      exact bad hb
  all_goals
    have hb : ¬ ((0 ≤ op.from_ ∧ op.from_ ≤ 1099511627776) ∧ 1 ≤ op.version ∧ op.version ≤ 50) := by omega
    rw [badE hb, bin_neq_bool U_bool]
    simp -zeta only [beq_self_eq_true, Bool.not_true, ifB_false, un_not, Bool.not_false, ifB_true]
    exact bad hb
end Go.Proofs.Ytmpnniicmmekmaa
