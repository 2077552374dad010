/-
  Contracts of what the laws ask of the lists: Right (of both), Side. No condition.
-/
import Derived.Test.YtdecfgbdppfmcaaRepF
namespace Go.Proofs.Ytdecfgbdppfmcaa
open Go.RowKit
section
variable {B : Base}

theorem right_g {r : Rpl} (o : One r) : Gives Try.prog B (sCall F_replace_right #[r.v]) (.bool true) := by
  refine Gives.intro fun B' w K base h k => ?_
  refine replace_right.up (replace_right.call ?_)
  unfold replace_right.pt
  refine h.box fun b w1 h => ?_
  replace h : Rel B' w1 [cellD b T_api_Replacement r.cs.toArray] := by
    have e1 : (r.v : Value).cells = r.cs.toArray := Enc.cells_val r
    have h : Rel B' w1 [cellD b T_api_Replacement r.v.cells] := h
    rw [e1] at h
    exact h
  refine LETJ_intro fun J1 hJ => ?_
  replace hJ : ∀ a c, a ≤ r.cut → r.cut ≤ c → J1 (.int .i64 a, .int .i64 c, ()) w1 := by
    intro a c h1 h2
    refine hJ _ _ ?_
    clear hJ
    simp -zeta only [field_addr f_api_Replacement_1, Nat.zero_add, h.ld 0 rfl sc_int (o := 1) rfl]
    refine h.ask (fun _ _ _ => within_g _ _ _) fun w2 h => ?_
    rw [within_iff.2 o.fr]
    simp -zeta only [ifB_true, field_addr f_api_Replacement_2, Nat.zero_add, h.ld 0 rfl sc_int (o := 2) rfl]
    refine h.ask (fun _ _ _ => within_g _ _ _) fun w3 h => ?_
    rw [within_iff.2 o.ver]
    simp -zeta only [ifB_true, field_addr f_api_Replacement_1, field_addr f_api_Replacement_3, Nat.zero_add, h.ld 0 rfl sc_int (o := 1) rfl, h.ld 0 rfl sc_int (o := 3) rfl]
    refine h.ask (fun _ _ _ => within_g _ _ _) fun w4 h => ?_
    rw [within_iff.2 o.start]
    simp -zeta only [ifB_true, field_addr f_api_Replacement_4, Nat.zero_add, h.ld 0 rfl sc_int (o := 4) rfl]
    refine h.ask (fun _ _ _ => within_g _ _ _) fun w5 h => ?_
    rw [within_iff.2 o.state]
    simp -zeta only [ifB_true, field_addr f_api_Replacement_5, Nat.zero_add, h.ld 0 rfl sc_int (o := 5) rfl]
    refine h.ask (fun _ _ _ => within_g _ _ _) fun w6 h => ?_
    rw [within_iff.2 ⟨h1, h2⟩]
    exact k _ _ h
  have hc := o.cut
  simp -zeta only [field_addr f_api_Replacement_4, Nat.zero_add, h.ld 0 rfl sc_int (o := 4) rfl, bin_eql, ifB_dec]
  refine ⟨fun e => ?_, fun e => ⟨fun e2 => ?_, fun e2 => ?_⟩⟩
  · have := hc.1 e
    exact hJ _ _ (by omega) (by omega)
  · have := hc.2.1 e2
    exact hJ _ _ (by omega) (by omega)
  · have := hc.2.2 e e2
    exact hJ _ _ (by omega) (by omega)

theorem Right_g {v : Value} {l : List Rpl} (r : rowR v l B) (hl : l.length ≤ 1000000) (hi : RInv l) : Gives Try.prog B (sCall F_replace_Right #[v]) (.bool true) := by
  refine Gives.intro fun B' w K base h k => ?_
  replace r := base r
  refine replace_Right.up (replace_Right.call ?_)
  unfold replace_Right.pt
  simp -zeta only [rowR.len r sl_s_api_Replacement]
  refine LOOP_intro (fun x w' => ∃ i : Nat, i ≤ l.length ∧ x = (.int .i64 i, ()) ∧ Rel B' w' []) (fun x _ => l.length - (match x.1 with | .int _ n => n.toNat | _ => 0))
    ⟨0, Nat.zero_le _, rfl, h⟩ ?_
  clear h
  rintro x w1 ⟨i, hil, rfl, h⟩ next hnext
  simp -zeta only [bin_lss, ifB_dec]
  refine ⟨fun hlt => ?_, fun hge => ?_⟩
  · have hi' : i < l.length := by omega
    obtain ⟨g, o, hx, hc⟩ := rowR.idx r sl_s_api_Replacement hi'
    simp -zeta only [hx, cellsR.ldAg (h.hereB hc) ag_api_Replacement rfl]
    refine h.allocAg (ds := l[i].cs.toArray) z_api_Replacement rfl ag_api_Replacement rfl (fun v hv => Enc.one l[i] v hv) fun b w2 h => ?_
    have h : Rel B' w2 [cellD b T_api_Replacement l[i].cs.toArray] := h
    simp -zeta only [field_addr f_api_Replacement_0, Nat.add_zero, h.ld 0 rfl sc_int (o := 0) rfl, bin_add, bin_neq, ifB_not, ifB_dec]
    rw [wrap_id (by omega) (by omega)]
    refine ⟨fun _ => ?_, fun hne => absurd (hi.no i hi') hne⟩
    simp -zeta only [h.ldAg 0 rfl ag_api_Replacement rfl]
    refine h.ask (fun _ _ _ => right_g (hi.one _ (List.getElem_mem hi'))) fun w3 h => ?_
    simp -zeta only [un_not, Bool.not_true, ifB_false]
    exact hnext _ _ ⟨i + 1, by omega, rfl, h.nil⟩ (by simp only; omega)
  · clear hnext
    refine h.make (fun B2 own base2 => Open_m (base2 r) hl) fun u τ w2 hp h => ?_
    subst hp
    have h : Rel B' w2 ([] ++ [rowD T_api_Replacement u (l.filter openR)]) := h
    obtain ⟨B2, hext, h, hrow⟩ := h.frz1
    have hr := rowD.read hrow
    have hfew := hi.few
    have hpw : (l.filter openR).Pairwise fun a b => a.from_ < b.from_ ∧ b.state ≠ 2 := by
      rw [List.pairwise_filter, List.pairwise_iff_getElem]
      exact fun i j h1 h2 h3 h4 h5 => hi.order i j h1 h2 h3 h4 h5
    rw [List.pairwise_iff_getElem] at hpw
    generalize l.filter openR = F at hr hfew hpw
    refine LOOP_intro (fun x w' => ∃ i : Nat, 1 ≤ i ∧ x = (.int .i64 i, ()) ∧ Rel B2 w' []) (fun x _ => F.length - (match x.1 with | .int _ n => n.toNat | _ => 0))
      ⟨1, Nat.le_refl _, rfl, h⟩ ?_
    clear h
    rintro x w3 ⟨i, hi1, rfl, h⟩ next hnext
    simp -zeta only [rowR.len hr sl_s_api_Replacement, bin_lss, ifB_dec]
    refine ⟨fun hlt => ?_, fun hge => ?_⟩
    · have hi' : i < F.length := by omega
      obtain ⟨g, o, hx, hc⟩ := rowR.idx hr sl_s_api_Replacement hi'
      obtain ⟨g2, o2, hx2, hc2⟩ := rowR.idx hr sl_s_api_Replacement (i := i - 1) (by omega)
      have hh := hpw (i - 1) i (by omega) hi' (by omega)
      have hw : IntKind.i64.wrap ((i : Int) - 1) = ((i - 1 : Nat) : Int) := by rw [wrap_id (by omega) (by omega)]; omega
      simp -zeta only [hx, field_addr f_api_Replacement_4, field_addr f_api_Replacement_1, cellsR.ld (h.tick.hereB hc) sc_int (j := 4) rfl, cellsR.ld (h.tick.hereB hc) sc_int (j := 1) rfl, bin_eql, decide_eq_false hh.2, ifB_false,
        bin_sub, hw, hx2, cellsR.ld (h.tick.hereB hc2) sc_int (j := 1) rfl, bin_leq, decide_eq_false (Int.not_le.2 hh.1), bin_add]
      rw [wrap_id (by omega) (by omega)]
      exact hnext _ _ ⟨i + 1, by omega, rfl, h.tick⟩ (by simp only; omega)
    · simp -zeta only [bin_leq]
      have : decide ((F.length : Int) ≤ 3) = true := decide_eq_true (by omega)
      rw [this]
      exact k _ _ (hext.rel h)

theorem tRight_g {v : Value} {t : List Seg} (r : rowR v t B) (hl : t.length ≤ 1000000) (hi : TInv t) : Gives Try.prog B (sCall F_timeline_Right #[v]) (.bool true) := by
  refine Gives.intro fun B' w K base h k => ?_
  replace r := base r
  refine timeline_Right.up (timeline_Right.call ?_)
  unfold timeline_Right.pt
  have hlen : 0 < t.length := List.length_pos_iff.2 hi.some_
  have hne : ¬ ((t.length : Int) = 0) := by omega
  obtain ⟨g, o, hx, hc⟩ := rowR.idx r sl_s_api_Seg (P := Try.prog) hlen
  have hx : ∀ {Kp : Value → Prop}, pureK Try.prog (sIdxAddr T_s_api_Seg v (.int .i64 0)) Kp = Kp _ := hx
  simp -zeta only [rowR.len r sl_s_api_Seg, bin_eql, decide_eq_false hne, ifB_false, hx, field_addr f_api_Seg_0, Nat.add_zero, cellsR.ld0 (h.hereB hc) sc_int rfl, bin_neq, hi.zero hlen, decide_true, Bool.not_true]
  refine LOOP_intro (fun x w' => ∃ i : Nat, i ≤ t.length ∧ x = (.int .i64 i, ()) ∧ Rel B' w' []) (fun x _ => t.length - (match x.1 with | .int _ n => n.toNat | _ => 0))
    ⟨0, Nat.zero_le _, rfl, h⟩ ?_
  clear h
  rintro x w1 ⟨i, hil, rfl, h⟩ next hnext
  simp -zeta only [bin_lss, ifB_dec]
  refine ⟨fun hlt => ?_, fun hge => k _ _ h⟩
  have hi' : i < t.length := by omega
  refine LETJ_intro fun J hJ => ?_
  replace hJ : ∀ w', Rel B' w' [] → J () w' := by
    intro w' h
    refine hJ _ _ ?_
    rw [bin_add, wrap_id (by omega) (by omega)]
    exact hnext _ _ ⟨i + 1, by omega, rfl, h⟩ (by simp only; omega)
  clear hnext
  obtain ⟨g, o, hx, hc⟩ := rowR.idx r sl_s_api_Seg hi'
  have he := hi.each _ (List.getElem_mem hi')
  simp -zeta only [hx, cellsR.ldAg (h.hereB hc) ag_api_Seg rfl]
  refine h.allocAg (ds := t[i].cs.toArray) z_api_Seg rfl ag_api_Seg rfl (fun v hv => Enc.one t[i] v hv) fun b w2 h => ?_
  have h : Rel B' w2 [cellD b T_api_Seg t[i].cs.toArray] := h
  simp -zeta only [field_addr f_api_Seg_0, field_addr f_api_Seg_1, Nat.add_zero, Nat.zero_add, h.ld 0 rfl sc_int (o := 0) rfl, h.ld 0 rfl sc_int (o := 1) rfl, bin_gtr, bin_lss, ifB_dec]
  refine ⟨fun hh => absurd he.1 (by omega), fun _ => ⟨fun hh => absurd he.2.1 (by omega), fun _ => ⟨fun hh => absurd he.2.2 (by omega), fun _ => ⟨fun hp => ?_, fun _ => hJ _ h.tick.nil⟩⟩⟩⟩
  have hp' : 0 < i := by omega
  obtain ⟨g2, o2, hx2, hc2⟩ := rowR.idx r sl_s_api_Seg (i := i - 1) (by omega)
  have hw : IntKind.i64.wrap ((i : Int) - 1) = ((i - 1 : Nat) : Int) := by rw [wrap_id (by omega) (by omega)]; omega
  have hs := List.pairwise_iff_getElem.1 hi.sorted (i - 1) i (by omega) hi' (by omega)
  have hd := hi.differ (i - 1) (by omega)
  have hd : ¬ t[i].version = (t[i - 1]'(by omega)).version := by
    intro e
    refine hd ?_
    rw [← e]
    congr 2
    omega
  have h := h.tick
  simp -zeta only [h.ld 0 rfl sc_int (o := 0) rfl, h.ld 0 rfl sc_int (o := 1) rfl, bin_sub, hw, hx2, field_addr f_api_Seg_0, field_addr f_api_Seg_1, Nat.add_zero, cellsR.ld0 (h.hereB hc2) sc_int rfl, cellsR.ld (h.hereB hc2) sc_int (j := 1) rfl,
    bin_leq, decide_eq_false (Int.not_le.2 hs), ifB_false, bin_eql, decide_eq_false hd]
  exact hJ _ h.nil

theorem Side_g {vl vt : Value} {l : List Rpl} {t : List Seg} (rl : rowR vl l B) (rt : rowR vt t B) (hl : l.length ≤ 100000) (hs : Sorted t) (hne : t ≠ []) (htl : t.length ≤ 100000) (time bucket : Int) :
    Gives Try.prog B (sCall F_replace_Side #[vl, vt, .int .i64 time, .int .i64 bucket]) (.int .i64 (sideS l t time bucket)) := by
  refine Gives.intro fun B' w K base h k => ?_
  replace rl := base rl
  replace rt := base rt
  refine replace_Side.up (replace_Side.call ?_)
  unfold replace_Side.pt
  refine LETJ_intro fun J hJ => ?_
  replace hJ : ∀ w' τ, Rel B' w' τ → sideS l t time bucket = atS t time → J () w' := by
    intro w' τ h e
    refine hJ _ _ ?_
    rw [e] at k
    refine h.ask (fun B2 own base2 => At_g (base2 rt) hs hne (by omega) time) fun w2 h => ?_
    exact k _ _ h
  refine h.ask (fun B2 own base2 => first_g (base2 rl) (by omega)) fun w3 h => ?_
  simp -zeta only [ext_2_0, ext_2_1]
  refine h.allocAg (ds := (firstR l).1.cs.toArray) z_api_Replacement rfl ag_api_Replacement rfl (fun v hv => Enc.one (firstR l).1 v hv) fun b2 w4 h => ?_
  have h : Rel B' w4 [cellD b2 T_api_Replacement (firstR l).1.cs.toArray] := h
  simp -zeta only [field_addr f_api_Replacement_1, field_addr f_api_Replacement_2, field_addr f_api_Replacement_4, field_addr f_api_Replacement_5, Nat.zero_add, h.ld 0 rfl sc_int (o := 1) rfl, h.ld 0 rfl sc_int (o := 2) rfl, h.ld 0 rfl sc_int (o := 4) rfl, h.ld 0 rfl sc_int (o := 5) rfl,
    bin_eql, bin_geq, bin_lss, ifB_bool]
  have no : ¬ ((firstR l).2 = true ∧ (firstR l).1.state = 2 ∧ (firstR l).1.from_ ≤ time ∧ bucket < (firstR l).1.cut) → J () w4 := fun hh => hJ _ _ h (by unfold sideS; rw [if_neg hh])
  refine ⟨fun e1 => ⟨fun e2 => ⟨fun e3 => ⟨fun e4 => ?_, fun e4 => no fun hh => ?_⟩, fun e3 => no fun hh => ?_⟩, fun e2 => no fun hh => ?_⟩, fun e1 => no fun hh => ?_⟩
  · have e : sideS l t time bucket = (firstR l).1.version := by
      unfold sideS
      rw [if_pos ⟨e1, of_decide_eq_true e2, of_decide_eq_true e3, of_decide_eq_true e4⟩]
    rw [e] at k
    exact k _ _ h
  · exact of_decide_eq_false e4 hh.2.2.2
  · exact of_decide_eq_false e3 hh.2.2.1
  · exact of_decide_eq_false e2 hh.2.1
  · rw [hh.1] at e1; cases e1
end
end Go.Proofs.Ytdecfgbdppfmcaa
