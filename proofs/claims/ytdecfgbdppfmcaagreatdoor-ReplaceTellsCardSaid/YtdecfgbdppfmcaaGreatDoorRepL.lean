/-
  replace.Right and Same of any list, and the reference's; its Open. No condition.
-/
import Derived.Test.YtdecfgbdppfmcaaGreatDoorRepG
namespace Go.Proofs.YtdecfgbdppfmcaaGreatDoor
open Go.RowKit
set_option maxRecDepth 100000

def cutOk (r : Rpl) : Bool := if r.state = 2 then decide (1 ≤ r.cut ∧ r.cut ≤ 15) else if r.state = 3 then decide (r.cut = 16) else decide (r.cut = 0)
def rightR (r : Rpl) : Bool := within r.from_ 0 1099511627776 && (within r.version 1 50 && (within r.start 0 r.from_ && (within r.state 0 5 && cutOk r)))
theorem rightR_iff {r : Rpl} : rightR r = true ↔ (0 ≤ r.from_ ∧ r.from_ ≤ 1099511627776) ∧ (1 ≤ r.version ∧ r.version ≤ 50) ∧ (0 ≤ r.start ∧ r.start ≤ r.from_) ∧ (0 ≤ r.state ∧ r.state ≤ 5) ∧ cutOk r = true := by
  unfold rightR
  simp only [Bool.and_eq_true, within_iff]
theorem within_one (n a : Int) : within n a a = decide (n = a) := by
  rw [Bool.eq_iff_iff, within_iff, decide_eq_true_iff]; omega
structure RightL (l : List Rpl) : Prop where
  each : ∀ i (h : i < l.length), l[i].no = (i : Int) + 1 ∧ rightR l[i] = true
  order : ∀ i (h : i < (l.filter openR).length), 1 ≤ i → (l.filter openR)[i].state ≠ 2 ∧ ((l.filter openR)[i - 1]'(by omega)).from_ < (l.filter openR)[i].from_
  few : (l.filter openR).length ≤ 3
open Classical in
noncomputable def rightL (l : List Rpl) : Bool := decide (RightL l)
theorem rightL_true {l : List Rpl} : rightL l = true ↔ RightL l := by by_cases h : RightL l <;> simp [rightL, h]
theorem rightL_no {l : List Rpl} (h : ¬ RightL l) : rightL l = false := by simp [rightL, h]

section
variable {B : Base}
theorem rpl_box {w : World} {σ : List Dat} {B : Base} {b : Nat} {r : Rpl} (h : Rel B w (σ ++ [cellD b T_api_Replacement r.v.cells])) : Rel B w (σ ++ [cellD b T_api_Replacement r.cs.toArray]) := by
  have e1 : (r.v : Value).cells = r.cs.toArray := Enc.cells_val r
  rw [e1] at h
  exact h
theorem right_g (r : Rpl) : Gives Tryz.prog B (sCall F_replace_right #[r.v]) (.bool (rightR r)) := by
  refine Gives.intro fun B' w K base h k => ?_
  refine replace_right.up (replace_right.call ?_)
  unfold replace_right.pt
  refine h.box fun b w1 h => ?_
  replace h : Rel B' w1 [cellD b T_api_Replacement r.cs.toArray] := rpl_box (σ := []) h
  replace k : ∀ v w' τ, rightR r = v → Rel B' w' τ → K (.bool v) w' := fun v w' τ e h => by rw [← e]; exact k _ _ h.nil
  refine LETJ_intro fun J1 hJ => ?_
  replace hJ : ∀ a c, within r.cut a c = cutOk r → J1 (.int .i64 a, .int .i64 c, ()) w1 := by
    intro a c hc
    refine hJ _ _ ?_
    clear hJ
    simp -zeta only [field_addr f_api_Replacement_1, Nat.zero_add, h.ld 0 rfl sc_int (o := 1) rfl]
    refine h.ask (fun _ _ _ => within_g _ _ _) fun w2 h => ?_
    rw [ifB_bool]
    refine ⟨fun c1 => ?_, fun c1 => k _ _ _ (by unfold rightR; rw [c1]; rfl) h⟩
    simp -zeta only [field_addr f_api_Replacement_2, Nat.zero_add, h.ld 0 rfl sc_int (o := 2) rfl]
    refine h.ask (fun _ _ _ => within_g _ _ _) fun w3 h => ?_
    rw [ifB_bool]
    refine ⟨fun c2 => ?_, fun c2 => k _ _ _ (by unfold rightR; rw [c1, c2]; rfl) h⟩
    simp -zeta only [field_addr f_api_Replacement_1, field_addr f_api_Replacement_3, Nat.zero_add, h.ld 0 rfl sc_int (o := 1) rfl, h.ld 0 rfl sc_int (o := 3) rfl]
    refine h.ask (fun _ _ _ => within_g _ _ _) fun w4 h => ?_
    rw [ifB_bool]
    refine ⟨fun c3 => ?_, fun c3 => k _ _ _ (by unfold rightR; rw [c1, c2, c3]; rfl) h⟩
    simp -zeta only [field_addr f_api_Replacement_4, Nat.zero_add, h.ld 0 rfl sc_int (o := 4) rfl]
    refine h.ask (fun _ _ _ => within_g _ _ _) fun w5 h => ?_
    rw [ifB_bool]
    refine ⟨fun c4 => ?_, fun c4 => k _ _ _ (by unfold rightR; rw [c1, c2, c3, c4]; rfl) h⟩
    simp -zeta only [field_addr f_api_Replacement_5, Nat.zero_add, h.ld 0 rfl sc_int (o := 5) rfl]
    refine h.ask (fun _ _ _ => within_g _ _ _) fun w6 h => ?_
    exact k _ _ _ (by unfold rightR; rw [c1, c2, c3, c4, ← hc]; rfl) h
  simp -zeta only [field_addr f_api_Replacement_4, Nat.zero_add, h.ld 0 rfl sc_int (o := 4) rfl, bin_eql, ifB_dec]
  refine ⟨fun (e : r.state = 2) => hJ _ _ ?_, fun (e : ¬ r.state = 2) => ⟨fun (e2 : r.state = 3) => hJ _ _ ?_, fun (e2 : ¬ r.state = 3) => hJ _ _ ?_⟩⟩
  · unfold cutOk within; rw [if_pos e, Bool.decide_and]
  · unfold cutOk; rw [if_neg e, if_pos e2, within_one]
  · unfold cutOk; rw [if_neg e, if_neg e2, within_one]
theorem fcut_g (r : Rpl) : Gives Tryz.prog B (sCall F_errataref47_cut #[r.v]) (.bool (cutOk r)) := by
  refine Gives.intro fun B' w K base h k => ?_
  refine errataref47_cut.up (errataref47_cut.call ?_)
  unfold errataref47_cut.pt
  refine h.box fun b w1 h => ?_
  replace h : Rel B' w1 [cellD b T_api_Replacement r.cs.toArray] := rpl_box (σ := []) h
  replace k : ∀ v, cutOk r = v → K (.bool v) w1 := fun v e => by rw [← e]; exact k _ _ h.nil
  simp -zeta only [field_addr f_api_Replacement_4, field_addr f_api_Replacement_5, Nat.zero_add, h.ld 0 rfl sc_int (o := 4) rfl, h.ld 0 rfl sc_int (o := 5) rfl, bin_eql, bin_geq, bin_lss, ifB_dec]
  refine ⟨fun (e : r.state = 2) => ⟨fun (e1 : 1 ≤ r.cut) => k _ ?_, fun (e1 : ¬ 1 ≤ r.cut) => k _ ?_⟩, fun (e : ¬ r.state = 2) => ⟨fun (e2 : r.state = 3) => k _ ?_, fun (e2 : ¬ r.state = 3) => k _ ?_⟩⟩
  · unfold cutOk; rw [if_pos e]; exact decide_eq_decide.2 ⟨fun h => by omega, fun h => by omega⟩
  · unfold cutOk; rw [if_pos e]; exact decide_eq_false fun h => e1 h.1
  · unfold cutOk; rw [if_neg e, if_pos e2]
  · unfold cutOk; rw [if_neg e, if_neg e2]
theorem fopen_g (r : Rpl) : Gives Tryz.prog B (sCall F_errataref47_open #[r.v]) (.bool (openR r)) := by
  refine Gives.intro fun B' w K base h k => ?_
  refine errataref47_open.up (errataref47_open.call ?_)
  unfold errataref47_open.pt
  refine h.box fun b w1 h => ?_
  replace h : Rel B' w1 [cellD b T_api_Replacement r.cs.toArray] := rpl_box (σ := []) h
  simp -zeta only [field_addr f_api_Replacement_4, Nat.zero_add, h.ld 0 rfl sc_int (o := 4) rfl, bin_eql, ifB_dec]
  have kk := fun b (hb : openR r = b) => (show K (.bool b) w1 by rw [← hb]; exact k _ _ h)
  refine ⟨fun e => kk _ (by unfold openR; rw [decide_eq_true (p := r.state = 0) e]; rfl), fun e => ⟨fun e2 => kk _ (by unfold openR; rw [decide_eq_true (p := r.state = 1) e2]; simp), fun e2 => kk _ (by unfold openR; rw [decide_eq_false (p := r.state = 0) e, decide_eq_false (p := r.state = 1) e2]; rfl)⟩⟩
theorem fOpen_m {v : Value} {l : List Rpl} (r : rowR v l B) (hl : l.length ≤ 1000000) : Makes Tryz.prog B (sCall F_errataref47_Open #[v]) fun u τ => τ = [rowD T_api_Replacement u (l.filter openR)] := by
  refine Makes.intro fun B' w K base h k => ?_
  replace r := base r
  refine errataref47_Open.up (errataref47_Open.call ?_)
  unfold errataref47_Open.pt
  refine LOOP_intro (fun x w' => ∃ (i : Nat) (v : Value), i ≤ l.length ∧ x = (v, .int .i64 i, ()) ∧ Rel B' w' [rowD T_api_Replacement v ((l.take i).filter openR)]) (fun x _ => l.length - (match x.2.1 with | .int _ n => n.toNat | _ => 0))
    ⟨0, _, Nat.zero_le _, rfl, h.addNil Rpl T_api_Replacement⟩ ?_
  clear h
  rintro x w1 ⟨i, vv, hil, rfl, h⟩ next hnext
  have hfl : ((l.take i).filter openR).length ≤ i := Nat.le_trans (List.length_filter_le _ _) (by rw [List.length_take]; omega)
  simp -zeta only [rowR.len r sl_s_api_Replacement, bin_lss, ifB_dec]
  refine ⟨fun hlt => ?_, fun hge => ?_⟩
  · have hi' : i < l.length := by omega
    have et : l.take (i + 1) = l.take i ++ [l[i]] := List.take_succ_eq_append_getElem hi'
    refine LETJ_intro fun J hJ => ?_
    replace hJ : ∀ v' w', Rel B' w' [rowD T_api_Replacement v' ((l.take (i + 1)).filter openR)] → J (v', ()) w' := fun v' w' h => by
      refine hJ _ _ ?_
      rw [bin_add, wrap_id (by omega) (by omega)]
      exact hnext _ _ ⟨i + 1, v', by omega, rfl, h⟩ (by simp only; omega)
    clear hnext
    obtain ⟨g, o, hx, hc⟩ := rowR.idx r sl_s_api_Replacement hi'
    have hc : cellsR g o l[i].cs B' := hc
    simp -zeta only [hx, cellsR.ldAg (h.hereB hc) ag_api_Replacement rfl]
    refine h.ask (fun _ _ _ => fopen_g l[i]) fun w2 h => ?_
    rw [et, List.filter_append, List.filter_cons, List.filter_nil] at hJ
    rw [ifB_bool]
    refine ⟨fun ho => ?_, fun ho => hJ _ _ ?_⟩
    · simp -zeta only [cellsR.ldAg (h.hereB hc) ag_api_Replacement rfl]
      rw [if_pos ho] at hJ
      refine h.push1 (α := Rpl) 0 rfl l[i] sl_s_api_Replacement (by decide) (by omega) (by omega) fun v2 w3 h => ?_
      exact hJ _ _ (h.take 1)
    · rw [if_neg (by rw [ho]; decide), List.append_nil]; exact h
  · have hie : i = l.length := by omega
    subst hie
    rw [List.take_length] at h
    exact k _ _ _ rfl h
theorem Right_g {v : Value} {l : List Rpl} (r : rowR v l B) (hl : l.length ≤ 1000000) : Gives Tryz.prog B (sCall F_replace_Right #[v]) (.bool (rightL l)) := by
  refine Gives.intro fun B' w K base h k => ?_
  replace r := base r
  refine replace_Right.up (replace_Right.call ?_)
  unfold replace_Right.pt
  have no : ∀ w' τ, Rel B' w' τ → ¬ RightL l → K (.bool false) w' := fun w' τ h hn => by
    rw [rightL_no hn] at k
    exact k _ _ h.nil
  simp -zeta only [rowR.len r sl_s_api_Replacement]
  refine LOOP_intro (fun x w' => ∃ i : Nat, i ≤ l.length ∧ x = (.int .i64 i, ()) ∧ (∀ q (h : q < l.length), q < i → l[q].no = (q : Int) + 1 ∧ rightR l[q] = true) ∧ Rel B' w' []) (fun x _ => l.length - (match x.1 with | .int _ n => n.toNat | _ => 0))
    ⟨0, Nat.zero_le _, rfl, fun q _ hq => absurd hq (Nat.not_lt_zero q), h⟩ ?_
  clear h
  rintro x w1 ⟨i, hil, rfl, hin, h⟩ next hnext
  simp -zeta only [bin_lss, ifB_dec]
  refine ⟨fun hlt => ?_, fun hge => ?_⟩
  · have hi' : i < l.length := by omega
    obtain ⟨g, o, hx, hc⟩ := rowR.idx r sl_s_api_Replacement hi'
    simp -zeta only [hx, cellsR.ldAg (h.hereB hc) ag_api_Replacement rfl]
    refine h.allocAg (ds := l[i].cs.toArray) z_api_Replacement rfl ag_api_Replacement rfl (fun v hv => Enc.one l[i] v hv) fun b w2 h => ?_
    have h : Rel B' w2 [cellD b T_api_Replacement l[i].cs.toArray] := h
    simp -zeta only [field_addr f_api_Replacement_0, Nat.add_zero, h.ld 0 rfl sc_int (o := 0) rfl, bin_add, bin_neq, ifB_not, ifB_dec]
    rw [wrap_id (by omega) (by omega)]
    refine ⟨fun (c0 : l[i].no = (i : Int) + 1) => ?_, fun (c0 : ¬ l[i].no = (i : Int) + 1) => no _ _ h fun hR => c0 (hR.each i hi').1⟩
    simp -zeta only [h.ldAg 0 rfl ag_api_Replacement rfl]
    refine h.ask (fun _ _ _ => right_g l[i]) fun w3 h => ?_
    rw [un_not, ifB_not, ifB_bool]
    refine ⟨fun cr => ?_, fun cr => no _ _ h fun hR => by have := (hR.each i hi').2; rw [cr] at this; cases this⟩
    refine hnext _ _ ⟨i + 1, by omega, rfl, fun q hq hqi => ?_, h.nil⟩ (by simp only; omega)
    by_cases e : q = i
    · subst e; exact ⟨c0, cr⟩
    · exact hin q hq (by omega)
  · clear hnext
    have hall : ∀ q (h : q < l.length), l[q].no = (q : Int) + 1 ∧ rightR l[q] = true := fun q hq => hin q hq (by omega)
    clear hin
    refine h.make (fun B2 own base2 => Open_m (base2 r) hl) fun u τ w2 hp h => ?_
    subst hp
    have h : Rel B' w2 ([] ++ [rowD T_api_Replacement u (l.filter openR)]) := h
    obtain ⟨B2, hext, h, hrow⟩ := h.frz1
    have hr := rowD.read hrow
    have hFl : (l.filter openR).length ≤ 1000000 := Nat.le_trans (List.length_filter_le _ _) hl
    have no : ∀ w', Rel B2 w' [] → ¬ RightL l → K (.bool false) w' := fun w' h hn => no w' _ (hext.rel h) hn
    obtain ⟨F, hF⟩ : ∃ F, F = l.filter openR := ⟨_, rfl⟩
    rw [← hF] at hr hFl
    have yes : ∀ w', Rel B2 w' [] → rightL l = decide ((F.length : Int) ≤ 3) → K (.bool (decide ((F.length : Int) ≤ 3))) w' := fun w' h e => by
      rw [← e]; exact k _ _ (hext.rel h)
    have hord : ∀ i (h : i < F.length), 1 ≤ i → RightL l → F[i].state ≠ 2 ∧ (F[i - 1]'(by omega)).from_ < F[i].from_ := fun i hi h1 hR => by
      subst hF; exact hR.order i hi h1
    have hmk : (∀ i (h : i < F.length), 1 ≤ i → F[i].state ≠ 2 ∧ (F[i - 1]'(by omega)).from_ < F[i].from_) → rightL l = decide ((F.length : Int) ≤ 3) := fun ho => by
      rw [Bool.eq_iff_iff, rightL_true, decide_eq_true_iff]
      subst hF
      exact ⟨fun hR => by have := hR.few; omega, fun h3 => ⟨hall, ho, by omega⟩⟩
    clear hF
    refine LOOP_intro (fun x w' => ∃ i : Nat, 1 ≤ i ∧ x = (.int .i64 i, ()) ∧ (∀ q (h : q < F.length), 1 ≤ q → q < i → F[q].state ≠ 2 ∧ (F[q - 1]'(by omega)).from_ < F[q].from_) ∧ Rel B2 w' []) (fun x _ => F.length - (match x.1 with | .int _ n => n.toNat | _ => 0))
      ⟨1, Nat.le_refl _, rfl, fun q _ h1 h2 => by omega, h⟩ ?_
    clear h
    rintro x w3 ⟨i, hi1, rfl, hin, h⟩ next hnext
    simp -zeta only [rowR.len hr sl_s_api_Replacement, bin_lss, ifB_dec]
    refine ⟨fun hlt => ?_, fun hge => ?_⟩
    · have hi' : i < F.length := by omega
      obtain ⟨g, o, hx, hc⟩ := rowR.idx hr sl_s_api_Replacement hi'
      obtain ⟨g2, o2, hx2, hc2⟩ := rowR.idx hr sl_s_api_Replacement (i := i - 1) (by omega)
      have hc : cellsR g o F[i].cs B2 := hc
      have hc2 : cellsR g2 o2 (F[i - 1]'(by omega)).cs B2 := hc2
      have hw : IntKind.i64.wrap ((i : Int) - 1) = ((i - 1 : Nat) : Int) := by rw [wrap_id (by omega) (by omega)]; omega
      simp -zeta only [hx, field_addr f_api_Replacement_4, field_addr f_api_Replacement_1, cellsR.ld (h.tick.hereB hc) sc_int (j := 4) rfl, cellsR.ld (h.tick.hereB hc) sc_int (j := 1) rfl, bin_eql,
        bin_sub, hw, hx2, cellsR.ld (h.tick.hereB hc2) sc_int (j := 1) rfl, bin_leq, bin_add, ifB_dec]
      refine ⟨fun e1 => no _ h.tick fun hR => (hord i hi' hi1 hR).1 e1, fun e1 => ⟨fun e2 => no _ h.tick fun hR => absurd (hord i hi' hi1 hR).2 (Int.not_lt.2 e2), fun e2 => ?_⟩⟩
      rw [wrap_id (by omega) (by omega)]
      refine hnext _ _ ⟨i + 1, by omega, rfl, fun q hq hq1 hqi => ?_, h.tick⟩ (by simp only; omega)
      by_cases e : q = i
      · subst e; exact ⟨e1, Int.not_le.1 e2⟩
      · exact hin q hq hq1 (by omega)
    · simp -zeta only [bin_leq]
      exact yes _ h (hmk fun q hq hq1 => hin q hq hq1 (by omega))
theorem fRight_g {v : Value} {l : List Rpl} (r : rowR v l B) (hl : l.length ≤ 1000000) : Gives Tryz.prog B (sCall F_errataref47_Right #[v]) (.bool (rightL l)) := by
  refine Gives.intro fun B' w K base h k => ?_
  replace r := base r
  refine errataref47_Right.up (errataref47_Right.call ?_)
  unfold errataref47_Right.pt
  have no : ∀ w' τ, Rel B' w' τ → ¬ RightL l → K (.bool false) w' := fun w' τ h hn => by
    rw [rightL_no hn] at k
    exact k _ _ h.nil
  simp -zeta only [rowR.len r sl_s_api_Replacement]
  refine LOOP_intro (fun x w' => ∃ i : Nat, i ≤ l.length ∧ x = (.int .i64 i, ()) ∧ (∀ q (h : q < l.length), q < i → l[q].no = (q : Int) + 1 ∧ rightR l[q] = true) ∧ Rel B' w' []) (fun x _ => l.length - (match x.1 with | .int _ n => n.toNat | _ => 0))
    ⟨0, Nat.zero_le _, rfl, fun q _ hq => absurd hq (Nat.not_lt_zero q), h⟩ ?_
  clear h
  rintro x w1 ⟨i, hil, rfl, hin, h⟩ next hnext
  simp -zeta only [bin_lss, ifB_dec]
  refine ⟨fun hlt => ?_, fun hge => ?_⟩
  · have hi' : i < l.length := by omega
    obtain ⟨g, o, hx, hc⟩ := rowR.idx r sl_s_api_Replacement hi'
    simp -zeta only [hx, cellsR.ldAg (h.hereB hc) ag_api_Replacement rfl]
    refine h.allocAg (ds := l[i].cs.toArray) z_api_Replacement rfl ag_api_Replacement rfl (fun v hv => Enc.one l[i] v hv) fun b w2 h => ?_
    have h : Rel B' w2 [cellD b T_api_Replacement l[i].cs.toArray] := h
    have nr : ∀ w' τ, Rel B' w' τ → ¬ ((0 ≤ l[i].from_ ∧ l[i].from_ ≤ 1099511627776) ∧ (1 ≤ l[i].version ∧ l[i].version ≤ 50) ∧ (0 ≤ l[i].start ∧ l[i].start ≤ l[i].from_) ∧ (0 ≤ l[i].state ∧ l[i].state ≤ 5) ∧ cutOk l[i] = true) → K (.bool false) w' :=
      fun w' τ h hn => no w' τ h fun hR => hn (rightR_iff.1 (hR.each i hi').2)
    simp -zeta only [field_addr f_api_Replacement_0, field_addr f_api_Replacement_1, field_addr f_api_Replacement_2, field_addr f_api_Replacement_3, field_addr f_api_Replacement_4, Nat.add_zero, Nat.zero_add, h.ld 0 rfl sc_int (o := 0) rfl, h.ld 0 rfl sc_int (o := 1) rfl, h.ld 0 rfl sc_int (o := 2) rfl, h.ld 0 rfl sc_int (o := 3) rfl, h.ld 0 rfl sc_int (o := 4) rfl, bin_add, bin_lss, bin_gtr, bin_geq, bin_neq, ifB_not, ifB_dec, h.ldAg 0 rfl ag_api_Replacement rfl]
    rw [wrap_id (by omega) (by omega)]
    refine ⟨fun (c0 : l[i].no = (i : Int) + 1) => ?_, fun (c0 : ¬ l[i].no = (i : Int) + 1) => no _ _ h fun hR => c0 (hR.each i hi').1⟩
    refine ⟨fun (c1 : l[i].from_ < 0) => nr _ _ h (by omega), fun (c1 : ¬ l[i].from_ < 0) => ?_⟩
    refine ⟨fun (c2 : 1099511627776 < l[i].from_) => nr _ _ h (by omega), fun (c2 : ¬ 1099511627776 < l[i].from_) => ?_⟩
    refine ⟨fun (c3 : l[i].version < 1) => nr _ _ h (by omega), fun (c3 : ¬ l[i].version < 1) => ?_⟩
    refine ⟨fun (c4 : 50 < l[i].version) => nr _ _ h (by omega), fun (c4 : ¬ 50 < l[i].version) => ?_⟩
    refine ⟨fun (c5 : l[i].start < 0) => nr _ _ h (by omega), fun (c5 : ¬ l[i].start < 0) => ?_⟩
    refine ⟨fun (c6 : l[i].from_ < l[i].start) => nr _ _ h (by omega), fun (c6 : ¬ l[i].from_ < l[i].start) => ?_⟩
    refine ⟨fun (c7 : l[i].state < 0) => nr _ _ h (by omega), fun (c7 : ¬ l[i].state < 0) => ?_⟩
    refine ⟨fun (c8 : 6 ≤ l[i].state) => nr _ _ h (by omega), fun (c8 : ¬ 6 ≤ l[i].state) => ?_⟩
    refine h.ask (fun _ _ _ => fcut_g l[i]) fun w3 h => ?_
    rw [un_not, ifB_not, ifB_bool]
    refine ⟨fun c9 => ?_, fun c9 => nr _ _ h fun hh => by have := hh.2.2.2.2; rw [c9] at this; cases this⟩
    have cr : rightR l[i] = true := rightR_iff.2 ⟨⟨by omega, by omega⟩, ⟨by omega, by omega⟩, ⟨by omega, by omega⟩, ⟨by omega, by omega⟩, c9⟩
    refine hnext _ _ ⟨i + 1, by omega, rfl, fun q hq hqi => ?_, h.nil⟩ (by simp only; omega)
    by_cases e : q = i
    · subst e; exact ⟨c0, cr⟩
    · exact hin q hq (by omega)
  · clear hnext
    have hall : ∀ q (h : q < l.length), l[q].no = (q : Int) + 1 ∧ rightR l[q] = true := fun q hq => hin q hq (by omega)
    clear hin
    refine h.make (fun B2 own base2 => fOpen_m (base2 r) hl) fun u τ w2 hp h => ?_
    subst hp
    have h : Rel B' w2 ([] ++ [rowD T_api_Replacement u (l.filter openR)]) := h
    obtain ⟨B2, hext, h, hrow⟩ := h.frz1
    have hr := rowD.read hrow
    have hFl : (l.filter openR).length ≤ 1000000 := Nat.le_trans (List.length_filter_le _ _) hl
    have no : ∀ w', Rel B2 w' [] → ¬ RightL l → K (.bool false) w' := fun w' h hn => no w' _ (hext.rel h) hn
    obtain ⟨F, hF⟩ : ∃ F, F = l.filter openR := ⟨_, rfl⟩
    rw [← hF] at hr hFl
    have yes : ∀ w', Rel B2 w' [] → rightL l = decide ((F.length : Int) ≤ 3) → K (.bool (decide ((F.length : Int) ≤ 3))) w' := fun w' h e => by
      rw [← e]; exact k _ _ (hext.rel h)
    have hord : ∀ i (h : i < F.length), 1 ≤ i → RightL l → F[i].state ≠ 2 ∧ (F[i - 1]'(by omega)).from_ < F[i].from_ := fun i hi h1 hR => by
      subst hF; exact hR.order i hi h1
    have hmk : (∀ i (h : i < F.length), 1 ≤ i → F[i].state ≠ 2 ∧ (F[i - 1]'(by omega)).from_ < F[i].from_) → rightL l = decide ((F.length : Int) ≤ 3) := fun ho => by
      rw [Bool.eq_iff_iff, rightL_true, decide_eq_true_iff]
      subst hF
      exact ⟨fun hR => by have := hR.few; omega, fun h3 => ⟨hall, ho, by omega⟩⟩
    clear hF
    refine LOOP_intro (fun x w' => ∃ i : Nat, 1 ≤ i ∧ x = (.int .i64 i, ()) ∧ (∀ q (h : q < F.length), 1 ≤ q → q < i → F[q].state ≠ 2 ∧ (F[q - 1]'(by omega)).from_ < F[q].from_) ∧ Rel B2 w' []) (fun x _ => F.length - (match x.1 with | .int _ n => n.toNat | _ => 0))
      ⟨1, Nat.le_refl _, rfl, fun q _ h1 h2 => by omega, h⟩ ?_
    clear h
    rintro x w3 ⟨i, hi1, rfl, hin, h⟩ next hnext
    simp -zeta only [rowR.len hr sl_s_api_Replacement, bin_lss, ifB_dec]
    refine ⟨fun hlt => ?_, fun hge => ?_⟩
    · have hi' : i < F.length := by omega
      obtain ⟨g, o, hx, hc⟩ := rowR.idx hr sl_s_api_Replacement hi'
      obtain ⟨g2, o2, hx2, hc2⟩ := rowR.idx hr sl_s_api_Replacement (i := i - 1) (by omega)
      have hc : cellsR g o F[i].cs B2 := hc
      have hc2 : cellsR g2 o2 (F[i - 1]'(by omega)).cs B2 := hc2
      have hw : IntKind.i64.wrap ((i : Int) - 1) = ((i - 1 : Nat) : Int) := by rw [wrap_id (by omega) (by omega)]; omega
      simp -zeta only [hx, field_addr f_api_Replacement_4, field_addr f_api_Replacement_1, cellsR.ld (h.tick.hereB hc) sc_int (j := 4) rfl, cellsR.ld (h.tick.hereB hc) sc_int (j := 1) rfl, bin_eql,
        bin_sub, hw, hx2, cellsR.ld (h.tick.hereB hc2) sc_int (j := 1) rfl, bin_leq, bin_add, ifB_dec]
      refine ⟨fun e1 => no _ h.tick fun hR => (hord i hi' hi1 hR).1 e1, fun e1 => ⟨fun e2 => no _ h.tick fun hR => absurd (hord i hi' hi1 hR).2 (Int.not_lt.2 e2), fun e2 => ?_⟩⟩
      rw [wrap_id (by omega) (by omega)]
      refine hnext _ _ ⟨i + 1, by omega, rfl, fun q hq hq1 hqi => ?_, h.tick⟩ (by simp only; omega)
      by_cases e : q = i
      · subst e; exact ⟨e1, Int.not_le.1 e2⟩
      · exact hin q hq hq1 (by omega)
    · simp -zeta only [bin_leq]
      exact yes _ h (hmk fun q hq hq1 => hin q hq hq1 (by omega))
theorem EqualR_g {va vb : Value} {a b : List Rpl} (ra : rowR va a B) (rb : rowR vb b B) (hl : a.length ≤ 1000000000) : Gives Tryz.prog B (sCall F_slices_Equal_s_api_Replacement_api_Replacement #[va, vb]) (.bool (decide (a = b))) := by
  refine Gives.intro fun B' w K base h k => ?_
  replace ra := base ra
  replace rb := base rb
  refine slices_Equal_s_api_Replacement_api_Replacement.up (slices_Equal_s_api_Replacement_api_Replacement.call ?_)
  unfold slices_Equal_s_api_Replacement_api_Replacement.pt
  have no : ∀ w', Rel B' w' [] → a ≠ b → K (.bool false) w' := fun w' h hn => by
    rw [decide_eq_false hn] at k
    exact k _ _ h
  simp -zeta only [rowR.len ra sl_s_api_Replacement, rowR.len rb sl_s_api_Replacement, bin_neq, ifB_not, ifB_dec]
  refine ⟨fun hlen => ?_, fun hlen => no _ h fun e => hlen (by rw [e])⟩
  have hlen : a.length = b.length := by omega
  refine LOOP_intro (fun x w' => ∃ i : Nat, i ≤ a.length ∧ x = (.int .i64 i, ()) ∧ (∀ q (h1 : q < a.length) (h2 : q < b.length), q < i → a[q] = b[q]) ∧ Rel B' w' []) (fun x _ => a.length - (match x.1 with | .int _ n => n.toNat | _ => 0))
    ⟨0, Nat.zero_le _, rfl, fun q _ _ hq => absurd hq (Nat.not_lt_zero q), h⟩ ?_
  clear h
  rintro x w1 ⟨i, hil, rfl, hin, h⟩ next hnext
  simp -zeta only [bin_lss, ifB_dec]
  refine ⟨fun hlt => ?_, fun hge => ?_⟩
  · have h1 : i < a.length := by omega
    have h2 : i < b.length := by omega
    have h := h.tick
    obtain ⟨g, o, hx, hc⟩ := rowR.idx ra sl_s_api_Replacement h1
    obtain ⟨g2, o2, hx2, hc2⟩ := rowR.idx rb sl_s_api_Replacement h2
    have hc : cellsR g o a[i].cs B' := hc
    have hc2 : cellsR g2 o2 b[i].cs B' := hc2
    simp -zeta only [hx, hx2, cellsR.ldAg (h.hereB hc) ag_api_Replacement rfl, cellsR.ldAg (h.hereB hc2) ag_api_Replacement rfl]
    rw [neq_api_Replacement a[i] b[i], ifB_not, ifB_dec]
    refine ⟨fun e => ?_, fun e => no _ h fun hab => e (by subst hab; rfl)⟩
    rw [bin_add, wrap_id (by omega) (by omega)]
    refine hnext _ _ ⟨i + 1, by omega, rfl, fun q q1 q2 q3 => ?_, h⟩ (by simp only; omega)
    by_cases eq : q = i
    · subst eq; exact e
    · exact hin q q1 q2 (by omega)
  · have : a = b := List.ext_getElem hlen fun q q1 q2 => hin q q1 q2 (by omega)
    rw [decide_eq_true this] at k
    exact k _ _ h
theorem fSame_g {va vb : Value} {a b : List Rpl} (ra : rowR va a B) (rb : rowR vb b B) (hl : a.length ≤ 1000000000) : Gives Tryz.prog B (sCall F_errataref47_Same #[va, vb]) (.bool (decide (a = b))) := by
  refine Gives.intro fun B' w K base h k => ?_
  replace ra := base ra
  replace rb := base rb
  refine errataref47_Same.up (errataref47_Same.call ?_)
  unfold errataref47_Same.pt
  have no : ∀ w', Rel B' w' [] → a ≠ b → K (.bool false) w' := fun w' h hn => by
    rw [decide_eq_false hn] at k
    exact k _ _ h
  simp -zeta only [rowR.len ra sl_s_api_Replacement, rowR.len rb sl_s_api_Replacement, bin_neq, ifB_not, ifB_dec]
  refine ⟨fun hlen => ?_, fun hlen => no _ h fun e => hlen (by rw [e])⟩
  have hlen : a.length = b.length := by omega
  refine LOOP_intro (fun x w' => ∃ i : Nat, i ≤ a.length ∧ x = (.int .i64 i, ()) ∧ (∀ q (h1 : q < a.length) (h2 : q < b.length), q < i → a[q] = b[q]) ∧ Rel B' w' []) (fun x _ => a.length - (match x.1 with | .int _ n => n.toNat | _ => 0))
    ⟨0, Nat.zero_le _, rfl, fun q _ _ hq => absurd hq (Nat.not_lt_zero q), h⟩ ?_
  clear h
  rintro x w1 ⟨i, hil, rfl, hin, h⟩ next hnext
  simp -zeta only [bin_lss, ifB_dec]
  refine ⟨fun hlt => ?_, fun hge => ?_⟩
  · have h1 : i < a.length := by omega
    have h2 : i < b.length := by omega
    have h := h.tick
    obtain ⟨g, o, hx, hc⟩ := rowR.idx ra sl_s_api_Replacement h1
    obtain ⟨g2, o2, hx2, hc2⟩ := rowR.idx rb sl_s_api_Replacement h2
    have hc : cellsR g o a[i].cs B' := hc
    have hc2 : cellsR g2 o2 b[i].cs B' := hc2
    simp -zeta only [hx, hx2, cellsR.ldAg (h.hereB hc) ag_api_Replacement rfl, cellsR.ldAg (h.hereB hc2) ag_api_Replacement rfl]
    rw [neq_api_Replacement a[i] b[i], ifB_not, ifB_dec]
    refine ⟨fun e => ?_, fun e => no _ h fun hab => e (by subst hab; rfl)⟩
    rw [bin_add, wrap_id (by omega) (by omega)]
    refine hnext _ _ ⟨i + 1, by omega, rfl, fun q q1 q2 q3 => ?_, h⟩ (by simp only; omega)
    by_cases eq : q = i
    · subst eq; exact e
    · exact hin q q1 q2 (by omega)
  · have : a = b := List.ext_getElem hlen fun q q1 q2 => hin q q1 q2 (by omega)
    rw [decide_eq_true this] at k
    exact k _ _ h
theorem SameR_g {va vb : Value} {a b : List Rpl} (ra : rowR va a B) (rb : rowR vb b B) (hl : a.length ≤ 1000000000) : Gives Tryz.prog B (sCall F_replace_Same #[va, vb]) (.bool (decide (a = b))) := by
  refine Gives.intro fun B' w K base h k => ?_
  replace ra := base ra
  replace rb := base rb
  refine replace_Same.up (replace_Same.call ?_)
  unfold replace_Same.pt
  exact h.ask (fun B2 own base2 => EqualR_g (base2 ra) (base2 rb) hl) fun w1 h => k _ _ h
theorem ints_g {va vb : Value} {a b : List Int} (ra : rowR va a B) (rb : rowR vb b B) (hl : a.length ≤ 1000000000) : Gives Tryz.prog B (sCall F_erratalaw47_ints #[va, vb]) (.bool (decide (a = b))) := by
  refine Gives.intro fun B' w K base h k => ?_
  replace ra := base ra
  replace rb := base rb
  refine erratalaw47_ints.up (erratalaw47_ints.call ?_)
  unfold erratalaw47_ints.pt
  have no : ∀ w', Rel B' w' [] → a ≠ b → K (.bool false) w' := fun w' h hn => by
    rw [decide_eq_false hn] at k
    exact k _ _ h
  simp -zeta only [rowR.len ra sl_s_int, rowR.len rb sl_s_int, bin_neq, ifB_not, ifB_dec]
  refine ⟨fun hlen => ?_, fun hlen => no _ h fun e => hlen (by rw [e])⟩
  have hlen : a.length = b.length := by omega
  refine LOOP_intro (fun x w' => ∃ i : Nat, i ≤ a.length ∧ x = (.int .i64 i, ()) ∧ (∀ q (h1 : q < a.length) (h2 : q < b.length), q < i → a[q] = b[q]) ∧ Rel B' w' []) (fun x _ => a.length - (match x.1 with | .int _ n => n.toNat | _ => 0))
    ⟨0, Nat.zero_le _, rfl, fun q _ _ hq => absurd hq (Nat.not_lt_zero q), h⟩ ?_
  clear h
  rintro x w1 ⟨i, hil, rfl, hin, h⟩ next hnext
  simp -zeta only [bin_lss, ifB_dec]
  refine ⟨fun hlt => ?_, fun hge => ?_⟩
  · have h1 : i < a.length := by omega
    have h2 : i < b.length := by omega
    have h := h.tick
    obtain ⟨g, o, hx, hc⟩ := rowR.idx ra sl_s_int h1
    obtain ⟨g2, o2, hx2, hc2⟩ := rowR.idx rb sl_s_int h2
    have hc : cellsR g o [.int .i64 a[i]] B' := hc
    have hc2 : cellsR g2 o2 [.int .i64 b[i]] B' := hc2
    simp -zeta only [hx, hx2, cellsR.ld0 (h.hereB hc) sc_int rfl, cellsR.ld0 (h.hereB hc2) sc_int rfl, bin_neq]
    rw [ifB_not, ifB_dec]
    refine ⟨fun e => ?_, fun e => no _ h fun hab => e (by subst hab; rfl)⟩
    rw [bin_add, wrap_id (by omega) (by omega)]
    refine hnext _ _ ⟨i + 1, by omega, rfl, fun q q1 q2 q3 => ?_, h⟩ (by simp only; omega)
    by_cases eq : q = i
    · subst eq; exact e
    · exact hin q q1 q2 (by omega)
  · have : a = b := List.ext_getElem hlen fun q q1 q2 => hin q q1 q2 (by omega)
    rw [decide_eq_true this] at k
    exact k _ _ h
end
end Go.Proofs.YtdecfgbdppfmcaaGreatDoor
