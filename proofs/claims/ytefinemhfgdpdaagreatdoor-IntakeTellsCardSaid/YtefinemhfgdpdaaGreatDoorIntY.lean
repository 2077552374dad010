/-
  The reference of chapter 11: Read. No condition.
-/
import Derived.Test.YtefinemhfgdpdaaGreatDoorIntX
namespace Go.Proofs.YtefinemhfgdpdaaGreatDoor
open Go.RowKit
set_option maxRecDepth 100000

/-- What the reference asks of an encoding. -/
def refOk (c : CfD) (p : (((Int × Int) × Int) × Int) × Bs) (n : Nat) (Z : List CoD × RS) : Prop :=
  (∃ s, TabOk p.2 s) ∧ (timeOk p.1.1.1.1 ∧ timeOk p.1.1.2 ∧ (-1 ≤ p.1.1.1.2 ∧ p.1.1.1.2 ≤ 1099511627776) ∧ ¬ p.1.2 < 0) ∧ doneR Z.2 = true ∧ Z.1.length = n ∧ chkL p.1.1.1.2 c.rate (max (-1) (p.1.1.1.2 - c.late - 1)) Z.1
theorem readIS_ref {c : CfD} {ks : List Kn} {t : Bs} {p : (((Int × Int) × Int) × Int) × Bs} {r5 : RS} (hd : headI ⟨t, false⟩ = (p, r5)) : (readIS c ks t).isSome = true ↔ refOk c p (natR r5).1.toNat (cntR (natR r5).1.toNat [] (natR r5).2) := by
  unfold readIS refOk
  rw [hd]
  simp only
  cases hh : headS c ks p with
  | none =>
    constructor
    · intro h; cases h
    · rintro ⟨h1, h2, _⟩
      unfold headS at hh
      rw [dif_pos h1, if_pos h2] at hh
      cases hh
  | some s0 =>
    obtain ⟨ps, h1, h2, rfl⟩ := headS_some hh
    simp only [Option.isSome_map]
    rw [readC_ref]
    constructor
    · rintro ⟨h3, h4, h5⟩
      exact ⟨⟨ps, h1⟩, h2, h3, h4, h5⟩
    · rintro ⟨_, _, h3, h4, h5⟩
      exact ⟨h3, h4, h5⟩
theorem intR_shrink {s : RS} (hs : Sane s) (hr : s.rest ≠ []) : (intR s).2.rest.length + 1 ≤ s.rest.length := by
  have hs0 : s.bad = false := by
    cases hb : s.bad
    · rfl
    · exact absurd (hs hb) hr
  have hlen : 0 < s.rest.length := List.length_pos_iff.2 hr
  obtain ⟨_, s2⟩ := Ok1.shrink intR_ok encI_pos hs0
  cases hb : (intR s).2.bad
  · have := s2 hb; omega
  · have := (intR_sane hs) hb
    rw [this, List.length_nil]
    omega
section
variable {B : Base} {w : World}
theorem rf_nil {Kp : Value → Prop} {xo yo : Operand} {p : Nat} : pureK Tryz.prog (sBin .eql T_p_errataref11_Intake xo yo (ptrI p) (.pointer none)) Kp = Kp (.bool false) := bin_eql_ptr_nil U_p_errataref11_Intake
set_option maxHeartbeats 2000000 in
theorem fRead11_m (c : CfD) {v : Value} {ks : List Kn} (hkn : knownD v ks B) (hc : RightC c) {t : Bs} (ht : t.length ≤ 1000000) : Makes Tryz.prog B (sCall F_errataref11_Read #[.agg c.cs.toArray, v, .string (ofL t)]) fun u τ => ∃ q, u = .tuple #[q, .bool (readIS c ks t).isSome] := by
  refine Makes.intro fun B' w K base h k => ?_
  refine errataref11_Read.up (errataref11_Read.call ?_)
  unfold errataref11_Read.pt
  refine h.box fun o w1 h => ?_
  have h : Rel B' w1 [cellD o T_api_Config c.cs.toArray] := h
  rw [h.ldAg 0 rfl ag_api_Config rfl]
  refine h.make (fun B2 own base2 => fNew_m c (base2 (base hkn))) fun u τ w2 hp h => ?_
  rcases hp with ⟨_, p, rfl, kv, rfl, rfl⟩ | ⟨hR, _⟩
  case inr => exact absurd hc hR
  rw [rf_nil, ifB_false]
  refine h.make (fun B2 own base2 => fopen_m) fun u τ w3 hp h => ?_
  obtain ⟨q, rfl, rfl⟩ := hp
  have h : Rel B' w3 [cellD o T_api_Config c.cs.toArray, cellD p T_errataref11_Intake (rcs (newS c ks) kv nilSV nilSV), rfD q ⟨t, false⟩] := h
  have hsn : Sane ⟨t, false⟩ := fun hb => by cases hb
  have q0 : (⟨t, false⟩ : RS).rest.length = t.length := rfl
  have q1 := intR_le ⟨t, false⟩
  have q2 := intR_le (intR ⟨t, false⟩).2
  have q3 := intR_le (intR (intR ⟨t, false⟩).2).2
  have q4 := intR_le (intR (intR (intR ⟨t, false⟩).2).2).2
  have q5 := textR_le (intR (intR (intR (intR ⟨t, false⟩).2).2).2).2
  have q6 := natR_le (textR (intR (intR (intR (intR ⟨t, false⟩).2).2).2).2).2
  have n0 : 0 ≤ (natR (textR (intR (intR (intR (intR ⟨t, false⟩).2).2).2).2).2).1 := (numR_le (.inl rfl : isEnd 59) 0 (textR (intR (intR (intR (intR ⟨t, false⟩).2).2).2).2).2).2.2 (Int.le_refl 0)
  have n1 : inI (natR (textR (intR (intR (intR (intR ⟨t, false⟩).2).2).2).2).2).1 := (numR_le (.inl rfl : isEnd 59) 0 (textR (intR (intR (intR (intR ⟨t, false⟩).2).2).2).2).2).2.1
  have s4 := intR_sane (intR_sane (intR_sane (intR_sane hsn)))
  have s5 := textR_sane s4
  have s6 := natR_sane s5
  have hdef : headI ⟨t, false⟩ = ((((((intR ⟨t, false⟩).1, (intR (intR ⟨t, false⟩).2).1), (intR (intR (intR ⟨t, false⟩).2).2).1), (intR (intR (intR (intR ⟨t, false⟩).2).2).2).1), (textR (intR (intR (intR (intR ⟨t, false⟩).2).2).2).2).1), (textR (intR (intR (intR (intR ⟨t, false⟩).2).2).2).2).2) := rfl
  have href := readIS_ref (c := c) (ks := ks) hdef
  clear hdef
  simp -zeta only [nil_ptr, field_addr f_errataref11_Intake_2, field_addr f_errataref11_Intake_3, field_addr f_errataref11_Intake_4, field_addr f_errataref11_Intake_5, field_addr f_errataref11_Intake_6, field_addr f_errataref11_Intake_7, Nat.zero_add]
  refine h.rf_ 2 rfl (fun B2 own base2 => fIntR_d (by omega)) fun w4 h => ?_
  refine h.st 1 rfl sc_int (show 7 < 13 by omega) rfl fun w5 h => ?_
  refine h.rf_ 2 rfl (fun B2 own base2 => fIntR_d (by omega)) fun w6 h => ?_
  refine h.st 1 rfl sc_int (show 8 < 13 by omega) rfl fun w7 h => ?_
  refine h.rf_ 2 rfl (fun B2 own base2 => fIntR_d (by omega)) fun w8 h => ?_
  refine h.st 1 rfl sc_int (show 9 < 13 by omega) rfl fun w9 h => ?_
  refine h.rf_ 2 rfl (fun B2 own base2 => fIntR_d (by omega)) fun w10 h => ?_
  refine h.st 1 rfl sc_int (show 10 < 13 by omega) rfl fun w11 h => ?_
  refine h.rf_ 2 rfl (fun B2 own base2 => fTextR_d s4 (by omega)) fun w12 h => ?_
  have h : Rel B' w12 [cellD o T_api_Config c.cs.toArray, cellD p T_errataref11_Intake (rcs ⟨c, ks, (intR ⟨t, false⟩).1, (intR (intR ⟨t, false⟩).2).1, (intR (intR (intR ⟨t, false⟩).2).2).1, (intR (intR (intR (intR ⟨t, false⟩).2).2).2).1, [], fun _ => 0⟩ kv nilSV nilSV), rfD q (textR (intR (intR (intR (intR ⟨t, false⟩).2).2).2).2).2] := h
  have hrl : (textR (intR (intR (intR (intR ⟨t, false⟩).2).2).2).2).2.rest.length ≤ t.length := by omega
  have hnl : (natR (textR (intR (intR (intR (intR ⟨t, false⟩).2).2).2).2).2).2.rest.length ≤ t.length := by omega
  have htl : (textR (intR (intR (intR (intR ⟨t, false⟩).2).2).2).2).1.length ≤ t.length := by omega
  clear q0 q1 q2 q3 q4 q5 q6 s4 hsn
  generalize textR (intR (intR (intR (intR ⟨t, false⟩).2).2).2).2 = y5 at *
  generalize (intR (intR (intR (intR ⟨t, false⟩).2).2).2).1 = x4 at *
  generalize (intR (intR (intR ⟨t, false⟩).2).2).1 = x3 at *
  generalize (intR (intR ⟨t, false⟩).2).1 = x2 at *
  generalize (intR ⟨t, false⟩).1 = x1 at *
  obtain ⟨tx, r5⟩ := y5
  simp only at n0 n1 s5 s6 href h hrl hnl htl
  refine h.make (fun B2 own base2 => fTabRead_m (t := tx) (by omega)) fun u τ w13 hp h => ?_
  obtain ⟨tv, b, rfl, h1, hb⟩ := hp
  have h := h.drop
  simp -zeta only [ext_2_0, ext_2_1]
  refine h.st 1 rfl sc_s_api_Producer (show 11 < 13 by omega) h1 fun w14 h => ?_
  refine h.rf_ 2 rfl (fun B2 own base2 => fNumR_d (by omega)) fun w15 h => ?_
  have h : Rel B' w15 [cellD o T_api_Config c.cs.toArray, cellD p T_errataref11_Intake (rcs ⟨c, ks, x1, x2, x3, x4, [], fun _ => 0⟩ kv ⟨tv, h1⟩ nilSV), rfD q (natR r5).2] := h
  generalize natR r5 = y6 at *
  obtain ⟨n, r6⟩ := y6
  simp only at n0 n1 s6 href h hnl
  have n2 := n1.2
  clear n1
  have no : ¬ refOk c ((((x1, x2), x3), x4), tx) n.toNat (cntR n.toNat [] r6) → ∀ w' τ, Rel B' w' τ → K (.tuple #[.pointer none, .bool false]) w' := fun hn w' τ h => by
    have : (readIS c ks t).isSome = false := by
      cases hx : (readIS c ks t).isSome
      · rfl
      · exact absurd (href.1 hx) hn
    exact k _ τ w' ⟨.pointer none, by rw [this]⟩ h
  have yes : refOk c ((((x1, x2), x3), x4), tx) n.toNat (cntR n.toNat [] r6) → ∀ v' w' τ, Rel B' w' τ → K (.tuple #[v', .bool true]) w' := fun hn v' w' τ h => by
    exact k _ τ w' ⟨v', by rw [href.2 hn]⟩ h
  clear k href
  refine LETJ_intro fun J hJ => ?_
  replace hJ : ∀ (lv : SV) w', Rel B' w' [cellD o T_api_Config c.cs.toArray, cellD p T_errataref11_Intake (rcs ⟨c, ks, x1, x2, x3, x4, [], fun _ => 0⟩ kv ⟨tv, h1⟩ lv), rfD q (cntR n.toNat [] r6).2, rowD T_errataref11_Count lv.1 (cntR n.toNat [] r6).1] → J () w' := by
    intro lv w' h
    refine hJ _ _ ?_
    clear hJ
    unfold refOk at no yes
    simp only at no yes
    generalize cntR n.toNat [] r6 = Z at *
    obtain ⟨l, rz⟩ := Z
    simp only at no yes h
    refine h.ask (fun B2 own base2 => fDone_g (own (i := 2) rfl)) fun w17 h => ?_
    rw [un_not, ifB_not, ifB_bool]
    refine ⟨fun d1 => ?_, fun d1 => no (fun hh => by have := hh.2.2.1; rw [d1] at this; cases this) _ _ h⟩
    rw [un_not, ifB_not, ifB_bool]
    refine ⟨fun d2 => ?_, fun d2 => no (fun hh => by have := hb.2 hh.1; rw [d2] at this; cases this) _ _ h⟩
    have hl := rowD.read (h.here (i := 3) rfl)
    simp -zeta only [nil_ptr, h.ld 1 rfl sc_s_errataref11_Count (o := 12) (v := lv.1) rfl, rowR.len hl sl_s_errataref11_Count, h.ld 1 rfl sc_int (o := 7) (v := .int .i64 x1) rfl, h.ld 1 rfl sc_int (o := 8) (v := .int .i64 x2) rfl, h.ld 1 rfl sc_int (o := 9) (v := .int .i64 x3) rfl, h.ld 1 rfl sc_int (o := 10) (v := .int .i64 x4) rfl, bin_neq, bin_lss, bin_gtr, ifB_not, ifB_dec]
    clear hl
    refine ⟨fun d3 => ?_, fun d3 => no (fun hh => d3 (by have := hh.2.2.2.1; omega)) _ _ h⟩
    refine ⟨fun d => no (fun hh => by have := hh.2.1.1.1; omega) _ _ h, fun d4 => ?_⟩
    refine ⟨fun d => no (fun hh => by have := hh.2.1.1.2; omega) _ _ h, fun d5 => ?_⟩
    refine ⟨fun d => no (fun hh => by have := hh.2.1.2.1.1; omega) _ _ h, fun d6 => ?_⟩
    refine ⟨fun d => no (fun hh => by have := hh.2.1.2.1.2; omega) _ _ h, fun d7 => ?_⟩
    refine ⟨fun d => no (fun hh => by have := hh.2.1.2.2.1.1; omega) _ _ h, fun d8 => ?_⟩
    refine ⟨fun d => no (fun hh => by have := hh.2.1.2.2.1.2; omega) _ _ h, fun d9 => ?_⟩
    refine ⟨fun d => no (fun hh => hh.2.1.2.2.2 d) _ _ h, fun d10 => ?_⟩
    have hpre : (∃ s, TabOk tx s) ∧ (timeOk x1 ∧ timeOk x3 ∧ (-1 ≤ x2 ∧ x2 ≤ 1099511627776) ∧ ¬ x4 < 0) ∧ doneR rz = true ∧ l.length = n.toNat := ⟨hb.1 d2, ⟨⟨by omega, by omega⟩, ⟨by omega, by omega⟩, ⟨by omega, by omega⟩, d10⟩, d1, by omega⟩
    replace no : ¬ chkL x2 c.rate (max (-1) (x2 - c.late - 1)) l → ∀ w' τ, Rel B' w' τ → K (.tuple #[.pointer none, .bool false]) w' := fun hn => no fun hh => hn hh.2.2.2.2
    replace yes : chkL x2 c.rate (max (-1) (x2 - c.late - 1)) l → ∀ v' w' τ, Rel B' w' τ → K (.tuple #[v', .bool true]) w' := fun hn => yes ⟨hpre.1, hpre.2.1, hpre.2.2.1, hpre.2.2.2, hn⟩
    refine h.ask (fun B2 own base2 => fClosed_c (s := ⟨c, ks, x1, x2, x3, x4, [], fun _ => 0⟩) (own (i := 1) rfl) hc hpre.2.1.2.2.1) fun w18 h => ?_
    refine LOOP_intro (fun x w' => ∃ (i : Nat) (d : Int), i ≤ l.length ∧ x = (.int .i64 d, .int .i64 i, ()) ∧ (chkL x2 c.rate (max (-1) (x2 - c.late - 1)) l ↔ chkL x2 c.rate d (l.drop i)) ∧ Rel B' w' [cellD o T_api_Config c.cs.toArray, cellD p T_errataref11_Intake (rcs ⟨c, ks, x1, x2, x3, x4, [], fun _ => 0⟩ kv ⟨tv, h1⟩ lv), rfD q rz, rowD T_errataref11_Count lv.1 l]) (fun x _ => l.length - (match x.2.1 with | .int _ n => n.toNat | _ => 0))
      ⟨0, _, Nat.zero_le _, rfl, Iff.rfl, h⟩ ?_
    clear h
    rintro x w19 ⟨i, d, hi, rfl, hch, h⟩ next hnext
    have hl := rowD.read (h.here (i := 3) rfl)
    simp -zeta only [nil_ptr, h.ld 1 rfl sc_s_errataref11_Count (o := 12) (v := lv.1) rfl, rowR.len hl sl_s_errataref11_Count, bin_lss, ifB_dec]
    refine ⟨fun hlt => ?_, fun hge => ?_⟩
    · have hil : i < l.length := by omega
      have h := h.tick
      have hl := rowD.read (h.here (i := 3) rfl)
      obtain ⟨g, oo, hx, hcl⟩ := rowR.idx hl sl_s_errataref11_Count (P := Tryz.prog) hil
      have hcl : (cellsR g oo l[i].cs).here (tick w19) := hcl
      rw [List.drop_eq_getElem_cons hil] at hch
      have hch : chkL x2 c.rate (max (-1) (x2 - c.late - 1)) l ↔ (((d < l[i].time ∧ l[i].time ≤ x2) ∧ 1 ≤ l[i].n ∧ l[i].n ≤ c.rate) ∧ chkL x2 c.rate l[i].time (l.drop (i + 1))) := hch
      simp -zeta only [h.ld 1 rfl sc_s_errataref11_Count (o := 12) (v := lv.1) rfl, hx, field_addr f_errataref11_Count_0, field_addr f_errataref11_Count_1, field_addr f_api_Config_4, Nat.add_zero, Nat.zero_add, cellsR.ld0 hcl sc_int (v := .int .i64 l[i].time) rfl, cellsR.ld hcl sc_int (j := 1) (v := .int .i64 l[i].n) rfl, h.ld 1 rfl sc_int (o := 8) (v := .int .i64 x2) rfl, h.ld 0 rfl sc_int (o := 4) (v := .int .i64 c.rate) rfl, bin_leq, bin_gtr, bin_lss, ifB_dec]
      refine ⟨fun e => no (fun hh => by have := (hch.1 hh).1.1.1; omega) _ _ h, fun e1 => ?_⟩
      refine ⟨fun e => no (fun hh => by have := (hch.1 hh).1.1.2; omega) _ _ h, fun e2 => ?_⟩
      refine ⟨fun e => no (fun hh => by have := (hch.1 hh).1.2.1; omega) _ _ h, fun e3 => ?_⟩
      refine ⟨fun e => no (fun hh => by have := (hch.1 hh).1.2.2; omega) _ _ h, fun e4 => ?_⟩
      rw [bin_add, wrap_id (by omega) (by omega)]
      refine hnext _ _ ⟨i + 1, l[i].time, hil, rfl, ?_, h⟩ (by simp only; omega)
      rw [hch]
      exact ⟨fun hh => hh.2, fun hh => ⟨⟨⟨by omega, by omega⟩, by omega, by omega⟩, hh⟩⟩
    · have hie : i = l.length := by omega
      subst hie
      rw [List.drop_length] at hch
      exact yes (hch.2 trivial) _ _ _ h
  clear no yes
  have h := h.addNil CoD T_errataref11_Count
  refine LOOP_intro (fun x w' => ∃ (i : Nat) (lv : SV) (l : List CoD) (r : RS), i ≤ n.toNat ∧ l.length = i ∧ x = (.int .i64 i, ()) ∧ Sane r ∧ i + r.rest.length ≤ t.length ∧ cntR (n.toNat - i) l r = cntR n.toNat [] r6 ∧ Rel B' w' [cellD o T_api_Config c.cs.toArray, cellD p T_errataref11_Intake (rcs ⟨c, ks, x1, x2, x3, x4, [], fun _ => 0⟩ kv ⟨tv, h1⟩ lv), rfD q r, rowD T_errataref11_Count lv.1 l]) (fun x _ => n.toNat - (match x.1 with | .int _ n => n.toNat | _ => 0))
    ⟨0, nilSV, [], r6, Nat.zero_le _, rfl, rfl, s6, by omega, by rw [Nat.sub_zero], h⟩ ?_
  clear h
  rintro x w20 ⟨i, lv, l, r, hi, hli, rfl, hsn, hil, hcr, h⟩ next hnext
  simp -zeta only [bin_lss, ifB_dec]
  refine ⟨fun hlt => ?_, fun hge => ?_⟩
  · have hin : i < n.toNat := by omega
    obtain ⟨m, hm⟩ : ∃ m, n.toNat - i = m + 1 := ⟨n.toNat - i - 1, by omega⟩
    rw [hm, cntR] at hcr
    refine h.ask (fun B2 own base2 => fLeft_g (own (i := 2) rfl)) fun w21 h => ?_
    rw [bin_gtr, ifB_dec]
    refine ⟨fun hpos => ?_, fun hz => ?_⟩
    · have hne : r.rest ≠ [] := fun hh => by rw [hh, List.length_nil] at hpos; omega
      rw [if_neg hne] at hcr
      have k1 := intR_shrink hsn hne
      have k2 := intR_le (intR r).2
      refine h.rf_ 2 rfl (fun B2 own base2 => fIntR_d (by omega)) fun w22 h => ?_
      rw [bd_errataref11_Count_0]
      refine h.allocAg (ds := (⟨(intR r).1, 0⟩ : CoD).cs.toArray) z_errataref11_Count rfl ag_errataref11_Count rfl (fun v hv => Enc.one (⟨(intR r).1, 0⟩ : CoD) v hv) fun a w24 h => ?_
      have h : Rel B' w24 [cellD o T_api_Config c.cs.toArray, cellD p T_errataref11_Intake (rcs ⟨c, ks, x1, x2, x3, x4, [], fun _ => 0⟩ kv ⟨tv, h1⟩ lv), rfD q (intR r).2, rowD T_errataref11_Count lv.1 l, cellD a T_errataref11_Count (⟨(intR r).1, 0⟩ : CoD).cs.toArray] := h
      refine h.rf_ 2 rfl (fun B2 own base2 => fIntR_d (by omega)) fun w25 h => ?_
      simp -zeta only [field_addr f_errataref11_Count_1, Nat.zero_add]
      refine h.st 4 rfl sc_int (show 1 < 2 by omega) rfl fun w26 h => ?_
      have h : Rel B' w26 [cellD o T_api_Config c.cs.toArray, cellD p T_errataref11_Intake (rcs ⟨c, ks, x1, x2, x3, x4, [], fun _ => 0⟩ kv ⟨tv, h1⟩ lv), rfD q (intR (intR r).2).2, rowD T_errataref11_Count lv.1 l, cellD a T_errataref11_Count (⟨(intR r).1, (intR (intR r).2).1⟩ : CoD).cs.toArray] := h
      have h := h.tick
      simp -zeta only [nil_ptr, h.ld 1 rfl sc_s_errataref11_Count (o := 12) (v := lv.1) rfl, h.ldAg 4 rfl ag_errataref11_Count rfl]
      refine h.build1 (α := CoD) ⟨(intR r).1, (intR (intR r).2).1⟩ sl_s_errataref11_Count (by decide) fun v1 w27 h => ?_
      have h : Rel B' w27 [cellD o T_api_Config c.cs.toArray, cellD p T_errataref11_Intake (rcs ⟨c, ks, x1, x2, x3, x4, [], fun _ => 0⟩ kv ⟨tv, h1⟩ lv), rfD q (intR (intR r).2).2, rowD T_errataref11_Count lv.1 l, cellD a T_errataref11_Count (⟨(intR r).1, (intR (intR r).2).1⟩ : CoD).cs.toArray, rowD T_errataref11_Count v1 [(⟨(intR r).1, (intR (intR r).2).1⟩ : CoD)]] := h
      refine ⟨h.is 1 rfl sc_s_errataref11_Count (o := 12) rfl, ?_⟩
      refine h.append 3 rfl sl_s_errataref11_Count (l2 := [(⟨(intR r).1, (intR (intR r).2).1⟩ : CoD)]) (Rd.at 5 rfl) (by rw [List.length_singleton]; omega) (by rw [List.length_singleton]; omega) fun v2 w28 h => ?_
      have h2 : v2.oneCell' = true := h.oneCell (i := 3) rfl
      refine h.st 1 rfl sc_s_errataref11_Count (show 12 < 13 by omega) h2 fun w29 h => ?_
      have h := h.pick [0, 1, 2, 3] (by decide)
      have h : Rel B' w29 [cellD o T_api_Config c.cs.toArray, cellD p T_errataref11_Intake (rcs ⟨c, ks, x1, x2, x3, x4, [], fun _ => 0⟩ kv ⟨tv, h1⟩ ⟨v2, h2⟩), rfD q (intR (intR r).2).2, rowD T_errataref11_Count v2 (l ++ [(⟨(intR r).1, (intR (intR r).2).1⟩ : CoD)])] := h
      rw [bin_add, wrap_id (by omega) (by omega)]
      have hm2 : n.toNat - (i + 1) = m := by omega
      exact hnext _ _ ⟨i + 1, ⟨v2, h2⟩, l ++ [⟨(intR r).1, (intR (intR r).2).1⟩], (intR (intR r).2).2, hin, by rw [List.length_append, hli]; rfl, rfl, intR_sane (intR_sane hsn), by omega, by rw [hm2]; exact hcr, h⟩ (by simp only; omega)
    · have hz : r.rest = [] := List.eq_nil_of_length_eq_zero (by omega)
      rw [if_pos hz] at hcr
      rw [← hcr] at hJ
      exact hJ lv _ h
  · have hin : n.toNat - i = 0 := by omega
    rw [hin, cntR] at hcr
    rw [← hcr] at hJ
    exact hJ lv _ h
end
end Go.Proofs.YtefinemhfgdpdaaGreatDoor
