/-
  The reference's functions of chapter 45: Right, Same, At, end, Spans, Pick, Versions, Replace. No condition.
-/
import Derived.Test.YtmpnniicmmekmaaTimeL
import Derived.Test.YtmpnniicmmekmaaPlus
namespace Go.Proofs.Ytmpnniicmmekmaa
open Go.RowKit

def prevS (t : List Seg) : Nat → Seg
  | 0 => ⟨-1, 0⟩
  | i + 1 => t.getD i ⟨0, 0⟩
theorem getD_at {t : List Seg} {i : Nat} (hi : i < t.length) : t.getD i ⟨0, 0⟩ = t[i] := by rw [List.getD_eq_getElem?_getD, List.getElem?_eq_getElem hi]; rfl
def LinkR (t : List Seg) (q : Nat) (hq : q < t.length) : Prop := (prevS t q).from_ < t[q].from_ ∧ t[q].from_ ≤ 1099511627776 ∧ 1 ≤ t[q].version ∧ t[q].version ≤ 50 ∧ t[q].version ≠ (prevS t q).version
theorem TInv.linkR {t : List Seg} (h : TInv t) (q : Nat) (hq : q < t.length) : LinkR t q hq := by
  obtain ⟨h1, h2⟩ := h.link q hq
  cases q with
  | zero =>
    have := h.zero hq
    exact ⟨by show (-1 : Int) < _; omega, h1.1, h1.2.1, h1.2.2, by show _ ≠ (0 : Int); omega⟩
  | succ q =>
    obtain ⟨h3, h4⟩ := h2 (by omega)
    refine ⟨?_, h1.1, h1.2.1, h1.2.2, ?_⟩
    · show (t.getD q ⟨0, 0⟩).from_ < _
      rw [getD_at (by omega)]; exact h3
    · show _ ≠ (t.getD q ⟨0, 0⟩).version
      rw [getD_at (by omega)]; exact h4
theorem TInv.ofR {t : List Seg} (hne : t ≠ []) (h0 : ∀ h : 0 < t.length, t[0].from_ = 0) (hp : ∀ q (hq : q < t.length), LinkR t q hq) : TInv t := by
  refine TInv.of hne h0 fun q hq => ?_
  obtain ⟨h1, h2, h3, h4, h5⟩ := hp q hq
  refine ⟨⟨h2, h3, h4⟩, fun hq0 => ?_⟩
  cases q with
  | zero => omega
  | succ q =>
    have e : prevS t (q + 1) = t[q]'(by omega) := getD_at (by omega)
    rw [e] at h1 h5
    exact ⟨h1, h5⟩

section
variable {B : Base}
theorem RRight_g {v : Value} {t : List Seg} (r : rowR v t B) (hl : t.length ≤ 1000000000) : Gives Try.prog B (sCall F_errataref45_Right #[v]) (.bool (rightT t)) := by
  refine Gives.intro fun B' w K base h k => ?_
  replace r := base r
  refine errataref45_Right.up (errataref45_Right.call ?_)
  unfold errataref45_Right.pt
  simp -zeta only [rowR.len r sl_s_api_Seg, bin_eql, ifB_dec]
  have no : ∀ w' σ, Rel B' w' σ → ¬ TInv t → K (.bool false) w' := fun w' σ h hn => by
    rw [rightT_no hn] at k
    exact k _ _ h.nil
  refine ⟨fun h0 => no _ _ h fun hi => hi.some_ (List.eq_nil_of_length_eq_zero (by omega)), fun h0 => ?_⟩
  have hlen : 0 < t.length := by omega
  simp -zeta only [bd_api_Seg_0]
  refine h.allocAg (ds := (⟨-1, 0⟩ : Seg).cs.toArray) z_api_Seg rfl ag_api_Seg rfl (fun v hv => Enc.one (⟨-1, 0⟩ : Seg) v hv) fun b w1 h => ?_
  refine LOOP_intro (fun x w' => ∃ i : Nat, i ≤ t.length ∧ x = (.int .i64 i, ()) ∧ (∀ q (hq : q < t.length), q < i → LinkR t q hq) ∧ Rel B' w' [cellD b T_api_Seg (prevS t i).cs.toArray]) (fun x _ => t.length - (match x.1 with | .int _ n => n.toNat | _ => 0))
    ⟨0, Nat.zero_le _, rfl, fun q _ hq => absurd hq (Nat.not_lt_zero q), h⟩ ?_
  clear h
  rintro x w2 ⟨i, hil, rfl, hlk, h⟩ next hnext
  simp -zeta only [rowR.len r sl_s_api_Seg, bin_lss, ifB_dec]
  refine ⟨fun hlt => ?_, fun hge => ?_⟩
  · have hi' : i < t.length := by omega
    have no : ∀ w' σ, Rel B' w' σ → ¬ LinkR t i hi' → K (.bool false) w' := fun w' σ h hn => no w' σ h fun ht => hn (ht.linkR i hi')
    obtain ⟨g, o, hx, hc⟩ := rowR.idx r sl_s_api_Seg (P := Try.prog) hi'
    simp -zeta only [hx, cellsR.ldAg (h.hereB hc) ag_api_Seg rfl]
    refine h.allocAg (ds := t[i].cs.toArray) z_api_Seg rfl ag_api_Seg rfl (fun v hv => Enc.one t[i] v hv) fun b2 w3 h => ?_
    have h : Rel B' w3 [cellD b T_api_Seg (prevS t i).cs.toArray, cellD b2 T_api_Seg t[i].cs.toArray] := h
    simp -zeta only [field_addr f_api_Seg_0, field_addr f_api_Seg_1, Nat.add_zero, Nat.zero_add, h.ld 0 rfl sc_int (o := 0) rfl, h.ld 0 rfl sc_int (o := 1) rfl, h.ld 1 rfl sc_int (o := 0) rfl, h.ld 1 rfl sc_int (o := 1) rfl, h.ldAg 1 rfl ag_api_Seg rfl, bin_gtr, bin_lss, bin_leq, bin_eql, ifB_dec]
    refine ⟨fun hh => no _ _ h fun hl => absurd hl.1 (by omega), fun h1 => ⟨fun hh => no _ _ h fun hl => absurd hl.2.1 (by omega), fun h2 => ⟨fun hh => no _ _ h fun hl => absurd hl.2.2.1 (by omega), fun h3 => ⟨fun hh => no _ _ h fun hl => absurd hl.2.2.2.1 (by omega), fun h4 => ⟨fun hh => no _ _ h fun hl => hl.2.2.2.2 hh, fun h5 => ?_⟩⟩⟩⟩⟩
    refine h.stAll 0 rfl ag_api_Seg rfl rfl (fun v hv => Enc.one t[i] v hv) fun w4 h => ?_
    rw [bin_add, wrap_id (by omega) (by omega)]
    have e : prevS t (i + 1) = t[i] := getD_at hi'
    refine hnext _ _ ⟨i + 1, by omega, rfl, fun q hq hqi => ?_, by rw [e]; exact h.take 1⟩ (by simp only; omega)
    by_cases e : q = i
    · subst e; exact ⟨by omega, by omega, by omega, by omega, h5⟩
    · exact hlk q hq (by omega)
  · obtain ⟨g, o, hx, hc⟩ := rowR.idx r sl_s_api_Seg (P := Try.prog) hlen
    have hx : ∀ {Kp : Value → Prop}, pureK Try.prog (sIdxAddr T_s_api_Seg v (.int .i64 0)) Kp = Kp _ := hx
    simp -zeta only [hx, field_addr f_api_Seg_0, Nat.add_zero, cellsR.ld0 (h.hereB hc) sc_int rfl, bin_eql]
    have e : rightT t = decide (t[0].from_ = 0) := by
      rw [Bool.eq_iff_iff, rightT_true, decide_eq_true_iff]
      exact ⟨fun ht => ht.zero hlen, fun h0 => TInv.ofR (fun e => by rw [e] at hlen; simp at hlen) (fun _ => h0) fun q hq => hlk q hq (by omega)⟩
    rw [e] at k
    exact k _ _ h.nil

theorem RSame_g {va vb : Value} {a b : List Seg} (ra : rowR va a B) (rb : rowR vb b B) (hl : a.length ≤ 1000000000) : Gives Try.prog B (sCall F_errataref45_Same #[va, vb]) (.bool (decide (a = b))) := by
  refine Gives.intro fun B' w K base h k => ?_
  replace ra := base ra
  replace rb := base rb
  refine errataref45_Same.up (errataref45_Same.call ?_)
  unfold errataref45_Same.pt
  have no : ∀ w', Rel B' w' [] → a ≠ b → K (.bool false) w' := fun w' h hn => by
    rw [decide_eq_false hn] at k
    exact k _ _ h
  simp -zeta only [rowR.len ra sl_s_api_Seg, rowR.len rb sl_s_api_Seg, bin_neq, ifB_not, ifB_dec]
  refine ⟨fun hlen => ?_, fun hlen => no _ h fun e => hlen (by rw [e])⟩
  have hlen : a.length = b.length := by omega
  refine LOOP_intro (fun x w' => ∃ i : Nat, i ≤ a.length ∧ x = (.int .i64 i, ()) ∧ (∀ q (h1 : q < a.length) (h2 : q < b.length), q < i → a[q] = b[q]) ∧ Rel B' w' []) (fun x _ => a.length - (match x.1 with | .int _ n => n.toNat | _ => 0))
    ⟨0, Nat.zero_le _, rfl, fun q _ _ hq => absurd hq (Nat.not_lt_zero q), h⟩ ?_
  clear h
  rintro x w1 ⟨i, hil, rfl, hin, h⟩ next hnext
  simp -zeta only [bin_lss, ifB_dec]
  refine ⟨fun hlt => ?_, fun hge => ?_⟩
  · have h1 : i < a.length := by omega
    have h2 : i < b.length := by omega
    have h := h.tick
    obtain ⟨g, o, hx, hc⟩ := rowR.idx ra sl_s_api_Seg h1
    obtain ⟨g2, o2, hx2, hc2⟩ := rowR.idx rb sl_s_api_Seg h2
    have hc : cellsR g o a[i].cs B' := hc
    have hc2 : cellsR g2 o2 b[i].cs B' := hc2
    simp -zeta only [hx, hx2, cellsR.ldAg (h.hereB hc) ag_api_Seg rfl, cellsR.ldAg (h.hereB hc2) ag_api_Seg rfl]
    rw [neq_api_Seg a[i] b[i], ifB_not, ifB_dec]
    refine ⟨fun e => ?_, fun e => no _ h fun hab => e (by subst hab; rfl)⟩
    rw [bin_add, wrap_id (by omega) (by omega)]
    refine hnext _ _ ⟨i + 1, by omega, rfl, fun q q1 q2 q3 => ?_, h⟩ (by simp only; omega)
    by_cases eq : q = i
    · subst eq; exact e
    · exact hin q q1 q2 (by omega)
  · have : a = b := List.ext_getElem hlen fun q q1 q2 => hin q q1 q2 (by omega)
    rw [decide_eq_true this] at k
    exact k _ _ h

theorem RAt_g {v : Value} {t : List Seg} (r : rowR v t B) (ht : TInv t) (hl : t.length ≤ 1000000) (time : Int) : Gives Try.prog B (sCall F_errataref45_At #[v, .int .i64 time]) (.int .i64 (atS t time)) := by
  refine Gives.intro fun B' w K base h k => ?_
  replace r := base r
  refine errataref45_At.up (errataref45_At.call ?_)
  unfold errataref45_At.pt
  have hlen : 0 < t.length := List.length_pos_iff.2 ht.some_
  have hb := behindS_le t time
  obtain ⟨g, o, hx, hc⟩ := rowR.idx r sl_s_api_Seg (P := Try.prog) hlen
  have hx : ∀ {Kp : Value → Prop}, pureK Try.prog (sIdxAddr T_s_api_Seg v (.int .i64 0)) Kp = Kp _ := hx
  have hc : cellsR g o t[0].cs B' := hc
  simp -zeta only [hx, field_addr f_api_Seg_1, cellsR.ld (h.hereB hc) sc_int (j := 1) rfl]
  clear hx
  refine LOOP_intro (fun x w' => ∃ i : Nat, i ≤ t.length ∧ x = (.int .i64 (t.getD (max (min (behindS t time) i) 1 - 1) ⟨0, 0⟩).version, .int .i64 i, ()) ∧ Rel B' w' []) (fun x _ => t.length - (match x.2.1 with | .int _ n => n.toNat | _ => 0))
    ⟨0, Nat.zero_le _, by
      have e : max (min (behindS t time) 0) 1 - 1 = 0 := by omega
      rw [e, getD_at hlen]; rfl, h⟩ ?_
  clear h
  rintro x w1 ⟨i, hil, rfl, h⟩ next hnext
  simp -zeta only [rowR.len r sl_s_api_Seg, bin_lss, ifB_dec]
  refine ⟨fun hlt => ?_, fun hge => ?_⟩
  · have hi' : i < t.length := by omega
    refine LETJ_intro fun J hJ => ?_
    replace hJ : J (.int .i64 (t.getD (max (min (behindS t time) (i + 1)) 1 - 1) ⟨0, 0⟩).version, ()) w1 := by
      refine hJ _ _ ?_
      rw [bin_add, wrap_id (by omega) (by omega)]
      exact hnext _ _ ⟨i + 1, by omega, rfl, h⟩ (by simp only; omega)
    clear hnext
    obtain ⟨g, o, hx, hc⟩ := rowR.idx r sl_s_api_Seg (P := Try.prog) hi'
    have hc : cellsR g o t[i].cs B' := hc
    simp -zeta only [hx, field_addr f_api_Seg_0, field_addr f_api_Seg_1, Nat.add_zero, cellsR.ld0 (h.hereB hc) sc_int rfl, cellsR.ld (h.hereB hc) sc_int (j := 1) rfl, bin_leq, ifB_dec]
    refine ⟨fun hle => ?_, fun hgt => ?_⟩
    · have hib : i < behindS t time := by
        rcases Nat.lt_or_ge i (behindS t time) with h | h
        · exact h
        · have := behindS_ge ht.sorted h hi'; omega
      have e : max (min (behindS t time) (i + 1)) 1 - 1 = i := by omega
      rw [e, getD_at hi'] at hJ
      exact hJ
    · have hib : behindS t time ≤ i := by
        rcases Nat.lt_or_ge i (behindS t time) with h | h
        · obtain ⟨_, h⟩ := behindS_lt h; omega
        · exact h
      have e : max (min (behindS t time) (i + 1)) 1 - 1 = max (min (behindS t time) i) 1 - 1 := by omega
      rw [e] at hJ
      exact hJ
  · have e : max (min (behindS t time) i) 1 - 1 = max (behindS t time) 1 - 1 := by omega
    rw [e]
    exact k _ _ h

theorem Rend_g {v : Value} {t : List Seg} (r : rowR v t B) (hl : t.length ≤ 1000000) {i : Nat} (hi : i < t.length) : Gives Try.prog B (sCall F_errataref45_end #[v, .int .i64 i]) (.int .i64 (spanEnd t i)) := by
  refine Gives.intro fun B' w K base h k => ?_
  replace r := base r
  refine errataref45_end.up (errataref45_end.call ?_)
  unfold errataref45_end.pt
  have hw : IntKind.i64.wrap ((i : Int) + 1) = ((i + 1 : Nat) : Int) := by rw [wrap_id (by omega) (by omega)]; omega
  simp -zeta only [bin_add, hw, rowR.len r sl_s_api_Seg, bin_lss, ifB_dec]
  refine ⟨fun hh => ?_, fun hh => ?_⟩
  · have hh' : i + 1 < t.length := by omega
    obtain ⟨g, o, hx, hc⟩ := rowR.idx r sl_s_api_Seg (P := Try.prog) hh'
    simp -zeta only [hx, field_addr f_api_Seg_0, Nat.add_zero, cellsR.ld0 (h.hereB hc) sc_int rfl]
    unfold spanEnd at k
    rw [dif_pos hh'] at k
    exact k _ _ h
  · unfold spanEnd at k
    rw [dif_neg (by omega)] at k
    exact k _ _ h

theorem RSpans_m {v : Value} {t : List Seg} (r : rowR v t B) (hl : t.length ≤ 1000000) (ver : Int) : Makes Try.prog B (sCall F_errataref45_Spans #[v, .int .i64 ver]) fun u τ => τ = [rowD T_api_Seg u (spansS t ver)] := by
  refine Makes.intro fun B' w K base h k => ?_
  replace r := base r
  refine errataref45_Spans.up (errataref45_Spans.call ?_)
  unfold errataref45_Spans.pt
  refine LOOP_intro (fun x w' => ∃ (i : Nat) (v : Value), i ≤ t.length ∧ x = (v, .int .i64 i, ()) ∧ Rel B' w' [rowD T_api_Seg v (spansTo t ver i)]) (fun x _ => t.length - (match x.2.1 with | .int _ n => n.toNat | _ => 0))
    ⟨0, _, Nat.zero_le _, rfl, h.addNil Seg T_api_Seg⟩ ?_
  clear h
  rintro x w1 ⟨i, vv, hil, rfl, h⟩ next hnext
  have hsl := spansTo_le t ver i
  simp -zeta only [rowR.len r sl_s_api_Seg, bin_lss, ifB_dec]
  refine ⟨fun hlt => ?_, fun hge => ?_⟩
  · have hi' : i < t.length := by omega
    refine LETJ_intro fun J hJ => ?_
    replace hJ : ∀ v' w', Rel B' w' [rowD T_api_Seg v' (spansTo t ver (i + 1))] → J (v', ()) w' := by
      intro v' w' h
      refine hJ _ _ ?_
      rw [bin_add, wrap_id (by omega) (by omega)]
      exact hnext _ _ ⟨i + 1, v', by omega, rfl, h⟩ (by simp only; omega)
    clear hnext
    obtain ⟨g, o, hx, hc⟩ := rowR.idx r sl_s_api_Seg (P := Try.prog) hi'
    have hc : cellsR g o t[i].cs B' := hc
    have ht := h.tick
    have e := spansTo_succ (ver := ver) hi'
    simp -zeta only [hx, field_addr f_api_Seg_0, field_addr f_api_Seg_1, Nat.add_zero, cellsR.ld (h.hereB hc) sc_int (j := 1) rfl, cellsR.ld0 (ht.hereB hc) sc_int rfl, bin_eql, ifB_dec]
    refine ⟨fun hv => ?_, fun hv => hJ _ _ (by rw [e, if_neg hv]; exact h)⟩
    refine ht.ask (fun B2 own base2 => Rend_g (base2 r) hl hi') fun w2 h => ?_
    refine ⟨is_of fun {K} => cellsR.ld0 (h.hereB hc) sc_int rfl, ?_⟩
    simp -zeta only [bd_api_Seg_0_1]
    refine h.push1 (α := Seg) 0 rfl ⟨t[i].from_, spanEnd t i⟩ sl_s_api_Seg (by decide) (by omega) (by omega) fun v2 w3 h => ?_
    refine hJ _ _ ?_
    rw [e, if_pos hv]
    exact h
  · have : i = t.length := by omega
    subst this
    exact k _ _ _ rfl h

theorem RPick_m {vt vd : Value} {t : List Seg} {L : DelL} (rt : rowR vt t B) (ht : TInv t) (htl : t.length ≤ 1000000) (rd : rowR vd (raws L) B) (hl : L.length ≤ 1000000) (ver : Int) :
    Makes Try.prog B (sCall F_errataref45_Pick #[vt, .int .i64 ver, vd]) fun u τ => τ = [rowD T_api_Delta u (raws (pickL t ver L))] := by
  refine Makes.intro fun B' w K base h k => ?_
  replace rt := base rt
  replace rd := base rd
  refine errataref45_Pick.up (errataref45_Pick.call ?_)
  unfold errataref45_Pick.pt
  refine LOOP_intro (fun x w' => ∃ (i : Nat) (v : Value), i ≤ L.length ∧ x = (v, .int .i64 i, ()) ∧ Rel B' w' [rowD T_api_Delta v (raws (pickL t ver (L.take i)))]) (fun x _ => L.length - (match x.2.1 with | .int _ n => n.toNat | _ => 0))
    ⟨0, _, Nat.zero_le _, rfl, h.addNil Dlt T_api_Delta⟩ ?_
  clear h
  rintro x w1 ⟨i, vv, hil, rfl, h⟩ next hnext
  have hple : (pickL t ver (L.take i)).length ≤ i := by
    refine Nat.le_trans (List.length_filter_le _ _) ?_
    rw [List.length_take]; omega
  simp -zeta only [rowR.len rd sl_s_api_Delta, bin_lss, ifB_dec]
  rw [raws_length]
  refine ⟨fun hlt => ?_, fun hge => ?_⟩
  · have hi : i < L.length := by omega
    refine LETJ_intro fun J hJ => ?_
    replace hJ : ∀ v' w', Rel B' w' [rowD T_api_Delta v' (raws (pickL t ver (L.take (i + 1))))] → J (v', ()) w' := by
      intro v' w' h
      refine hJ _ _ ?_
      rw [bin_add, wrap_id (by omega) (by omega)]
      exact hnext _ _ ⟨i + 1, v', by omega, rfl, h⟩ (by simp only; omega)
    clear hnext
    obtain ⟨g, o, hx, hc⟩ := rowR.idx rd sl_s_api_Delta (P := Try.prog) (i := i) (by rw [raws_length]; exact hi)
    rw [raws_get hi] at hc
    have hc : cellsR g o [.int .i64 L[i].1.time, L[i].2.1, .int .i64 L[i].1.n] B' := hc
    have e := pickL_succ (t := t) (ver := ver) hi
    simp -zeta only [hx, field_addr f_api_Delta_0, Nat.add_zero, cellsR.ld0 (h.hereB hc) sc_int rfl]
    refine h.ask (fun B2 own base2 => RAt_g (base2 rt) ht htl L[i].1.time) fun w2 h => ?_
    simp -zeta only [bin_eql, ifB_dec]
    refine ⟨fun hv => ?_, fun hv => hJ _ _ (by rw [e, if_neg hv]; exact h)⟩
    simp -zeta only [cellsR.ldAg (h.hereB hc) ag_api_Delta rfl]
    refine h.push1 (α := Dlt) 0 rfl (L[i].1.raw L[i].2) sl_s_api_Delta (by decide) (by rw [raws_length]; omega) (by rw [raws_length]; omega) fun v2 w3 h => ?_
    refine hJ _ _ ?_
    rw [e, if_pos hv, raws_append]
    exact h
  · rw [List.take_of_length_le (by omega)] at h
    exact k _ _ _ rfl h

/-! ### Versions -/
def hasTo (t : List Seg) (closed v : Int) (i : Nat) : Bool := (List.range i).any fun q => decide ((t.getD q ⟨0, 0⟩).version = v) && (decide (q + 1 = t.length) || decide (closed < spanEnd t q - 1))
theorem hasTo_succ {t : List Seg} {closed v : Int} {i : Nat} (hi : i < t.length) : hasTo t closed v (i + 1) = (hasTo t closed v i || (decide (t[i].version = v) && (decide (i + 1 = t.length) || decide (closed < spanEnd t i - 1)))) := by
  unfold hasTo
  rw [List.range_succ, List.any_append]
  simp only [List.any_cons, List.any_nil, Bool.or_false, getD_at hi]
def refTo (t : List Seg) (closed : Int) (n : Nat) : List Int := ((List.range n).map fun k : Nat => (k : Int) + 1).filter fun v => hasTo t closed v t.length
theorem refTo_succ (t : List Seg) (closed : Int) (n : Nat) : refTo t closed (n + 1) = if hasTo t closed (n + 1) t.length = true then refTo t closed n ++ [(n : Int) + 1] else refTo t closed n := by
  unfold refTo
  rw [List.range_succ, List.map_append, List.filter_append, List.map_cons, List.map_nil, List.filter_cons]
  by_cases h : hasTo t closed (n + 1) t.length = true
  · rw [if_pos h, if_pos h, List.filter_nil]
  · rw [if_neg h, if_neg h, List.filter_nil, List.append_nil]
theorem refTo_le (t : List Seg) (closed : Int) (n : Nat) : (refTo t closed n).length ≤ n := by
  refine Nat.le_trans (List.length_filter_le _ _) ?_
  simp
abbrev refVers (t : List Seg) (closed : Int) : List Int := refTo t closed 50
theorem refVers_strict (t : List Seg) (closed : Int) : (refVers t closed).Pairwise (· < ·) := by
  refine List.Pairwise.filter _ ?_
  rw [List.pairwise_map]
  refine List.pairwise_lt_range.imp fun h => ?_
  omega
theorem refVers_mem {t : List Seg} {closed v : Int} : v ∈ refVers t closed ↔ (1 ≤ v ∧ v ≤ 50) ∧ ∃ q, ∃ hq : q < t.length, t[q].version = v ∧ (q + 1 = t.length ∨ closed < spanEnd t q - 1) := by
  unfold refVers refTo
  rw [List.mem_filter]
  refine and_congr ?_ ?_
  · rw [List.mem_map]
    constructor
    · rintro ⟨k, hk, rfl⟩
      have := List.mem_range.1 hk
      omega
    · intro h
      exact ⟨(v - 1).toNat, List.mem_range.2 (by omega), by omega⟩
  · unfold hasTo
    rw [List.any_eq_true]
    constructor
    · rintro ⟨q, hq, hb⟩
      have hq := List.mem_range.1 hq
      rw [getD_at hq] at hb
      simp only [Bool.and_eq_true, Bool.or_eq_true, decide_eq_true_eq] at hb
      exact ⟨q, hq, hb⟩
    · rintro ⟨q, hq, hb⟩
      refine ⟨q, List.mem_range.2 hq, ?_⟩
      rw [getD_at hq]
      simp only [Bool.and_eq_true, Bool.or_eq_true, decide_eq_true_eq]
      exact hb
theorem openS_ref {t : List Seg} (h : TInv t) (closed : Int) : openS t closed = refVers t closed := by
  refine strict_ext (versS_strict _) (refVers_strict _ _) fun v => ?_
  unfold openS
  rw [versS_mem, refVers_mem]
  have hb := behindS_le t (min closed 1099511627776 + 1)
  have key : ∀ q (hq : q < t.length), max (behindS t (min closed 1099511627776 + 1)) 1 - 1 ≤ q ↔ (q + 1 = t.length ∨ closed < spanEnd t q - 1) := by
    intro q hq
    by_cases e : q + 1 = t.length
    · exact ⟨fun _ => .inl e, fun _ => by omega⟩
    · have h1 : q + 1 < t.length := by omega
      have he : spanEnd t q = t[q + 1].from_ := by unfold spanEnd; rw [dif_pos h1]
      have hx := (h.each _ (List.getElem_mem h1)).1
      rw [he]
      constructor
      · intro hle
        have := behindS_ge h.sorted (time := min closed 1099511627776 + 1) (i := q + 1) (by omega) h1
        exact .inr (by omega)
      · rintro (h2 | h2)
        · exact absurd h2 e
        · rcases Nat.lt_or_ge (q + 1) (behindS t (min closed 1099511627776 + 1)) with h3 | h3
          · obtain ⟨_, h4⟩ := behindS_lt h3
            omega
          · omega
  constructor
  · rintro ⟨s, hs, rfl⟩
    obtain ⟨j, hj, rfl⟩ := List.getElem_of_mem hs
    rw [List.length_drop] at hj
    rw [List.getElem_drop]
    refine ⟨(h.each _ (List.getElem_mem _)).2, _, _, rfl, (key _ (by omega)).1 (by omega)⟩
  · rintro ⟨_, q, hq, rfl, hc⟩
    have := (key q hq).2 hc
    refine ⟨t[q], ?_, rfl⟩
    rw [List.mem_iff_getElem]
    refine ⟨q - (max (behindS t (min closed 1099511627776 + 1)) 1 - 1), by rw [List.length_drop]; omega, ?_⟩
    rw [List.getElem_drop]
    congr 1
    omega
theorem versS_ref {t : List Seg} (h : TInv t) : versS t = refVers t (-1) := by
  refine strict_ext (versS_strict _) (refVers_strict _ _) fun v => ?_
  rw [versS_mem, refVers_mem]
  constructor
  · rintro ⟨s, hs, rfl⟩
    obtain ⟨q, hq, rfl⟩ := List.getElem_of_mem hs
    refine ⟨(h.each _ (List.getElem_mem _)).2, q, hq, rfl, ?_⟩
    by_cases e : q + 1 = t.length
    · exact .inl e
    · right
      have h1 : q + 1 < t.length := by omega
      have he : spanEnd t q = t[q + 1].from_ := by unfold spanEnd; rw [dif_pos h1]
      have := List.pairwise_iff_getElem.1 h.sorted 0 (q + 1) (by omega) h1 (by omega)
      have := h.zero (by omega)
      omega
  · rintro ⟨_, q, hq, rfl, _⟩
    exact ⟨_, List.getElem_mem hq, rfl⟩

theorem RVersions_m {v : Value} {t : List Seg} (r : rowR v t B) (ht : TInv t) (hl : t.length ≤ 1000000) (closed : Int) : Makes Try.prog B (sCall F_errataref45_Versions #[v, .int .i64 closed]) fun u τ => τ = [rowD T_int u (refVers t closed)] := by
  refine Makes.intro fun B' w K base h k => ?_
  replace r := base r
  refine errataref45_Versions.up (errataref45_Versions.call ?_)
  unfold errataref45_Versions.pt
  have hspan : ∀ i (hi : i < t.length), 0 ≤ spanEnd t i ∧ spanEnd t i ≤ 1099511627777 := by
    intro i hi
    unfold spanEnd
    split
    · rename_i h1
      have := List.pairwise_iff_getElem.1 ht.sorted 0 (i + 1) (by omega) h1 (by omega)
      have := ht.zero (by omega)
      have := (ht.each _ (List.getElem_mem h1)).1
      omega
    · omega
  refine LOOP_intro (fun x w' => ∃ (n : Nat) (u : Value), n ≤ 50 ∧ x = (u, .int .i64 ((n : Int) + 1), ()) ∧ Rel B' w' [rowD T_int u (refTo t closed n)]) (fun x _ => 51 - (match x.2.1 with | .int _ n => n.toNat | _ => 0))
    ⟨0, _, Nat.zero_le _, rfl, h.addNil Int T_int⟩ ?_
  clear h
  rintro x w1 ⟨n, u, hn, rfl, h⟩ next hnext
  have hrl := refTo_le t closed n
  simp -zeta only [bin_leq, ifB_dec]
  refine ⟨fun hle => ?_, fun hgt => ?_⟩
  · refine LETJ_intro fun J hJ => ?_
    replace hJ : ∀ u' w', Rel B' w' [rowD T_int u' (refTo t closed (n + 1))] → J (u', ()) w' := by
      intro u' w' h
      refine hJ _ _ ?_
      rw [bin_add, wrap_id (by omega) (by omega)]
      exact hnext _ _ ⟨n + 1, u', by omega, by rw [show (((n + 1 : Nat) : Int) + 1) = (n : Int) + 1 + 1 by omega], h⟩ (by simp only; omega)
    clear hnext
    refine LOOP_intro (fun x w' => ∃ i : Nat, i ≤ t.length ∧ x = (.bool (hasTo t closed ((n : Int) + 1) i), .int .i64 i, ()) ∧ Rel B' w' [rowD T_int u (refTo t closed n)]) (fun x _ => t.length - (match x.2.1 with | .int _ n => n.toNat | _ => 0))
      ⟨0, Nat.zero_le _, rfl, h⟩ ?_
    clear h
    rintro x w2 ⟨i, hil, rfl, h⟩ next hnext
    have hw : IntKind.i64.wrap ((t.length : Int) - 1) = (t.length : Int) - 1 := wrap_id (by omega) (by omega)
    simp -zeta only [rowR.len r sl_s_api_Seg, bin_lss, bin_sub, hw, bin_eql, ifB_dec]
    refine ⟨fun hlt => ?_, fun hge => ?_⟩
    · have hi' : i < t.length := by omega
      have e := hasTo_succ (closed := closed) (v := (n : Int) + 1) hi'
      refine LETJ_intro fun J2 hJ2 => ?_
      replace hJ2 : ∀ b w', b = hasTo t closed ((n : Int) + 1) (i + 1) → Rel B' w' [rowD T_int u (refTo t closed n)] → J2 (.bool b, ()) w' := by
        rintro b w' rfl h
        refine hJ2 _ _ ?_
        rw [bin_add, wrap_id (by omega) (by omega)]
        exact hnext _ _ ⟨i + 1, by omega, rfl, h⟩ (by simp only; omega)
      clear hnext
      rw [ifB_bool]
      refine ⟨fun hb => hJ2 _ _ (by rw [e, hb]; rfl) h, fun hb => ?_⟩
      obtain ⟨g, o, hx, hc⟩ := rowR.idx r sl_s_api_Seg (P := Try.prog) hi'
      have hc : cellsR g o t[i].cs B' := hc
      simp -zeta only [hx, field_addr f_api_Seg_1, cellsR.ld (h.hereB hc) sc_int (j := 1) rfl, bin_eql, ifB_dec]
      rw [hb, Bool.false_or] at e
      refine ⟨fun hv => ⟨fun hlast => hJ2 _ _ (by rw [e, decide_eq_true hv, decide_eq_true (by omega)]; rfl) h, fun hnl => ?_⟩, fun hv => hJ2 _ _ (by rw [e, decide_eq_false hv]; rfl) h⟩
      refine h.ask (fun B2 own base2 => Rend_g (base2 r) hl hi') fun w3 h => ?_
      have := hspan i hi'
      rw [bin_sub, wrap_id (by omega) (by omega), bin_gtr]
      refine hJ2 _ _ ?_ h
      rw [e, decide_eq_true hv, decide_eq_false (show ¬ i + 1 = t.length by omega), Bool.true_and, Bool.false_or]
    · have hie : i = t.length := by omega
      subst hie
      have e := refTo_succ t closed n
      rw [ifB_bool]
      refine ⟨fun hb => ?_, fun hb => hJ _ _ (by rw [e, if_neg (by rw [hb]; decide)]; exact h)⟩
      refine h.push1 (α := Int) 0 rfl ((n : Int) + 1) sl_s_int (by decide) (by omega) (by omega) fun v2 w3 h => ?_
      refine hJ _ _ ?_
      rw [e, if_pos hb]
      exact h
  · have : n = 50 := by omega
    subst this
    exact k _ _ _ rfl h

theorem RReplace_m {v : Value} {t : List Seg} (r : rowR v t B) (hs : Sorted t) (hl : t.length ≤ 1000000) (fr ver : Int) : Makes Try.prog B (sCall F_errataref45_Replace #[v, .int .i64 fr, .int .i64 ver])
    fun u τ => ∃ v', u = .tuple #[v', .int .i64 (replT t fr ver).2] ∧ τ = [rowD T_api_Seg v' (replT t fr ver).1] := by
  refine Makes.intro fun B' w K base h k => ?_
  replace r := base r
  refine errataref45_Replace.up (errataref45_Replace.call ?_)
  unfold errataref45_Replace.pt
  have bad : replT t fr ver = ([], 3) → K (.tuple #[.slice none 0 0, .int .i64 3]) w := fun e => by
    rw [e] at k
    exact k _ _ _ ⟨_, rfl, rfl⟩ (h.addNil Seg T_api_Seg)
  simp -zeta only [bin_lss, bin_gtr, ifB_dec]
  refine ⟨fun e1 => bad (by unfold replT; rw [if_pos e1]), fun e1 => ⟨fun e2 => bad (by unfold replT; rw [if_neg e1, if_pos e2]), fun e2 => ⟨fun e3 => bad (by unfold replT; rw [if_neg e1, if_neg e2, if_pos e3]), fun e3 => ⟨fun e4 => bad (by unfold replT; rw [if_neg e1, if_neg e2, if_neg e3, if_pos e4]), fun e4 => ?_⟩⟩⟩⟩
  clear bad
  have hok : replT t fr ver = (if t.take (behindS t (fr - 1)) = [] ∨ ((t.take (behindS t (fr - 1))).getLast?.map (·.version)) ≠ some ver then t.take (behindS t (fr - 1)) ++ [⟨fr, ver⟩] else t.take (behindS t (fr - 1)), 0) := by
    unfold replT; rw [if_neg e1, if_neg e2, if_neg e3, if_neg e4]
  rw [hok] at k
  have hb := behindS_le t (fr - 1)
  refine LOOP_intro (fun x w' => ∃ (i : Nat) (u : Value), i ≤ t.length ∧ x = (u, .int .i64 (((t.take (min (behindS t (fr - 1)) i)).getLast?.map (·.version)).getD 0), .int .i64 i, ()) ∧ Rel B' w' [rowD T_api_Seg u (t.take (min (behindS t (fr - 1)) i))]) (fun x _ => t.length - (match x.2.2.1 with | .int _ n => n.toNat | _ => 0))
    ⟨0, _, Nat.zero_le _, by rw [show min (behindS t (fr - 1)) 0 = 0 by omega]; rfl, by rw [show min (behindS t (fr - 1)) 0 = 0 by omega]; exact h.addNil Seg T_api_Seg⟩ ?_
  clear h
  rintro x w1 ⟨i, u, hil, rfl, h⟩ next hnext
  have hlen : (t.take (min (behindS t (fr - 1)) i)).length ≤ i := by rw [List.length_take]; omega
  simp -zeta only [rowR.len r sl_s_api_Seg, bin_lss, ifB_dec]
  refine ⟨fun hlt => ?_, fun hge => ?_⟩
  · have hi' : i < t.length := by omega
    refine LETJ_intro fun J hJ => ?_
    replace hJ : ∀ u' w', Rel B' w' [rowD T_api_Seg u' (t.take (min (behindS t (fr - 1)) (i + 1)))] → J (u', .int .i64 (((t.take (min (behindS t (fr - 1)) (i + 1))).getLast?.map (·.version)).getD 0), ()) w' := by
      intro u' w' h
      refine hJ _ _ ?_
      rw [bin_add, wrap_id (by omega) (by omega)]
      exact hnext _ _ ⟨i + 1, u', by omega, rfl, h⟩ (by simp only; omega)
    clear hnext
    obtain ⟨g, o, hx, hc⟩ := rowR.idx r sl_s_api_Seg (P := Try.prog) hi'
    have hc : cellsR g o t[i].cs B' := hc
    simp -zeta only [hx, field_addr f_api_Seg_0, field_addr f_api_Seg_1, Nat.add_zero, cellsR.ld0 (h.hereB hc) sc_int rfl, cellsR.ldAg (h.hereB hc) ag_api_Seg rfl, bin_lss, ifB_dec]
    refine ⟨fun hf => ?_, fun hf => ?_⟩
    · have hib : i < behindS t (fr - 1) := by
        rcases Nat.lt_or_ge i (behindS t (fr - 1)) with h | h
        · exact h
        · have := behindS_ge hs h hi'; omega
      have m1 : min (behindS t (fr - 1)) i = i := by omega
      have m2 : min (behindS t (fr - 1)) (i + 1) = i + 1 := by omega
      have et : t.take (i + 1) = t.take i ++ [t[i]] := List.take_succ_eq_append_getElem hi'
      rw [m1] at h hlen
      rw [m2, et] at hJ
      refine h.push1 (α := Seg) 0 rfl t[i] sl_s_api_Seg (by decide) (by omega) (by omega) fun u2 w2 h => ?_
      simp -zeta only [cellsR.ld (h.hereB hc) sc_int (j := 1) rfl]
      have e2 : ((t.take i ++ [t[i]]).getLast?.map (·.version)).getD 0 = t[i].version := by rw [List.getLast?_append]; rfl
      have := hJ u2 w2 h
      rw [e2] at this
      exact this
    · have hib : behindS t (fr - 1) ≤ i := by
        rcases Nat.lt_or_ge i (behindS t (fr - 1)) with h | h
        · obtain ⟨_, h⟩ := behindS_lt h; omega
        · exact h
      have m : min (behindS t (fr - 1)) (i + 1) = min (behindS t (fr - 1)) i := by omega
      rw [m] at hJ
      exact hJ _ _ h
  · clear hnext
    have m : min (behindS t (fr - 1)) i = behindS t (fr - 1) := by omega
    rw [m] at h hlen ⊢
    generalize t.take (behindS t (fr - 1)) = T at h hlen k ⊢
    refine LETJ_intro fun J hJ => ?_
    replace hJ : ∀ v' w', Rel B' w' [rowD T_api_Seg v' (if T = [] ∨ (T.getLast?.map (·.version)) ≠ some ver then T ++ [⟨fr, ver⟩] else T)] → J (v', ()) w' := fun v' w' h => hJ _ _ (k _ _ _ ⟨v', rfl, rfl⟩ h)
    have hcond : (T = [] ∨ (T.getLast?.map (·.version)) ≠ some ver) ↔ ¬ (T.getLast?.map (·.version)).getD 0 = ver := by
      rcases List.eq_nil_or_concat T with rfl | ⟨T', s, rfl⟩
      · simp; omega
      · simp
    simp -zeta only [bin_neq, ifB_not, ifB_dec, bd_api_Seg_0_1]
    refine ⟨fun e => hJ _ _ (by rw [if_neg fun hc => hcond.1 hc e]; exact h), fun e => ?_⟩
    refine h.push1 (α := Seg) 0 rfl ⟨fr, ver⟩ sl_s_api_Seg (by decide) (by omega) (by omega) fun v' w3 h => hJ v' w3 ?_
    rw [if_pos (hcond.2 e)]
    exact h
end

theorem timelineTells_pt {W : World} {v0 v1 v4 : Value} {t m : List Seg} {time version : Int} {l : List Dlt} (r : rowR v0 t (lawB W)) (rm : rowR v1 m (lawB W)) (htime : -9223372036854775808 ≤ time ∧ time ≤ 9223372036854775807)
    (rd0 : rowR v4 l (lawB W)) (hm : l.length ≤ maxLen) (hq : ∀ x ∈ l, okInt W x.time ∧ (∃ r : List Val, rowR x.row.1 r (lawB W) ∧ r.length ≤ maxLen ∧ ∀ y ∈ r, okInt W y.kind ∧ okInt W y.n ∧ okStr W y.s) ∧ okInt W x.n) {K : Value → World → Prop}
    (fin : ∀ w' σ, Rel (lawB W) w' σ → K (.bool true) w') : erratalaw45_TimelineTells.pt v0 v1 (.int .i64 time) (.int .i64 version) v4 W K := by
  obtain ⟨L, rfl, qd⟩ := dels_of l fun x hx => (hq x hx).2.1.imp fun _ h => h.1
  have rd := rd0
  clear rd0 hq
  rw [raws_length] at hm
  unfold maxLen at hm
  unfold erratalaw45_TimelineTells.pt
  refine small_r (lawB.start W) fun w1 h => ?_
  refine h.ask (fun B2 own base2 => few_g (base2 r) (base2 rd) (base2 qd) (by omega)) fun w2 h => ?_
  rw [un_not, ifB_not, ifB_bool]
  refine ⟨fun hf => ?_, fun _ => fin _ _ h⟩
  obtain ⟨hrow, hl1, hl2⟩ := fewS_true.1 hf
  simp -zeta only [rowR.len rm sl_s_api_Seg, bin_gtr, ifB_dec]
  refine ⟨fun _ => fin _ _ h, fun hml => ?_⟩
  refine h.ask (fun B2 own base2 => Right_g (base2 r) (by omega)) fun w3 h => ?_
  refine h.ask (fun B2 own base2 => RRight_g (base2 r) (by omega)) fun w4 h => ?_
  rw [bin_neq_bool U_bool, beq_self_eq_true, Bool.not_true, ifB_false]
  refine h.ask (fun B2 own base2 => Same_g (base2 r) (base2 rm) (by omega)) fun w5 h => ?_
  refine h.ask (fun B2 own base2 => RSame_g (base2 r) (base2 rm) (by omega)) fun w6 h => ?_
  rw [bin_neq_bool U_bool, beq_self_eq_true, Bool.not_true, ifB_false]
  refine h.ask (fun B2 own base2 => RRight_g (base2 r) (by omega)) fun w7 h => ?_
  rw [un_not, ifB_not, ifB_bool]
  refine ⟨fun hra => ?_, fun _ => fin _ _ h⟩
  have ht := rightT_true.1 hra
  refine h.make (fun B2 own base2 => Replace_m (base2 r) ht.sorted (by omega) time version) fun u τ w8 hp h => ?_
  obtain ⟨u1, rfl, rfl⟩ := hp
  rw [ext_2_0, ext_2_1]
  refine h.make (fun B2 own base2 => RReplace_m (base2 r) ht.sorted (by omega) time version) fun u τ w9 hp h => ?_
  obtain ⟨u2, rfl, rfl⟩ := hp
  rw [ext_2_0, ext_2_1, bin_neq, decide_eq_true rfl, Bool.not_true, ifB_false]
  have hrl : (replT t time version).1.length ≤ 1000000000 := by
    by_cases hv : (0 ≤ time ∧ time ≤ 1099511627776) ∧ 1 ≤ version ∧ version ≤ 50
    · have := (replT_ok hv.1 hv.2 ht.sorted).2.2.2
      omega
    · rw [replT_bad hv]; decide
  refine h.ask (fun B2 own base2 => RSame_g (rowD.read (own (i := 0) rfl)) (rowD.read (own (i := 1) rfl)) hrl) fun w10 h => ?_
  rw [decide_eq_true rfl, un_not, Bool.not_true, ifB_false]
  refine h.ask (fun B2 own base2 => At_g (base2 r) ht.sorted ht.some_ (by omega) time) fun w11 h => ?_
  refine h.ask (fun B2 own base2 => RAt_g (base2 r) ht (by omega) time) fun w12 h => ?_
  rw [bin_neq, decide_eq_true rfl, Bool.not_true, ifB_false]
  have h := h.nil
  refine h.make (fun B2 own base2 => Versions_m (base2 r) (by omega)) fun u3 τ w13 hp h => ?_
  subst hp
  refine h.make (fun B2 own base2 => RVersions_m (base2 r) ht (by omega) (-1)) fun u4 τ w14 hp h => ?_
  subst hp
  have hvl := versS_length t
  refine h.ask (fun B2 own base2 => SameInts_g (rowD.read (own (i := 0) rfl)) (rowD.read (own (i := 1) rfl)) (by omega)) fun w15 h => ?_
  rw [decide_eq_true (versS_ref ht), un_not, Bool.not_true, ifB_false]
  refine h.make (fun B2 own base2 => tOpen_m (base2 r) ht.sorted (by omega) htime.1) fun u5 τ w16 hp h => ?_
  subst hp
  refine h.make (fun B2 own base2 => RVersions_m (base2 r) ht (by omega) time) fun u6 τ w17 hp h => ?_
  subst hp
  refine h.ask (fun B2 own base2 => SameInts_g (rowD.read (own (i := 2) rfl)) (rowD.read (own (i := 3) rfl)) (by rw [openS_ref ht]; exact Nat.le_trans (refTo_le _ _ _) (by decide))) fun w18 h => ?_
  rw [decide_eq_true (openS_ref ht time), un_not, Bool.not_true, ifB_false, ifB_true]
  refine h.make (fun B2 own base2 => Spans_m (base2 r) (by omega) version) fun u7 τ w19 hp h => ?_
  subst hp
  refine h.make (fun B2 own base2 => RSpans_m (base2 r) (by omega) version) fun u8 τ w20 hp h => ?_
  subst hp
  have hsl := spansS_len t version
  refine h.ask (fun B2 own base2 => RSame_g (rowD.read (own (i := 4) rfl)) (rowD.read (own (i := 5) rfl)) (by omega)) fun w21 h => ?_
  rw [decide_eq_true rfl, ifB_true]
  have h := h.nil
  refine h.make (fun B2 own base2 => Pick_m (base2 r) ht.sorted ht.some_ (by omega) (base2 rd) (base2 qd) (by omega) (fun p hp => Nat.le_trans (hrow p hp) (by omega)) version) fun u τ w22 hp h => ?_
  obtain ⟨M, hM, rfl⟩ := hp
  have h := Rel.gather (σ := [rowD T_api_Delta u (raws M)]) (f := rowEnt) (g := fun p : Del × SV => rowR p.2.1 p.1.row) (by exact h) (fun x _ B hx => rowD.read hx)
  have h : Rel (lawB W) w22 [rowD T_api_Delta u (raws M), rowsR M] := h
  have hML : M.length = ((dels L).filter fun e => decide (atS t e.time = version)).length := by rw [← hM]; simp [dels]
  refine h.make (fun B2 own base2 => RPick_m (base2 r) ht (by omega) (base2 rd) (by omega) version) fun u9 τ w23 hp h => ?_
  subst hp
  refine h.ask (fun B2 own base2 => SameDeltas_g (rowD.read (own (i := 0) rfl)) (own (i := 1) rfl) (rowD.read (own (i := 2) rfl)) (fun p hp => base2 qd p (mem_of_filter hp)) (by rw [hM, pickL_dels]) (by rw [hML]; exact Nat.le_trans (List.length_filter_le _ _) (by simp [dels]; omega)) (fun p hp => by
    have hm : p.1 ∈ dels M := List.mem_map_of_mem hp
    rw [hM] at hm
    obtain ⟨q, hq, e⟩ := List.mem_map.1 (mem_of_filter hm)
    rw [← e]
    exact Nat.le_trans (hrow q hq) (by omega))) fun w24 h => ?_
  exact fin _ _ h
end Go.Proofs.Ytmpnniicmmekmaa
