/-
  ReplaceStays: what stays, in words, and the walk. No condition.
-/
import Derived.Test.YtdecfgbdppfmcaaRepJ
namespace Go.Proofs.Ytdecfgbdppfmcaa
open Go.RowKit

/-- One replacement, before an operation and after it. -/
structure StayR (ended : Prop) (a b : Rpl) : Prop where
  no : a.no = b.no
  fr : a.from_ = b.from_
  ver : a.version = b.version
  start : a.start = b.start
  cut : a.cut ≤ b.cut
  over : 3 ≤ a.state → a = b
  more : a.cut < b.cut → (a.state = 1 ∨ a.state = 2) ∧ ended

theorem StayR.same (P : Prop) (a : Rpl) : StayR P a a := ⟨rfl, rfl, rfl, rfl, Int.le_refl _, fun _ => rfl, fun h => absurd h (Int.lt_irrefl _)⟩

structure Stay (l l2 : List Rpl) : Prop where
  lo : l.length ≤ l2.length
  hi : l2.length ≤ l.length + 1
  each : ∀ i (h : i < l.length) (h2 : i < l2.length), StayR (∀ j (hj : j < i), 3 ≤ (l[j]'(by omega)).state) l[i] l2[i]

theorem One.over {r : Rpl} (o : One r) : 3 ≤ r.state ↔ openR r = false := by
  have := o.state
  rw [openR_false]
  omega

theorem SInv.stay {l : List Rpl} {t : List Seg} (h : SInv l t) (o : OpR) : Stay l (stepS l t o).2.1 := by
  obtain ⟨_, hdid⟩ := h.step o
  generalize (stepS l t o).2 = res at hdid
  cases hdid with
  | same h0 => exact ⟨Nat.le_refl _, Nat.le_succ _, fun i h1 h2 => StayR.same _ _⟩
  | ask f st h0 hd hcalm =>
    have hsl : (supersede l f).length = l.length := by simp [supersede]
    refine ⟨by simp [hsl], by simp [hsl], fun i h1 h2 => ?_⟩
    show StayR _ l[i] ((supersede l f ++ [_])[i])
    rw [List.getElem_append_left (by omega), supersede_get]
    split
    · rename_i hh
      refine ⟨rfl, rfl, rfl, rfl, Int.le_refl _, fun h3 => ?_, fun hlt => absurd hlt (Int.lt_irrefl _)⟩
      rw [(h.r.one _ (List.getElem_mem h1)).over] at h3
      rw [h3] at hh
      cases hh.1
    · exact StayR.same _ _
  | set n hn st h0 hd hs hst =>
    refine ⟨by simp, by simp, fun i h1 h2 => ?_⟩
    show StayR _ l[i] ((l.set n _)[i])
    rw [List.getElem_set]
    split
    · rename_i e
      subst e
      exact ⟨rfl, rfl, rfl, rfl, Int.le_refl _, fun h3 => by omega, fun hlt => absurd hlt (Int.lt_irrefl _)⟩
    · exact StayR.same _ _
  | cut n hn h0 hd hno hs hb =>
    refine ⟨by simp, by simp, fun i h1 h2 => ?_⟩
    show StayR _ l[i] ((l.set n _)[i])
    rw [List.getElem_set]
    split
    · rename_i e
      subst e
      refine ⟨rfl, rfl, rfl, rfl, ?_, fun h3 => by omega, fun _ => ⟨hs, fun j hj => ?_⟩⟩
      · show l[n].cut ≤ l[n].cut + 1
        omega
      · exact (h.r.one _ (List.getElem_mem _)).over.2 (hb j hj)
    · exact StayR.same _ _

set_option maxRecDepth 4000 in
theorem replaceStays_pt {W : World} {v0 : Value} {ops : List OpR} {closed : Int} (r : rowR v0 ops (lawB W)) {K : Value → World → Prop}
    (fin : ∀ w' σ, Rel (lawB W) w' σ → K (.bool true) w') : erratalaw47_ReplaceStays.pt v0 (.int .i64 closed) W K := by
  unfold erratalaw47_ReplaceStays.pt
  refine small_r (lawB.start W) fun w1 h => ?_
  simp -zeta only [rowR.len r sl_s_erratalaw47_Op, bin_gtr, ifB_dec, bd_api_Seg_1]
  refine ⟨fun _ => fin _ _ h, fun hlen => ?_⟩
  refine start_r h fun B0 b vt w2 hext0 hr0 h => ?_
  refine LOOP_intro (fun x w' => ∃ (i : Nat) (B : Base) (vl vt : Value) (l : List Rpl) (t : List Seg), i ≤ ops.length ∧ x = (.int .i64 i, ()) ∧ (lawB W).ext B ∧ rowR vl l B ∧ rowR vt t B ∧ WInv l t i ∧ SInv l t ∧ Rel B w' [stateD b vl vt]) (fun x _ => ops.length - (match x.1 with | .int _ n => n.toNat | _ => 0))
    ⟨0, B0, _, vt, [], seg0, Nat.zero_le _, rfl, hext0, nilR B0, hr0, ⟨Nat.le_refl _, Nat.le_refl _, sorted0, by decide, fun r hr => by cases hr⟩, SInv.start, h⟩ ?_
  clear h hr0 hext0
  rintro x w3 ⟨i, B, vl, vt, l, t, hi, rfl, hext, hl, ht, hinv, hsi, h⟩ next hnext
  simp -zeta only [rowR.len r sl_s_erratalaw47_Op, bin_lss, ifB_dec]
  have hll := hinv.ll
  have htl := hinv.tl
  refine ⟨fun hlt => ?_, fun hge => fin w3 _ (hext.rel h)⟩
  have hil : i < ops.length := by omega
  have hinv' := hinv.step ops[i]
  have hsi' := (hsi.step ops[i]).1
  have hstay := hsi.stay ops[i]
  refine LETJ_intro fun J hJ => ?_
  obtain ⟨g, o, hx, hc⟩ := rowR.idx r sl_s_erratalaw47_Op (P := Try.prog) hil
  have h : Rel B w3 [cellD b T_erratalaw47_state #[vl, vt]] := h
  simp -zeta only [nil_ptr, field_addr f_erratalaw47_state_0, Nat.add_zero, h.ld 0 rfl sc_s_api_Replacement (o := 0) rfl, hx, cellsR.ldAg (h.hereB (Dat.mono _ hext.le hc)) ag_erratalaw47_Op rfl]
  have h : Rel B w3 [stateD b vl vt] := h
  refine step_r h 0 rfl hl ht (by omega) hinv.sorted (by omega) (fun r hr => by have := hinv.each r hr; omega) ops[i] fun B' vl' vt' w4 hext2 hl' ht' h => ?_
  replace hJ : ∀ w', Rel B' w' [cellD b T_erratalaw47_state #[vl', vt']] → J () w' := by
    intro w' h
    refine hJ _ _ ?_
    rw [bin_add, wrap_id (by omega) (by omega)]
    exact hnext _ _ ⟨i + 1, B', vl', vt', _, _, by omega, rfl, hext.trans hext2, hl', ht', hinv', hsi', h⟩ (by simp only; omega)
  have hl0 : rowR vl l B' := Dat.mono _ hext2.le hl
  clear hnext hsi hinv hl ht htl hext2 hext
  generalize (stepS l t ops[i]).2.1 = l2 at hl' hinv' hsi' hstay
  generalize (stepS l t ops[i]).2.2 = t2 at ht' hinv' hsi'
  have hll2 := hinv'.ll
  have htl2 := hinv'.tl
  obtain ⟨hlo, hhi, heach⟩ := hstay
  have h : Rel B' w4 [cellD b T_erratalaw47_state #[vl', vt']] := h
  have n1 : ¬ ((l2.length : Int) < (l.length : Int)) := by omega
  have n2 : ¬ ((l.length : Int) + 1 < (l2.length : Int)) := by omega
  have hw : IntKind.i64.wrap ((l.length : Int) + 1) = (l.length : Int) + 1 := wrap_id (by omega) (by omega)
  simp -zeta only [nil_ptr, field_addr f_erratalaw47_state_0, Nat.add_zero, h.ld 0 rfl sc_s_api_Replacement (o := 0) rfl, rowR.len hl' sl_s_api_Replacement, rowR.len hl0 sl_s_api_Replacement, bin_lss, decide_eq_false n1, ifB_false, bin_add, hw, bin_gtr, decide_eq_false n2]
  refine LOOP_intro (fun x w' => ∃ (q : Nat) (c : Bool), q ≤ l.length ∧ x = (.bool c, .int .i64 q, ()) ∧ ((∀ j (hj : j < q) (hj2 : j < l.length), 3 ≤ l[j].state) → c = true) ∧ Rel B' w' [cellD b T_erratalaw47_state #[vl', vt']]) (fun x _ => l.length - (match x.2.1 with | .int _ n => n.toNat | _ => 0))
    ⟨0, true, Nat.zero_le _, rfl, fun _ => rfl, h⟩ ?_
  clear h
  rintro x w5 ⟨q, c, hq, rfl, hpass, h⟩ next hnext
  simp -zeta only [rowR.len hl0 sl_s_api_Replacement, bin_lss, ifB_dec]
  refine ⟨fun hqlt => ?_, fun hqge => ?_⟩
  · have hql : q < l.length := by omega
    have hql2 : q < l2.length := by omega
    have hst := heach q hql hql2
    refine LETJ_intro fun J2 hJ2 => ?_
    replace hJ2 : ∀ (c' : Bool) w', (c = true → 3 ≤ l[q].state → c' = true) → Rel B' w' [cellD b T_erratalaw47_state #[vl', vt']] → J2 (.bool c', ()) w' := by
      intro c' w' hc' h
      refine hJ2 _ _ ?_
      rw [bin_add, wrap_id (by omega) (by omega)]
      refine hnext _ _ ⟨q + 1, c', by omega, rfl, fun hall => ?_, h⟩ (by simp only; omega)
      exact hc' (hpass fun j hj hj2 => hall j (by omega) hj2) (hall q (by omega) hql)
    clear hnext hJ
    obtain ⟨ga, oa, hxa, hca⟩ := rowR.idx hl0 sl_s_api_Replacement (P := Try.prog) hql
    obtain ⟨gb, ob, hxb, hcb⟩ := rowR.idx hl' sl_s_api_Replacement (P := Try.prog) hql2
    have hpq : (∀ j (hj : j < q), 3 ≤ (l[j]'(by omega)).state) → c = true := fun hh => hpass fun j hj _ => hh j hj
    clear hpass
    generalize l[q] = a at hst hca hJ2
    generalize l2[q] = bb at hst hcb
    simp -zeta only [hxa, cellsR.ldAg (h.hereB hca) ag_api_Replacement rfl]
    refine h.allocAg (ds := a.cs.toArray) z_api_Replacement rfl ag_api_Replacement rfl (fun v hv => Enc.one a v hv) fun ba w6 h => ?_
    simp -zeta only [nil_ptr, field_addr f_erratalaw47_state_0, Nat.add_zero, h.ld 0 rfl sc_s_api_Replacement (o := 0) rfl, hxb, cellsR.ldAg (h.hereB hcb) ag_api_Replacement rfl]
    refine h.allocAg (ds := bb.cs.toArray) z_api_Replacement rfl ag_api_Replacement rfl (fun v hv => Enc.one bb v hv) fun bbb w7 h => ?_
    have h : Rel B' w7 [cellD b T_erratalaw47_state #[vl', vt'], cellD ba T_api_Replacement a.cs.toArray, cellD bbb T_api_Replacement bb.cs.toArray] := h
    refine LETJ_intro fun J3 hJ3 => ?_
    replace hJ3 : J3 () w7 := by
      refine hJ3 _ _ ?_
      clear hJ3
      refine LETJ_intro fun J4 hJ4 => ?_
      replace hJ4 : J4 () w7 := by
        refine hJ4 _ _ ?_
        simp -zeta only [ifB_bool, field_addr f_api_Replacement_4, Nat.zero_add, h.ld 1 rfl sc_int (o := 4) rfl, bin_geq]
        exact ⟨fun hc => hJ2 _ _ (fun _ h3 => decide_eq_true h3) (h.take 1), fun hc => hJ2 _ _ (fun hc' => by rw [hc] at hc'; cases hc') (h.take 1)⟩
      simp -zeta only [field_addr f_api_Replacement_4, field_addr f_api_Replacement_5, Nat.zero_add, h.ld 1 rfl sc_int (o := 4) rfl, h.ld 1 rfl sc_int (o := 5) rfl, h.ld 2 rfl sc_int (o := 5) rfl, bin_gtr, ifB_dec]
      refine ⟨fun hgt => ?_, fun _ => hJ4⟩
      obtain ⟨h12, hended⟩ := hst.more hgt
      have hc := hpq hended
      subst hc
      simp -zeta only [un_not, Bool.not_true, ifB_false, bin_neq, ifB_not, ifB_dec]
      exact ⟨fun _ => hJ4, fun hn1 => ⟨fun _ => hJ4, fun hn2 => by omega⟩⟩
    have hcut := hst.cut
    simp -zeta only [field_addr f_api_Replacement_0, field_addr f_api_Replacement_1, field_addr f_api_Replacement_2, field_addr f_api_Replacement_3, field_addr f_api_Replacement_4, field_addr f_api_Replacement_5, Nat.add_zero, Nat.zero_add,
      h.ld 1 rfl sc_int (o := 0) rfl, h.ld 2 rfl sc_int (o := 0) rfl, bin_neq, decide_eq_true hst.no, Bool.not_true, ifB_false,
      h.ld 1 rfl sc_int (o := 1) rfl, h.ld 2 rfl sc_int (o := 1) rfl, decide_eq_true hst.fr,
      h.ld 1 rfl sc_int (o := 2) rfl, h.ld 2 rfl sc_int (o := 2) rfl, decide_eq_true hst.ver,
      h.ld 1 rfl sc_int (o := 3) rfl, h.ld 2 rfl sc_int (o := 3) rfl, decide_eq_true hst.start,
      h.ld 1 rfl sc_int (o := 5) rfl, h.ld 2 rfl sc_int (o := 5) rfl, bin_lss, decide_eq_false (Int.not_lt.2 hst.cut),
      h.ld 1 rfl sc_int (o := 4) rfl, bin_geq, ifB_dec, h.ldAg 1 rfl ag_api_Replacement rfl, h.ldAg 2 rfl ag_api_Replacement rfl]
    refine ⟨fun h3 => ?_, fun _ => hJ3⟩
    rw [neq_api_Replacement a bb, decide_eq_true (hst.over h3)]
    simp -zeta only [Bool.not_true, ifB_false]
    exact hJ3
  · clear hnext heach
    have h' := h.tick
    simp -zeta only [nil_ptr, field_addr f_erratalaw47_state_0, field_addr f_erratalaw47_state_1, Nat.add_zero, Nat.zero_add, h'.ld 0 rfl sc_s_api_Replacement (o := 0) rfl, h'.ld 0 rfl sc_s_api_Seg (o := 1) rfl]
    refine h'.make (fun B2 own base2 => Needed_m (base2 hl') (base2 ht') (by omega) hsi'.t.sorted (by omega) closed) fun u τ w6 hp h => ?_
    obtain ⟨L, rfl, hL, hin⟩ := hp
    have h : Rel B' w6 ([cellD b T_erratalaw47_state #[vl', vt']] ++ [rowD T_int u L]) := h
    obtain ⟨B2, hext2, h, hrow⟩ := h.frz1
    have hr := rowD.read hrow
    have hl2 : rowR vl' l2 B2 := Dat.mono _ hext2.le hl'
    replace hJ : ∀ w', Rel B2 w' [cellD b T_erratalaw47_state #[vl', vt']] → J () w' := fun w' h => hJ w' (hext2.rel h)
    refine LOOP_intro (fun x w' => ∃ q : Nat, q ≤ l2.length ∧ x = (.int .i64 q, ()) ∧ Rel B2 w' [cellD b T_erratalaw47_state #[vl', vt']]) (fun x _ => l2.length - (match x.1 with | .int _ n => n.toNat | _ => 0))
      ⟨0, Nat.zero_le _, rfl, h⟩ ?_
    clear h h'
    rintro x w7 ⟨p, hp, rfl, h⟩ next hnext
    simp -zeta only [nil_ptr, field_addr f_erratalaw47_state_0, Nat.add_zero, h.ld 0 rfl sc_s_api_Replacement (o := 0) rfl, rowR.len hl2 sl_s_api_Replacement, bin_lss, ifB_dec]
    refine ⟨fun hplt => ?_, fun _ => hJ _ h⟩
    have hpl : p < l2.length := by omega
    refine LETJ_intro fun J5 hJ5 => ?_
    replace hJ5 : ∀ w', Rel B2 w' [cellD b T_erratalaw47_state #[vl', vt']] → J5 () w' := by
      intro w' h
      refine hJ5 _ _ ?_
      rw [bin_add, wrap_id (by omega) (by omega)]
      exact hnext _ _ ⟨p + 1, by omega, rfl, h⟩ (by simp only; omega)
    clear hnext hJ
    obtain ⟨gb, ob, hxb, hcb⟩ := rowR.idx hl2 sl_s_api_Replacement (P := Try.prog) hpl
    have hone := hsi'.r.one _ (List.getElem_mem hpl)
    have hneed : 3 ≤ l2[p].state ∨ l2[p].version ∈ L := by
      cases e : openR l2[p] with
      | false => exact .inl (hone.over.2 e)
      | true => exact .inr (hin _ (List.getElem_mem hpl) e)
    generalize l2[p] = x at hcb hone hneed
    simp -zeta only [hxb, field_addr f_api_Replacement_4, cellsR.ld (h.hereB hcb) sc_int (j := 4) rfl, bin_geq]
    refine LOOP_intro (fun y w' => ∃ (n : Nat) (c : Bool), n ≤ L.length ∧ y = (.bool c, .int .i64 n, ()) ∧ (c = false → ¬ 3 ≤ x.state ∧ ∀ q (hq : q < n) (hq2 : q < L.length), L[q] ≠ x.version) ∧ Rel B2 w' [cellD b T_erratalaw47_state #[vl', vt']]) (fun y _ => L.length - (match y.2.1 with | .int _ n => n.toNat | _ => 0))
      ⟨0, _, Nat.zero_le _, rfl, fun e => ⟨of_decide_eq_false e, fun q hq => absurd hq (Nat.not_lt_zero q)⟩, h⟩ ?_
    clear h
    rintro y w8 ⟨n, c, hn, rfl, hno, h⟩ next hnext
    have h' := h.tick
    simp -zeta only [rowR.len hr sl_s_int, bin_lss, ifB_dec]
    refine ⟨fun hnlt => ?_, fun hnge => ?_⟩
    · have hnl : n < L.length := by omega
      refine LETJ_intro fun J6 hJ6 => ?_
      replace hJ6 : ∀ c' : Bool, (c' = false → c = false ∧ L[n] ≠ x.version) → J6 (.bool c', ()) (tick w8) := by
        intro c' hc'
        refine hJ6 _ _ ?_
        rw [bin_add, wrap_id (by omega) (by omega)]
        refine hnext _ _ ⟨n + 1, c', by omega, rfl, fun e => ?_, h'⟩ (by simp only; omega)
        obtain ⟨h1, h2⟩ := hc' e
        obtain ⟨h3, h4⟩ := hno h1
        refine ⟨h3, fun q hq hq2 => ?_⟩
        by_cases e : q = n
        · subst e; exact h2
        · exact h4 q (by omega) hq2
      obtain ⟨gn, on, hxn, hcn⟩ := rowR.idx hr sl_s_int (P := Try.prog) hnl
      simp -zeta only [ifB_bool, hxn, cellsR.ld0 (h'.hereB hcn) sc_int rfl, nil_ptr, field_addr f_erratalaw47_state_0, Nat.add_zero, h'.ld 0 rfl sc_s_api_Replacement (o := 0) rfl, hxb, field_addr f_api_Replacement_2, cellsR.ld (h'.hereB hcb) sc_int (j := 2) rfl, bin_eql]
      exact ⟨fun _ => hJ6 true fun e => by (cases e), fun hc => hJ6 _ fun e => ⟨hc, of_decide_eq_false e⟩⟩
    · clear hnext
      rw [un_not, ifB_not, ifB_bool]
      refine ⟨fun _ => hJ5 _ h, fun hc => ?_⟩
      exfalso
      obtain ⟨h3, h4⟩ := hno hc
      rcases hneed with hneed | hneed
      · exact h3 hneed
      · obtain ⟨q, hq, e⟩ := List.getElem_of_mem hneed
        exact h4 q (by omega) hq e
end Go.Proofs.Ytdecfgbdppfmcaa
