/-
  ReplaceTimeline: the walk. No condition.
-/
import Derived.Test.YtdecfgbdppfmcaaRepG
namespace Go.Proofs.Ytdecfgbdppfmcaa
open Go.RowKit

theorem wantF_take {l : List Rpl} {j : Nat} (hj : j < l.length) (time : Int) : (l.take (j + 1)).foldl (wantF time) 1 = wantF time ((l.take j).foldl (wantF time) 1) l[j] := by
  rw [List.take_succ_eq_append_getElem hj, List.foldl_append]
  rfl

set_option maxRecDepth 4000 in
theorem replaceTimeline_pt {W : World} {v0 v1 : Value} {ops : List OpR} {times : List Int} (r : rowR v0 ops (lawB W)) (r1 : rowR v1 times (lawB W)) {K : Value → World → Prop}
    (fin : ∀ w' σ, Rel (lawB W) w' σ → K (.bool true) w') : erratalaw47_ReplaceTimeline.pt v0 v1 W K := by
  unfold erratalaw47_ReplaceTimeline.pt
  refine small_r (lawB.start W) fun w1 h => ?_
  simp -zeta only [rowR.len r sl_s_erratalaw47_Op, rowR.len r1 sl_s_int, bin_gtr, ifB_dec, bd_api_Seg_1]
  refine ⟨fun _ => fin _ _ h, fun hlen => ⟨fun _ => fin _ _ h, fun hlen1 => ?_⟩⟩
  refine start_r h fun B0 b vt w2 hext0 hr0 h => ?_
  refine LOOP_intro (fun x w' => ∃ (i : Nat) (B : Base) (vl vt : Value) (l : List Rpl) (t : List Seg), i ≤ ops.length ∧ x = (.int .i64 i, ()) ∧ (lawB W).ext B ∧ rowR vl l B ∧ rowR vt t B ∧ WInv l t i ∧ SInv l t ∧ Rel B w' [stateD b vl vt]) (fun x _ => ops.length - (match x.1 with | .int _ n => n.toNat | _ => 0))
    ⟨0, B0, _, vt, [], seg0, Nat.zero_le _, rfl, hext0, nilR B0, hr0, ⟨Nat.le_refl _, Nat.le_refl _, sorted0, by decide, fun r hr => by cases hr⟩, SInv.start, h⟩ ?_
  clear h hr0 hext0
  rintro x w3 ⟨i, B, vl, vt, l, t, hi, rfl, hext, hl, ht, hinv, hsi, h⟩ next hnext
  simp -zeta only [rowR.len r sl_s_erratalaw47_Op, bin_lss, ifB_dec]
  have hll := hinv.ll
  have htl := hinv.tl
  refine ⟨fun hlt => ?_, fun hge => fin w3 _ (hext.rel h)⟩
  have hil : i < ops.length := by omega
  refine LETJ_intro fun J hJ => ?_
  obtain ⟨g, o, hx, hc⟩ := rowR.idx r sl_s_erratalaw47_Op hil
  simp -zeta only [hx, cellsR.ldAg (h.hereB (Dat.mono _ hext.le hc)) ag_erratalaw47_Op rfl]
  refine step_r h 0 rfl hl ht (by omega) hinv.sorted (by omega) (fun r hr => by have := hinv.each r hr; omega) ops[i] fun B' vl' vt' w4 hext2 hl' ht' h => ?_
  have hinv' := hinv.step ops[i]
  have hsi' := (hsi.step ops[i]).1
  replace hJ : ∀ w', Rel B' w' [stateD b vl' vt'] → J () w' := by
    intro w' h
    refine hJ _ _ ?_
    rw [bin_add, wrap_id (by omega) (by omega)]
    exact hnext _ _ ⟨i + 1, B', vl', vt', _, _, by omega, rfl, hext.trans hext2, hl', ht', hinv', hsi', h⟩ (by simp only; omega)
  replace hext := hext.trans hext2
  clear hnext hsi hinv hl ht hll htl hext2
  generalize (stepS l t ops[i]).2.1 = l2 at hl' hinv' hsi'
  generalize (stepS l t ops[i]).2.2 = t2 at ht' hinv' hsi'
  have hll := hinv'.ll
  have htl := hinv'.tl
  have h : Rel B' w4 [cellD b T_erratalaw47_state #[vl', vt']] := h
  simp -zeta only [nil_ptr, field_addr f_erratalaw47_state_0, field_addr f_erratalaw47_state_1, Nat.add_zero, Nat.zero_add, h.ld 0 rfl sc_s_api_Replacement (o := 0) rfl]
  refine h.ask (fun B2 own base2 => Right_g (base2 hl') (by omega) hsi'.r) fun w5 h => ?_
  simp -zeta only [un_not, Bool.not_true, ifB_false, h.ld 0 rfl sc_s_api_Seg (o := 1) rfl]
  refine h.ask (fun B2 own base2 => tRight_g (base2 ht') (by omega) hsi'.t) fun w6 h => ?_
  simp -zeta only [un_not, Bool.not_true, ifB_false]
  refine LOOP_intro (fun x w' => ∃ j : Nat, j ≤ times.length ∧ x = (.int .i64 j, ()) ∧ Rel B' w' [cellD b T_erratalaw47_state #[vl', vt']]) (fun x _ => times.length - (match x.1 with | .int _ n => n.toNat | _ => 0))
    ⟨0, Nat.zero_le _, rfl, h⟩ ?_
  clear h
  rintro x w7 ⟨j, hj, rfl, h⟩ next hnext
  simp -zeta only [rowR.len r1 sl_s_int, bin_lss, ifB_dec]
  refine ⟨fun hjlt => ?_, fun _ => hJ _ h⟩
  have hjl : j < times.length := by omega
  refine LETJ_intro fun J2 hJ2 => ?_
  replace hJ2 : ∀ w', Rel B' w' [cellD b T_erratalaw47_state #[vl', vt']] → J2 () w' := by
    intro w' h
    refine hJ2 _ _ ?_
    rw [bin_add, wrap_id (by omega) (by omega)]
    exact hnext _ _ ⟨j + 1, by omega, rfl, h⟩ (by simp only; omega)
  clear hnext hJ
  obtain ⟨g1, o1, hx1, hc1⟩ := rowR.idx r1 sl_s_int (P := Try.prog) hjl
  have hc1 : cellsR g1 o1 [Value.int .i64 times[j]] B' := Dat.mono _ hext.le hc1
  refine LOOP_intro (fun x w' => ∃ n : Nat, n ≤ l2.length ∧ x = (.int .i64 ((l2.take n).foldl (wantF (max times[j] 0)) 1), .int .i64 n, ()) ∧ Rel B' w' [cellD b T_erratalaw47_state #[vl', vt']]) (fun x _ => l2.length - (match x.2.1 with | .int _ n => n.toNat | _ => 0))
    ⟨0, Nat.zero_le _, rfl, h⟩ ?_
  clear h
  rintro x w8 ⟨n, hn, rfl, h⟩ next hnext
  have h' := h.tick
  simp -zeta only [nil_ptr, field_addr f_erratalaw47_state_0, field_addr f_erratalaw47_state_1, Nat.add_zero, Nat.zero_add, h.ld 0 rfl sc_s_api_Replacement (o := 0) rfl, h'.ld 0 rfl sc_s_api_Replacement (o := 0) rfl, h'.ld 0 rfl sc_s_api_Seg (o := 1) rfl,
    rowR.len hl' sl_s_api_Replacement, bin_lss, ifB_dec, hx1, cellsR.ld0 (h'.hereB hc1) sc_int rfl, blt_max]
  refine ⟨fun hnlt => ?_, fun hnge => ?_⟩
  · have hnl : n < l2.length := by omega
    refine LETJ_intro fun J3 hJ3 => ?_
    replace hJ3 : ∀ a, a = wantF (max times[j] 0) ((l2.take n).foldl (wantF (max times[j] 0)) 1) l2[n] → J3 (.int .i64 a, ()) (tick w8) := by
      intro a ha
      refine hJ3 _ _ ?_
      rw [bin_add, wrap_id (by omega) (by omega), ha, ← wantF_take hnl]
      exact hnext _ _ ⟨n + 1, by omega, rfl, h'⟩ (by simp only; omega)
    obtain ⟨g2, o2, hx2, hc2⟩ := rowR.idx hl' sl_s_api_Replacement hnl
    simp -zeta only [hx2, field_addr f_api_Replacement_1, field_addr f_api_Replacement_2, field_addr f_api_Replacement_4, cellsR.ld (h'.hereB hc2) sc_int (j := 1) rfl, cellsR.ld (h'.hereB hc2) sc_int (j := 2) rfl, cellsR.ld (h'.hereB hc2) sc_int (j := 4) rfl, bin_eql, bin_leq, ifB_dec]
    refine ⟨fun e1 => ⟨fun e2 => hJ3 _ ?_, fun e2 => hJ3 _ ?_⟩, fun e1 => hJ3 _ ?_⟩
    · unfold wantF; rw [if_pos ⟨e1, e2⟩]
    · unfold wantF; rw [if_neg fun hh => e2 hh.2]
    · unfold wantF; rw [if_neg fun hh => e1 hh.1]
  · have hnn : n = l2.length := by omega
    subst hnn
    clear hnext
    refine h'.ask (fun B2 own base2 => At_g (base2 ht') hsi'.t.sorted hsi'.t.some_ (by omega) times[j]) fun w9 h => ?_
    rw [List.take_length, hsi'.t.atS, hsi'.at_ _ (by omega)]
    simp -zeta only [bin_neq, ifB_not, ifB_dec]
    exact ⟨fun _ => hJ2 _ h, fun hne => absurd rfl hne⟩
end Go.Proofs.Ytdecfgbdppfmcaa
