/-
  ReplaceAsks: what is granted, and what is named when the history is too short. No condition.
-/
import Derived.Test.YtdecfgbdppfmcaaRepD
import Derived.Test.YtdecfgbdppfmcaaArgs
namespace Go.Proofs.Ytdecfgbdppfmcaa
open Go.RowKit

/-- The laws' state at the beginning. -/
theorem start_r {B : Base} {w : World} {σ : List Dat} {K' : Value → World → Prop} (h : Rel B w σ) (k : ∀ B' b vt w', B.ext B' → rowR vt seg0 B' → Rel B' w' (σ ++ [stateD b (.slice none 0 0) vt]) → K' (ptr b) w') :
    upK Try.prog (sBuildSlice T_s_api_Seg 1 #[(0, (⟨0, 1⟩ : Seg).v)]) w fun t29 w2 => pureK Try.prog (sBuild T_erratalaw47_state #[(1, t29)]) fun t30 => upK Try.prog (sBox T_erratalaw47_state t30) w2 fun t31 w3 => K' t31 w3 := by
  refine h.build1 (⟨0, 1⟩ : Seg) sl_s_api_Seg (by decide) fun vt w1 h => ?_
  obtain ⟨B', hext, h', hrow⟩ := h.frz1
  clear h
  have hr : rowR vt seg0 B' := rowD.read hrow
  obtain ⟨a, cap, rfl, _⟩ := rowR.form hr
  rw [bd_erratalaw47_state_1]
  exact h'.box fun b w2 h => k B' b _ w2 hext hr h

theorem askS_err {l : List Rpl} {fr ver back hor : Int} {raise : Bool} (h : (askS l fr ver back hor raise).2.2 ≠ 0) :
    ((askS l fr ver back hor raise) = ([], hor + back, 23) ∧ 0 < hor ∧ fr < hor + back ∧ within ver 1 50 = true ∧ within back 0 1099511627776 = true ∧ within hor 0 1099511627776 = true) ∨ ((askS l fr ver back hor raise).1 = [] ∧ (askS l fr ver back hor raise).2.1 = 0 ∧ (askS l fr ver back hor raise).2.2 ≠ 23) := by
  have on : ∀ f, (askOn l f ver back).2.2 ≠ 0 → (askOn l f ver back).1 = [] ∧ (askOn l f ver back).2.1 = 0 ∧ (askOn l f ver back).2.2 ≠ 23 := by
    intro f hf
    unfold askOn at hf ⊢
    split at hf
    · rename_i hl; rw [if_pos hl]; exact ⟨rfl, rfl, by decide⟩
    · exact absurd rfl hf
  unfold askS at h ⊢
  split at h
  · rename_i c1
    split at h
    · rename_i c2
      split at h
      · rename_i c3
        split at h
        · rename_i c4
          rw [if_pos c1, if_pos c2, if_pos c3, if_pos c4]
          split at h
          · rename_i hb; rw [if_pos hb]; exact .inr ⟨rfl, rfl, by decide⟩
          · rename_i hb
            rw [if_neg hb]
            split at h
            · rename_i hh
              rw [if_pos hh]
              split at h
              · rename_i hr; rw [if_pos hr]; exact .inr (on _ h)
              · rename_i hr; rw [if_neg hr]; exact .inl ⟨rfl, hh.1, hh.2, c2, c3, c4⟩
            · rename_i hh; rw [if_neg hh]; exact .inr (on _ h)
        · rename_i c4; rw [if_pos c1, if_pos c2, if_pos c3, if_neg c4]; exact .inr ⟨rfl, rfl, by decide⟩
      · rename_i c3; rw [if_pos c1, if_pos c2, if_neg c3]; exact .inr ⟨rfl, rfl, by decide⟩
    · rename_i c2; rw [if_pos c1, if_neg c2]; exact .inr ⟨rfl, rfl, by decide⟩
  · rename_i c1; rw [if_neg c1]; exact .inr ⟨rfl, rfl, by decide⟩

theorem ask_again {l : List Rpl} {ver back hor : Int} : (askS l (hor + back) ver back hor false).2.2 ≠ 23 := by
  by_cases h : (askS l (hor + back) ver back hor false).2.2 = 0
  · rw [h]; decide
  · rcases askS_err h with ⟨_, _, h2, _⟩ | ⟨_, _, h3⟩
    · omega
    · exact h3

set_option maxRecDepth 4000 in
theorem replaceAsks_pt {W : World} {v0 : Value} {ops : List OpR} {fr ver back hor : Int} {raise : Bool} (r : rowR v0 ops (lawB W)) {K : Value → World → Prop}
    (fin : ∀ w' σ, Rel (lawB W) w' σ → K (.bool true) w') : erratalaw47_ReplaceAsks.pt v0 (.int .i64 fr) (.int .i64 ver) (.int .i64 back) (.int .i64 hor) (.bool raise) W K := by
  unfold erratalaw47_ReplaceAsks.pt
  refine small_r (lawB.start W) fun w1 h => ?_
  simp -zeta only [rowR.len r sl_s_erratalaw47_Op, bin_gtr, ifB_dec, bd_api_Seg_1]
  refine ⟨fun _ => fin _ _ h, fun hlen => ?_⟩
  refine start_r h fun B0 b vt w2 hext0 hr0 h => ?_
  refine LOOP_intro (fun x w' => ∃ (i : Nat) (B : Base) (vl vt : Value) (l : List Rpl) (t : List Seg), i ≤ ops.length ∧ x = (.int .i64 i, ()) ∧ (lawB W).ext B ∧ rowR vl l B ∧ rowR vt t B ∧ WInv l t i ∧ Rel B w' [stateD b vl vt]) (fun x _ => ops.length - (match x.1 with | .int _ n => n.toNat | _ => 0))
    ⟨0, B0, _, vt, [], seg0, Nat.zero_le _, rfl, hext0, nilR B0, hr0, ⟨Nat.le_refl _, Nat.le_refl _, sorted0, by decide, fun r hr => by cases hr⟩, h⟩ ?_
  clear h hr0 hext0
  rintro x w3 ⟨i, B, vl, vt, l, t, hi, rfl, hext, hl, ht, hinv, h⟩ next hnext
  simp -zeta only [rowR.len r sl_s_erratalaw47_Op, bin_lss, ifB_dec]
  have hll := hinv.ll
  have htl := hinv.tl
  refine ⟨fun hlt => ?_, fun hge => ?_⟩
  · have hil : i < ops.length := by omega
    obtain ⟨g, o, hx, hc⟩ := rowR.idx r sl_s_erratalaw47_Op hil
    simp -zeta only [hx, cellsR.ldAg (h.hereB (Dat.mono _ hext.le hc)) ag_erratalaw47_Op rfl]
    refine step_r h 0 rfl hl ht (by omega) hinv.sorted (by omega) (fun r hr => by have := hinv.each r hr; omega) ops[i] fun B' vl' vt' w4 hext2 hl' ht' h => ?_
    rw [bin_add, wrap_id (by omega) (by omega)]
    exact hnext _ _ ⟨i + 1, B', vl', vt', _, _, by omega, rfl, hext.trans hext2, hl', ht', hinv.step ops[i], h⟩ (by simp only; omega)
  · clear hnext
    replace fin : ∀ w' σ, Rel B w' σ → K (.bool true) w' := fun w' σ h => fin w' σ (hext.rel h)
    simp -zeta only [nil_ptr, field_addr f_erratalaw47_state_0, Nat.add_zero, h.ld 0 rfl sc_s_api_Replacement (o := 0) rfl]
    refine h.make (fun B2 own base2 => ask_m (base2 hl) (by omega) fr ver back hor raise) fun u τ w4 hp h => ?_
    obtain ⟨v', rfl, rfl⟩ := hp
    simp -zeta only [ext_3_0, ext_3_1, ext_3_2, bin_eql, ifB_dec]
    refine ⟨fun h23 => ?_, fun hn23 => ?_⟩
    · rcases askS_err (l := l) (fr := fr) (ver := ver) (back := back) (hor := hor) (raise := raise) (by rw [h23]; decide) with ⟨e, e1, e2, e3, e4, e5⟩ | ⟨_, _, e3⟩
      · rw [e] at h ⊢
        have w4' := within_iff.1 e4
        have w5' := within_iff.1 e5
        simp -zeta only [nil_ptr, field_addr f_erratalaw47_state_0, Nat.add_zero, h.ld 0 rfl sc_s_api_Replacement (o := 0) rfl]
        refine h.make (fun B2 own base2 => ask_m (base2 hl) (by omega) (hor + back) ver back hor false) fun u τ w5 hp h => ?_
        obtain ⟨v2, rfl, rfl⟩ := hp
        have hw : IntKind.i64.wrap (hor + back) = hor + back := wrap_id (by omega) (by omega)
        simp -zeta only [ext_3_0, ext_3_1, ext_3_2, ifB_true, bin_gtr, decide_eq_true e2, bin_add, hw, bin_eql, decide_true, bin_neq, decide_eq_false (ask_again (l := l) (ver := ver) (back := back) (hor := hor)), Bool.not_false]
        exact fin _ _ h
      · exact absurd h23 e3
    · simp -zeta only [bin_neq, ifB_not, ifB_dec]
      refine ⟨fun h0 => ?_, fun hne => ?_⟩
      · obtain ⟨f, hf, hv, hb, hh, hno, hwhy, hroom, e⟩ := askS_ok h0
        rw [e] at h ⊢
        have h : Rel B w4 ([stateD b vl vt] ++ [rowD T_api_Replacement v' (supersede l f ++ [(⟨l.length + 1, f, ver, max 0 (f - back), 0, 0⟩ : Rpl)])]) := h
        have hrd := rowD.read (h.here (i := 1) rfl)
        have hml : (supersede l f ++ [(⟨l.length + 1, f, ver, max 0 (f - back), 0, 0⟩ : Rpl)]).length = l.length + 1 := by simp [supersede]
        have hw : IntKind.i64.wrap (((l.length + 1 : Nat) : Int) - 1) = (l.length : Nat) := by rw [wrap_id (by omega) (by omega)]; omega
        obtain ⟨g, o, hx, hc⟩ := rowR.idx hrd sl_s_api_Replacement (P := Try.prog) (i := l.length) (by omega)
        have hel : (supersede l f ++ [(⟨l.length + 1, f, ver, max 0 (f - back), 0, 0⟩ : Rpl)])[l.length]'(by omega) = ⟨l.length + 1, f, ver, max 0 (f - back), 0, 0⟩ := by
          rw [List.getElem_append_right (by simp [supersede])]
          simp [supersede]
        rw [hel] at hc
        have hne : ¬ (((l.length + 1 : Nat) : Int) = 0) := by omega
        simp -zeta only [rowR.len hrd sl_s_api_Replacement, hml, bin_eql, decide_eq_false hne, ifB_false, bin_sub, hw, hx, cellsR.ldAg hc ag_api_Replacement rfl]
        refine h.allocAg (ds := (⟨l.length + 1, f, ver, max 0 (f - back), 0, 0⟩ : Rpl).cs.toArray) z_api_Replacement rfl ag_api_Replacement rfl (fun v hv => Enc.one (⟨l.length + 1, f, ver, max 0 (f - back), 0, 0⟩ : Rpl) v hv) fun bx w5 h => ?_
        have hwf : IntKind.i64.wrap (f - back) = f - back := wrap_id (by omega) (by omega)
        have hwh : IntKind.i64.wrap (hor + back) = hor + back := wrap_id (by omega) (by omega)
        simp -zeta only [ifB_true, field_addr f_api_Replacement_1, field_addr f_api_Replacement_2, field_addr f_api_Replacement_3, field_addr f_api_Replacement_4, Nat.zero_add, h.ld 2 rfl sc_int (o := 1) rfl, h.ld 2 rfl sc_int (o := 2) rfl, h.ld 2 rfl sc_int (o := 3) rfl, h.ld 2 rfl sc_int (o := 4) rfl,
          bin_eql, decide_true, bin_sub, hwf, blt_max, bin_geq, bin_add, hwh, bin_lss, ifB_dec]
        have hfin := fin _ _ h
        refine ⟨fun e1 => ⟨fun _ => hfin, fun h0 => ⟨fun _ => hfin, fun hlt => absurd ?_ hlt⟩⟩, fun e1 => ?_⟩
        · omega
        · rw [ifB_bool]
          refine ⟨fun hr => ⟨fun e2 => ⟨fun e3 => ⟨fun _ => hfin, fun h0 => ⟨fun _ => hfin, fun hlt => absurd ?_ hlt⟩⟩, fun e3 => absurd ?_ e3⟩, fun e2 => absurd ?_ e2⟩, fun hr => ?_⟩
          · omega
          · omega
          · rcases hwhy with hwhy | hwhy
            · exact absurd hwhy.1 e1
            · exact hwhy.2.1
          · rcases hwhy with hwhy | hwhy
            · exact absurd hwhy.1 e1
            · rw [hwhy.1] at hr; cases hr
      · rcases askS_err hne with ⟨e, _⟩ | ⟨e1, e2, _⟩
        · rw [e] at hn23; exact absurd rfl hn23
        · rw [e1] at h
          rw [e2]
          have hrd := rowD.read (h.here (i := 1) rfl)
          have h00 : decide (((([] : List Rpl).length : Nat) : Int) = 0) = true := by decide
          simp -zeta only [ifB_true, decide_true, rowR.len hrd sl_s_api_Replacement, bin_eql, h00]
          exact ⟨fun _ => fin _ _ h, fun hh => absurd trivial hh⟩
end Go.Proofs.Ytdecfgbdppfmcaa
