/-
  ReplaceSides: the walk. No condition.
-/
import Derived.Test.YtdecfgbdppfmcaaRepG
namespace Go.Proofs.Ytdecfgbdppfmcaa
open Go.RowKit

set_option maxRecDepth 4000 in
theorem replaceSides_pt {W : World} {v0 : Value} {ops : List OpR} {time : Int} (r : rowR v0 ops (lawB W)) {K : Value → World → Prop}
    (fin : ∀ w' σ, Rel (lawB W) w' σ → K (.bool true) w') : erratalaw47_ReplaceSides.pt v0 (.int .i64 time) W K := by
  unfold erratalaw47_ReplaceSides.pt
  refine small_r (lawB.start W) fun w1 h => ?_
  simp -zeta only [rowR.len r sl_s_erratalaw47_Op, bin_gtr, bin_lss, ifB_dec, bd_api_Seg_1]
  refine ⟨fun _ => fin _ _ h, fun hlen => ⟨fun _ => fin _ _ h, fun htime => ?_⟩⟩
  refine start_r h fun B0 b vt w2 hext0 hr0 h => ?_
  refine LOOP_intro (fun x w' => ∃ (i : Nat) (B : Base) (vl vt : Value) (l : List Rpl) (t : List Seg), i ≤ ops.length ∧ x = (.int .i64 i, ()) ∧ (lawB W).ext B ∧ rowR vl l B ∧ rowR vt t B ∧ WInv l t i ∧ SInv l t ∧ Rel B w' [stateD b vl vt]) (fun x _ => ops.length - (match x.1 with | .int _ n => n.toNat | _ => 0))
    ⟨0, B0, _, vt, [], seg0, Nat.zero_le _, rfl, hext0, nilR B0, hr0, ⟨Nat.le_refl _, Nat.le_refl _, sorted0, by decide, fun r hr => by cases hr⟩, SInv.start, h⟩ ?_
  clear h hr0 hext0
  rintro x w3 ⟨i, B, vl, vt, l, t, hi, rfl, hext, hl, ht, hinv, hsi, h⟩ next hnext
  simp -zeta only [rowR.len r sl_s_erratalaw47_Op, bin_lss, ifB_dec]
  have hll := hinv.ll
  have htl := hinv.tl
  refine ⟨fun hlt => ?_, fun hge => fin w3 _ (hext.rel h)⟩
  have hil : i < ops.length := by omega
  have hinv' := hinv.step ops[i]
  have hsi' := (hsi.step ops[i]).1
  refine LETJ_intro fun J hJ => ?_
  replace hJ : ∀ B' vl' vt' w', B.ext B' → rowR vl' (stepS l t ops[i]).2.1 B' → rowR vt' (stepS l t ops[i]).2.2 B' → Rel B' w' [stateD b vl' vt'] → J () w' := by
    intro B' vl' vt' w' hext2 hl' ht' h
    refine hJ _ _ ?_
    rw [bin_add, wrap_id (by omega) (by omega)]
    exact hnext _ _ ⟨i + 1, B', vl', vt', _, _, by omega, rfl, hext.trans hext2, hl', ht', hinv', hsi', h⟩ (by simp only; omega)
  clear hnext
  refine h.mkSlice (n := 16) (α := Int) 0 sl_s_int (by kernel_rfl) (by omega) (by omega) fun vb w4 h _ => ?_
  obtain ⟨g, cap, hv⟩ := h.open_ (i := 1) rfl (by simp)
  rw [List.length_replicate] at hv
  subst hv
  refine LOOP_intro (fun x w' => ∃ (j : Nat) (bs : List Int), j ≤ 16 ∧ x = (.int .i64 j, ()) ∧ bs.length = 16 ∧ (∀ q, q < j → bs[q]? = some (sideS l t time q)) ∧ Rel B w' [cellD b T_erratalaw47_state #[vl, vt], rowD T_int (.slice (some ⟨g, 0, none⟩) 16 cap) bs]) (fun x _ => 16 - (match x.1 with | .int _ n => n.toNat | _ => 0))
    ⟨0, List.replicate 16 0, by omega, rfl, by simp, fun q hq => absurd hq (Nat.not_lt_zero q), h⟩ ?_
  clear h
  rintro x w5 ⟨j, bs, hj, rfl, hbl, hbs, h⟩ next hnext
  have h' := h.tick
  simp -zeta only [bin_lss, ifB_dec, nil_ptr, field_addr f_erratalaw47_state_0, field_addr f_erratalaw47_state_1, Nat.add_zero, Nat.zero_add, h'.ld 0 rfl sc_s_api_Replacement (o := 0) rfl, h'.ld 0 rfl sc_s_api_Seg (o := 1) rfl, h.ld 0 rfl sc_s_api_Replacement (o := 0) rfl]
  refine ⟨fun hjlt => ?_, fun hjge => ?_⟩
  · have hj16 : j < 16 := by omega
    refine h'.ask (fun B2 own base2 => Side_g (base2 hl) (base2 ht) (by omega) hsi.t.sorted hsi.t.some_ (by omega) time j) fun w6 h => ?_
    simp -zeta only [idx_own (α := Int) sl_s_int hj16]
    refine h.set_sc (α := Int) 1 rfl (sideS l t time j) (j := j) (f := 0) (by omega) rfl (by decide) rfl sc_int rfl fun w7 h => ?_
    rw [bin_add, wrap_id (by omega) (by omega)]
    refine hnext _ _ ⟨j + 1, bs.set j (sideS l t time j), by omega, rfl, by simp [hbl], fun q hq => ?_, h⟩ (by simp only; omega)
    rw [List.getElem?_set]
    by_cases e : j = q
    · subst e
      rw [if_pos rfl, if_pos (by omega)]
    · rw [if_neg e]
      exact hbs q (by omega)
  have hbs : ∀ q : Nat, q < 16 → bs[q]? = some (sideS l t time q) := fun q hq => hbs q (by omega)
  clear hnext h' hjge hj
  obtain ⟨g0, o0, hx0, hc0⟩ := rowR.idx r sl_s_erratalaw47_Op (P := Try.prog) hil
  simp -zeta only [hx0, cellsR.ldAg (h.hereB (Dat.mono _ hext.le hc0)) ag_erratalaw47_Op rfl]
  have h : Rel B w5 [stateD b vl vt, rowD T_int (.slice (some ⟨g, 0, none⟩) 16 cap) bs] := h
  refine step_r h 0 rfl hl ht (by omega) hinv.sorted (by omega) (fun r hr => by have := hinv.each r hr; omega) ops[i] fun B' vl' vt' w6 hext2 hl' ht' h => ?_
  have h : Rel B' w6 [cellD b T_erratalaw47_state #[vl', vt'], rowD T_int (.slice (some ⟨g, 0, none⟩) 16 cap) bs] := h
  have hsd := fun bucket version (hb : (∃ (n : Nat) (hn : n < l.length), (stepS l t ops[i]).1.2 = 0 ∧ 4 ≤ ops[i].do_ % 8 ∧ ops[i].no = (n : Int) + 1 ∧ l[n].from_ ≤ time ∧ bucket = l[n].cut ∧ version = l[n].version) ∨
      (bucket = -1 ∧ ¬ ∃ (n : Nat) (hn : n < l.length), (stepS l t ops[i]).1.2 = 0 ∧ 4 ≤ ops[i].do_ % 8 ∧ ops[i].no = (n : Int) + 1 ∧ l[n].from_ ≤ time)) (q : Nat) (hq : q < 16) => hsi.sides ops[i] (time := time) (by omega) hb (b := q) (by omega)
  replace hJ := fun w' => hJ B' vl' vt' w' hext2 hl' ht'
  simp -zeta only [ext_2_0, ext_2_1]
  refine LETJ_intro fun J2 hJ2 => ?_
  replace hJ2 : ∀ bucket version w', ((∃ (n : Nat) (hn : n < l.length), (stepS l t ops[i]).1.2 = 0 ∧ 4 ≤ ops[i].do_ % 8 ∧ ops[i].no = (n : Int) + 1 ∧ l[n].from_ ≤ time ∧ bucket = l[n].cut ∧ version = l[n].version) ∨
      (bucket = -1 ∧ ¬ ∃ (n : Nat) (hn : n < l.length), (stepS l t ops[i]).1.2 = 0 ∧ 4 ≤ ops[i].do_ % 8 ∧ ops[i].no = (n : Int) + 1 ∧ l[n].from_ ≤ time)) → Rel B' w' [cellD b T_erratalaw47_state #[vl', vt'], rowD T_int (.slice (some ⟨g, 0, none⟩) 16 cap) bs] → J2 (.int .i64 bucket, .int .i64 version, ()) w' := by
    intro bucket version w' hb h
    replace hsd := hsd bucket version hb
    refine hJ2 _ _ ?_
    clear hJ2 hb
    have hll2 := hinv'.ll
    have htl2 := hinv'.tl
    generalize (stepS l t ops[i]).2.1 = l2 at hl' hinv' hsi' hsd hll2
    generalize (stepS l t ops[i]).2.2 = t2 at ht' hinv' hsi' hsd htl2
    refine LOOP_intro (fun x w' => ∃ (n : Nat) (c : Bool), n ≤ l2.length ∧ x = (.bool c, .int .i64 n, ()) ∧ (c = false → ∀ q (hq : q < n) (hq2 : q < l2.length), l2[q].state ≠ 2) ∧ Rel B' w' [cellD b T_erratalaw47_state #[vl', vt'], rowD T_int (.slice (some ⟨g, 0, none⟩) 16 cap) bs]) (fun x _ => l2.length - (match x.2.1 with | .int _ n => n.toNat | _ => 0))
      ⟨0, false, Nat.zero_le _, rfl, fun _ q hq => absurd hq (Nat.not_lt_zero q), h⟩ ?_
    clear h
    rintro x w8 ⟨n, c, hn, rfl, hcalm, h⟩ next hnext
    simp -zeta only [nil_ptr, field_addr f_erratalaw47_state_0, field_addr f_erratalaw47_state_1, Nat.add_zero, Nat.zero_add, h.ld 0 rfl sc_s_api_Replacement (o := 0) rfl, rowR.len hl' sl_s_api_Replacement, bin_lss, ifB_dec]
    refine ⟨fun hnlt => ?_, fun hnge => ?_⟩
    · have hnl : n < l2.length := by omega
      refine LETJ_intro fun J3 hJ3 => ?_
      replace hJ3 : ∀ c' : Bool, (c' = false → c = false ∧ l2[n].state ≠ 2) → J3 (.bool c', ()) w8 := by
        intro c' hc'
        refine hJ3 _ _ ?_
        rw [bin_add, wrap_id (by omega) (by omega)]
        refine hnext _ _ ⟨n + 1, c', by omega, rfl, fun e q hq hq2 => ?_, h⟩ (by simp only; omega)
        obtain ⟨h1, h2⟩ := hc' e
        by_cases e : q = n
        · subst e; exact h2
        · exact hcalm h1 q (by omega) hq2
      obtain ⟨g2, o2, hx2, hc2⟩ := rowR.idx hl' sl_s_api_Replacement hnl
      simp -zeta only [ifB_bool, hx2, field_addr f_api_Replacement_4, cellsR.ld (h.hereB hc2) sc_int (j := 4) rfl, bin_eql]
      exact ⟨fun _ => hJ3 true fun e => by (cases e), fun hc => hJ3 _ fun e => ⟨hc, of_decide_eq_false e⟩⟩
    · clear hnext
      have hcalm : c = false → ∀ q ∈ l2, q.state ≠ 2 := fun e q hq => by
        obtain ⟨m, hm, rfl⟩ := List.getElem_of_mem hq
        exact hcalm e m (by omega) hm
      refine LOOP_intro (fun x w' => ∃ j : Nat, j ≤ 16 ∧ x = (.int .i64 j, ()) ∧ Rel B' w' [cellD b T_erratalaw47_state #[vl', vt'], rowD T_int (.slice (some ⟨g, 0, none⟩) 16 cap) bs]) (fun x _ => 16 - (match x.1 with | .int _ n => n.toNat | _ => 0))
        ⟨0, by omega, rfl, h⟩ ?_
      clear h
      rintro x w9 ⟨j, hj, rfl, h⟩ next hnext
      have h' := h.tick
      simp -zeta only [bin_lss, ifB_dec, h'.ld 0 rfl sc_s_api_Replacement (o := 0) rfl, h'.ld 0 rfl sc_s_api_Seg (o := 1) rfl]
      refine ⟨fun hjlt => ?_, fun hjge => hJ _ (h.take 1)⟩
      have hj16 : j < 16 := by omega
      refine LETJ_intro fun J4 hJ4 => ?_
      replace hJ4 : ∀ w', Rel B' w' [cellD b T_erratalaw47_state #[vl', vt'], rowD T_int (.slice (some ⟨g, 0, none⟩) 16 cap) bs] → J4 () w' := by
        intro w' h
        refine hJ4 _ _ ?_
        rw [bin_add, wrap_id (by omega) (by omega)]
        exact hnext _ _ ⟨j + 1, by omega, rfl, h⟩ (by simp only; omega)
      clear hnext
      refine h'.ask (fun B2 own base2 => Side_g (base2 hl') (base2 ht') (by omega) hsi'.t.sorted hsi'.t.some_ (by omega) time j) fun w10 h => ?_
      obtain ⟨hs1, hs2⟩ := hsd j hj16
      by_cases e : (j : Int) = bucket
      · have hv := hs1 e
        simp -zeta only [bin_eql, bin_neq, decide_eq_true e, ifB_true, decide_eq_true hv, Bool.not_true, ifB_false, un_not, h.ld 0 rfl sc_s_api_Seg (o := 1) rfl]
        rw [ifB_not, ifB_bool]
        refine ⟨fun _ => hJ4 _ h, fun hc => ?_⟩
        refine h.ask (fun B2 own base2 => At_g (base2 ht') hsi'.t.sorted hsi'.t.some_ (by omega) time) fun w11 h => ?_
        simp -zeta only [bin_neq, decide_eq_true (sideS_calm (hcalm hc) t2 time j), Bool.not_true, ifB_false]
        exact hJ4 _ h
      · have hv := hs2 e
        have hel := h.elem (α := Int) (i := 1) (j := j) rfl (by omega)
        have e2 : bs[j]'(by omega) = sideS l t time j := by
          have := hbs j hj16
          rw [List.getElem?_eq_getElem (by omega)] at this
          exact Option.some.inj this
        rw [e2] at hel
        simp -zeta only [bin_eql, bin_neq, decide_eq_false e, ifB_false, Bool.not_false, ifB_true, idx_own (α := Int) sl_s_int hj16, cellsR.ld0 hel sc_int rfl, decide_eq_true hv, Bool.not_true, un_not, h.ld 0 rfl sc_s_api_Seg (o := 1) rfl]
        rw [ifB_not, ifB_bool]
        refine ⟨fun _ => hJ4 _ h, fun hc => ?_⟩
        refine h.ask (fun B2 own base2 => At_g (base2 ht') hsi'.t.sorted hsi'.t.some_ (by omega) time) fun w11 h => ?_
        simp -zeta only [bin_neq, decide_eq_true (sideS_calm (hcalm hc) t2 time j), Bool.not_true, ifB_false]
        exact hJ4 _ h
  clear hJ hsd
  have hc0' : cellsR g0 o0 (Enc.cells ops[i]) B' := Dat.mono _ (hext.trans hext2).le hc0
  have hl0 : rowR vl l B' := Dat.mono _ hext2.le hl
  simp -zeta only [bin_eql, ifB_dec, field_addr f_erratalaw47_Op_0, field_addr f_erratalaw47_Op_1, Nat.add_zero, cellsR.ld0 (h.hereB hc0') sc_int rfl, cellsR.ld (h.hereB hc0') sc_int (j := 1) rfl, bin_and, and7, bin_geq, rowR.len hl0 sl_s_api_Replacement, bin_leq]
  have none_ : (¬ ∃ (n : Nat) (hn : n < l.length), (stepS l t ops[i]).1.2 = 0 ∧ 4 ≤ ops[i].do_ % 8 ∧ ops[i].no = (n : Int) + 1 ∧ l[n].from_ ≤ time) → J2 (.int .i64 (-1), .int .i64 0, ()) w6 := fun hno => hJ2 _ _ _ (.inr ⟨rfl, hno⟩) h
  refine ⟨fun h0 => ⟨fun h4 => ⟨fun h1 => ⟨fun hle => ?_, fun hle => none_ ?_⟩, fun h1 => none_ ?_⟩, fun h4 => none_ ?_⟩, fun h0 => none_ ?_⟩
  · obtain ⟨n, hn, hnl⟩ : ∃ n : Nat, ops[i].no - 1 = n ∧ n < l.length := ⟨(ops[i].no - 1).toNat, by omega, by omega⟩
    have hw : IntKind.i64.wrap (ops[i].no - 1) = n := by rw [wrap_id (by omega) (by omega), hn]
    obtain ⟨g2, o2, hx2, hc2⟩ := rowR.idx hl0 sl_s_api_Replacement hnl
    simp -zeta only [bin_sub, hw, hx2, cellsR.ldAg (h.hereB hc2) ag_api_Replacement rfl]
    refine h.allocAg (ds := l[n].cs.toArray) z_api_Replacement rfl ag_api_Replacement rfl (fun v hv => Enc.one l[n] v hv) fun b2 w7 h => ?_
    simp -zeta only [field_addr f_api_Replacement_1, field_addr f_api_Replacement_2, field_addr f_api_Replacement_5, Nat.zero_add, h.ld 2 rfl sc_int (o := 1) rfl, h.ld 2 rfl sc_int (o := 2) rfl, h.ld 2 rfl sc_int (o := 5) rfl, bin_geq, ifB_dec]
    refine ⟨fun hf => hJ2 _ _ _ (.inl ⟨n, hnl, h0, h4, by omega, hf, rfl, rfl⟩) (h.take 2), fun hf => hJ2 _ _ _ (.inr ⟨rfl, ?_⟩) (h.take 2)⟩
    rintro ⟨m, hm, _, _, h3, h5⟩
    have : m = n := by omega
    subst this
    exact hf h5
  · rintro ⟨m, hm, _, _, h3, h5⟩; omega
  · rintro ⟨m, hm, _, _, h3, h5⟩; omega
  · rintro ⟨m, hm, _, h2, h3, h5⟩; omega
  · rintro ⟨m, hm, h2, _, h3, h5⟩; exact h0 h2
end Go.Proofs.Ytdecfgbdppfmcaa
