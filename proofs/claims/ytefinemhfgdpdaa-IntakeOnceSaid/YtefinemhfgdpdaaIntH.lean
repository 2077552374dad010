/-
  IntakeOnce: the walk. No condition.
-/
import Derived.Test.YtefinemhfgdpdaaIntG
namespace Go.Proofs.Ytefinemhfgdpdaa
open Go.RowKit

theorem sel_take {done : List EnD} {k : Nat} (hk : k < done.length) (id e : Int) : sel (done.take (k + 1)) id e = sel (done.take k) id e ++ if isE id e done[k] = true then [(done[k], k)] else [] := by
  rw [List.take_succ_eq_append_getElem hk, sel_snoc, List.length_take, Nat.min_eq_left (by omega)]
theorem sel_le (done : List EnD) (id e : Int) : (sel done id e).length ≤ done.length := by
  unfold sel
  exact Nat.le_trans (List.length_filter_le _ _) (by rw [List.length_zipIdx]; exact Nat.le_refl _)
set_option maxHeartbeats 4000000 in
theorem intakeOnce_pt {W : World} {v pv : Value} {l : List EnD} {picks : List Int} {c : CfD} (r0 : rowR v l (lawB W)) (hm : l.length ≤ maxLen) (hq : ∀ x ∈ l, ok_api_Entry W x) (rp : rowR pv picks (lawB W))
    {K : Value → World → Prop} (fin : ∀ w' σ, Rel (lawB W) w' σ → K (.bool true) w') : erratalaw11_IntakeOnce.pt c.v v pv W K := by
  obtain ⟨L, hLe, q, hlq⟩ := open_ents hq
  have r : rowR v (eraws L) (lawB W) := by rw [hLe]; exact r0
  have hal : ∀ L : EnL, (eraws L).length = L.length := fun L => List.length_map ..
  have hlL : L.length ≤ maxLen := by rw [← hal, hLe]; exact hm
  unfold erratalaw11_IntakeOnce.pt
  have h := lawB.start W
  refine h.box fun cb w1 h => ?_
  have h : Rel (lawB W) w1 [cellD cb T_api_Config c.cs.toArray] := h
  refine small_r h fun w2 h => ?_
  have h := h.tick
  rw [h.ldAg 0 rfl ag_api_Config rfl]
  refine h.make (fun B2 own base2 => known_m) fun u τ w3 hp h => ?_
  subst hp
  have h : Rel (lawB W) w3 [cellD cb T_api_Config c.cs.toArray, knownD u knS] := h
  refine ⟨h.isAg 0 rfl ag_api_Config rfl, ?_⟩
  refine h.make (fun B2 own base2 => New_m c (own (i := 1) rfl) knS_few) fun x τ w4 hp h => ?_
  rcases hp with ⟨hc, p, rfl, rfl⟩ | ⟨hn, rfl, rfl⟩
  case inr =>
    have h : Rel (lawB W) w4 [cellD cb T_api_Config c.cs.toArray, knownD u knS] := h
    have tail : ∀ w', Rel (lawB W) w' [cellD cb T_api_Config c.cs.toArray, knownD u knS] → readK Try.prog (sLoad T_api_Config (.pointer (some ⟨cb, 0, none⟩))) w' fun t33 => upK Try.prog (sCall F_intake_Right #[t33]) w' fun t34 w6 => pureK Try.prog (sUn .not t34) fun t35 => K t35 w6 := by
      intro w' h
      rw [h.ldAg 0 rfl ag_api_Config rfl]
      refine h.ask (fun B2 own base2 => cRight_g c) fun w6 h => ?_
      rw [un_not, decide_eq_false hn]
      exact fin _ _ h
    refine few_r (n := 100) r q h hlL hlq (fun w5 hf h => ?_) fun w5 h => ?_
    · simp -zeta only [rowR.len rp sl_s_int, bin_gtr]
      rw [un_not, ifB_not, ifB_true, ifB_dec]
      refine ⟨fun _ => ?_, fun _ => ?_⟩
      · rw [ifB_true, nil_nn, ifB_false]
        exact tail _ h
      · rw [nil_nil, ifB_true, ifB_true, nil_nn, ifB_false]
        exact tail _ h
    · rw [un_not, ifB_not, ifB_false, ifB_true, nil_nn, ifB_false]
      exact tail _ h
  have h := h.pick [0, 2] (by decide)
  have h : Rel (lawB W) w4 [cellD cb T_api_Config c.cs.toArray, intD p (newS c knS)] := h
  refine few_r (n := 100) r q h hlL hlq (fun w5 hf h => ?_) fun w5 h => ?_
  case refine_2 =>
    rw [un_not, ifB_not, ifB_false, ifB_true, int_nn, ifB_true]
    exact fin _ _ h
  simp -zeta only [rowR.len rp sl_s_int, bin_gtr]
  rw [un_not, ifB_not, ifB_true, ifB_dec]
  refine ⟨fun _ => ?_, fun hp100 => ?_⟩
  · rw [ifB_true, int_nn, ifB_true]
    exact fin _ _ h
  rw [int_nil, ifB_false]
  have hl100 := hf.len
  have h := h.addNil EnD T_api_Entry
  refine LOOP_intro (fun x w' => ∃ (i : Nat) (s : IS) (dv : Value) (D : EnL), i ≤ L.length ∧ x = (dv, .int .i64 i, ()) ∧ GoodIS s ∧ s.known = knS ∧ s.next ≤ i ∧ s.refused ≤ i ∧ OnceE s.prods (eraws D) ∧ s.next = (eraws D).length ∧ D.length ≤ i ∧ (∀ x ∈ D, x ∈ L) ∧
      Rel (lawB W) w' [cellD cb T_api_Config c.cs.toArray, intD p s, rowD T_api_Entry dv (eraws D)]) (fun x _ => L.length - (match x.2.1 with | .int _ n => n.toNat | _ => 0))
    ⟨0, newS c knS, .slice none 0 0, [], Nat.zero_le _, rfl, new_good hc _, rfl, Int.le_refl _, Int.le_refl _, onceE_start, rfl, Nat.le_refl _, fun x hx => (by cases hx), h⟩ ?_
  clear h
  rintro x w6 ⟨i, s, dv, D, hi, rfl, hg, hkn, hnx, hrf, hO, hsn, hDl, hDL, h⟩ next hnext
  simp -zeta only [rowR.len r sl_s_api_Entry, bin_lss, ifB_dec]
  rw [hal]
  have hkl : s.known.length ≤ 4611686018427387904 := by rw [hkn]; exact knS_len
  refine ⟨fun hlt => ?_, fun hge => ?_⟩
  · have hil : i < L.length := by omega
    obtain ⟨go, oo, hx, hcl⟩ := rowR.idx r sl_s_api_Entry (P := Try.prog) (i := i) (by rw [hal]; omega)
    have hel : (eraws L)[i]'(by rw [hal]; omega) = L[i].1 := by simp [eraws]
    rw [hel] at hcl
    have hcl : cellsR go oo L[i].1.cs (lawB W) := hcl
    have hrow := q L[i] (List.getElem_mem hil)
    have hrl : L[i].2.length ≤ 4611686018427387904 := by have := (hf.each L[i] (List.getElem_mem hil)).1; omega
    have hin : L[i] ∈ L := List.getElem_mem hil
    generalize L[i] = en at hcl hrow hrl hin
    obtain ⟨e, rw_⟩ := en
    have hF := apply_once hO hsn (by rw [hal]; omega) e rw_
    have hG := apply_good hg e rw_ (by omega) (by omega)
    refine LETJ_intro fun J1 hJ1 => ?_
    replace hJ1 : ∀ dv' D', OnceE (applyS s e rw_).2.prods (eraws D') → (applyS s e rw_).2.next = (eraws D').length → D'.length ≤ i + 1 → (∀ x ∈ D', x ∈ L) → ∀ w', Rel (lawB W) w' [cellD cb T_api_Config c.cs.toArray, intD p (applyS s e rw_).2, rowD T_api_Entry dv' (eraws D')] → J1 (dv', ()) w' := by
      intro dv' D' hO' hn' hl' hD' w' h
      refine hJ1 _ _ ?_
      rw [bin_add, wrap_id (by omega) (by omega)]
      obtain ⟨g1, g2, g3, g4, g5⟩ := hG
      exact hnext _ _ ⟨i + 1, _, dv', D', hil, rfl, g1, g3.trans hkn, by omega, by omega, hO', hn', hl', hD', h⟩ (by simp only; omega)
    clear hnext
    rw [hx, cellsR.ldAg (h.hereB hcl) ag_api_Entry rfl]
    refine h.act 1 rfl (fun B2 own base2 => apply_d hg (by omega) (by omega) (base2 hrow) hrl hkl) fun v e' τ w10 hp h => ?_
    obtain ⟨rfl, rfl, rfl⟩ := hp
    simp -zeta only [ext_2_0, ext_2_1]
    generalize applyS s e rw_ = y at *
    obtain ⟨f2, f3⟩ := hF
    have h : Rel (lawB W) w10 [cellD cb T_api_Config c.cs.toArray, intD p y.2, rowD T_api_Entry dv (eraws D)] := h
    simp -zeta only [hx, field_addr f_api_Entry_0, Nat.add_zero, cellsR.ld0 (h.hereB hcl) sc_int rfl, bin_neq, ifB_not, ifB_dec]
    refine ⟨fun c1 => ⟨fun c2 => ?_, fun c2 => ?_⟩, fun c1 => ?_⟩
    case refine_2 => exact hJ1 dv D (f3 fun hh => c2 hh.2).1 (f3 fun hh => c2 hh.2).2 (by omega) hDL _ h
    case refine_3 => exact hJ1 dv D (f3 fun hh => c1 hh.1).1 (f3 fun hh => c1 hh.1).2 (by omega) hDL _ h
    obtain ⟨f4, f5, f6, f7⟩ := f2 c1 c2
    clear f2 f3
    have hDe := hal D
    refine LOOP_intro (fun x w' => ∃ k : Nat, k ≤ (eraws D).length ∧ x = (.int .i64 (sel ((eraws D).take k) e.producer e.epoch).length, .int .i64 k, ()) ∧ Rel (lawB W) w' [cellD cb T_api_Config c.cs.toArray, intD p y.2, rowD T_api_Entry dv (eraws D)]) (fun x _ => (eraws D).length - (match x.2.1 with | .int _ n => n.toNat | _ => 0))
      ⟨0, Nat.zero_le _, rfl, h⟩ ?_
    clear h
    rintro x w11 ⟨k, hk, rfl, h⟩ next hnext
    have hD : rowR dv (eraws D) ⟨w11, fun _ => True⟩ := rowD.read (h.here (i := 2) rfl)
    simp -zeta only [rowR.len hD sl_s_api_Entry, bin_lss, ifB_dec]
    refine ⟨fun hlt => ?_, fun hge => ?_⟩
    · have hkl : k < (eraws D).length := by omega
      have hst := sel_take hkl e.producer e.epoch
      have hsl := sel_le ((eraws D).take k) e.producer e.epoch
      rw [List.length_take] at hsl
      refine LETJ_intro fun J2 hJ2 => ?_
      replace hJ2 : ∀ w', Rel (lawB W) w' [cellD cb T_api_Config c.cs.toArray, intD p y.2, rowD T_api_Entry dv (eraws D)] → J2 (.int .i64 (sel ((eraws D).take (k + 1)) e.producer e.epoch).length, ()) w' := by
        intro w' h
        refine hJ2 _ _ ?_
        rw [bin_add, wrap_id (by omega) (by omega)]
        exact hnext _ _ ⟨k + 1, hkl, rfl, h⟩ (by simp only; omega)
      clear hnext
      have skip : isE e.producer e.epoch (eraws D)[k] = false → ∀ w', Rel (lawB W) w' [cellD cb T_api_Config c.cs.toArray, intD p y.2, rowD T_api_Entry dv (eraws D)] → J2 (.int .i64 (sel ((eraws D).take k) e.producer e.epoch).length, ()) w' := fun hn w' h => by
        have := hJ2 w' h
        rw [hst, if_neg (by rw [hn]; decide), List.append_nil] at this
        exact this
      obtain ⟨g2, o2, hx2, hc2⟩ := rowR.idx hD sl_s_api_Entry (P := Try.prog) hkl
      have h := h.tick
      have hc2 : (cellsR g2 o2 (eraws D)[k].cs).here (tick w11) := hc2
      simp -zeta only [hx, hx2, field_addr f_api_Entry_1, field_addr f_api_Entry_2, cellsR.ld hc2 sc_int (j := 1) rfl, cellsR.ld hc2 sc_int (j := 2) rfl, cellsR.ld (h.hereB hcl) sc_int (j := 1) rfl, cellsR.ld (h.hereB hcl) sc_int (j := 2) rfl, bin_eql, ifB_dec]
      refine ⟨fun c3 => ⟨fun c4 => ?_, fun c4 => ?_⟩, fun c3 => ?_⟩
      · have hk1 : isE e.producer e.epoch (eraws D)[k] = true := isE_true.2 ⟨c3, c4⟩
        have hsl2 : (sel ((eraws D).take (k + 1)) e.producer e.epoch).length = (sel ((eraws D).take k) e.producer e.epoch).length + 1 := by rw [hst, if_pos hk1]; simp
        rw [bin_add, wrap_id (by omega) (by omega)]
        have := hJ2 _ h
        rw [hsl2] at this
        exact this
      · refine skip ?_ _ h
        cases hh : isE e.producer e.epoch (eraws D)[k]
        · rfl
        · exact absurd (isE_true.1 hh).2 c4
      · refine skip ?_ _ h
        cases hh : isE e.producer e.epoch (eraws D)[k]
        · rfl
        · exact absurd (isE_true.1 hh).1 c3
    · have hke : k = (eraws D).length := by omega
      subst hke
      rw [List.take_length, bin_neq, f4, decide_eq_true rfl, Bool.not_true, ifB_false]
      simp -zeta only [hx, field_addr f_api_Entry_3, cellsR.ld (h.hereB hcl) sc_int (j := 3) rfl, bin_neq]
      rw [f5, decide_eq_true rfl, Bool.not_true, ifB_false, cellsR.ldAg (h.hereB hcl) ag_api_Entry rfl]
      refine h.build1 e sl_s_api_Entry (by decide) fun u2 w12 h => ?_
      refine h.append 2 rfl sl_s_api_Entry (Rd.at (l := [e]) 3 rfl) (by rw [List.length_singleton]; omega) (by rw [List.length_singleton]; omega) fun u3 w13 h => ?_
      have ee : eraws (D ++ [(e, rw_)]) = eraws D ++ [e] := by simp [eraws]
      refine hJ1 u3 (D ++ [(e, rw_)]) (by rw [ee]; exact f6) (by rw [ee, List.length_append, List.length_singleton]; exact f7) (by rw [List.length_append, List.length_singleton]; omega) (fun x hx => ?_) _ ?_
      · rcases List.mem_append.1 hx with hx | hx
        · exact hDL x hx
        · rw [List.mem_singleton.1 hx]; exact hin
      · rw [ee]; exact h.take 3
  · clear hnext
    have hDe := hal D
    refine h.ask (fun B2 own base2 => iNext_g (own (i := 1) rfl)) fun w7 h => ?_
    have hD : rowR dv (eraws D) ⟨w7, fun _ => True⟩ := rowD.read (h.here (i := 2) rfl)
    simp -zeta only [rowR.len hD sl_s_api_Entry, bin_neq]
    rw [hsn, decide_eq_true rfl, Bool.not_true, ifB_false]
    refine LETJ_intro fun J3 hJ3 => ?_
    replace hJ3 : ∀ s' : IS, s'.next = (eraws D).length → ∀ w', Rel (lawB W) w' [cellD cb T_api_Config c.cs.toArray, intD p s', rowD T_api_Entry dv (eraws D)] → J3 () w' := by
      intro s' hn' w' h
      refine hJ3 _ _ ?_
      rw [ifB_true]
      refine h.ask (fun B2 own base2 => iNext_g (own (i := 1) rfl)) fun w8 h => ?_
      have hD : rowR dv (eraws D) ⟨w8, fun _ => True⟩ := rowD.read (h.here (i := 2) rfl)
      simp -zeta only [rowR.len hD sl_s_api_Entry, bin_eql]
      rw [hn', decide_eq_true rfl]
      exact fin _ _ h
    clear hD
    refine LOOP_intro (fun x w' => ∃ (i : Nat) (s' : IS), i ≤ picks.length ∧ x = (.int .i64 i, ()) ∧ GoodIS s' ∧ s'.known = knS ∧ s'.next ≤ 100 ∧ s'.refused ≤ 100 + i ∧ OnceE s'.prods (eraws D) ∧ s'.next = (eraws D).length ∧
        Rel (lawB W) w' [cellD cb T_api_Config c.cs.toArray, intD p s', rowD T_api_Entry dv (eraws D)]) (fun x _ => picks.length - (match x.1 with | .int _ n => n.toNat | _ => 0))
      ⟨0, s, Nat.zero_le _, rfl, hg, hkn, by omega, by omega, hO, hsn, h⟩ ?_
    clear h
    rintro x w8 ⟨j, s2, hj, rfl, hg2, hkn2, hnx2, hrf2, hO2, hsn2, h⟩ next hnext
    have hD : rowR dv (eraws D) ⟨w8, fun _ => True⟩ := rowD.read (h.here (i := 2) rfl)
    simp -zeta only [rowR.len rp sl_s_int, rowR.len hD sl_s_api_Entry, bin_lss, bin_gtr, ifB_dec]
    refine ⟨fun hlt => ⟨fun hpos => ?_, fun _ => hJ3 s2 hsn2 _ h⟩, fun _ => hJ3 s2 hsn2 _ h⟩
    have hjl : j < picks.length := by omega
    refine LETJ_intro fun J4 hJ4 => ?_
    replace hJ4 : ∀ s' : IS, GoodIS s' → s'.known = knS → s'.refused ≤ s2.refused + 1 → s'.prods = s2.prods → s'.next = s2.next → ∀ w', Rel (lawB W) w' [cellD cb T_api_Config c.cs.toArray, intD p s', rowD T_api_Entry dv (eraws D)] → J4 () w' := by
      intro s' a1 a2 a3 a4 a5 w' h
      refine hJ4 _ _ ?_
      rw [bin_add, wrap_id (by omega) (by omega)]
      exact hnext _ _ ⟨j + 1, s', hjl, rfl, a1, a2, by omega, by omega, by rw [a4]; exact hO2, by omega, h⟩ (by simp only; omega)
    clear hnext
    obtain ⟨g1, o1, hx1, hc1⟩ := rowR.idx rp sl_s_int (P := Try.prog) hjl
    have hc1 : cellsR g1 o1 [.int .i64 picks[j]] (lawB W) := hc1
    have hd0 : ((eraws D).length : Int) ≠ 0 := by omega
    simp -zeta only [hx1, cellsR.ld0 (h.hereB hc1) sc_int rfl, rowR.len hD sl_s_api_Entry, bin_rem hd0]
    have hr1 := Int.tmod_lt_of_pos picks[j] (show (0 : Int) < (eraws D).length by omega)
    have hr2 := Int.lt_tmod_of_pos picks[j] (show (0 : Int) < (eraws D).length by omega)
    generalize picks[j].tmod (eraws D).length = z at hr1 hr2
    refine LETJ_intro fun J5 hJ5 => ?_
    replace hJ5 : ∀ k : Nat, k < (eraws D).length → J5 (.int .i64 k, ()) w8 := by
      intro k hk
      refine hJ5 _ _ ?_
      clear hJ5
      have hkD : k < D.length := by omega
      obtain ⟨g2, o2, hx2, hc2⟩ := rowR.idx hD sl_s_api_Entry (P := Try.prog) hk
      have hc2 : (cellsR g2 o2 (eraws D)[k].cs).here w8 := hc2
      rw [hx2, cellsR.ldAg hc2 ag_api_Entry rfl]
      have hek : (eraws D)[k] = D[k].1 := by simp [eraws]
      have hmem := hDL D[k] (List.getElem_mem hkD)
      have hrow : rowR (eraws D)[k].row.1 D[k].2 (lawB W) := by rw [hek]; exact q D[k] hmem
      have hrl : D[k].2.length ≤ 4611686018427387904 := by have := (hf.each D[k] hmem).1; omega
      obtain ⟨b1, b2, b3⟩ := apply_again hO2 hk D[k].2
      have hG := apply_good hg2 (eraws D)[k] D[k].2 (by omega) (by omega)
      refine h.act 1 rfl (fun B2 own base2 => apply_d (en := (eraws D)[k]) (r := D[k].2) hg2 (by omega) (by omega) (base2 hrow) hrl (by rw [hkn2]; exact knS_len)) fun v e' τ w10 hp h => ?_
      obtain ⟨rfl, rfl, rfl⟩ := hp
      simp -zeta only [ext_2_0, ext_2_1]
      generalize applyS s2 (eraws D)[k] D[k].2 = y at *
      obtain ⟨g1, _, g3, _, g5⟩ := hG
      have h : Rel (lawB W) w10 [cellD cb T_api_Config c.cs.toArray, intD p y.2, rowD T_api_Entry dv (eraws D)] := h
      have done := hJ4 y.2 g1 (g3.trans hkn2) g5 b1 b2 _ h
      simp -zeta only [bin_neq, ifB_not, ifB_dec]
      refine ⟨fun _ => done, fun d1 => ⟨fun d2 => ⟨fun _ => done, fun d3 => ⟨fun _ => done, fun d4 => ?_⟩⟩, fun d2 => ?_⟩⟩
      · exfalso
        rcases b3 with b3 | ⟨_, b3 | b3⟩
        · exact d1 b3
        · exact d3 b3
        · exact d4 b3
      · exfalso
        rcases b3 with b3 | ⟨b3, _⟩
        · exact d1 b3
        · exact d2 b3
    rw [bin_lss, ifB_dec]
    refine ⟨fun cz => ?_, fun cz => ?_⟩
    · rw [bin_add, wrap_id (by omega) (by omega)]
      obtain ⟨m, hm⟩ : ∃ m : Nat, z + (eraws D).length = m := ⟨(z + (eraws D).length).toNat, by omega⟩
      rw [hm]
      exact hJ5 m (by omega)
    · obtain ⟨m, rfl⟩ : ∃ m : Nat, z = m := ⟨z.toNat, by omega⟩
      exact hJ5 m (by omega)
end Go.Proofs.Ytefinemhfgdpdaa
