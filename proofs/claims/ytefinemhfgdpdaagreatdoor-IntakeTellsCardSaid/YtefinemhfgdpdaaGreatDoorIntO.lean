/-
  IntakeRefuses: the walk. No condition.
-/
import Derived.Test.YtefinemhfgdpdaaGreatDoorInI
namespace Go.Proofs.YtefinemhfgdpdaaGreatDoor
open Go.RowKit
set_option maxRecDepth 100000

theorem good_setR {s : IS} (h : GoodIS s) {n : Int} (hn : 0 ≤ n ∧ n ≤ 1000000000) : GoodIS (setR s n) := ⟨h.cfg, h.prods, h.now, h.top, h.next, hn, h.cnt⟩
theorem known_few {s : IS} (h : s.known = knS) : FewK s.known := by rw [h]; exact knS_few
section
variable {B : Base}
theorem tabBytesD {v : Value} {s : List Pr} (hB : powD B) (hT : tabD v s B) (hR : RightT s) : Gives Tryz.prog B (sCall F_producer_Bytes #[v]) (.string (ofL (encTab s))) := by
  obtain ⟨L, hL, r, q⟩ := hT
  have := tabBytes_g hB r q (by rw [hL]; exact hR)
  rw [hL] at this
  exact this
end
set_option maxHeartbeats 2000000 in
theorem intakeRefuses_pt {W : World} {v : Value} {l : List EnD} {c : CfD} (hB : wireD (lawB W)) (r0 : rowR v l (lawB W)) (hm : l.length ≤ maxLen) (hq : ∀ x ∈ l, ok_api_Entry W x)
    {K : Value → World → Prop} (fin : ∀ w' σ, Rel (lawB W) w' σ → K (.bool true) w') : erratalaw11_IntakeRefuses.pt c.v v W K := by
  obtain ⟨L, hLe, q, hlq⟩ := open_ents hq
  have r : rowR v (eraws L) (lawB W) := by rw [hLe]; exact r0
  have hal : (eraws L).length = L.length := List.length_map ..
  have hlL : L.length ≤ maxLen := by rw [← hal, hLe]; exact hm
  unfold erratalaw11_IntakeRefuses.pt
  have h := lawB.start W
  refine h.box fun cb w1 h => ?_
  have h : Rel (lawB W) w1 [cellD cb T_api_Config c.cs.toArray] := h
  refine small_r h fun w2 h => ?_
  have h := h.tick
  rw [h.ldAg 0 rfl ag_api_Config rfl]
  refine h.make (fun B2 own base2 => known_m) fun u τ w3 hp h => ?_
  subst hp
  have h : Rel (lawB W) w3 [cellD cb T_api_Config c.cs.toArray, knownD u knS] := h
  refine ⟨h.isAg 0 rfl ag_api_Config rfl, ?_⟩
  refine h.make (fun B2 own base2 => New_m c (own (i := 1) rfl) knS_few) fun x τ w4 hp h => ?_
  rcases hp with ⟨hc, p, rfl, rfl⟩ | ⟨hn, rfl, rfl⟩
  case inr =>
    have h : Rel (lawB W) w4 [cellD cb T_api_Config c.cs.toArray, knownD u knS] := h
    have h := h.tick
    rw [h.ldAg 0 rfl ag_api_Config rfl]
    refine h.make (fun B2 own base2 => known_m) fun u2 τ w5 hp h => ?_
    subst hp
    have h : Rel (lawB W) w5 [cellD cb T_api_Config c.cs.toArray, knownD u knS, knownD u2 knS] := h
    refine ⟨h.isAg 0 rfl ag_api_Config rfl, ?_⟩
    refine h.make (fun B2 own base2 => New_m c (own (i := 2) rfl) knS_few) fun x2 τ w6 hp h => ?_
    rcases hp with ⟨hc, _⟩ | ⟨_, rfl, rfl⟩
    · exact absurd hc hn
    have h := h.pick [0] (by decide)
    have h : Rel (lawB W) w6 [cellD cb T_api_Config c.cs.toArray] := h
    have tail : ∀ w', Rel (lawB W) w' [cellD cb T_api_Config c.cs.toArray] → readK Tryz.prog (sLoad T_api_Config (.pointer (some ⟨cb, 0, none⟩))) w' fun t33 => upK Tryz.prog (sCall F_intake_Right #[t33]) w' fun t34 w6 => pureK Tryz.prog (sUn .not t34) fun t35 => K t35 w6 := by
      intro w' h
      rw [h.ldAg 0 rfl ag_api_Config rfl]
      refine h.ask (fun B2 own base2 => cRight_g c) fun w6 h => ?_
      rw [un_not, decide_eq_false hn]
      exact fin _ _ h
    refine few_r (n := 100) r q h hlL hlq (fun w5 hf h => ?_) fun w5 h => ?_
    · rw [un_not, Bool.not_true, ifB_false, nil_nil, ifB_true, ifB_true, nil_nn, ifB_false]
      exact tail _ h
    · rw [un_not, Bool.not_false, ifB_true, ifB_true, nil_nn, ifB_false]
      exact tail _ h
  have h := h.pick [0, 2] (by decide)
  have h : Rel (lawB W) w4 [cellD cb T_api_Config c.cs.toArray, intD p (newS c knS)] := h
  have h := h.tick
  rw [h.ldAg 0 rfl ag_api_Config rfl]
  refine h.make (fun B2 own base2 => known_m) fun u2 τ w5 hp h => ?_
  subst hp
  have h : Rel (lawB W) w5 [cellD cb T_api_Config c.cs.toArray, intD p (newS c knS), knownD u2 knS] := h
  refine ⟨h.isAg 0 rfl ag_api_Config rfl, ?_⟩
  refine h.make (fun B2 own base2 => New_m c (own (i := 2) rfl) knS_few) fun x2 τ w6 hp h => ?_
  rcases hp with ⟨_, p2, rfl, rfl⟩ | ⟨hn, _⟩
  case inr => exact absurd hc hn
  have h := h.pick [0, 1, 3] (by decide)
  have h : Rel (lawB W) w6 [cellD cb T_api_Config c.cs.toArray, intD p (newS c knS), intD p2 (newS c knS)] := h
  refine few_r (n := 100) r q h hlL hlq (fun w7 hf h => ?_) fun w7 h => ?_
  case refine_2 =>
    rw [un_not, Bool.not_false, ifB_true, ifB_true, int_nn, ifB_true, int_nn, ifB_true]
    exact fin _ _ h
  rw [un_not, Bool.not_true, ifB_false, int_nil, ifB_false, int_nil, ifB_false]
  have hl100 := hf.len
  refine LOOP_intro (fun x w' => ∃ (i : Nat) (y : IS) (R : Int) (times : List Int), i ≤ L.length ∧ x = (.int .i64 R, .int .i64 i, ()) ∧ GoodIS y ∧ y.refused = 0 ∧ y.cfg = c ∧ y.known = knS ∧ y.next ≤ i ∧ (0 ≤ R ∧ R ≤ i) ∧ FinI y times ∧
      Rel (lawB W) w' [cellD cb T_api_Config c.cs.toArray, intD p (setR y R), intD p2 y]) (fun x _ => L.length - (match x.2.1 with | .int _ n => n.toNat | _ => 0))
    ⟨0, newS c knS, 0, [], Nat.zero_le _, rfl, new_good hc _, rfl, rfl, rfl, Int.le_refl _, ⟨Int.le_refl _, Int.le_refl _⟩, fin_new hc _, h⟩ ?_
  clear h
  rintro x w8 ⟨i, y, R, times, hi, rfl, hg, hy0, hcfg, hkn, hnx, hR, hI, h⟩ next hnext
  have hgx : GoodIS (setR y R) := good_setR hg ⟨hR.1, by omega⟩
  have hkx : (setR y R).known = knS := hkn
  simp -zeta only [rowR.len r sl_s_api_Entry, bin_lss, ifB_dec]
  rw [hal]
  refine ⟨fun hlt => ?_, fun hge => ?_⟩
  · have hil : i < L.length := by omega
    obtain ⟨go, oo, hx, hcl⟩ := rowR.idx r sl_s_api_Entry (P := Tryz.prog) (i := i) (by omega)
    have hel : (eraws L)[i]'(by omega) = L[i].1 := by simp [eraws]
    rw [hel] at hcl
    have hcl : cellsR go oo L[i].1.cs (lawB W) := hcl
    have hrow := q L[i] (List.getElem_mem hil)
    have hrl : L[i].2.length ≤ 4611686018427387904 := by have := (hf.each L[i] (List.getElem_mem hil)).1; omega
    generalize L[i] = en at hcl hrow hrl
    obtain ⟨e, rw_⟩ := en
    simp only at hcl hrow hrl
    have hkl : y.known.length ≤ 4611686018427387904 := by rw [hkn]; exact knS_len
    refine LETJ_intro fun J1 hJ1 => ?_
    replace hJ1 : ∀ (y' : IS) (R' : Int) (times' : List Int) w' τ, GoodIS y' → y'.refused = 0 → y'.cfg = c → y'.known = knS → y'.next ≤ i + 1 → (0 ≤ R' ∧ R' ≤ i + 1) → FinI y' times' → Rel (lawB W) w' (cellD cb T_api_Config c.cs.toArray :: intD p (setR y' R') :: intD p2 y' :: τ) → J1 (.int .i64 R', ()) w' := by
      intro y' R' times' w' τ g1 g2 g3 g4 g5 g6 g7 h
      refine hJ1 _ _ ?_
      rw [bin_add, wrap_id (by omega) (by omega)]
      exact hnext _ _ ⟨i + 1, y', R', times', hil, rfl, g1, g2, g3, g4, by omega, by omega, g7, h.take 3⟩ (by simp only; omega)
    clear hnext
    refine h.make (fun B2 own base2 => Copy_m (own (i := 1) rfl) hgx.prods (known_few hkx)) fun z τ w9 hp h => ?_
    obtain ⟨z, rfl, rfl⟩ := hp
    have h : Rel (lawB W) w9 [cellD cb T_api_Config c.cs.toArray, intD p (setR y R), intD p2 y, intD z (setR y R)] := h
    simp -zeta only [hx, cellsR.ldAg (h.hereB hcl) ag_api_Entry rfl]
    refine h.act 1 rfl (fun B2 own base2 => apply_d (en := e) hgx (by show y.next < _; omega) (by show R < _; omega) (base2 hrow) hrl hkl) fun u e' τ w10 hp h => ?_
    obtain ⟨rfl, rfl, rfl⟩ := hp
    simp -zeta only [ext_2_0, ext_2_1]
    have h : Rel (lawB W) w10 [cellD cb T_api_Config c.cs.toArray, intD p (applyS (setR y R) e rw_).2, intD p2 y, intD z (setR y R)] := h
    rw [bin_eql, ifB_dec]
    refine ⟨fun c0 => ?_, fun c0 => ?_⟩
    · obtain ⟨k1, k2⟩ := apply_ok_setR c0 0
      have e0 : setR (setR y R) 0 = y := by
        cases y
        simp only [setR] at hy0 ⊢
        rw [hy0]
      rw [e0] at k1
      simp -zeta only [hx, cellsR.ldAg (h.hereB hcl) ag_api_Entry rfl]
      refine h.act 2 rfl (fun B2 own base2 => apply_d (en := e) hg (by omega) (by omega) (base2 hrow) hrl hkl) fun u e' τ w11 hp h => ?_
      obtain ⟨rfl, rfl, rfl⟩ := hp
      have h : Rel (lawB W) w11 [cellD cb T_api_Config c.cs.toArray, intD p (applyS (setR y R) e rw_).2, intD p2 (applyS y e rw_).2, intD z (setR y R)] := h
      obtain ⟨g1, g2, g3, g4, _⟩ := apply_good hg e rw_ (by omega) (by omega)
      have hF := apply_final hI e rw_
      have hx' : (applyS (setR y R) e rw_).2 = setR (applyS y e rw_).2 R := by
        rw [k1]
        have k2 : (applyS (setR y R) e rw_).2.refused = R := k2
        show (applyS (setR y R) e rw_).2 = setR (setR (applyS (setR y R) e rw_).2 0) R
        generalize (applyS (setR y R) e rw_).2 = X at k2 ⊢
        cases X
        simp only [setR] at k2 ⊢
        rw [k2]
      rw [hx'] at h
      have hr0 : (applyS y e rw_).2.refused = 0 := by rw [k1]; rfl
      by_cases cy : e.kind = 0 ∧ (applyS y e rw_).1.2 = 0
      · exact hJ1 _ R _ _ _ g1 hr0 (by rw [g2, hcfg]) (by rw [g3, hkn]) (by omega) ⟨hR.1, by omega⟩ (hF.yes cy.1 cy.2).2.2 h
      · exact hJ1 _ R _ _ _ g1 hr0 (by rw [g2, hcfg]) (by rw [g3, hkn]) (by omega) ⟨hR.1, by omega⟩ (hF.no cy) h
    · have c0 : (applyS (setR y R) e rw_).1.2 ≠ 0 := c0
      have k1 := apply_no c0
      rw [k1] at h
      have k2 : ∀ n : Int, setR (setR y R) n = setR y n := fun n => rfl
      rw [k2] at h
      refine LETJ_intro fun J2 hJ2 => ?_
      replace hJ2 : ∀ R', R' = (if e.kind = 0 ∧ (applyS (setR y R) e rw_).1.2 ≠ 5 then (setR y R).refused + 1 else (setR y R).refused) → J2 (.int .i64 R', ()) w10 := by
        rintro R' rfl
        refine hJ2 _ _ ?_
        have hR' : 0 ≤ (if e.kind = 0 ∧ (applyS (setR y R) e rw_).1.2 ≠ 5 then (setR y R).refused + 1 else (setR y R).refused) ∧ (if e.kind = 0 ∧ (applyS (setR y R) e rw_).1.2 ≠ 5 then (setR y R).refused + 1 else (setR y R).refused) ≤ i + 1 := by
          have : (setR y R).refused = R := rfl
          rw [this]
          split <;> omega
        generalize (if e.kind = 0 ∧ (applyS (setR y R) e rw_).1.2 ≠ 5 then (setR y R).refused + 1 else (setR y R).refused) = R' at h hR'
        rw [int_nil, ifB_false]
        refine h.ask (fun B2 own base2 => iNext_g (own (i := 1) rfl)) fun w11 h => ?_
        refine h.ask (fun B2 own base2 => iNext_g (own (i := 2) rfl)) fun w12 h => ?_
        rw [bin_neq, decide_eq_true (show (setR y R').next = y.next from rfl), Bool.not_true, ifB_false]
        refine h.ask (fun B2 own base2 => iTop_g (own (i := 1) rfl)) fun w13 h => ?_
        refine h.ask (fun B2 own base2 => iTop_g (own (i := 2) rfl)) fun w14 h => ?_
        rw [bin_neq, decide_eq_true (show (setR y R').top = y.top from rfl), Bool.not_true, ifB_false]
        refine h.ask (fun B2 own base2 => iNow_g (own (i := 1) rfl)) fun w15 h => ?_
        refine h.ask (fun B2 own base2 => iNow_g (own (i := 2) rfl)) fun w16 h => ?_
        rw [bin_neq, decide_eq_true (show (setR y R').now = y.now from rfl), Bool.not_true, ifB_false]
        refine h.make (fun B2 own base2 => Producers_m (own (i := 1) rfl) hg.prods) fun t1 τ w17 hp h => ?_
        have h := hp _ _ _ h
        have h : Rel (lawB W) w17 [cellD cb T_api_Config c.cs.toArray, intD p (setR y R'), intD p2 y, intD z (setR y R), tabD t1 y.prods] := h
        refine h.ask (fun B2 own base2 => tabBytesD (base2 hB) (own (i := 4) rfl) hg.prods) fun w18 h => ?_
        refine h.make (fun B2 own base2 => Producers_m (own (i := 3) rfl) hg.prods) fun t2 τ w19 hp h => ?_
        have h := hp _ _ _ h
        have h : Rel (lawB W) w19 [cellD cb T_api_Config c.cs.toArray, intD p (setR y R'), intD p2 y, intD z (setR y R), tabD t1 y.prods, tabD t2 y.prods] := h
        refine h.ask (fun B2 own base2 => tabBytesD (base2 hB) (own (i := 5) rfl) hg.prods) fun w20 h => ?_
        rw [neq_str, decide_eq_true rfl, Bool.not_true, ifB_false]
        exact hJ1 y R' times _ _ hg hy0 hcfg hkn (by omega) hR' hI h
      simp -zeta only [hx, field_addr f_api_Entry_0, Nat.add_zero, cellsR.ld0 (h.hereB hcl) sc_int (v := .int .i64 e.kind) rfl, bin_eql, bin_neq, ifB_not, ifB_dec]
      refine ⟨fun ck => ⟨fun c5 => hJ2 _ ?_, fun c5 => ?_⟩, fun ck => hJ2 _ ?_⟩
      · rw [if_neg fun hh => hh.2 c5]; rfl
      · rw [bin_add, wrap_id (by omega) (by omega)]
        exact hJ2 _ (by rw [if_pos ⟨ck, c5⟩]; rfl)
      · rw [if_neg fun hh => ck hh.1]; rfl
  · clear hnext
    have h := h.tick
    rw [h.ldAg 0 rfl ag_api_Config rfl]
    refine h.make (fun B2 own base2 => known_m) fun u3 τ w9 hp h => ?_
    subst hp
    have h : Rel (lawB W) w9 [cellD cb T_api_Config c.cs.toArray, intD p (setR y R), intD p2 y, knownD u3 knS] := h
    refine ⟨h.isAg 0 rfl ag_api_Config rfl, ?_⟩
    have hfit := hg.fit hI.keys
    refine h.ask (fun B2 own base2 => iBytes_g (base2 hB) (own (i := 2) rfl) hfit) fun w10 h => ?_
    refine ⟨h.isAg 0 rfl ag_api_Config rfl, ?_⟩
    have hel : (encIS y).length ≤ 1000000 := by
      have a1 := encI_len hfit.now
      have a2 := encI_len (n := y.top) (by have := hfit.top; constructor <;> omega)
      have a3 := encI_len hfit.next
      have a4 := encI_len hfit.refused
      have a5 := encTab_len hfit.prods
      have a6 := encT_len (encTab y.prods) (by omega)
      have a7 := keysS_len (s := y) hfit.cfg
      have a8 := encI_len (n := ((keysS y).length : Int)) ⟨by omega, by omega⟩
      have a9 := flat_len (encC y) (keysS y) 42 fun t ht => by
        have h1 := encI_len (hfit.key ht).1
        have h2 := encI_len (hfit.key ht).2
        unfold encC
        rw [List.length_append]
        omega
      unfold encIS encH
      simp only [List.length_append]
      omega
    have hread : readIS c knS (encIS y) = some y := by
      have := readIS_enc hfit hg.now ⟨hg.next.1, by have := hg.next; omega⟩ hg.refused.1
      rw [hcfg, hkn] at this
      exact this
    refine h.make (fun B2 own base2 => iRead_m (base2 hB) c (own (i := 3) rfl) knS_few hel) fun u4 τ w11 hp h => ?_
    rcases hp with ⟨_, s', a, hs', rfl, rfl⟩ | ⟨hno, _⟩
    case inr => rw [hread] at hno; cases hno hc
    rw [hread] at hs'
    injection hs' with hs'
    subst hs'
    have h : Rel (lawB W) w11 [cellD cb T_api_Config c.cs.toArray, intD p (setR y R), intD p2 y, knownD u3 knS, intD a y] := h
    simp -zeta only [ext_2_0, ext_2_1]
    rw [un_not, Bool.not_true, ifB_false, int_nil, ifB_false]
    refine h.ask (fun B2 own base2 => iRefused_g (own (i := 1) rfl)) fun w12 h => ?_
    rw [bin_neq, decide_eq_true (show (setR y R).refused = R from rfl), Bool.not_true, ifB_false]
    refine h.ask (fun B2 own base2 => iRefused_g (own (i := 2) rfl)) fun w13 h => ?_
    rw [bin_neq, decide_eq_true hy0, Bool.not_true, ifB_false, ifB_true]
    refine h.ask (fun B2 own base2 => iBytes_g (base2 hB) (own (i := 4) rfl) hfit) fun w14 h => ?_
    refine h.ask (fun B2 own base2 => iBytes_g (base2 hB) (own (i := 2) rfl) hfit) fun w15 h => ?_
    rw [eql_ofL, decide_eq_true rfl, ifB_true]
    refine h.ask (fun B2 own base2 => iNext_g (own (i := 4) rfl)) fun w16 h => ?_
    refine h.ask (fun B2 own base2 => iNext_g (own (i := 1) rfl)) fun w17 h => ?_
    rw [bin_eql, decide_eq_true (show y.next = (setR y R).next from rfl), ifB_true]
    refine h.make (fun B2 own base2 => Producers_m (own (i := 4) rfl) hg.prods) fun t1 τ w18 hp h => ?_
    have h := hp _ _ _ h
    have h : Rel (lawB W) w18 [cellD cb T_api_Config c.cs.toArray, intD p (setR y R), intD p2 y, knownD u3 knS, intD a y, tabD t1 y.prods] := h
    refine h.ask (fun B2 own base2 => tabBytesD (base2 hB) (own (i := 5) rfl) hg.prods) fun w19 h => ?_
    refine h.make (fun B2 own base2 => Producers_m (own (i := 1) rfl) hg.prods) fun t2 τ w20 hp h => ?_
    have h := hp _ _ _ h
    have h : Rel (lawB W) w20 [cellD cb T_api_Config c.cs.toArray, intD p (setR y R), intD p2 y, knownD u3 knS, intD a y, tabD t1 y.prods, tabD t2 y.prods] := h
    refine h.ask (fun B2 own base2 => tabBytesD (base2 hB) (own (i := 6) rfl) hg.prods) fun w21 h => ?_
    rw [eql_ofL, decide_eq_true rfl]
    exact fin _ _ h
end Go.Proofs.YtefinemhfgdpdaaGreatDoor
