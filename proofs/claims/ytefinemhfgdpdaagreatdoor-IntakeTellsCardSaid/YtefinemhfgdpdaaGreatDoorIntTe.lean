/-
  IntakeTells: the walk. No condition.
-/
import Derived.Test.YtefinemhfgdpdaaGreatDoorIntZ
namespace Go.Proofs.YtefinemhfgdpdaaGreatDoor
open Go.RowKit
set_option maxRecDepth 100000

abbrev knowS (s : IS) (ks : List Kn) : IS := { s with known := ks }
structure LiveT (c : CfD) (y : IS) (i : Int) : Prop where
  good : GoodIS y
  fin : FinE y
  cfg : y.cfg = c
  known : y.known = knS ∨ y.known = knS.take 1
  next : y.next ≤ i
  refused : y.refused ≤ i
theorem LiveT.start {c : CfD} (h : RightC c) : LiveT c (newS c knS) 0 := ⟨new_good h _, ⟨_, fin_new h _⟩, rfl, .inl rfl, Int.le_refl _, Int.le_refl _⟩
theorem LiveT.step {c : CfD} {y : IS} {i : Int} (h : LiveT c y i) (hi : i ≤ 1000) (e : EnD) (r : List ValD) : LiveT c (applyS y e r).2 (i + 1) := by
  have h1 := h.next
  have h2 := h.refused
  obtain ⟨g1, g2, g3, g4, g5⟩ := apply_good h.good e r (by omega) (by omega)
  exact ⟨g1, h.fin.apply e r, by rw [g2, h.cfg], by rw [g3]; exact h.known, by omega, by omega⟩
theorem LiveT.know {c : CfD} {y : IS} {i : Int} (h : LiveT c y i) : LiveT c (knowS y (knS.take 1)) i := by
  obtain ⟨t, h1, h2, h3⟩ := h.fin
  exact ⟨⟨h.good.cfg, h.good.prods, h.good.now, h.good.top, h.good.next, h.good.refused, h.good.cnt⟩, ⟨t, h1, h2, h3⟩, h.cfg, .inr rfl, h.next, h.refused⟩
theorem LiveT.fit {c : CfD} {y : IS} {i : Int} (h : LiveT c y i) : FitIS y := h.good.fit h.fin.keys
theorem LiveT.few {c : CfD} {y : IS} {i : Int} (h : LiveT c y i) : FewK y.known := by
  rcases h.known with e | e
  · rw [e]; exact knS_few
  · rw [e]; exact ⟨Nat.le_trans (List.length_take_le _ _) (by decide), fun x hx => knS_few.cols x (List.mem_of_mem_take hx)⟩
theorem LiveT.kl {c : CfD} {y : IS} {i : Int} (h : LiveT c y i) : y.known.length ≤ 4611686018427387904 := by have := h.few.len; omega
section
variable {B : Base} {w : World} {p : Nat} {s : IS}
theorem knownD.cut {u : Value} {ks : List Kn} (h : knownD u ks B) (h1 : 1 ≤ ks.length) : knownD (cutV (Enc.sz KnD) u 0 1) (ks.take 1) B := by
  obtain ⟨L, hL, r, q⟩ := h
  have hl : 1 ≤ L.length := by rw [← hL, List.length_map] at h1; exact h1
  have hal : (kraws L).length = L.length := List.length_map ..
  refine ⟨L.take 1, by rw [List.map_take, hL], ?_, fun x hx => q x (List.mem_of_mem_take hx)⟩
  have := rowR.cutR r (lo := 0) (hi := 1) (Nat.zero_le _) (by omega)
  rw [List.drop_zero] at this
  rw [show kraws (L.take 1) = (kraws L).take 1 by unfold kraws; rw [List.map_take]]
  exact this
theorem knownD.cutE {u : Value} {ks : List Kn} (h : knownD u ks B) (h1 : 1 ≤ ks.length) {Kp : Value → Prop} : pureK Tryz.prog (sSlice T_s_api_Known u none (some (.int .i64 1)) none) Kp = Kp (cutV (Enc.sz KnD) u 0 1) := by
  obtain ⟨L, hL, r, q⟩ := h
  have hl : 1 ≤ L.length := by rw [← hL, List.length_map] at h1; exact h1
  have hal : (kraws L).length = L.length := List.length_map ..
  exact rowR.cutE r sl_s_api_Known (lo := 0) (hi := 1) Bnd.none (hiv := some (.int .i64 1)) (.inr rfl) (Nat.zero_le _) (by omega)
theorem knownD.oneCell {u : Value} {ks : List Kn} (h : knownD u ks B) : u.oneCell' = true := by
  obtain ⟨L, _, r, _⟩ := h
  exact rowR.oneCell r
theorem applyS_put {e : EnD} {r : List ValD} (h : e.kind = 0) : (applyS s e r).1 = putI s e r := by
  unfold applyS acceptS
  rw [if_pos h]
  simp only
  split <;> rfl
theorem check_g (hI : intD p s B) (hg : GoodIS s) (h1 : s.next < 1000000000) (h2 : s.refused < 1000000000) (hf : FewK s.known) {en : EnD} {r : List ValD} (hr : rowR en.row.1 r B) (hrl : r.length ≤ 4611686018427387904) (hkl : s.known.length ≤ 4611686018427387904) :
    Gives Tryz.prog B (sCall F_intake_Intake_Check #[ptrI p, en.v]) (.tuple #[.int .i64 (applyS s en r).1.1, .int .i64 (applyS s en r).1.2]) := by
  refine Gives.intro fun B' w K base h k => ?_
  replace hI := base hI
  replace hr := base hr
  refine intake_Intake_Check.up (intake_Intake_Check.call ?_)
  unfold intake_Intake_Check.pt
  refine h.box fun o w1 h => ?_
  have h : Rel B' w1 [cellD o T_api_Entry en.cs.toArray] := h
  simp -zeta only [field_addr f_api_Entry_0, Nat.add_zero, h.ld 0 rfl sc_int (o := 0) (v := .int .i64 en.kind) rfl, bin_eql, ifB_dec]
  refine ⟨fun c => ?_, fun c => ?_⟩
  · rw [h.ldAg 0 rfl ag_api_Entry rfl]
    refine h.ask (fun B2 own base2 => putI_g (base2 hI) hg (base2 hr) hrl hkl) fun w2 h => ?_
    simp -zeta only [ext_2_0, ext_2_1]
    rw [applyS_put c] at k
    exact k _ _ h
  · have h := h.tick
    rw [h.ldAg 0 rfl ag_api_Entry rfl]
    refine h.make (fun B2 own base2 => Copy_m (base2 hI) hg.prods hf) fun u τ w3 hp h => ?_
    obtain ⟨q, rfl, rfl⟩ := hp
    refine ⟨h.isAg 0 rfl ag_api_Entry rfl, ?_⟩
    refine h.act 1 rfl (fun B2 own base2 => apply_d hg h1 h2 (base2 hr) hrl hkl) fun u e' τ w4 hp h => ?_
    obtain ⟨rfl, rfl, rfl⟩ := hp
    simp -zeta only [ext_2_0, ext_2_1]
    exact k _ _ h
theorem fSameD {a b : Value} {t : List Pr} (h1 : tabD a t B) (h2 : tabD b t B) (hR : RightT t) : Gives Tryz.prog B (sCall F_errataref10_Same #[a, b]) (.bool true) := by
  obtain ⟨L, hL, r1, q1⟩ := h1
  obtain ⟨M, hM, r2, q2⟩ := h2
  exact fSameT_g r1 q1 r2 q2 (by rw [hL, hM]) (by rw [hL]; exact hR)
theorem rf_nn {Kp : Value → Prop} {xo yo : Operand} {p : Nat} : pureK Tryz.prog (sBin .neq T_p_errataref11_Intake xo yo (ptrI p) (.pointer none)) Kp = Kp (.bool true) := bin_neq_ptr_nil U_p_errataref11_Intake
theorem rfnil_nn {Kp : Value → Prop} {xo yo : Operand} : pureK Tryz.prog (sBin .neq T_p_errataref11_Intake xo yo (.pointer none) (.pointer none)) Kp = Kp (.bool false) := pureK_eq fun w => sBin_eq rfl (run_neq_pointer_nil w T_p_errataref11_Intake none U_p_errataref11_Intake)
end
set_option maxHeartbeats 4000000 in
theorem intakeTells_pt {W : World} {v : Value} {l : List EnD} {c : CfD} (hB : powD (lawB W)) (r0 : rowR v l (lawB W)) (hm : l.length ≤ maxLen) (hq : ∀ x ∈ l, ok_api_Entry W x)
    {K : Value → World → Prop} (fin : ∀ w' σ, Rel (lawB W) w' σ → K (.bool true) w') : erratalaw11_IntakeTells.pt c.v v W K := by
  obtain ⟨L, hLe, q, hlq⟩ := open_ents hq
  have r : rowR v (eraws L) (lawB W) := by rw [hLe]; exact r0
  have hal : (eraws L).length = L.length := List.length_map ..
  have hlL : L.length ≤ maxLen := by rw [← hal, hLe]; exact hm
  unfold erratalaw11_IntakeTells.pt
  have h := lawB.start W
  refine h.box fun cb w1 h => ?_
  have h : Rel (lawB W) w1 [cellD cb T_api_Config c.cs.toArray] := h
  refine small_r h fun w2 h => ?_
  refine few_r (n := 120) r q h hlL hlq (fun w3 hf h => ?_) fun w3 h => ?_
  case refine_2 =>
    rw [un_not, Bool.not_false, ifB_true]
    exact fin _ _ h
  rw [un_not, Bool.not_true, ifB_false]
  have h := h.tick
  rw [h.ldAg 0 rfl ag_api_Config rfl]
  refine h.make (fun B2 own base2 => known_m) fun u τ w4 hp h => ?_
  subst hp
  have h : Rel (lawB W) w4 [cellD cb T_api_Config c.cs.toArray, knownD u knS] := h
  refine ⟨h.isAg 0 rfl ag_api_Config rfl, ?_⟩
  refine h.make (fun B2 own base2 => New_m c (own (i := 1) rfl) knS_few) fun x τ w5 hp h => ?_
  rcases hp with ⟨hc, p, rfl, rfl⟩ | ⟨hn, rfl, rfl⟩
  case inr =>
    have h := h.pick [0] (by decide)
    have h : Rel (lawB W) w5 [cellD cb T_api_Config c.cs.toArray] := h
    have h := h.tick
    rw [h.ldAg 0 rfl ag_api_Config rfl]
    refine h.make (fun B2 own base2 => known_m) fun u2 τ w6 hp h => ?_
    subst hp
    have h : Rel (lawB W) w6 [cellD cb T_api_Config c.cs.toArray, knownD u2 knS] := h
    refine ⟨h.isAg 0 rfl ag_api_Config rfl, ?_⟩
    refine h.make (fun B2 own base2 => fNew_m c (own (i := 1) rfl)) fun x2 τ w7 hp h => ?_
    rcases hp with ⟨hc, _⟩ | ⟨_, rfl, rfl⟩
    · exact absurd hc hn
    have h := h.pick [0] (by decide)
    have h : Rel (lawB W) w7 [cellD cb T_api_Config c.cs.toArray] := h
    rw [nil_nn, rfnil_nn, bin_neq_bool U_bool, beq_self_eq_true, Bool.not_true, ifB_false]
    have h := h.tick
    simp -zeta only [h.ldAg 0 rfl ag_api_Config rfl]
    refine h.ask (fun B2 own base2 => cRight_g c) fun w8 h => ?_
    refine ⟨h.isAg 0 rfl ag_api_Config rfl, ?_⟩
    refine h.ask (fun B2 own base2 => fCfg_g c) fun w9 h => ?_
    rw [bin_neq_bool U_bool, beq_self_eq_true, Bool.not_true, ifB_false]
    refine LETJ_intro fun J hJ => ?_
    replace hJ : ∀ w' σ, Rel (lawB W) w' σ → J () w' := fun w' σ h => hJ _ _ (fin _ _ h)
    refine LOOP_intro (fun x w' => ∃ i : Nat, x = (.int .i64 i, ()) ∧ Rel (lawB W) w' [cellD cb T_api_Config c.cs.toArray]) (fun x _ => 0) ⟨0, rfl, h⟩ ?_
    clear h
    rintro x w8 ⟨i, rfl, h⟩ next hnext
    simp -zeta only [rowR.len r sl_s_api_Entry, bin_lss, ifB_dec]
    exact ⟨fun _ => by rw [nil_nn, ifB_false]; exact hJ _ _ h, fun _ => hJ _ _ h⟩
  have h := h.pick [0, 2] (by decide)
  have h : Rel (lawB W) w5 [cellD cb T_api_Config c.cs.toArray, intD p (newS c knS)] := h
  have h := h.tick
  rw [h.ldAg 0 rfl ag_api_Config rfl]
  refine h.make (fun B2 own base2 => known_m) fun u2 τ w6 hp h => ?_
  subst hp
  have h : Rel (lawB W) w6 [cellD cb T_api_Config c.cs.toArray, intD p (newS c knS), knownD u2 knS] := h
  refine ⟨h.isAg 0 rfl ag_api_Config rfl, ?_⟩
  refine h.make (fun B2 own base2 => fNew_m c (own (i := 2) rfl)) fun x2 τ w7 hp h => ?_
  rcases hp with ⟨_, p2, rfl, kv, rfl, rfl⟩ | ⟨hn, _⟩
  case inr => exact absurd hc hn
  have h : Rel (lawB W) w7 [cellD cb T_api_Config c.cs.toArray, intD p (newS c knS), knownD kv.1 knS, cellD p2 T_errataref11_Intake (rcs (newS c knS) kv nilSV nilSV)] := h
  have h := own_of (d := rowR nilSV.1 ([] : List CoD)) (τ := []) (σ := [cellD cb T_api_Config c.cs.toArray, intD p (newS c knS), knownD kv.1 knS, cellD p2 T_errataref11_Intake (rcs (newS c knS) kv nilSV nilSV)]) (fun B _ => ⟨none, 0, rfl, Nat.le_refl _, .inl rfl⟩) (by rw [List.append_nil]; exact h)
  have h := nilTab [] _ _ _ (by rw [List.append_nil]; exact h)
  have h := h.pick [0, 1, 3, 4, 2, 5] (by decide)
  have h : Rel (lawB W) w7 ([cellD cb T_api_Config c.cs.toArray, intD p (newS c knS)] ++ [cellD p2 T_errataref11_Intake (rcs (newS c knS) kv nilSV nilSV), rowR nilSV.1 ([] : List CoD), knownD kv.1 knS, tabD nilSV.1 []]) := h
  have h := refD.closeL (s := newS c knS) LOk.nil h
  have h : Rel (lawB W) w7 [cellD cb T_api_Config c.cs.toArray, intD p (newS c knS), refD p2 (newS c knS)] := h
  rw [int_nn, rf_nn, bin_neq_bool U_bool, beq_self_eq_true, Bool.not_true, ifB_false]
  have h := h.tick
  simp -zeta only [h.ldAg 0 rfl ag_api_Config rfl]
  refine h.ask (fun B2 own base2 => cRight_g c) fun w8 h => ?_
  refine ⟨h.isAg 0 rfl ag_api_Config rfl, ?_⟩
  refine h.ask (fun B2 own base2 => fCfg_g c) fun w9 h => ?_
  rw [bin_neq_bool U_bool, beq_self_eq_true, Bool.not_true, ifB_false]
  refine LETJ_intro fun J hJ => ?_
  replace hJ : ∀ w' σ, Rel (lawB W) w' σ → J () w' := fun w' σ h => hJ _ _ (fin _ _ h)
  clear fin
  have hl120 := hf.len
  refine LOOP_intro (fun x w' => ∃ (i : Nat) (y : IS), i ≤ L.length ∧ x = (.int .i64 i, ()) ∧ LiveT c y i ∧ Rel (lawB W) w' [cellD cb T_api_Config c.cs.toArray, intD p y, refD p2 y]) (fun x _ => L.length - (match x.1 with | .int _ n => n.toNat | _ => 0))
    ⟨0, newS c knS, Nat.zero_le _, rfl, LiveT.start hc, h⟩ ?_
  clear h
  rintro x w10 ⟨i, y, hi, rfl, hy, h⟩ next hnext
  simp -zeta only [rowR.len r sl_s_api_Entry, bin_lss, ifB_dec]
  rw [hal]
  refine ⟨fun hlt => ?_, fun hge => hJ _ _ h⟩
  rw [int_nn, ifB_true, rf_nn, ifB_true]
  clear hJ
  have hil : i < L.length := by omega
  refine LETJ_intro fun J2 hJ2 => ?_
  replace hJ2 : ∀ (y : IS) w', LiveT c y i → Rel (lawB W) w' [cellD cb T_api_Config c.cs.toArray, intD p y, refD p2 y] → J2 () w' := by
    intro y w' hy h
    refine hJ2 _ _ ?_
    clear hJ2
    have hyn := hy.next
    have hyr := hy.refused
    obtain ⟨go, oo, hx, hcl⟩ := rowR.idx r sl_s_api_Entry (P := Tryz.prog) (i := i) (by omega)
    have hel : (eraws L)[i]'(by omega) = L[i].1 := by simp [eraws]
    rw [hel] at hcl
    have hcl : cellsR go oo L[i].1.cs (lawB W) := hcl
    have hrow := q L[i] (List.getElem_mem hil)
    have hrl : L[i].2.length ≤ 4611686018427387904 := by have := (hf.each L[i] (List.getElem_mem hil)).1; omega
    generalize L[i] = en at hcl hrow hrl
    obtain ⟨e, rw_⟩ := en
    simp only at hcl hrow hrl
    simp -zeta only [hx, cellsR.ldAg (h.hereB hcl) ag_api_Entry rfl]
    refine h.ask (fun B2 own base2 => check_g (en := e) (own (i := 1) rfl) hy.good (by omega) (by omega) hy.few (base2 hrow) hrl hy.kl) fun w11 h => ?_
    simp -zeta only [ext_2_0, ext_2_1, cellsR.ldAg (h.hereB hcl) ag_api_Entry rfl]
    refine h.act 1 rfl (fun B2 own base2 => apply_d (en := e) hy.good (by omega) (by omega) (base2 hrow) hrl hy.kl) fun u e' τ w12 hp h => ?_
    obtain ⟨rfl, rfl, rfl⟩ := hp
    simp -zeta only [ext_2_0, ext_2_1, cellsR.ldAg (h.hereB hcl) ag_api_Entry rfl]
    refine h.act 2 rfl (fun B2 own base2 => fApply_d (en := e) hy.good hy.fin.keys (by omega) (by omega) (base2 hrow) hrl hy.kl) fun u e' τ w13 hp h => ?_
    obtain ⟨rfl, rfl, rfl⟩ := hp
    have hz := hy.step (by omega) e rw_
    generalize hA : applyS y e rw_ = A at *
    obtain ⟨⟨a1, a2⟩, z⟩ := A
    simp only at hz
    have h : Rel (lawB W) w13 ([cellD cb T_api_Config c.cs.toArray, intD p z] ++ [refD p2 z]) := h
    obtain ⟨kv2, pv2, lv2, l2, hk2, h⟩ := refD.openL h
    have h : Rel (lawB W) w13 [cellD cb T_api_Config c.cs.toArray, intD p z, cellD p2 T_errataref11_Intake (rcs z kv2 pv2 lv2), rowR lv2.1 l2, knownD kv2.1 z.known, tabD pv2.1 z.prods] := h
    have h := h.tick
    have hfit := hz.fit
    have hll := hk2.len hfit.keys hfit.cfg
    simp -zeta only [ext_2_0, ext_2_1, bin_neq, decide_true, Bool.not_true, ifB_false, nil_ptr, field_addr f_errataref11_Intake_2, field_addr f_errataref11_Intake_3, field_addr f_errataref11_Intake_4, field_addr f_errataref11_Intake_5, field_addr f_errataref11_Intake_6, Nat.zero_add, h.ld 2 rfl sc_int (o := 7) (v := .int .i64 z.now) rfl]
    refine h.ask (fun B2 own base2 => iNow_g (own (i := 1) rfl)) fun w16 h => ?_
    refine ⟨h.is 2 rfl sc_int (o := 7) rfl, ?_⟩
    simp -zeta only [bin_neq, decide_true, Bool.not_true, ifB_false, h.ld 2 rfl sc_int (o := 8) (v := .int .i64 z.top) rfl]
    refine h.ask (fun B2 own base2 => iTop_g (own (i := 1) rfl)) fun w17 h => ?_
    refine ⟨h.is 2 rfl sc_int (o := 8) rfl, ?_⟩
    simp -zeta only [bin_neq, decide_true, Bool.not_true, ifB_false]
    refine h.ask (fun B2 own base2 => iClosed_g (own (i := 1) rfl) hz.good) fun w18 h => ?_
    refine h.ask (fun B2 own base2 => fClosed_c (own (i := 2) rfl) hz.good.cfg hz.good.top) fun w19 h => ?_
    simp -zeta only [bin_neq, decide_true, Bool.not_true, ifB_false]
    refine h.ask (fun B2 own base2 => iMark_g (own (i := 1) rfl) hz.good) fun w20 h => ?_
    refine ⟨h.is 2 rfl sc_int (o := 7) rfl, ?_⟩
    refine h.ask (fun B2 own base2 => fMark_c (own (i := 2) rfl) hz.good.cfg hz.good.top) fun w21 h => ?_
    refine ⟨h.is 2 rfl sc_int (o := 7) rfl, ?_⟩
    simp -zeta only [bin_neq, decide_true, Bool.not_true, ifB_false, h.ld 2 rfl sc_int (o := 9) (v := .int .i64 z.next) rfl]
    refine h.ask (fun B2 own base2 => iNext_g (own (i := 1) rfl)) fun w22 h => ?_
    refine ⟨h.is 2 rfl sc_int (o := 9) rfl, h.is 2 rfl sc_int (o := 8) rfl, h.is 2 rfl sc_int (o := 7) rfl, ?_⟩
    simp -zeta only [bin_neq, decide_true, Bool.not_true, ifB_false, h.ld 2 rfl sc_int (o := 10) (v := .int .i64 z.refused) rfl]
    refine h.ask (fun B2 own base2 => iRefused_g (own (i := 1) rfl)) fun w23 h => ?_
    refine ⟨h.is 2 rfl sc_int (o := 10) rfl, h.is 2 rfl sc_int (o := 8) rfl, h.is 2 rfl sc_int (o := 7) rfl, ?_⟩
    have h := h.tick
    simp -zeta only [bin_neq, decide_true, Bool.not_true, ifB_false, hx, field_addr f_api_Entry_6, cellsR.ld (h.hereB hcl) sc_int (j := 6) (v := .int .i64 e.time) rfl]
    refine h.ask (fun B2 own base2 => iCount_g (own (i := 1) rfl) e.time) fun w24 h => ?_
    refine ⟨cellsR.is (h.hereB hcl) sc_int (j := 6) rfl, ?_⟩
    refine h.ask (fun B2 own base2 => fCount_c (own (i := 2) rfl) (own (i := 3) rfl) hk2 (by omega) e.time) fun w25 h => ?_
    simp -zeta only [bin_neq, decide_true, Bool.not_true, ifB_false]
    refine h.ask (fun B2 own base2 => iBytes_g (base2 hB) (own (i := 1) rfl) hfit) fun w26 h => ?_
    refine h.ask (fun B2 own base2 => fBytes11_c hk2 (own (i := 2) rfl) (own (i := 3) rfl) (own (i := 5) rfl) hfit) fun w27 h => ?_
    rw [neqS, decide_eq_true rfl, Bool.not_true, ifB_false, h.ld 2 rfl sc_s_api_Producer (o := 11) (v := pv2.1) rfl]
    refine h.make (fun B2 own base2 => Producers_m (own (i := 1) rfl) hfit.prods) fun tv τ w28 hp h => ?_
    have h := hp _ _ _ h
    have h : Rel (lawB W) w28 [cellD cb T_api_Config c.cs.toArray, intD p z, cellD p2 T_errataref11_Intake (rcs z kv2 pv2 lv2), rowR lv2.1 l2, knownD kv2.1 z.known, tabD pv2.1 z.prods, tabD tv z.prods] := h
    refine ⟨h.is 2 rfl sc_s_api_Producer (o := 11) rfl, ?_⟩
    refine h.ask (fun B2 own base2 => fSameD (own (i := 6) rfl) (own (i := 5) rfl) hfit.prods) fun w29 h => ?_
    rw [un_not, Bool.not_true, ifB_false, bin_add, wrap_id (by omega) (by omega)]
    have h := h.take 6
    have h := refD.closeL (σ := [cellD cb T_api_Config c.cs.toArray, intD p z]) hk2 h
    exact hnext _ _ ⟨i + 1, z, hil, rfl, hz, h⟩ (by simp only; omega)
  clear hnext
  rw [bin_quo (by decide), bin_eql, ifB_dec]
  refine ⟨fun _ => ?_, fun _ => hJ2 y _ hy h⟩
  refine h.make (fun B2 own base2 => known_m) fun u3 τ w11 hp h => ?_
  subst hp
  have h : Rel (lawB W) w11 [cellD cb T_api_Config c.cs.toArray, intD p y, refD p2 y, knownD u3 knS] := h
  have hone : 1 ≤ knS.length := by decide
  rw [knownD.cutE (h.here (i := 3) rfl) hone]
  have h := h.imp (i := 3) (e := knownD (cutV (Enc.sz KnD) u3 0 1) (knS.take 1)) rfl fun B hB => knownD.cut hB hone
  have h := h.pick [0, 2, 3, 1] (by decide)
  have h : Rel (lawB W) w11 ([cellD cb T_api_Config c.cs.toArray, refD p2 y, knownD (cutV (Enc.sz KnD) u3 0 1) (knS.take 1)] ++ [intD p y]) := h
  obtain ⟨kv, pv, m, ml, mc, hmk, h⟩ := intD.openL h
  have h : Rel (lawB W) w11 [cellD cb T_api_Config c.cs.toArray, refD p2 y, knownD (cutV (Enc.sz KnD) u3 0 1) (knS.take 1), cellD p T_intake_Intake (ics y kv pv m), mapE m ml mc, knownD kv.1 y.known, tabD pv.1 y.prods] := h
  have hfew : FewK (knS.take 1) := hy.know.few
  refine h.act 3 rfl (fun B2 own base2 => Know_d (own (j := 2) (by decide) rfl) hfew) fun x e' τ w12 hp h => ?_
  obtain ⟨rfl, ku, rfl, hown⟩ := hp
  have h := hown _ _ _ h
  have h := h.pick [0, 1, 3, 4, 7, 6] (by decide)
  have h : Rel (lawB W) w12 ([cellD cb T_api_Config c.cs.toArray, refD p2 y] ++ [cellD p T_intake_Intake (ics (knowS y (knS.take 1)) ku pv m), mapE m ml mc, knownD ku.1 (knS.take 1), tabD pv.1 y.prods]) := h
  have h := intD.closeL (s := knowS y (knS.take 1)) hmk h
  have h : Rel (lawB W) w12 [cellD cb T_api_Config c.cs.toArray, refD p2 y, intD p (knowS y (knS.take 1))] := h
  refine h.make (fun B2 own base2 => known_m) fun u4 τ w13 hp h => ?_
  subst hp
  have h : Rel (lawB W) w13 [cellD cb T_api_Config c.cs.toArray, refD p2 y, intD p (knowS y (knS.take 1)), knownD u4 knS] := h
  rw [knownD.cutE (h.here (i := 3) rfl) hone]
  have h := h.imp (i := 3) (e := knownD (cutV (Enc.sz KnD) u4 0 1) (knS.take 1)) rfl fun B hB => knownD.cut hB hone
  have h := h.pick [0, 2, 3, 1] (by decide)
  have h : Rel (lawB W) w13 ([cellD cb T_api_Config c.cs.toArray, intD p (knowS y (knS.take 1)), knownD (cutV (Enc.sz KnD) u4 0 1) (knS.take 1)] ++ [refD p2 y]) := h
  obtain ⟨kv2, pv2, lv2, l2, hk2, h⟩ := refD.openL h
  have h : Rel (lawB W) w13 [cellD cb T_api_Config c.cs.toArray, intD p (knowS y (knS.take 1)), knownD (cutV (Enc.sz KnD) u4 0 1) (knS.take 1), cellD p2 T_errataref11_Intake (rcs y kv2 pv2 lv2), rowR lv2.1 l2, knownD kv2.1 y.known, tabD pv2.1 y.prods] := h
  have h1 : (cutV (Enc.sz KnD) u4 0 1).oneCell' = true := knownD.oneCell (h.here (i := 2) rfl)
  rw [nil_ptr, field_addr f_errataref11_Intake_1, Nat.zero_add]
  refine h.st 3 rfl sc_s_api_Known (show 6 < 13 by omega) h1 fun w14 h => ?_
  have h := h.pick [0, 1, 3, 4, 2, 6] (by decide)
  have h : Rel (lawB W) w14 ([cellD cb T_api_Config c.cs.toArray, intD p (knowS y (knS.take 1))] ++ [cellD p2 T_errataref11_Intake (rcs (knowS y (knS.take 1)) ⟨_, h1⟩ pv2 lv2), rowR lv2.1 l2, knownD (cutV (Enc.sz KnD) u4 0 1) (knS.take 1), tabD pv2.1 y.prods]) := h
  have h := refD.closeL (s := knowS y (knS.take 1)) hk2 h
  exact hJ2 _ _ hy.know h
end Go.Proofs.YtefinemhfgdpdaaGreatDoor
