/-
  The reference of chapter 11: its parts in memory, its readers, put. No condition.
-/
import Derived.Test.YtefinemhfgdpdaaGreatDoorIntV
namespace Go.Proofs.YtefinemhfgdpdaaGreatDoor
open Go.RowKit
set_option maxRecDepth 100000

abbrev rcs (s : IS) (kv pv lv : SV) : Array Value := #[.int .i64 s.cfg.parts, .int .i64 s.cfg.delay, .int .i64 s.cfg.late, .int .i64 s.cfg.ahead, .int .i64 s.cfg.rate, .int .i64 s.cfg.span, kv.1, .int .i64 s.now, .int .i64 s.top, .int .i64 s.next, .int .i64 s.refused, pv.1, lv.1]
abbrev RX := (SV × SV) × (SV × List CoD)
abbrev rparts (p : Nat) (s : IS) (x : RX) : List Dat := [cellD p T_errataref11_Intake (rcs s x.1.1 x.1.2 x.2.1), rowR x.2.1.1 x.2.2, knownD x.1.1.1 s.known, tabD x.1.2.1 s.prods]
def refD (p : Nat) (s : IS) : Dat := Dat.ex fun x : RX => (Dat.pure (LOk s.cnt x.2.2)).and (stars (rparts p s x))
section
variable {B : Base} {w : World} {p : Nat} {s : IS} {σ : List Dat}
theorem refD.openL (h : Rel B w (σ ++ [refD p s])) : ∃ kv pv lv l, LOk s.cnt l ∧ Rel B w (σ ++ [cellD p T_errataref11_Intake (rcs s kv pv lv), rowR lv.1 l, knownD kv.1 s.known, tabD pv.1 s.prods]) := by
  obtain ⟨x, h⟩ := h.ex (i := σ.length) get_last
  rw [List.set_append_right _ _ (Nat.le_refl _), Nat.sub_self, List.set_cons_zero] at h
  obtain ⟨h1, h⟩ := h.pureAnd (i := σ.length) get_last
  rw [List.set_append_right _ _ (Nat.le_refl _), Nat.sub_self, List.set_cons_zero] at h
  have h := Rel.unstars (L := rparts p s x) h
  exact ⟨_, _, _, _, h1, h⟩
theorem refD.closeL {kv pv lv : SV} {l : List CoD} (hc : LOk s.cnt l) (h : Rel B w (σ ++ [cellD p T_errataref11_Intake (rcs s kv pv lv), rowR lv.1 l, knownD kv.1 s.known, tabD pv.1 s.prods])) : Rel B w (σ ++ [refD p s]) :=
  own_of (τ := rparts p s ((kv, pv), (lv, l))) (fun B hB => ⟨((kv, pv), (lv, l)), hc, hB⟩) h
theorem refD.peek (h : refD p s B) : ∃ kv pv lv l, LOk s.cnt l ∧ cellD p T_errataref11_Intake (rcs s kv pv lv) B ∧ rowR lv.1 l B ∧ knownD kv.1 s.known B ∧ tabD pv.1 s.prods B := by
  obtain ⟨x, h1, h3⟩ := h
  exact ⟨_, _, _, _, h1, Dat.star.left h3, Dat.star.left (Dat.star.right h3), Dat.star.left (Dat.star.right (Dat.star.right h3)), Dat.star.left (Dat.star.right (Dat.star.right (Dat.star.right h3)))⟩
theorem fCfg_g (c : CfD) : Gives Tryz.prog B (sCall F_errataref11_Right #[.agg c.cs.toArray]) (.bool (decide (RightC c))) := by
  refine Gives.intro fun B' w K base h k => ?_
  refine errataref11_Right.up (errataref11_Right.call ?_)
  unfold errataref11_Right.pt
  have no : ∀ w' τ, Rel B' w' τ → ¬ RightC c → K (.bool false) w' := fun w' τ h hn => by rw [decide_eq_false hn] at k; exact k _ _ h
  refine h.box fun o w1 h => ?_
  have h : Rel B' w1 [cellD o T_api_Config c.cs.toArray] := h
  simp -zeta only [field_addr f_api_Config_1, field_addr f_api_Config_2, field_addr f_api_Config_3, field_addr f_api_Config_4, Nat.add_zero, Nat.zero_add, h.ld 0 rfl sc_int (o := 1) rfl, h.ld 0 rfl sc_int (o := 2) rfl, h.ld 0 rfl sc_int (o := 3) rfl, h.ld 0 rfl sc_int (o := 4) rfl, bin_geq, bin_leq, ifB_dec]
  refine ⟨fun c1 => ?_, fun c1 => no _ _ h fun hh => c1 hh.delay.1⟩
  refine ⟨fun c2 => ?_, fun c2 => no _ _ h fun hh => c2 hh.delay.2⟩
  refine ⟨fun c3 => ?_, fun c3 => no _ _ h fun hh => c3 hh.late.2⟩
  refine ⟨fun c4 => ?_, fun c4 => no _ _ h fun hh => c4 hh.ahead.1⟩
  refine ⟨fun c5 => ?_, fun c5 => no _ _ h fun hh => c5 hh.ahead.2⟩
  refine ⟨fun c6 => ?_, fun c6 => no _ _ h fun hh => c6 hh.rate.1⟩
  have c1 : 0 ≤ c.delay := c1
  have c2 : c.delay ≤ c.late := c2
  have e : decide (RightC c) = decide (c.rate ≤ 20) := decide_eq_decide.2 ⟨fun hh => hh.rate.2, fun hh => ⟨⟨by omega, c3⟩, ⟨c1, c2⟩, ⟨c4, c5⟩, ⟨c6, hh⟩⟩⟩
  rw [e] at k
  exact k _ _ h
theorem bd_fnew {K : Value → Prop} {c : CfD} {a : Option Addr} {n m : Nat} : pureK Tryz.prog (sBuild T_errataref11_Intake #[(0, .agg c.cs.toArray), (1, .slice a n m), (3, .int .i64 (-1))]) K = K (.agg (rcs (newS c []) ⟨.slice a n m, rfl⟩ nilSV nilSV)) := pureK_eq fun w => by kernel_rfl
theorem fNew_m (c : CfD) {v : Value} {ks : List Kn} (hk : knownD v ks B) : Makes Tryz.prog B (sCall F_errataref11_New #[.agg c.cs.toArray, v]) fun u τ => (RightC c ∧ ∃ p, u = ptrI p ∧ ∃ kv : SV, kv.1 = v ∧ τ = [cellD p T_errataref11_Intake (rcs (newS c ks) kv nilSV nilSV)]) ∨ (¬ RightC c ∧ u = .pointer none ∧ τ = []) := by
  refine Makes.intro fun B' w K base h k => ?_
  obtain ⟨L, _, ⟨a, cap, rfl, _⟩, _⟩ := base hk
  refine errataref11_New.up (errataref11_New.call ?_)
  unfold errataref11_New.pt
  refine h.box fun o w1 h => ?_
  have h : Rel B' w1 [cellD o T_api_Config c.cs.toArray] := h
  rw [h.ldAg 0 rfl ag_api_Config rfl]
  refine h.ask (fun B2 own base2 => fCfg_g c) fun w2 h => ?_
  rw [un_not, ifB_not, ifB_dec]
  refine ⟨fun hc => ?_, fun hc => k _ _ _ (.inr ⟨hc, rfl, rfl⟩) h.nil⟩
  rw [h.ldAg 0 rfl ag_api_Config rfl, bd_fnew]
  refine h.box fun p w3 h => ?_
  have h := h.pick [1] (by decide)
  exact k _ _ _ (.inl ⟨hc, p, rfl, ⟨_, rfl⟩, rfl, rfl⟩) h
variable {kv pv lv : SV} {l : List CoD}
theorem fClosed_c (hc : cellD p T_errataref11_Intake (rcs s kv pv lv) B) (hg : RightC s.cfg) (ht : -1 ≤ s.top ∧ s.top ≤ 1099511627776) : Gives Tryz.prog B (sCall F_errataref11_Intake_Closed #[ptrI p]) (.int .i64 (closedS s)) := by
  refine Gives.intro fun B' w K base h k => ?_
  replace hc := base hc
  refine errataref11_Intake_Closed.up (errataref11_Intake_Closed.call ?_)
  unfold errataref11_Intake_Closed.pt
  have h := h.tick
  have h1 := hg.late
  simp -zeta only [nil_ptr, field_addr f_errataref11_Intake_3, field_addr f_errataref11_Intake_0, field_addr f_api_Config_2, Nat.zero_add, cellD.ld (h.hereB hc) sc_int (o := 8) rfl, cellD.ld (h.hereB hc) sc_int (o := 2) rfl, bin_sub, blt_max]
  rw [wrap_id (n := s.top - s.cfg.late) (by omega) (by omega), wrap_id (by omega) (by omega)]
  exact k _ _ h
theorem fMark_c (hc : cellD p T_errataref11_Intake (rcs s kv pv lv) B) (hg : RightC s.cfg) (ht : -1 ≤ s.top ∧ s.top ≤ 1099511627776) : Gives Tryz.prog B (sCall F_errataref11_Intake_Mark #[ptrI p]) (.int .i64 (markS s)) := by
  refine Gives.intro fun B' w K base h k => ?_
  replace hc := base hc
  refine errataref11_Intake_Mark.up (errataref11_Intake_Mark.call ?_)
  unfold errataref11_Intake_Mark.pt
  have h := h.tick
  have h1 := hg.late
  have h2 := hg.delay
  simp -zeta only [nil_ptr, field_addr f_errataref11_Intake_3, field_addr f_errataref11_Intake_0, field_addr f_api_Config_1, Nat.zero_add, cellD.ld (h.hereB hc) sc_int (o := 8) rfl, cellD.ld (h.hereB hc) sc_int (o := 1) rfl, bin_sub, blt_max]
  rw [wrap_id (n := s.top - s.cfg.delay) (by omega) (by omega), wrap_id (by omega) (by omega)]
  exact k _ _ h
theorem fCount_c {cnt : Int → Int} (hc : cellD p T_errataref11_Intake (rcs s kv pv lv) B) (hr : rowR lv.1 l B) (hk : LOk cnt l) (hll : l.length ≤ 1000000) (t : Int) : Gives Tryz.prog B (sCall F_errataref11_Intake_Count #[ptrI p, .int .i64 t]) (.int .i64 (cnt t)) := by
  refine Gives.intro fun B' w K base h k => ?_
  replace hc := base hc
  replace hr := base hr
  refine errataref11_Intake_Count.up (errataref11_Intake_Count.call ?_)
  unfold errataref11_Intake_Count.pt
  refine LOOP_intro (fun x w' => ∃ i : Nat, i ≤ l.length ∧ x = (.int .i64 i, ()) ∧ (∀ j (hj : j < l.length), j < i → l[j].time ≠ t) ∧ Rel B' w' []) (fun x _ => l.length - (match x.1 with | .int _ n => n.toNat | _ => 0))
    ⟨0, Nat.zero_le _, rfl, fun j _ hj => absurd hj (Nat.not_lt_zero j), h⟩ ?_
  clear h
  rintro x w1 ⟨i, hi, rfl, hin, h⟩ next hnext
  simp -zeta only [nil_ptr, field_addr f_errataref11_Intake_7, Nat.zero_add, cellD.ld (h.hereB hc) sc_s_errataref11_Count (o := 12) (v := lv.1) rfl, rowR.len hr sl_s_errataref11_Count, bin_lss, ifB_dec]
  refine ⟨fun hlt => ?_, fun hge => ?_⟩
  · have hil : i < l.length := by omega
    obtain ⟨g, o, hx, hcl⟩ := rowR.idx hr sl_s_errataref11_Count (P := Tryz.prog) hil
    have hcl : cellsR g o l[i].cs B' := hcl
    simp -zeta only [hx, field_addr f_errataref11_Count_0, field_addr f_errataref11_Count_1, Nat.add_zero, cellsR.ld0 (h.hereB hcl) sc_int (v := .int .i64 l[i].time) rfl, cellsR.ld (h.hereB hcl) sc_int (j := 1) (v := .int .i64 l[i].n) rfl, bin_eql, ifB_dec]
    refine ⟨fun c => ?_, fun c => ?_⟩
    · rw [hk.find hil, c]
      exact k _ _ h
    · rw [bin_add, wrap_id (by omega) (by omega)]
      refine hnext _ _ ⟨i + 1, hil, rfl, fun j hj hji => ?_, h⟩ (by simp only; omega)
      by_cases e : j = i
      · subst e; exact c
      · exact hin j hj (by omega)
  · have e : cnt t = 0 := hk.none fun j hj => hin j hj (by omega)
    rw [e] at k
    exact k _ _ h
set_option maxHeartbeats 1000000 in
theorem fFits_c (hc : cellD p T_errataref11_Intake (rcs s kv pv lv) B) (hkn : knownD kv.1 s.known B) {en : EnD} {r : List ValD} (hr : rowR en.row.1 r B) (hrl : r.length ≤ 4611686018427387904) (hkl : s.known.length ≤ 4611686018427387904) :
    Gives Tryz.prog B (sCall F_errataref11_Intake_fits #[ptrI p, en.v]) (.int .i64 (fitsS s.known en.source en.schema r)) := by
  refine Gives.intro fun B' w K base h k => ?_
  replace hc := base hc
  replace hr := base hr
  obtain ⟨L, hL, rk, rc⟩ := base hkn
  have hal : (kraws L).length = L.length := List.length_map ..
  have hll : L.length ≤ 4611686018427387904 := by rw [← hL, List.length_map] at hkl; exact hkl
  refine errataref11_Intake_fits.up (errataref11_Intake_fits.call ?_)
  unfold errataref11_Intake_fits.pt
  refine h.box fun o w1 h => ?_
  have h : Rel B' w1 [cellD o T_api_Entry en.cs.toArray] := h
  unfold fitsS at k
  refine LOOP_intro (fun x w' => ∃ i : Nat, i ≤ L.length ∧ x = (.int .i64 i, ()) ∧ (∀ j (hj : j < L.length), j < i → knOf en.source en.schema L[j].1 = false) ∧ Rel B' w' [cellD o T_api_Entry en.cs.toArray]) (fun x _ => L.length - (match x.1 with | .int _ n => n.toNat | _ => 0))
    ⟨0, Nat.zero_le _, rfl, fun j _ hj => absurd hj (Nat.not_lt_zero j), h⟩ ?_
  clear h
  rintro x w2 ⟨i, hi, rfl, hin, h⟩ next hnext
  simp -zeta only [nil_ptr, field_addr f_errataref11_Intake_1, Nat.zero_add, cellD.ld (h.hereB hc) sc_s_api_Known (o := 6) (v := kv.1) rfl, rowR.len rk sl_s_api_Known]
  rw [hal]
  simp -zeta only [bin_lss, ifB_dec]
  refine ⟨fun hlt => ?_, fun hge => ?_⟩
  · have hil : i < L.length := by omega
    obtain ⟨g, oo, hx, hcc⟩ := rowR.idx rk sl_s_api_Known (P := Tryz.prog) (i := i) (by omega)
    rw [show (kraws L)[i]'(by omega) = L[i].1.raw L[i].2 by simp [kraws]] at hcc
    have hcc : cellsR g oo (L[i].1.raw L[i].2).cs B' := hcc
    have hcol : rowR L[i].2.1 L[i].1.cols B' := rc L[i] (List.getElem_mem hil)
    refine LETJ_intro fun J hJ => ?_
    replace hJ : knOf en.source en.schema L[i].1 = false → ∀ w' τ, Rel B' w' (cellD o T_api_Entry en.cs.toArray :: τ) → J () w' := by
      intro hn w' τ h
      refine hJ _ _ ?_
      rw [bin_add, wrap_id (by omega) (by omega)]
      refine hnext _ _ ⟨i + 1, hil, rfl, fun j hj hji => ?_, h.take 1⟩ (by simp only; omega)
      by_cases e : j = i
      · subst e; exact hn
      · exact hin j hj (by omega)
    clear hnext
    have hfind : knOf en.source en.schema L[i].1 = true → s.known.find? (knOf en.source en.schema) = some L[i].1 := fun hy => by
      rw [← hL, List.find?_eq_some_iff_getElem]
      refine ⟨hy, i, by rw [List.length_map]; exact hil, by simp, fun j hj => ?_⟩
      have := hin j (by omega) hj
      simp [this]
    generalize L[i].1 = kn at *
    generalize L[i].2 = cv at *
    simp -zeta only [hx, cellsR.ldAg (h.hereB hcc) ag_api_Known rfl]
    refine h.allocAg (ds := (kn.raw cv).cs.toArray) z_api_Known rfl ag_api_Known rfl (fun v hv => Enc.one (kn.raw cv) v hv) fun a w5 h => ?_
    have h : Rel B' w5 [cellD o T_api_Entry en.cs.toArray, cellD a T_api_Known (kn.raw cv).cs.toArray] := h
    simp -zeta only [field_addr f_api_Known_0, field_addr f_api_Known_1, field_addr f_api_Known_2, field_addr f_api_Entry_4, field_addr f_api_Entry_5, field_addr f_api_Entry_7, Nat.add_zero, Nat.zero_add, h.ld 1 rfl sc_string (o := 0) rfl, h.ld 0 rfl sc_string (o := 4) rfl, h.ld 1 rfl sc_int (o := 1) rfl, h.ld 0 rfl sc_int (o := 5) rfl, neq_str, bin_neq, ifB_not, ifB_dec]
    refine ⟨fun c1 => ?_, fun c1 => hJ (by unfold knOf; rw [decide_eq_false c1, Bool.false_and]) _ _ h⟩
    refine ⟨fun c2 => ?_, fun c2 => hJ (by unfold knOf; rw [decide_eq_false c2, Bool.and_false]) _ _ h⟩
    rw [hfind (by unfold knOf; rw [decide_eq_true c1, decide_eq_true c2]; rfl)] at k
    simp only at k
    clear hJ hfind
    have bad : ¬ (kindsFit r kn.cols = true ∧ rowRight r = true) → ∀ w' τ, Rel B' w' τ → K (.int .i64 16) w' := fun hn w' τ h => by rw [if_neg hn] at k; exact k _ _ h
    simp -zeta only [h.ld 0 rfl sc_s_api_Value (o := 7) (v := en.row.1) rfl]
    refine h.ask (fun B2 own base2 => fRightRow_g (base2 hr) (by omega)) fun w6 h => ?_
    rw [un_not, ifB_not, ifB_bool]
    refine ⟨fun c3 => ?_, fun c3 => bad (fun hh => by rw [c3] at hh; cases hh.2) _ _ h⟩
    simp -zeta only [h.ld 0 rfl sc_s_api_Value (o := 7) (v := en.row.1) rfl, h.ld 1 rfl sc_s_api_Col (o := 2) (v := cv.1) rfl, rowR.len hr sl_s_api_Value, rowR.len hcol sl_s_api_Col, bin_neq, ifB_not, ifB_dec]
    have hne : ∀ j (h1 : j < r.length) (h2 : j < kn.cols.length), r[j].kind ≠ kn.cols[j].type_ → ¬ (kindsFit r kn.cols = true ∧ rowRight r = true) := fun j h1 h2 hn hh => by
      have he : r.map (·.kind) = kn.cols.map (·.type_) := of_decide_eq_true hh.1
      have : (r.map (·.kind))[j]'(by rw [List.length_map]; exact h1) = (kn.cols.map (·.type_))[j]'(by rw [List.length_map]; exact h2) := by simp only [he]
      simp only [List.getElem_map] at this
      exact hn this
    refine ⟨fun c4 => ?_, fun c4 => bad (fun hh => c4 (by have := congrArg List.length (of_decide_eq_true hh.1 : r.map (·.kind) = kn.cols.map (·.type_)); rw [List.length_map, List.length_map] at this; omega)) _ _ h⟩
    refine LOOP_intro (fun x w' => ∃ m : Nat, m ≤ kn.cols.length ∧ x = (.int .i64 m, ()) ∧ (∀ j (h1 : j < r.length) (h2 : j < kn.cols.length), j < m → r[j].kind = kn.cols[j].type_) ∧ Rel B' w' [cellD o T_api_Entry en.cs.toArray, cellD a T_api_Known (kn.raw cv).cs.toArray]) (fun x _ => kn.cols.length - (match x.1 with | .int _ n => n.toNat | _ => 0))
      ⟨0, Nat.zero_le _, rfl, fun j _ _ hj => absurd hj (Nat.not_lt_zero j), h⟩ ?_
    clear h
    rintro x w7 ⟨m, hm, rfl, him, h⟩ next hnext
    simp -zeta only [h.ld 1 rfl sc_s_api_Col (o := 2) (v := cv.1) rfl, rowR.len hcol sl_s_api_Col, bin_lss, ifB_dec]
    refine ⟨fun hlt => ?_, fun hge => ?_⟩
    · have hmc : m < kn.cols.length := by omega
      have hmr : m < r.length := by omega
      have h := h.tick
      obtain ⟨g1, o1, hx1, hc1⟩ := rowR.idx hr sl_s_api_Value (P := Tryz.prog) hmr
      obtain ⟨g2, o2, hx2, hc2⟩ := rowR.idx hcol sl_s_api_Col (P := Tryz.prog) hmc
      have hc1 : cellsR g1 o1 r[m].cs B' := hc1
      have hc2 : cellsR g2 o2 kn.cols[m].cs B' := hc2
      simp -zeta only [h.ld 0 rfl sc_s_api_Value (o := 7) (v := en.row.1) rfl, h.ld 1 rfl sc_s_api_Col (o := 2) (v := cv.1) rfl, hx1, hx2, field_addr f_api_Value_0, field_addr f_api_Col_1, Nat.add_zero, cellsR.ld0 (h.hereB hc1) sc_int (v := .int .i64 r[m].kind) rfl, cellsR.ld (h.hereB hc2) sc_int (j := 1) (v := .int .i64 kn.cols[m].type_) rfl, bin_neq, ifB_not, ifB_dec]
      refine ⟨fun c5 => ?_, fun c5 => bad (hne m hmr hmc c5) _ _ h⟩
      rw [bin_add, wrap_id (by omega) (by omega)]
      refine hnext _ _ ⟨m + 1, hmc, rfl, fun j h1 h2 hj => ?_, h⟩ (by simp only; omega)
      by_cases e : j = m
      · subst e; exact c5
      · exact him j h1 h2 (by omega)
    · have e : r.map (·.kind) = kn.cols.map (·.type_) := List.ext_getElem (by rw [List.length_map, List.length_map]; omega) fun j h1 h2 => by
        rw [List.length_map] at h1 h2
        simp only [List.getElem_map]
        exact him j h1 h2 (by omega)
      rw [if_pos ⟨decide_eq_true e, c3⟩] at k
      exact k _ _ h
  · have hf : s.known.find? (knOf en.source en.schema) = none := by
      rw [List.find?_eq_none, ← hL]
      intro x hx
      obtain ⟨y, hy, rfl⟩ := List.mem_map.1 hx
      obtain ⟨j, hj, rfl⟩ := List.getElem_of_mem hy
      rw [hin j hj (by omega)]
      decide
    rw [hf] at k
    exact k _ _ h
set_option maxHeartbeats 1000000 in
theorem fPut11_g (hI : refD p s B) (hg : GoodIS s) (hll : ∀ l : List CoD, LOk s.cnt l → l.length ≤ 1000000) {en : EnD} {r : List ValD} (hr : rowR en.row.1 r B) (hrl : r.length ≤ 4611686018427387904) (hkl : s.known.length ≤ 4611686018427387904) :
    Gives Tryz.prog B (sCall F_errataref11_Intake_put #[ptrI p, en.v]) (.tuple #[.int .i64 (putI s en r).1, .int .i64 (putI s en r).2]) := by
  refine Gives.intro fun B' w K base h k => ?_
  obtain ⟨kv, pv, lv, l, hk, hc, hlr, hkn, L, hL, rt, qt⟩ := refD.peek (base hI)
  replace hr := base hr
  refine errataref11_Intake_put.up (errataref11_Intake_put.call ?_)
  unfold errataref11_Intake_put.pt
  have fin : ∀ (x : Int × Int) w' τ, putI s en r = x → Rel B' w' τ → K (.tuple #[.int .i64 x.1, .int .i64 x.2]) w' := fun x w' τ e h => by rw [e] at k; exact k _ _ h
  clear k
  unfold putI at fin
  have hR : RightT (prs L) := by rw [hL]; exact hg.prods
  refine h.box fun o w1 h => ?_
  have h : Rel B' w1 [cellD o T_api_Entry en.cs.toArray] := h
  have h := h.tick
  simp -zeta only [nil_ptr, field_addr f_errataref11_Intake_6, Nat.zero_add, cellD.ld (h.hereB hc) sc_s_api_Producer (o := 11) (v := pv.1) rfl, h.ldAg 0 rfl ag_api_Entry rfl]
  refine h.ask (fun B2 own base2 => fLook_g (base2 rt) (base2 qt) hR en) fun w2 h => ?_
  rw [hL]
  simp -zeta only [ext_2_0, ext_2_1, bin_neq, ifB_not, ifB_dec]
  refine ⟨fun c0 => ?_, fun c0 => fin _ _ _ (by rw [if_pos c0]) h⟩
  rw [if_neg (fun hh => hh c0)] at fin
  simp -zeta only [field_addr f_api_Entry_6, Nat.zero_add, h.ld 0 rfl sc_int (o := 6) rfl, bin_lss, bin_gtr, ifB_dec]
  refine ⟨fun c1 => fin (0, 3) _ _ (by rw [if_pos (fun hh => by have := hh.1; omega)]) h, fun c1 => ?_⟩
  refine ⟨fun c2 => fin (0, 3) _ _ (by rw [if_pos (fun hh => by have := hh.2; omega)]) h, fun c2 => ?_⟩
  rw [if_neg (fun hh => hh ⟨by omega, by omega⟩)] at fin
  simp -zeta only [h.ldAg 0 rfl ag_api_Entry rfl]
  refine h.ask (fun B2 own base2 => fFits_c (base2 hc) (base2 hkn) (base2 hr) hrl hkl) fun w4 h => ?_
  rw [bin_neq, ifB_not, ifB_dec]
  refine ⟨fun c3 => ?_, fun c3 => fin (0, fitsS s.known en.source en.schema r) _ _ (by rw [if_pos c3]) h⟩
  rw [if_neg (fun hh => hh c3)] at fin
  have h := h.tick
  simp -zeta only [h.ld 0 rfl sc_int (o := 6) rfl]
  refine h.ask (fun B2 own base2 => fClosed_c (base2 hc) hg.cfg hg.top) fun w5 h => ?_
  refine ⟨h.is 0 rfl sc_int (o := 6) rfl, ?_⟩
  rw [bin_leq, ifB_dec]
  refine ⟨fun c4 => fin (0, 20) _ _ (by rw [if_pos c4]) h, fun c4 => ?_⟩
  rw [if_neg c4] at fin
  have h := h.tick
  have hn := hg.now
  have ha := hg.cfg.ahead
  have hw : IntKind.i64.wrap (s.now + s.cfg.ahead) = s.now + s.cfg.ahead := wrap_id (by omega) (by omega)
  simp -zeta only [h.ld 0 rfl sc_int (o := 6) rfl, nil_ptr, field_addr f_errataref11_Intake_2, field_addr f_errataref11_Intake_0, field_addr f_api_Config_3, Nat.zero_add, cellD.ld (h.hereB hc) sc_int (o := 7) rfl, cellD.ld (h.hereB hc) sc_int (o := 3) rfl, bin_add, hw, bin_gtr, ifB_dec]
  refine ⟨fun c5 => fin (0, 21) _ _ (by rw [if_pos c5]) h, fun c5 => ?_⟩
  rw [if_neg c5] at fin
  have h := h.tick
  simp -zeta only [h.ld 0 rfl sc_int (o := 6) rfl, field_addr f_api_Config_4, Nat.zero_add, cellD.ld (h.hereB hc) sc_int (o := 4) rfl]
  refine h.ask (fun B2 own base2 => fCount_c (base2 hc) (base2 hlr) hk (hll l hk) en.time) fun w6 h => ?_
  refine ⟨cellD.is (h.hereB hc) sc_int rfl, ?_⟩
  rw [bin_geq, ifB_dec]
  refine ⟨fun c6 => fin (0, 22) _ _ (by rw [if_pos c6]) h, fun c6 => ?_⟩
  rw [if_neg c6] at fin
  simp -zeta only [field_addr f_errataref11_Intake_4, Nat.zero_add, cellD.ld (h.hereB hc) sc_int (o := 9) rfl]
  exact fin (s.next, 0) _ _ rfl h
end
end Go.Proofs.YtefinemhfgdpdaaGreatDoor
