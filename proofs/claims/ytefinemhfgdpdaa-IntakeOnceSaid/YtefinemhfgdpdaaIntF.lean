/-
  IntakeFinal: the plain law; the walk. No condition.
-/
import Derived.Test.YtefinemhfgdpdaaIntE
import Derived.Test.YtefinemhfgdpdaaArgs
namespace Go.Proofs.Ytefinemhfgdpdaa
open Go.RowKit

theorem open_ents {W : World} : ∀ {l : List EnD}, (∀ x ∈ l, ok_api_Entry W x) → ∃ L : EnL, eraws L = l ∧ erows L (lawB W) ∧ ∀ p ∈ L, p.2.length ≤ maxLen
  | [], _ => ⟨[], rfl, fun x hx => (by cases hx), fun x hx => (by cases hx)⟩
  | x :: l, hq => by
    obtain ⟨L, h1, h2, h3⟩ := open_ents (l := l) fun y hy => hq y (List.mem_cons_of_mem _ hy)
    obtain ⟨_, _, _, _, _, _, _, ls, hr, hm, _⟩ := hq x List.mem_cons_self
    refine ⟨(x, ls) :: L, ?_, fun y hy => ?_, fun y hy => ?_⟩
    · show _ :: eraws L = _
      rw [h1]
    · rcases List.mem_cons.1 hy with rfl | hy
      · exact hr
      · exact h2 y hy
    · rcases List.mem_cons.1 hy with rfl | hy
      · exact hm
      · exact h3 y hy

/-! ### The plain law -/
structure FinI (s : IS) (times : List Int) : Prop where
  cnt : ∀ t, s.cnt t = if closedS s < t then (times.count t : Int) else 0
  top : ∀ t ∈ times, t ≤ s.top
  rate : ∀ t, (times.count t : Int) ≤ s.cfg.rate
theorem fin_new {c : CfD} (h : RightC c) (ks : List Kn) : FinI (newS c ks) [] := ⟨fun t => by
  show (0 : Int) = if closedS (newS c ks) < t then ((0 : Nat) : Int) else 0
  split <;> rfl, fun t ht => (by cases ht), fun t => by have := h.rate; show (0 : Int) ≤ c.rate; omega⟩
theorem fin_raise {s : IS} {times : List Int} (h : FinI s times) (t : Int) : FinI (raiseS s t) times := by
  refine ⟨fun x => ?_, fun x hx => ?_, h.rate⟩
  · show (if x ≤ closedS { s with top := max s.top t } then 0 else s.cnt x) = if closedS { s with top := max s.top t } < x then (times.count x : Int) else 0
    have hc : closedS s ≤ closedS { s with top := max s.top t } := by
      show max (-1) (s.top - s.cfg.late - 1) ≤ max (-1) (max s.top t - s.cfg.late - 1)
      omega
    by_cases hx : x ≤ closedS { s with top := max s.top t }
    · rw [if_pos hx, if_neg (by omega)]
    · rw [if_neg hx, if_pos (by omega), h.cnt, if_pos (by omega)]
  · have := h.top x hx
    show x ≤ max s.top t
    omega
theorem closed_le_mark {s : IS} (h : RightC s.cfg) : closedS s ≤ markS s := by
  have := h.delay
  unfold closedS markS
  omega
theorem mark_lt_top {s : IS} (h : RightC s.cfg) (h0 : 0 ≤ s.top) : markS s < s.top := by
  have := h.delay
  unfold markS
  omega
theorem closed_mono {s s' : IS} (hc : s'.cfg = s.cfg) (ht : s.top ≤ s'.top) : closedS s ≤ closedS s' ∧ markS s ≤ markS s' := by
  unfold closedS markS
  rw [hc]
  omega
structure FinS (s : IS) (e : EnD) (times : List Int) (x : (Int × Int) × IS) : Prop where
  top : s.top ≤ x.2.top
  yes : e.kind = 0 → x.1.2 = 0 → closedS s < e.time ∧ e.time ≤ x.2.now + s.cfg.ahead ∧ FinI x.2 (times ++ [e.time])
  no : ¬ (e.kind = 0 ∧ x.1.2 = 0) → FinI x.2 times
theorem apply_final {s : IS} {times : List Int} (hi : FinI s times) (e : EnD) (r : List ValD) : FinS s e times (applyS s e r) := by
  unfold applyS
  by_cases c0 : e.kind = 0
  · rw [if_pos c0]
    unfold acceptS
    simp only
    by_cases c : (putI s e r).2 ≠ 0
    · rw [if_pos c]
      split
      · exact ⟨Int.le_refl _, fun _ h2 => absurd h2 c, fun _ => ⟨hi.cnt, hi.top, hi.rate⟩⟩
      · exact ⟨Int.le_refl _, fun _ h2 => absurd h2 c, fun _ => hi⟩
    · rw [if_neg c]
      have c := Decidable.of_not_not c
      obtain ⟨_, _, _, p4, p5, p6, _⟩ := putI_ok c
      refine ⟨?_, fun _ _ => ⟨p4, p5, ?_⟩, fun hn => absurd ⟨c0, c⟩ hn⟩
      · show s.top ≤ max s.top e.time
        omega
      · have hcnt : ∀ t, ((times ++ [e.time]).count t : Int) = (times.count t : Int) + if t = e.time then 1 else 0 := fun t => by
          rw [List.count_append, List.count_singleton]
          by_cases ht : t = e.time
          · subst ht; simp
          · have : (e.time == t) = false := by simpa using fun hh : e.time = t => ht hh.symm
            rw [this, if_neg ht]; simp
        have he := hi.cnt e.time
        rw [if_pos p4] at he
        refine ⟨fun x => ?_, fun x hx => ?_, fun t => ?_⟩
        · show (if x ≤ closedS { s with top := max s.top e.time } then 0 else if x = e.time then s.cnt e.time + 1 else s.cnt x) = if closedS { s with top := max s.top e.time } < x then ((times ++ [e.time]).count x : Int) else 0
          have hc : closedS s ≤ closedS { s with top := max s.top e.time } := by
            show max (-1) (s.top - s.cfg.late - 1) ≤ max (-1) (max s.top e.time - s.cfg.late - 1)
            omega
          by_cases hx : x ≤ closedS { s with top := max s.top e.time }
          · rw [if_pos hx, if_neg (by omega)]
          · have hlt : closedS { s with top := max s.top e.time } < x := by omega
            rw [if_neg hx, if_pos hlt, hcnt]
            by_cases hxe : x = e.time
            · subst hxe; rw [if_pos rfl, if_pos rfl, he]
            · rw [if_neg hxe, if_neg hxe, hi.cnt, if_pos (by omega), Int.add_zero]
        · show x ≤ max s.top e.time
          rcases List.mem_append.1 hx with hx | hx
          · have := hi.top x hx; omega
          · rw [List.mem_singleton] at hx; omega
        · show _ ≤ s.cfg.rate
          rw [hcnt]
          have := hi.rate t
          split
          · rename_i ht; subst ht; omega
          · omega
  rw [if_neg c0]
  by_cases c1 : e.kind = 1
  · rw [if_pos c1]
    split
    · exact ⟨Int.le_refl _, fun h => absurd h c0, fun _ => ⟨hi.cnt, hi.top, hi.rate⟩⟩
    · exact ⟨Int.le_refl _, fun h => absurd h c0, fun _ => hi⟩
  rw [if_neg c1]
  split
  · split
    · exact ⟨Int.le_refl _, fun h => absurd h c0, fun _ => hi⟩
    · split
      · exact ⟨Int.le_refl _, fun h => absurd h c0, fun _ => ⟨hi.cnt, hi.top, hi.rate⟩⟩
      · split
        · exact ⟨Int.le_refl _, fun h => absurd h c0, fun _ => hi⟩
        · exact ⟨by show s.top ≤ max s.top e.time; omega, fun h => absurd h c0, fun _ => fin_raise hi _⟩
  · exact ⟨Int.le_refl _, fun h => absurd h c0, fun _ => hi⟩

/-! ### The walk -/
section
variable {B : Base} {w : World} {Kp : Value → Prop} {xo yo : Operand}
theorem int_nil {p : Nat} : pureK Try.prog (sBin .eql T_p_intake_Intake xo yo (ptrI p) (.pointer none)) Kp = Kp (.bool false) := bin_eql_ptr_nil U_p_intake_Intake
theorem int_nn {p : Nat} : pureK Try.prog (sBin .neq T_p_intake_Intake xo yo (ptrI p) (.pointer none)) Kp = Kp (.bool true) := bin_neq_ptr_nil U_p_intake_Intake
theorem nil_nil : pureK Try.prog (sBin .eql T_p_intake_Intake xo yo (.pointer none) (.pointer none)) Kp = Kp (.bool true) := pureK_eq fun w => sBin_eq rfl (run_eql_pointer_nil w T_p_intake_Intake none U_p_intake_Intake)
theorem nil_nn : pureK Try.prog (sBin .neq T_p_intake_Intake xo yo (.pointer none) (.pointer none)) Kp = Kp (.bool false) := pureK_eq fun w => sBin_eq rfl (run_neq_pointer_nil w T_p_intake_Intake none U_p_intake_Intake)
end
theorem knS_len : knS.length ≤ 4611686018427387904 := by decide
set_option maxHeartbeats 2000000 in
theorem intakeFinal_pt {W : World} {v : Value} {l : List EnD} {c : CfD} (r0 : rowR v l (lawB W)) (hm : l.length ≤ maxLen) (hq : ∀ x ∈ l, ok_api_Entry W x)
    {K : Value → World → Prop} (fin : ∀ w' σ, Rel (lawB W) w' σ → K (.bool true) w') : erratalaw11_IntakeFinal.pt c.v v W K := by
  obtain ⟨L, hLe, q, hlq⟩ := open_ents hq
  have r : rowR v (eraws L) (lawB W) := by rw [hLe]; exact r0
  have hal : (eraws L).length = L.length := List.length_map ..
  have hlL : L.length ≤ maxLen := by rw [← hal, hLe]; exact hm
  unfold erratalaw11_IntakeFinal.pt
  have h := lawB.start W
  refine h.box fun cb w1 h => ?_
  have h : Rel (lawB W) w1 [cellD cb T_api_Config c.cs.toArray] := h
  refine small_r h fun w2 h => ?_
  have h := h.tick
  rw [h.ldAg 0 rfl ag_api_Config rfl]
  refine h.make (fun B2 own base2 => known_m) fun u τ w3 hp h => ?_
  subst hp
  have h : Rel (lawB W) w3 [cellD cb T_api_Config c.cs.toArray, knownD u knS] := h
  refine ⟨h.isAg 0 rfl ag_api_Config rfl, ?_⟩
  refine h.make (fun B2 own base2 => New_m c (own (i := 1) rfl) knS_few) fun x τ w4 hp h => ?_
  rcases hp with ⟨hc, p, rfl, rfl⟩ | ⟨hn, rfl, rfl⟩
  case inr =>
    have h : Rel (lawB W) w4 [cellD cb T_api_Config c.cs.toArray, knownD u knS] := h
    have tail : ∀ w', Rel (lawB W) w' [cellD cb T_api_Config c.cs.toArray, knownD u knS] → readK Try.prog (sLoad T_api_Config (.pointer (some ⟨cb, 0, none⟩))) w' fun t33 => upK Try.prog (sCall F_intake_Right #[t33]) w' fun t34 w6 => pureK Try.prog (sUn .not t34) fun t35 => K t35 w6 := by
      intro w' h
      rw [h.ldAg 0 rfl ag_api_Config rfl]
      refine h.ask (fun B2 own base2 => cRight_g c) fun w6 h => ?_
      rw [un_not, decide_eq_false hn]
      exact fin _ _ h
    refine few_r (n := 150) r q h hlL hlq (fun w5 hf h => ?_) fun w5 h => ?_
    · rw [un_not, ifB_not, ifB_true, nil_nil, ifB_true, ifB_true, nil_nn, ifB_false]
      exact tail _ h
    · rw [un_not, ifB_not, ifB_false, ifB_true, nil_nn, ifB_false]
      exact tail _ h
  have h := h.pick [0, 2] (by decide)
  have h : Rel (lawB W) w4 [cellD cb T_api_Config c.cs.toArray, intD p (newS c knS)] := h
  refine few_r (n := 150) r q h hlL hlq (fun w5 hf h => ?_) fun w5 h => ?_
  case refine_2 =>
    rw [un_not, ifB_not, ifB_false, ifB_true, int_nn, ifB_true]
    exact fin _ _ h
  rw [un_not, ifB_not, ifB_true, int_nil, ifB_false]
  have hl150 := hf.len
  have h := h.addNil Int T_int
  refine LOOP_intro (fun x w' => ∃ (i : Nat) (s : IS) (tv : Value) (times : List Int), i ≤ L.length ∧ x = (tv, .int .i64 i, ()) ∧ GoodIS s ∧ s.cfg = c ∧ s.known = knS ∧ s.next ≤ i ∧ s.refused ≤ i ∧ FinI s times ∧ times.length ≤ i ∧
      Rel (lawB W) w' [cellD cb T_api_Config c.cs.toArray, intD p s, rowD T_int tv times]) (fun x _ => L.length - (match x.2.1 with | .int _ n => n.toNat | _ => 0))
    ⟨0, newS c knS, .slice none 0 0, [], Nat.zero_le _, rfl, new_good hc _, rfl, rfl, Int.le_refl _, Int.le_refl _, fin_new hc _, Nat.le_refl _, h⟩ ?_
  clear h
  rintro x w6 ⟨i, s, tv, times, hi, rfl, hg, hcfg, hkn, hnx, hrf, hI, htl, h⟩ next hnext
  simp -zeta only [rowR.len r sl_s_api_Entry, bin_lss, ifB_dec]
  rw [hal]
  refine ⟨fun hlt => ?_, fun hge => ?_⟩
  · have hil : i < L.length := by omega
    obtain ⟨go, oo, hx, hcl⟩ := rowR.idx r sl_s_api_Entry (P := Try.prog) (i := i) (by omega)
    have hel : (eraws L)[i]'(by omega) = L[i].1 := by simp [eraws]
    rw [hel] at hcl
    have hcl : cellsR go oo L[i].1.cs (lawB W) := hcl
    have hrow := q L[i] (List.getElem_mem hil)
    have hrl : L[i].2.length ≤ 4611686018427387904 := by have := (hf.each L[i] (List.getElem_mem hil)).1; omega
    generalize L[i] = en at hcl hrow hrl
    obtain ⟨e, rw_⟩ := en
    have hkl : s.known.length ≤ 4611686018427387904 := by rw [hkn]; exact knS_len
    have hF := apply_final hI e rw_
    have hG := apply_good hg e rw_ (by omega) (by omega)
    refine LETJ_intro fun J1 hJ1 => ?_
    replace hJ1 : ∀ tv' times', FinI (applyS s e rw_).2 times' → times'.length ≤ i + 1 → ∀ w', Rel (lawB W) w' [cellD cb T_api_Config c.cs.toArray, intD p (applyS s e rw_).2, rowD T_int tv' times'] → J1 (tv', ()) w' := by
      intro tv' times' hI' hl' w' h
      refine hJ1 _ _ ?_
      rw [bin_add, wrap_id (by omega) (by omega)]
      obtain ⟨g1, g2, g3, g4, g5⟩ := hG
      exact hnext _ _ ⟨i + 1, _, tv', times', hil, rfl, g1, g2.trans hcfg, g3.trans hkn, by omega, by omega, hI', hl', h⟩ (by simp only; omega)
    clear hnext
    refine h.ask (fun B2 own base2 => iClosed_g (own (i := 1) rfl) hg) fun w7 h => ?_
    refine h.ask (fun B2 own base2 => iMark_g (own (i := 1) rfl) hg) fun w8 h => ?_
    refine h.ask (fun B2 own base2 => iTop_g (own (i := 1) rfl)) fun w9 h => ?_
    rw [hx, cellsR.ldAg (h.hereB hcl) ag_api_Entry rfl]
    refine h.act 1 rfl (fun B2 own base2 => apply_d hg (by omega) (by omega) (base2 hrow) hrl hkl) fun v e' τ w10 hp h => ?_
    obtain ⟨rfl, rfl, rfl⟩ := hp
    simp -zeta only [ext_2_0, ext_2_1]
    obtain ⟨g1, g2, g3, g4, g5⟩ := hG
    generalize applyS s e rw_ = y at *
    obtain ⟨f1, f2, f3⟩ := hF
    have h : Rel (lawB W) w10 [cellD cb T_api_Config c.cs.toArray, intD p y.2, rowD T_int tv times] := h
    refine LETJ_intro fun J2 hJ2 => ?_
    replace hJ2 : ∀ tv' times', FinI y.2 times' → times'.length ≤ i + 1 → ∀ w', Rel (lawB W) w' [cellD cb T_api_Config c.cs.toArray, intD p y.2, rowD T_int tv' times'] → J2 (tv', ()) w' := by
      intro tv' times' hI' hl' w' h
      refine hJ2 _ _ ?_
      obtain ⟨m1, m2⟩ := closed_mono g2 f1
      have m3 := closed_le_mark g1.cfg
      refine h.ask (fun B2 own base2 => iClosed_g (own (i := 1) rfl) g1) fun w7 h => ?_
      rw [bin_lss, decide_eq_false (by omega), ifB_false]
      refine h.ask (fun B2 own base2 => iMark_g (own (i := 1) rfl) g1) fun w8 h => ?_
      rw [bin_lss, decide_eq_false (by omega), ifB_false]
      refine h.ask (fun B2 own base2 => iTop_g (own (i := 1) rfl)) fun w9 h => ?_
      rw [bin_lss, decide_eq_false (by omega), ifB_false]
      refine h.ask (fun B2 own base2 => iClosed_g (own (i := 1) rfl) g1) fun w7 h => ?_
      refine h.ask (fun B2 own base2 => iMark_g (own (i := 1) rfl) g1) fun w8 h => ?_
      rw [bin_gtr, decide_eq_false (by omega), ifB_false]
      refine h.ask (fun B2 own base2 => iTop_g (own (i := 1) rfl)) fun w9 h => ?_
      rw [bin_geq, ifB_dec]
      refine ⟨fun ht0 => ?_, fun _ => hJ1 _ _ hI' hl' _ h⟩
      have m4 := mark_lt_top g1.cfg ht0
      refine h.ask (fun B2 own base2 => iMark_g (own (i := 1) rfl) g1) fun w8 h => ?_
      refine h.ask (fun B2 own base2 => iTop_g (own (i := 1) rfl)) fun w9 h => ?_
      rw [bin_geq, decide_eq_false (by omega), ifB_false]
      exact hJ1 _ _ hI' hl' _ h
    clear hJ1
    simp -zeta only [hx, field_addr f_api_Entry_0, Nat.add_zero, cellsR.ld0 (h.hereB hcl) sc_int rfl, bin_eql, ifB_dec]
    refine ⟨fun c1 => ⟨fun c2 => ?_, fun c2 => ?_⟩, fun c1 => ?_⟩
    · obtain ⟨f4, f5, f6⟩ := f2 c1 c2
      have h := h.tick
      simp -zeta only [hx, field_addr f_api_Entry_6, cellsR.ld (h.hereB hcl) sc_int (j := 6) rfl, bin_leq]
      rw [decide_eq_false (by omega), ifB_false]
      simp -zeta only [field_addr f_api_Config_3, Nat.zero_add, h.ld 0 rfl sc_int (o := 3) rfl]
      refine h.ask (fun B2 own base2 => iNow_g (own (i := 1) rfl)) fun w11 h => ?_
      refine ⟨h.is 0 rfl sc_int (o := 3) rfl, cellsR.is (h.hereB hcl) sc_int (j := 6) rfl, ?_⟩
      have hn := g1.now
      have ha := hc.ahead
      rw [hcfg] at f5
      rw [bin_add, wrap_id (by omega) (by omega), bin_gtr, decide_eq_false (by omega), ifB_false, cellsR.ld (h.hereB hcl) sc_int (j := 6) rfl]
      refine h.build1 e.time sl_s_int (by decide) fun u2 w12 h => ?_
      refine h.append 2 rfl sl_s_int (Rd.at (l := [e.time]) 3 rfl) (by rw [List.length_singleton]; omega) (by rw [List.length_singleton]; omega) fun u3 w13 h => ?_
      exact hJ2 u3 (times ++ [e.time]) f6 (by rw [List.length_append, List.length_singleton]; omega) _ (h.take 3)
    · exact hJ2 _ _ (f3 fun hh => c2 hh.2) (by omega) _ h
    · exact hJ2 _ _ (f3 fun hh => c1 hh.1) (by omega) _ h
  · clear hnext
    obtain ⟨B', h', back, own, base⟩ := h.frz
    have hcb : cellD cb T_api_Config c.cs.toArray B' := own (i := 0) rfl
    have hint : intD p s B' := own (i := 1) rfl
    have rt : rowR tv times B' := rowD.read (own (i := 2) rfl)
    replace fin : ∀ w' σ, Rel B' w' σ → K (.bool true) w' := fun w' σ h => fin w' _ (back w' _ h)
    clear h back own
    refine LOOP_intro (fun x w' => ∃ i : Nat, i ≤ times.length ∧ x = (.int .i64 i, ()) ∧ Rel B' w' []) (fun x _ => times.length - (match x.1 with | .int _ n => n.toNat | _ => 0))
      ⟨0, Nat.zero_le _, rfl, h'⟩ ?_
    clear h'
    rintro x w7 ⟨j, hj, rfl, h⟩ next hnext
    simp -zeta only [rowR.len rt sl_s_int, bin_lss, ifB_dec]
    refine ⟨fun hlt => ?_, fun _ => fin _ _ h⟩
    have hjl : j < times.length := by omega
    refine LETJ_intro fun J3 hJ3 => ?_
    replace hJ3 : ∀ w', Rel B' w' [] → J3 () w' := by
      intro w' h
      refine hJ3 _ _ ?_
      rw [bin_add, wrap_id (by omega) (by omega)]
      exact hnext _ _ ⟨j + 1, hjl, rfl, h⟩ (by simp only; omega)
    clear hnext
    refine LOOP_intro (fun x w' => ∃ k : Nat, k ≤ times.length ∧ x = (.int .i64 ((times.take k).count times[j] : Nat), .int .i64 k, ()) ∧ Rel B' w' []) (fun x _ => times.length - (match x.2.1 with | .int _ n => n.toNat | _ => 0))
      ⟨0, Nat.zero_le _, rfl, h⟩ ?_
    clear h
    rintro x w8 ⟨k, hk, rfl, h⟩ next hnext
    obtain ⟨g1, o1, hx1, hc1⟩ := rowR.idx rt sl_s_int (P := Try.prog) hjl
    have hc1 : cellsR g1 o1 [.int .i64 times[j]] B' := hc1
    simp -zeta only [rowR.len rt sl_s_int, bin_lss, ifB_dec]
    refine ⟨fun hlt => ?_, fun hge => ?_⟩
    · have hkl : k < times.length := by omega
      obtain ⟨g2, o2, hx2, hc2⟩ := rowR.idx rt sl_s_int (P := Try.prog) hkl
      have hc2 : cellsR g2 o2 [.int .i64 times[k]] B' := hc2
      have hcl : (times.take k).count times[j] ≤ k := Nat.le_trans List.count_le_length (List.length_take_le _ _)
      have hst : (times.take (k + 1)).count times[j] = (times.take k).count times[j] + if times[k] = times[j] then 1 else 0 := by
        rw [List.take_succ_eq_append_getElem hkl, List.count_append, List.count_singleton]
        by_cases ht : times[k] = times[j]
        · rw [if_pos ht, if_pos (by simpa using ht)]
        · rw [if_neg ht, if_neg (by simpa using ht)]
      refine LETJ_intro fun J4 hJ4 => ?_
      replace hJ4 : ∀ w', Rel B' w' [] → J4 (.int .i64 ((times.take (k + 1)).count times[j] : Nat), ()) w' := by
        intro w' h
        refine hJ4 _ _ ?_
        rw [bin_add, wrap_id (by omega) (by omega)]
        exact hnext _ _ ⟨k + 1, hkl, rfl, h⟩ (by simp only; omega)
      have h := h.tick
      simp -zeta only [hx1, hx2, cellsR.ld0 (h.hereB hc1) sc_int rfl, cellsR.ld0 (h.hereB hc2) sc_int rfl, bin_eql, ifB_dec]
      refine ⟨fun ce => ?_, fun ce => ?_⟩
      · rw [if_pos ce] at hst
        rw [bin_add, wrap_id (by omega) (by omega)]
        rw [hst] at hJ4
        exact hJ4 _ h
      · rw [if_neg ce] at hst
        rw [hst] at hJ4
        exact hJ4 _ h
    · have hke : k = times.length := by omega
      subst hke
      rw [List.take_length]
      have h := h.tick
      have hr := hI.rate times[j]
      have ht := hI.top times[j] (List.getElem_mem hjl)
      have hcn := hI.cnt times[j]
      rw [hcfg] at hr
      have is1 : ∀ {w' : World}, Rel B' w' [] → Is Try.prog (sLoad T_int (.pointer (some ⟨g1, o1, none⟩))) (.int .i64 times[j]) w' := fun h => cellsR.is (h.hereB hc1) sc_int (j := 0) rfl
      have is2 : ∀ {w' : World}, Rel B' w' [] → Is Try.prog (sLoad T_int (.pointer (some ⟨cb, 4, none⟩))) (.int .i64 c.rate) w' := fun h => cellD.is (h.hereB hcb) sc_int (o := 4) rfl
      simp -zeta only [field_addr f_api_Config_4, Nat.zero_add, cellD.ld (h.hereB hcb) sc_int (o := 4) rfl, bin_gtr]
      rw [decide_eq_false (by omega), ifB_false]
      simp -zeta only [hx1, cellsR.ld0 (h.hereB hc1) sc_int rfl]
      refine h.ask (fun B2 own base2 => iTop_g (base2 hint)) fun w9 h => ?_
      refine ⟨is1 h, ?_⟩
      rw [bin_gtr, decide_eq_false (by omega), ifB_false, cellsR.ld0 (h.hereB hc1) sc_int rfl]
      refine h.ask (fun B2 own base2 => iClosed_g (base2 hint) hg) fun w10 h => ?_
      refine ⟨is1 h, ?_⟩
      rw [bin_gtr, ifB_dec]
      refine ⟨fun c1 => ?_, fun c1 => ?_⟩
      · rw [if_pos c1] at hcn
        rw [cellsR.ld0 (h.hereB hc1) sc_int rfl]
        refine h.ask (fun B2 own base2 => iCount_g (base2 hint) _) fun w11 h => ?_
        rw [bin_neq, hcn, decide_eq_true rfl, Bool.not_true, ifB_false, cellsR.ld0 (h.hereB hc1) sc_int rfl]
        refine h.ask (fun B2 own base2 => iClosed_g (base2 hint) hg) fun w12 h => ?_
        refine ⟨is1 h, is2 h, ?_⟩
        rw [bin_leq, decide_eq_false (by omega), ifB_false]
        exact hJ3 _ h
      · rw [if_neg c1] at hcn
        rw [cellsR.ld0 (h.hereB hc1) sc_int rfl]
        refine h.ask (fun B2 own base2 => iClosed_g (base2 hint) hg) fun w12 h => ?_
        refine ⟨is1 h, is2 h, ?_⟩
        rw [bin_leq, decide_eq_true (by omega), ifB_true, cellsR.ld0 (h.hereB hc1) sc_int rfl]
        refine h.ask (fun B2 own base2 => iCount_g (base2 hint) _) fun w11 h => ?_
        refine ⟨is1 h, is2 h, ?_⟩
        rw [bin_neq, hcn, decide_eq_true rfl, Bool.not_true, ifB_false]
        exact hJ3 _ h
end Go.Proofs.Ytefinemhfgdpdaa
