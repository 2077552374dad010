/-
  NetHonest: everything that is delivered or in flight was sent, or doubled, at most as often as it is there. No condition.
-/
import Derived.Test.YtollnmlnpngmfaaNetE
namespace Go.Proofs.Ytollnmlnpngmfaa
open Go.RowKit

theorem cnt_append (l m : List Pkt) (p : Pkt) : cntP (l ++ m) p = cntP l p + cntP m p := by simp [cntP]
theorem cnt_rm (s : NetS) (n : Nat) (h : n < s.fl.length) (p : Pkt) : cntP (rm s n).fl p + cntP [at_ s n] p = cntP s.fl p := by
  have e : at_ s n = s.fl[n] := by simp [at_, List.getD, h]
  have h2 : s.fl = s.fl.take n ++ s.fl[n] :: s.fl.drop (n + 1) := by rw [List.getElem_cons_drop, List.take_append_drop]
  have h3 : cntP s.fl p = cntP (s.fl.take n ++ ([s.fl[n]] ++ s.fl.drop (n + 1))) p := by
    conv => lhs; rw [h2]
    rfl
  rw [h3, e]
  simp only [rm, cnt_append, Int.toNat_natCast]
  omega

theorem deliver_cnt (s : NetS) (i : Int) : ((deliver s i).1.2 ≠ 0 → (deliver s i).1.1 = pzero) ∧ (deliver s i).2.sp = s.sp ∧ (∀ p, cntP (deliver s i).2.fl p ≤ cntP s.fl p) ∧
    ((deliver s i).1.2 = 0 → (∀ p, cntP (deliver s i).2.fl p + cntP [(deliver s i).1.1] p = cntP s.fl p) ∧ hear s (deliver s i).1.1.frm (deliver s i).1.1.to = true) := by
  by_cases hi : inl s i = true
  · obtain ⟨n, rfl, hn⟩ := inl_iff.1 hi
    have hc := cnt_rm s n hn
    by_cases hh : hear s (at_ s n).frm (at_ s n).to = true
    · have e : deliver s n = ((at_ s n, 0), rm s n) := by simp [deliver, hi, hh]
      rw [e]
      exact ⟨fun h => absurd rfl h, rfl, fun p => by have := hc p; show cntP (rm s n).fl p ≤ _; omega, fun _ => ⟨hc, hh⟩⟩
    · have e : deliver s n = ((pzero, 10), rm s n) := by simp [deliver, hi, hh]
      rw [e]
      exact ⟨fun _ => rfl, rfl, fun p => by have := hc p; show cntP (rm s n).fl p ≤ _; omega, fun h => by cases h⟩
  · have e : deliver s i = ((pzero, 4), s) := by simp [deliver, hi]
    rw [e]
    exact ⟨fun _ => rfl, rfl, fun p => Nat.le_refl _, fun h => by cases h⟩

theorem drop_cnt (s : NetS) (i : Int) (p : Pkt) : cntP (drop_ s i).2.fl p ≤ cntP s.fl p := by
  by_cases hi : inl s i = true
  · obtain ⟨n, rfl, hn⟩ := inl_iff.1 hi
    have e : drop_ s n = (0, rm s n) := by simp [drop_, hi]
    rw [e]
    have := cnt_rm s n hn p
    show cntP (rm s n).fl p ≤ _
    omega
  · have e : drop_ s i = (4, s) := by simp [drop_, hi]
    rw [e]
    exact Nat.le_refl _

theorem double_cnt (s : NetS) (i : Int) : ((double s i).1 ≠ 0 → (double s i).2 = s) ∧ ((double s i).1 = 0 → ∃ n : Nat, i = n ∧ n < s.fl.length ∧ (double s i).2.fl = s.fl ++ [at_ s i]) := by
  by_cases hi : inl s i = true
  · obtain ⟨n, rfl, hn⟩ := inl_iff.1 hi
    by_cases h5 : s.fl.length < 500
    · have e : double s n = (0, { s with fl := s.fl ++ [at_ s n] }) := by simp [double, hi, h5]
      rw [e]
      exact ⟨fun h => absurd rfl h, fun _ => ⟨n, rfl, hn, rfl⟩⟩
    · have e : double s n = (6, s) := by simp [double, hi, h5]
      rw [e]
      exact ⟨fun _ => rfl, fun h => by cases h⟩
  · have e : double s i = (4, s) := by simp [double, hi]
    rw [e]
    exact ⟨fun _ => rfl, fun h => by cases h⟩

theorem send_cnt (s : NetS) (p : Pkt) : ((send s p).1 ≠ 0 → (send s p).2 = s) ∧ ((send s p).1 = 0 → hear s p.frm p.to = true ∧ p.frm ≠ p.to ∧ (send s p).2.fl = s.fl ++ [p] ∧ (send s p).2.sp = s.sp) := by
  unfold send
  split
  · rename_i h
    split
    · rename_i hh
      split
      · exact ⟨fun h => absurd rfl h, fun _ => ⟨hh, h.2.2, rfl, rfl⟩⟩
      · exact ⟨fun _ => rfl, fun h => by cases h⟩
    · exact ⟨fun _ => rfl, fun h => by cases h⟩
  · exact ⟨fun _ => rfl, fun h => by cases h⟩

theorem hear_sp_eq {s s' : NetS} (h : s'.sp = s.sp) (a b : Int) : hear s' a b = hear s a b := by simp [hear, h]

def Hon (s : NetS) (made got : List Pkt) : Prop := ∀ p, cntP got p + cntP s.fl p ≤ cntP made p

theorem step_err {s : NetS} {x : OpD} (h : (step s x).1.2 ≠ 0) : (step s x).1.1 = pzero ∧ ∀ p, cntP (step s x).2.fl p ≤ cntP s.fl p := by
  unfold step at h ⊢
  split at h
  · rename_i e; rw [if_pos e]; exact ⟨(deliver_cnt s x.n).1 h, (deliver_cnt s x.n).2.2.1⟩
  · rename_i e; rw [if_neg e]
    split at h
    · rename_i e; rw [if_pos e]; exact ⟨rfl, drop_cnt s x.n⟩
    · rename_i e; rw [if_neg e]
      split at h
      · rename_i e; rw [if_pos e]
        refine ⟨rfl, fun p => ?_⟩
        show cntP (double s x.n).2.fl p ≤ _
        rw [(double_cnt s x.n).1 h]
        exact Nat.le_refl _
      · rename_i e; rw [if_neg e]
        split at h
        · exact absurd rfl h
        · rename_i e; rw [if_neg e]
          split at h
          · exact absurd rfl h
          · rename_i e; rw [if_neg e]
            refine ⟨rfl, fun p => ?_⟩
            show cntP (send s _).2.fl p ≤ _
            rw [(send_cnt s _).1 h]
            exact Nat.le_refl _

section
variable {Kp : Value → Prop} {w : World} {c : Nat → Nat} {t : Nat}
def pcs (p : Pkt) : List Value := [.int .i64 p.frm, .int .i64 p.to, .string p.body]
theorem pktAt {v : Value} {l : List Pkt} (h : RowR c t w v l) {i : Nat} (hi : i < l.length) : ∃ g o, (∀ {Kp : Value → Prop}, pureK Try.prog (sIdxAddr T_s_api_Packet v (.int .i64 i)) Kp = Kp (.pointer (some ⟨g, o, none⟩))) ∧ Cells c t w g o (pcs l[i]) := by
  obtain ⟨g, o, h1, h2, h3, h4⟩ := h.idx TP hi
  exact ⟨g, o, h3, h1, h2, h4⟩
theorem is_p {g o : Nat} {p : Pkt} (h : Cells c t w g o (pcs p)) : Is Try.prog (sLoad T_api_Packet (.pointer (some ⟨g, o, none⟩))) (pval p) w := run_load_ag TPag rfl h.2.2
theorem ld_p {g o : Nat} {p : Pkt} (h : Cells c t w g o (pcs p)) : readK Try.prog (sLoad T_api_Packet (.pointer (some ⟨g, o, none⟩))) w Kp = Kp (pval p) := readK_eq (is_p h)
end

theorem netHonest_pt {W : World} {v1 : Value} {l : List OpD} (h1 : RowR (fun _ => 0) 0 W v1 l) {K : Value → World → Prop}
    (fin : ∀ c w', Step T1 (fun _ => 0) W c w' → K (.bool true) w') : erratalaw07_NetHonest.pt v1 W K := by
  unfold erratalaw07_NetHonest.pt
  have nT : ¬ T1 0 := fun e => absurd (show 1 ≤ 0 from e) (by omega)
  refine small_sp (fun _ => 0) fun c1 w1 st => ?_
  replace st : Step T1 _ W c1 w1 := st.none
  refine new_sp (c := c1) 1 2 fun c2 b w2 st2 hn => ?_
  replace st := st.trans st2.none
  refine few_sp (h1.frame st nT) 200 fun r hr => ?_
  simp -zeta only [un_not, ifB_not, ifB_true, bin_neq_ptr_nil UpN, bin_eql_ptr_nil UpN, ifB_false]
  rw [ifB_bool]
  refine ⟨fun hr1 => ?_, fun _ => fin _ _ st⟩
  have hlen := hr hr1
  refine LOOP_intro (fun x w' => ∃ (i : Nat) (c' : Nat → Nat) (vm vg : Value) (s : NetS) (made got : List Pkt), i ≤ l.length ∧ x = (vm, vg, .int .i64 i, ()) ∧ made.length ≤ i ∧ got.length ≤ i ∧ Step T1 (fun _ => 0) W c' w' ∧ NetAt c' 1 2 w' b s ∧
      RowO c' 3 w' T_api_Packet vm made ∧ RowO c' 4 w' T_api_Packet vg got ∧ Hon s made got)
    (fun x _ => l.length - (match x.2.2.1 with | .int _ n => n.toNat | _ => 0)) ⟨0, c2, _, _, _, [], [], Nat.zero_le _, rfl, Nat.le_refl _, Nat.le_refl _, st, hn, RowO.nil _ _ _ _, RowO.nil _ _ _ _, fun p => Nat.le_refl _⟩ ?_
  clear hn st2 st hr
  rintro x w4 ⟨i, c4, vm, vg, s, made, got, hi, rfl, hml, hgl, st, hn, hm, hg, hon⟩ next hnext
  simp -zeta only [(h1.frame st nT).len_eq TO, bin_lss, ifB_dec]
  refine ⟨fun hlt => ?_, fun hge => ?_⟩
  · intro J1
    have hil : i < l.length := by omega
    have hJ1 : ∀ (c' : Nat → Nat) (vm vg : Value) (w' : World) (s : NetS) (made got : List Pkt), made.length ≤ i + 1 → got.length ≤ i + 1 → Step T1 (fun _ => 0) W c' w' → NetAt c' 1 2 w' b s →
        RowO c' 3 w' T_api_Packet vm made → RowO c' 4 w' T_api_Packet vg got → Hon s made got → J1 vm vg w' := by
      intro c' vm vg w' s made got hml hgl st hn hm hg hon
      show pureK _ _ _
      rw [bin_add, wrap_id (by omega) (by omega)]
      refine hnext _ _ ⟨i + 1, c', vm, vg, s, made, got, by omega, rfl, hml, hgl, st, hn, hm, hg, hon⟩ ?_
      simp only
      omega
    clear_value J1
    clear hnext
    obtain ⟨g, o, _, _, hx, hc⟩ := opAt (h1.frame st nT) hil
    have hld : readK Try.prog (sLoad T_erratalaw07_Op (.pointer (some ⟨g, o, none⟩))) w4 = fun Kp => Kp (oval l[i]) := by
      funext Kp
      exact ld_ag (vs := [.int .i64 l[i].do_, .int .i64 l[i].n, .int .i64 l[i].to, .string l[i].s]) TOag rfl hc.2.2
    rw [hx, hld]
    generalize hxi : l[i] = x
    clear hld hc hx hxi
    refine alloc_store_o 5 c4 x fun c5 b5 w5 st5 ho => ?_
    replace hn := hn.frame st5 (fun h => h) (fun h => h)
    replace hm := hm.frame st5 fun h => h
    replace hg := hg.frame st5 fun h => h
    replace st := st.trans st5.none
    refine list_sp hn 6 fun c6 v6 w6 st6 hbef => ?_
    replace ho := ho.frame st6 fun h => h
    replace hn := hn.frame st6 (fun h => h) (fun h => h)
    replace hm := hm.frame st6 fun h => h
    replace hg := hg.frame st6 fun h => h
    replace st := st.trans st6.none
    rw [load_o ho]
    refine do_sp hn (by omega) x fun c7 w7 st7 hn7 => ?_
    have q : ∀ z, 3 ≤ z → ¬ two 1 2 z := fun z hz e => by rcases e with e | e <;> omega
    replace ho := ho.frame st7 (q 5 (by omega))
    replace hm := hm.frame st7 (q 3 (by omega))
    replace hg := hg.frame st7 (q 4 (by omega))
    replace hbef := hbef.frame st7 (q 6 (by omega))
    replace st := st.trans (st7.mono (T1_two 1 2 (by omega) (by omega)))
    simp -zeta only [ofPkt, ext_2_0, ext_2_1]
    refine alloc_store_p 7 c7 _ fun c8 b8 w8 st8 hp => ?_
    replace ho := ho.frame st8 fun h => h
    replace hm := hm.frame st8 fun h => h
    replace hg := hg.frame st8 fun h => h
    replace hbef := hbef.frame st8 fun h => h
    replace hn := hn7.frame st8 (fun h => h) (fun h => h)
    replace st := st.trans st8.none
    clear st5 st6 st7 st8 hn7
    simp -zeta only [bin_neq, ifB_not, ifB_dec, load_p hp, build_pkt0, neq_pkt]
    refine ⟨fun hok => ?_, fun herr => ?_⟩
    · simp -zeta only [field_addr TO0, field_addr TO1, field_addr TO2, field_addr TO3, field_addr TK0, field_addr TK1, ho.f0, ho.f1, ho.f2, ho.f3, bin_and, and7, bin_eql]
      have hd : 0 ≤ x.do_ % 8 ∧ x.do_ % 8 < 8 := by omega
      intro J2
      have hJ2 : ∀ bb : Bool, bb = decide (x.do_ % 8 = 0 ∨ x.do_ % 8 = 1 ∨ x.do_ % 8 = 2) → J2 (.bool bb) w8 := by
        intro bb hbb
        show ifB _ _ _
        rw [ifB_bool]
        refine ⟨fun hb => ?_, fun hb => ?_⟩
        · rw [hb] at hbb
          have hd2 := of_decide_eq_true hbb.symm
          have e : step s x = ((pzero, (send s ⟨x.n, x.to, x.s⟩).1), (send s ⟨x.n, x.to, x.s⟩).2) := by
            unfold step
            rw [if_neg (by omega), if_neg (by omega), if_neg (by omega), if_neg (by omega), if_neg (by omega)]
          rw [e] at hok hn
          obtain ⟨q1, q2, q3, q4⟩ := (send_cnt s ⟨x.n, x.to, x.s⟩).2 hok
          simp -zeta only [ho.f1, ho.f2]
          refine hear_sp hn _ _ ?_
          rw [hear_sp_eq q4, q1]
          replace ho := ho.frame (Step.tick nobody c8 w8) fun h => h
          have q2' : ¬ (x.n = x.to) := q2
          simp -zeta only [un_not, Bool.not_true, ifB_false, ho.f1, ho.f2, ho.f3, build_pkt, bin_eql, q2', decide_false]
          refine build1p (c := c8) _ 9 fun c9 v9 w9 st9 hr9 => ?_
          refine append_own TP ((hm.tick).frame st9 fun h => h) hr9.read (by simp; omega) (by simp; omega) fun c10 v10 w10 st10 hr10 => ?_
          refine hJ1 _ _ _ _ _ _ got (by simp; omega) (by omega) ((st.ticked.trans st9.none).trans (st10.mono (T1_only 3 (by omega)))) ((hn.tick.frame st9 (fun h => h) (fun h => h)).frame st10 (by unfold only; omega) (by unfold only; omega)) hr10
            ((hg.tick.frame st9 fun h => h).frame st10 (by unfold only; omega)) fun p => ?_
          rw [q3, cnt_append, cnt_append]
          have := hon p
          omega
        · rw [hb] at hbb
          have hd2 := of_decide_eq_false hbb.symm
          simp -zeta only [ifB_dec]
          refine ⟨fun e3 => ?_, fun e3 => ⟨fun e5 => ?_, fun e5 => ?_⟩⟩
          · have e : step s x = deliver s x.n := by unfold step; rw [if_pos e3]
            rw [e] at hok hn hp
            obtain ⟨q0, q1, q2, q3⟩ := deliver_cnt s x.n
            obtain ⟨q3, q4⟩ := q3 hok
            rw [ld_sc TI (Blk.cell hp (o := 0) rfl)]
            rw [ld_sc TI (Blk.cell hp (o := 1) rfl)]
            refine hear_sp hn _ _ ?_
            rw [hear_sp_eq q1, q4]
            simp -zeta only [un_not, Bool.not_true, ifB_false, load_p (hp.frame (Step.tick nobody c8 w8) fun h => h)]
            refine build1p (c := c8) _ 9 fun c9 v9 w9 st9 hr9 => ?_
            refine append_own TP ((hg.tick).frame st9 fun h => h) hr9.read (by simp; omega) (by simp; omega) fun c10 v10 w10 st10 hr10 => ?_
            refine hJ1 _ _ _ _ _ made _ (by omega) (by simp; omega) ((st.ticked.trans st9.none).trans (st10.mono (T1_only 4 (by omega)))) ((hn.tick.frame st9 (fun h => h) (fun h => h)).frame st10 (by unfold only; omega) (by unfold only; omega))
              ((hm.tick.frame st9 fun h => h).frame st10 (by unfold only; omega)) hr10 fun p => ?_
            rw [cnt_append]
            have := hon p
            have := q3 p
            omega
          · have e : step s x = ((pzero, (double s x.n).1), (double s x.n).2) := by unfold step; rw [if_neg e3, if_neg (by omega), if_pos e5]
            rw [e] at hok hn
            obtain ⟨n, qn, qlt, qfl⟩ := (double_cnt s x.n).2 hok
            have g1 : ¬ (x.n < 0) := by omega
            have g2 : ¬ ((s.fl.length : Int) ≤ x.n) := by omega
            simp -zeta only [ho.f1, bin_lss, bin_geq, hbef.read.len_eq TP, g1, g2, decide_false, ifB_false]
            rw [qn]
            obtain ⟨y, q1, q2⟩ := loadAt_p hbef.read qlt
            rw [q1, q2]
            refine build1p (c := c8) _ 9 fun c9 v9 w9 st9 hr9 => ?_
            refine append_own TP (hm.frame st9 fun h => h) hr9.read (by simp; omega) (by simp; omega) fun c10 v10 w10 st10 hr10 => ?_
            refine hJ1 _ _ _ _ _ _ got (by simp; omega) (by omega) ((st.trans st9.none).trans (st10.mono (T1_only 3 (by omega)))) ((hn.frame st9 (fun h => h) (fun h => h)).frame st10 (by unfold only; omega) (by unfold only; omega)) hr10
              ((hg.frame st9 fun h => h).frame st10 (by unfold only; omega)) fun p => ?_
            have eat : at_ s x.n = s.fl[n] := by rw [qn]; simp [at_, List.getD, qlt]
            rw [qfl, eat, cnt_append, cnt_append]
            have := hon p
            omega
          · refine hJ1 _ _ _ _ _ made got (by omega) (by omega) st hn hm hg fun p => ?_
            have hle : cntP (step s x).2.fl p ≤ cntP s.fl p := by
              unfold step
              rw [if_neg e3, if_neg e5]
              split
              · exact drop_cnt s x.n p
              · split
                · exact Nat.le_refl _
                · rw [if_pos (by omega)]
                  exact Nat.le_refl _
            have := hon p
            omega
      clear_value J2
      simp -zeta only [ifB_dec]
      refine ⟨fun e => hJ2 _ (by simp [e]), fun e0 => ⟨fun e => hJ2 _ (by simp [e]), fun e1 => hJ2 _ (by simp [e0, e1])⟩⟩
    · obtain ⟨e1, e2⟩ := step_err herr
      rw [e1]
      simp only [true_implies, not_true_eq_false, false_implies, and_true]
      exact hJ1 _ _ _ _ _ _ _ (by omega) (by omega) st hn hm hg fun p => by have := e2 p; have := hon p; omega
  · clear hnext
    refine build0 (α := Pkt) (c := c4) (t := 9) TP fun c5 v5 w5 st5 hr5 _ => ?_
    replace hn := hn.frame st5 (fun h => h) (fun h => h)
    replace hm := hm.frame st5 fun h => h
    replace hg := hg.frame st5 fun h => h
    replace st := st.trans st5.none
    have hfl := hn.choose_spec.2.2
    refine append_own TP hr5 hg.read (by simp; omega) (by simp; omega) fun c6 v6 w6 st6 hr6 => ?_
    replace hn := hn.frame st6 (by unfold only; omega) (by unfold only; omega)
    replace hm := hm.frame st6 (by unfold only; omega)
    replace st := st.trans (st6.mono (T1_only 9 (by omega)))
    refine list_sp hn 8 fun c7 v7 w7 st7 hr7 => ?_
    replace hr6 := hr6.frame st7 fun h => h
    replace hm := hm.frame st7 fun h => h
    replace st := st.trans st7.none
    refine append_own TP hr6 hr7.read (by simp; omega) (by simp; omega) fun c8 v8 w8 st8 hr8 => ?_
    replace hm := hm.frame st8 (by unfold only; omega)
    replace st := st.trans (st8.mono (T1_only 9 (by omega)))
    simp only [List.nil_append] at hr8
    have hall : ∀ p, cntP (got ++ s.fl) p ≤ cntP made p := fun p => by rw [cnt_append]; exact hon p
    have hal : (got ++ s.fl).length ≤ 1000 := by simp; omega
    clear st5 st6 st7 st8 hr5 hr6 hr7
    refine LOOP_intro (fun x w' => ∃ (j : Nat) (c' : Nat → Nat), j ≤ (got ++ s.fl).length ∧ x = (.int .i64 j, ()) ∧ Step T1 (fun _ => 0) W c' w' ∧ RowO c' 9 w' T_api_Packet v8 (got ++ s.fl) ∧ RowO c' 3 w' T_api_Packet vm made)
      (fun x _ => (got ++ s.fl).length - (match x.1 with | .int _ n => n.toNat | _ => 0)) ⟨0, c8, Nat.zero_le _, rfl, st, hr8, hm⟩ ?_
    clear st hr8 hm
    rintro x w9 ⟨j, c9, hj, rfl, st, hall9, hm⟩ next hnext
    simp -zeta only [hall9.read.len_eq TP, bin_lss, ifB_dec]
    refine ⟨fun hlt => ?_, fun _ => fin _ _ st⟩
    have hjl : j < (got ++ s.fl).length := by omega
    obtain ⟨g, o, hx, hc⟩ := pktAt hall9.tick.read hjl
    simp -zeta only [hx, ld_p hc]
    refine cnt_sp hall9.tick.read (by omega) _ fun c10 w10 st10 => ?_
    refine ⟨is_p (hc.frame st10 fun h => h), ?_⟩
    replace hm := (hm.tick).frame st10 fun h => h
    refine cnt_sp hm.read (by omega) _ fun c11 w11 st11 => ?_
    have hle := hall ((got ++ s.fl)[j])
    have hgt : ¬ ((cntP made (got ++ s.fl)[j] : Nat) : Int) < (cntP (got ++ s.fl) (got ++ s.fl)[j] : Nat) := by omega
    simp only [bin_gtr, hgt, decide_false, ifB_false, bin_add]
    rw [wrap_id (by omega) (by omega)]
    have stt := (Step.tick nobody c9 w9).trans (st10.trans st11)
    refine hnext _ _ ⟨j + 1, c11, by omega, rfl, st.trans stt.none, hall9.frame stt fun h => h, hm.frame st11 fun h => h⟩ ?_
    simp only
    omega

end Go.Proofs.Ytollnmlnpngmfaa
