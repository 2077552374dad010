/-
  NetTells: the network and the reference answer alike. No condition.
-/
import Derived.Test.YtollnmlnpngmfaaNetM
namespace Go.Proofs.Ytollnmlnpngmfaa
open Go.RowKit

theorem is_of' {s : Sem Next} {v : Value} {w : World} (h : ∀ {K : Value → Prop}, readK Try.prog s w K = K v) : Is Try.prog s v w := by
  obtain ⟨u, h1, rfl⟩ := (h (K := fun x => x = v)).mpr rfl
  exact h1

theorem netTells_pt {W : World} {v1 : Value} {l : List OpD} (h1 : RowR (fun _ => 0) 0 W v1 l) (at_i a b : Int) {K : Value → World → Prop}
    (fin : ∀ c w', Step T1 (fun _ => 0) W c w' → K (.bool true) w') : erratalaw07_NetTells.pt v1 (.int .i64 at_i) (.int .i64 a) (.int .i64 b) W K := by
  unfold erratalaw07_NetTells.pt
  have nT : ¬ T1 0 := fun e => absurd (show 1 ≤ 0 from e) (by omega)
  refine small_sp (fun _ => 0) fun c1 w1 st => ?_
  replace st : Step T1 _ W c1 w1 := st.none
  refine new_sp (c := c1) 1 2 fun c2 g w2 st2 hn => ?_
  replace st := st.trans st2.none
  simp -zeta only [build_ref0]
  refine box_of (t := 3) (c := c2) fun c3 w3 _ hm st3 => ?_
  replace hn := hn.frame st3 (fun h => h) (fun h => h)
  replace st := st.trans st3.none
  have hr : RefAt c3 3 4 w3 w2.heap.size ⟨[], 0⟩ := ⟨_, hm, RowO.nil _ _ _ _, by simp⟩
  generalize w2.heap.size = r at hr
  refine few_sp (h1.frame st nT) 600 fun f hf => ?_
  simp -zeta only [un_not, ifB_not, ifB_true, bin_neq_ptr_nil UpN, bin_eql_ptr_nil UpN, ifB_false]
  rw [ifB_bool]
  refine ⟨fun hr1 => ?_, fun _ => fin _ _ st⟩
  have hlen := hf hr1
  refine copy_sp hn 5 6 fun c4 g' w4 st4 hn' => ?_
  replace hn := hn.frame st4 (fun h => h) (fun h => h)
  replace hr := hr.frame st4 (fun h => h) (fun h => h)
  replace st := st.trans st4.none
  refine rcopy_sp hr 7 8 fun c5 r' w5 st5 hr' => ?_
  replace hn := hn.frame st5 (fun h => h) (fun h => h)
  replace hr := hr.frame st5 (fun h => h) (fun h => h)
  replace hn' := hn'.frame st5 (fun h => h) (fun h => h)
  replace st := st.trans st5.none
  refine LOOP_intro (fun x w' => ∃ (i : Nat) (c' : Nat → Nat) (g' r' : Nat) (s s' : NetS), i ≤ l.length ∧ x = (ptr g', ptr r', .int .i64 i, ()) ∧ Step T1 (fun _ => 0) W c' w' ∧ NetAt c' 1 2 w' g s ∧ RefAt c' 3 4 w' r s ∧
      NetAt c' 5 6 w' g' s' ∧ RefAt c' 7 8 w' r' s')
    (fun x _ => l.length - (match x.2.2.1 with | .int _ n => n.toNat | _ => 0)) ⟨0, c5, g', r', _, _, Nat.zero_le _, rfl, st, hn, hr, hn', hr'⟩ ?_
  clear hn hr hn' hr' st2 st3 st4 st5 st
  rintro x w6 ⟨i, c6, g', r', s, s', hi, rfl, st, hn, hr, hn', hr'⟩ next hnext
  simp -zeta only [(h1.frame st nT).len_eq TO, bin_lss, ifB_dec]
  refine ⟨fun hlt => ?_, fun hge => ?_⟩
  · have hil : i < l.length := by omega
    intro J1
    have hJ : ∀ c7 w7 g' r' s', Step T1 (fun _ => 0) W c7 w7 → NetAt c7 1 2 w7 g s → RefAt c7 3 4 w7 r s → NetAt c7 5 6 w7 g' s' → RefAt c7 7 8 w7 r' s' → J1 (ptr g') (ptr r') w7 := by
      intro c7 w7 g' r' s' st hn hr hn' hr'
      obtain ⟨o1, o2, _, _, hx, hc⟩ := opAt (h1.frame st nT) hil
      have ld : ∀ {c' w'} {Kp : Value → Prop}, Step T1 (fun _ => 0) W c' w' → readK Try.prog (sLoad T_erratalaw07_Op (.pointer (some ⟨o1, o2, none⟩))) w' Kp = Kp (oval l[i]) := by
        intro c' w' Kp st'
        obtain ⟨p1, p2, _, _, hx', hc'⟩ := opAt (h1.frame st' nT) hil
        have e : Value.pointer (some ⟨o1, o2, none⟩) = Value.pointer (some ⟨p1, p2, none⟩) := by
          have e1 := hx (Kp := fun x => x = Value.pointer (some ⟨o1, o2, none⟩))
          rw [hx'] at e1
          exact (e1.mpr rfl).symm
        rw [e]
        exact ld_ag (vs := [.int .i64 l[i].do_, .int .i64 l[i].n, .int .i64 l[i].to, .string l[i].s]) TOag rfl hc'.2.2
      show pureK _ _ _
      rw [hx, ld st]
      refine do_sp hn (by omega) l[i] fun c8 w8 st8 hn => ?_
      replace hr := hr.frame st8 (by unfold two; omega) (by unfold two; omega)
      replace hn' := hn'.frame st8 (by unfold two; omega) (by unfold two; omega)
      replace hr' := hr'.frame st8 (by unfold two; omega) (by unfold two; omega)
      replace st := st.trans (st8.mono (T1_two 1 2 (by omega) (by omega)))
      simp -zeta only [ofPkt, ext_2_0, ext_2_1]
      refine alloc_store_p 9 c8 _ fun c9 b9 w9 st9 hp => ?_
      replace hn := hn.frame st9 (fun h => h) (fun h => h)
      replace hr := hr.frame st9 (fun h => h) (fun h => h)
      replace hn' := hn'.frame st9 (fun h => h) (fun h => h)
      replace hr' := hr'.frame st9 (fun h => h) (fun h => h)
      replace st := st.trans st9.none
      rw [hx, ld st]
      refine model_sp hr (by omega) l[i] fun c10 w10 st10 hr => ?_
      replace hn := hn.frame st10 (by unfold two; omega) (by unfold two; omega)
      replace hn' := hn'.frame st10 (by unfold two; omega) (by unfold two; omega)
      replace hr' := hr'.frame st10 (by unfold two; omega) (by unfold two; omega)
      replace hp := hp.frame st10 (by unfold two; omega)
      replace st := st.trans (st10.mono (T1_two 3 4 (by omega) (by omega)))
      simp -zeta only [ofPkt, ext_2_0, ext_2_1]
      refine alloc_store_p 10 c10 _ fun c11 b11 w11 st11 hq => ?_
      replace hn := hn.frame (st11.trans (Step.tick nobody c11 w11)) (fun h => h) (fun h => h)
      replace hr := hr.frame (st11.trans (Step.tick nobody c11 w11)) (fun h => h) (fun h => h)
      replace hn' := hn'.frame (st11.trans (Step.tick nobody c11 w11)) (fun h => h) (fun h => h)
      replace hr' := hr'.frame (st11.trans (Step.tick nobody c11 w11)) (fun h => h) (fun h => h)
      replace hp := hp.frame (st11.trans (Step.tick nobody c11 w11)) (fun h => h)
      replace hq := hq.frame (Step.tick nobody c11 w11) (fun h => h)
      replace st := (st.trans st11.none).ticked
      clear st8 st9 st10 st11
      have hr2 := hr
      obtain ⟨v, hb, hrow, hl5⟩ := hr2
      simp -zeta only [load_p hp, load_p hq, neq_pkt, bin_neq, decide_true, Bool.not_true, ifB_false, nil_ptr, field_addr TR0, ld_sc TSl (hb.cell (o := 0) (v := v) rfl), hrow.read.len_eq TP]
      refine count_sp hn ⟨is_of' (hrow.read.len_eq TP), run_load_sc TSl (hb.cell (o := 0) (v := v) rfl), ?_⟩
      simp -zeta only [bin_neq, decide_true, Bool.not_true, ifB_false]
      refine hear_sp hn a b ?_
      refine rhear_sp hr.tick a b ?_
      simp -zeta only [bin_neq_bool UBool, beq_self_eq_true, Bool.not_true, ifB_false, bin_add]
      rw [wrap_id (by omega) (by omega)]
      refine hnext _ _ ⟨i + 1, c11, g', r', _, s', by omega, rfl, st.ticked, hn.tick, hr.tick, hn'.tick, hr'.tick⟩ ?_
      simp only
      omega
    clear_value J1
    simp -zeta only [bin_eql, ifB_dec]
    refine ⟨fun _ => ?_, fun _ => hJ c6 w6 g' r' s' st hn hr hn' hr'⟩
    refine copy_sp hn 5 6 fun c7 g2 w7 st7 hn2 => ?_
    replace hn := hn.frame st7 (fun h => h) (fun h => h)
    replace hr := hr.frame st7 (fun h => h) (fun h => h)
    replace st := st.trans st7.none
    refine rcopy_sp hr 7 8 fun c8 r2 w8 st8 hr2 => ?_
    replace hn := hn.frame st8 (fun h => h) (fun h => h)
    replace hn2 := hn2.frame st8 (fun h => h) (fun h => h)
    replace hr := hr.frame st8 (fun h => h) (fun h => h)
    replace st := st.trans st8.none
    exact hJ c8 w8 g2 r2 s st hn hr hn2 hr2
  · clear hnext
    simp -zeta only [bin_eql_ptr_nil UpN, ifB_false, ifB_true]
    have hr2 := hr.tick
    obtain ⟨v, hb, hrow, hl5⟩ := hr2
    simp -zeta only [nil_ptr, field_addr TR0, ld_sc TSl (hb.cell (o := 0) (v := v) rfl)]
    refine list_sp hn.tick 9 fun c7 v7 w7 st7 hlist => ?_
    replace hn := hn.tick.frame st7 (fun h => h) (fun h => h)
    replace hn' := hn'.tick.frame st7 (fun h => h) (fun h => h)
    replace hr' := hr'.tick.frame st7 (fun h => h) (fun h => h)
    replace hb := hb.frame st7 fun h => h
    replace hrow := hrow.frame st7 fun h => h
    replace st := st.ticked.trans st7.none
    refine ⟨run_load_sc TSl (hb.cell (o := 0) (v := v) rfl), ?_⟩
    refine same_sp hlist.read hrow.read (by omega) fun w8 st8 => ?_
    rw [decide_eq_true rfl, ifB_true]
    replace hn' := hn'.frame st8 (fun h => h) (fun h => h)
    replace hr' := hr'.frame st8 (fun h => h) (fun h => h)
    replace st := st.trans st8.none
    have hr3 := hr'
    obtain ⟨v, hb, hrow, hl5⟩ := hr3
    simp -zeta only [nil_ptr, field_addr TR0, ld_sc TSl (hb.cell (o := 0) (v := v) rfl)]
    refine list_sp hn' 9 fun c9 v9 w9 st9 hlist => ?_
    replace hn' := hn'.frame st9 (fun h => h) (fun h => h)
    replace hr' := hr'.frame st9 (fun h => h) (fun h => h)
    replace hb := hb.frame st9 fun h => h
    replace hrow := hrow.frame st9 fun h => h
    replace st := st.trans st9.none
    refine ⟨run_load_sc TSl (hb.cell (o := 0) (v := v) rfl), ?_⟩
    refine same_sp hlist.read hrow.read (by omega) fun w10 st10 => ?_
    rw [decide_eq_true rfl, ifB_true]
    replace hn' := hn'.frame st10 (fun h => h) (fun h => h)
    replace hr' := hr'.frame st10 (fun h => h) (fun h => h)
    replace st := st.trans st10.none
    refine hear_sp hn' a b ?_
    refine rhear_sp hr'.tick a b ?_
    rw [bin_eql_bool UBool, beq_self_eq_true]
    exact fin _ _ st.ticked
end Go.Proofs.Ytollnmlnpngmfaa
