/-
  TimelineOpen: the walk. No condition.
-/
import Derived.Test.YtmpnniicmmekmaaTimeF
namespace Go.Proofs.Ytmpnniicmmekmaa
open Go.RowKit

set_option maxRecDepth 4000 in
theorem timelineOpen_pt {W : World} {v0 : Value} {t : List Seg} {closed later version : Int} (r : rowR v0 t (lawB W)) {K : Value → World → Prop}
    (fin : ∀ w' σ, Rel (lawB W) w' σ → K (.bool true) w') : erratalaw45_TimelineOpen.pt v0 (.int .i64 closed) (.int .i64 later) (.int .i64 version) W K := by
  unfold erratalaw45_TimelineOpen.pt
  refine small_r (lawB.start W) fun w1 h => ?_
  simp -zeta only [rowR.len r sl_s_api_Seg, bin_gtr, ifB_dec]
  refine ⟨fun _ => fin _ _ h, fun hlen => ?_⟩
  refine h.ask (fun B2 own base2 => Right_g (base2 r) (by omega)) fun w2 h => ?_
  rw [un_not, ifB_not, ifB_bool]
  refine ⟨fun ht => ?_, fun _ => fin _ _ h⟩
  rw [rightT_true] at ht
  have hl0 : 0 < t.length := List.length_pos_iff.2 ht.some_
  simp -zeta only [bin_lss, bin_geq, ifB_dec]
  refine ⟨fun _ => fin _ _ h, fun h1 => ⟨fun _ => fin _ _ h, fun h2 => ⟨fun _ => fin _ _ h, fun h3 => ?_⟩⟩⟩
  refine h.make (fun B2 own base2 => tOpen_m (base2 r) ht.sorted (by omega) (closed := closed) (by omega)) fun u τ w3 hp h => ?_
  subst hp
  have h : Rel (lawB W) w3 ([] ++ [rowD T_int u (openS t closed)]) := h
  obtain ⟨B, hext, h, hrow⟩ := h.frz1
  have hL := rowD.read hrow
  clear hrow
  have hmem := fun v => openS_mem ht (closed := closed) (by omega) (by omega) (v := v)
  have hless := fun v => openS_less ht (closed := closed) (later := later) (by omega) (by omega) (by omega) (v := v)
  have hLl : (openS t closed).length ≤ 1000 := by
    unfold openS versS
    refine Nat.le_trans (Lib.compact_length_le _) ?_
    rw [sortI_length, List.length_map, List.length_drop]
    omega
  generalize openS t closed = L at hL hmem hless hLl
  have rB : rowR v0 t B := Dat.mono _ hext.le r
  replace fin : ∀ w' σ, Rel B w' σ → K (.bool true) w' := fun w' σ h => fin w' σ (hext.rel h)
  have hlast : ∀ v, (∃ i, ∃ hi : i < t.length, i + 1 = t.length ∧ t[i].version = v) ↔ (t[t.length - 1]'(by omega)).version = v := by
    intro v
    constructor
    · rintro ⟨i, hi, e, rfl⟩
      congr 2
      omega
    · intro e
      exact ⟨t.length - 1, by omega, by omega, e⟩
  simp only [hlast] at hmem
  refine LOOP_intro (fun x w' => ∃ v : Nat, 1 ≤ v ∧ v ≤ 51 ∧ x = (.int .i64 v, ()) ∧ Rel B w' []) (fun x _ => 51 - (match x.1 with | .int _ n => n.toNat | _ => 0))
    ⟨1, by omega, by omega, rfl, h⟩ ?_
  clear h
  rintro x w4 ⟨v, hv1, hv2, rfl, h⟩ next hnext
  simp -zeta only [bin_leq, ifB_dec]
  refine ⟨fun hle => ?_, fun hgt => ?_⟩
  · refine LETJ_intro fun J hJ => ?_
    replace hJ : ∀ w', Rel B w' [] → J () w' := by
      intro w' h
      refine hJ _ _ ?_
      rw [bin_add, wrap_id (by omega) (by omega)]
      exact hnext _ _ ⟨v + 1, by omega, by omega, rfl, h⟩ (by simp only; omega)
    clear hnext
    obtain ⟨g, o, hx, hc⟩ := rowR.idx rB sl_s_api_Seg (P := Try.prog) (i := t.length - 1) (by omega)
    have hw : IntKind.i64.wrap ((t.length : Int) - 1) = ((t.length - 1 : Nat) : Int) := by rw [wrap_id (by omega) (by omega)]; omega
    simp -zeta only [rowR.len rB sl_s_api_Seg, bin_sub, hw, hx, field_addr f_api_Seg_1, cellsR.ld (h.hereB hc) sc_int (j := 1) rfl, bin_eql, ifB_dec]
    refine ⟨fun e => ?_, fun e => ?_⟩
    case' refine_1 =>
      have hinit : (true = true ↔ (t[t.length - 1]'(by omega)).version = (v : Int) ∨ atS t (closed + 1) = v) := ⟨fun _ => .inl e, fun _ => rfl⟩
    case' refine_2 =>
      simp -zeta only [bin_add]
      rw [wrap_id (by omega) (by omega)]
      refine h.ask (fun B2 own base2 => At_g (base2 rB) ht.sorted ht.some_ (by omega) (closed + 1)) fun w5 h => ?_
      simp -zeta only [bin_eql]
      have hinit : (decide (atS t (closed + 1) = v) = true ↔ (t[t.length - 1]'(by omega)).version = (v : Int) ∨ atS t (closed + 1) = v) := ⟨fun h => .inr (of_decide_eq_true h), fun h => by
        rcases h with h | h
        · exact absurd h e
        · exact decide_eq_true h⟩
    all_goals
      refine LOOP_intro (fun x w' => ∃ (i : Nat) (c : Bool), i ≤ t.length ∧ x = (.bool c, .int .i64 i, ()) ∧ (c = true ↔ ((t[t.length - 1]'(by omega)).version = (v : Int) ∨ atS t (closed + 1) = v) ∨ ∃ q, ∃ hq : q < t.length, q < i ∧ t[q].version = v ∧ closed < t[q].from_) ∧ Rel B w' []) (fun x _ => t.length - (match x.2.1 with | .int _ n => n.toNat | _ => 0))
        ⟨0, _, Nat.zero_le _, rfl, hinit.trans ⟨fun h => .inl h, fun h => by
          rcases h with h | ⟨q, _, hq, _⟩
          · exact h
          · omega⟩, h⟩ ?_
      clear h
      rintro x w6 ⟨i, c, hi, rfl, hc2, h⟩ next hnext
      simp -zeta only [rowR.len rB sl_s_api_Seg, bin_lss, ifB_dec]
      refine ⟨fun hlt => ?_, fun hge => ?_⟩
      · have hil : i < t.length := by omega
        refine LETJ_intro fun J2 hJ2 => ?_
        replace hJ2 : ∀ c' : Bool, (c' = true ↔ c = true ∨ (t[i].version = v ∧ closed < t[i].from_)) → J2 (.bool c', ()) w6 := by
          intro c' hc'
          refine hJ2 _ _ ?_
          rw [bin_add, wrap_id (by omega) (by omega)]
          refine hnext _ _ ⟨i + 1, c', by omega, rfl, ?_, h⟩ (by simp only; omega)
          rw [hc', hc2]
          constructor
          · rintro ((h | ⟨q, hq, h5, h6⟩) | h)
            · exact .inl h
            · exact .inr ⟨q, hq, by omega, h6⟩
            · exact .inr ⟨i, hil, by omega, h⟩
          · rintro (h | ⟨q, hq, h5, h6⟩)
            · exact .inl (.inl h)
            · by_cases e : q = i
              · subst e; exact .inr h6
              · exact .inl (.inr ⟨q, hq, by omega, h6⟩)
        obtain ⟨g2, o2, hx2, hcl⟩ := rowR.idx rB sl_s_api_Seg hil
        simp -zeta only [ifB_bool, hx2, field_addr f_api_Seg_0, field_addr f_api_Seg_1, Nat.add_zero, cellsR.ld0 (h.hereB hcl) sc_int rfl, cellsR.ld (h.hereB hcl) sc_int (j := 1) rfl, bin_eql, bin_gtr]
        refine ⟨fun hct => hJ2 true ⟨fun _ => .inl hct, fun _ => rfl⟩, fun hcf => ⟨fun e1 => hJ2 _ ⟨fun e2 => .inr ⟨of_decide_eq_true e1, of_decide_eq_true e2⟩, fun e2 => ?_⟩, fun e1 => hJ2 false ⟨fun e => absurd e (by decide), fun e2 => ?_⟩⟩⟩
        · rcases e2 with e2 | e2
          · rw [hcf] at e2; cases e2
          · exact decide_eq_true e2.2
        · rcases e2 with e2 | e2
          · rw [hcf] at e2; cases e2
          · exact absurd e2.1 (of_decide_eq_false e1)
      · clear hnext
        have his : c = true ↔ (v : Int) ∈ L := by
          rw [hc2, hmem]
          constructor
          · rintro ((h | h) | ⟨q, hq, _, h⟩)
            · exact .inl h
            · exact .inr (.inl h)
            · exact .inr (.inr ⟨q, hq, h⟩)
          · rintro (h | h | ⟨q, hq, h⟩)
            · exact .inl (.inl h)
            · exact .inl (.inr h)
            · exact .inr ⟨q, hq, by omega, h⟩
        refine LOOP_intro (fun x w' => ∃ (j : Nat) (d : Bool), j ≤ L.length ∧ x = (.bool d, .int .i64 j, ()) ∧ (d = true ↔ ∃ q, ∃ hq : q < L.length, q < j ∧ L[q] = v) ∧ Rel B w' []) (fun x _ => L.length - (match x.2.1 with | .int _ n => n.toNat | _ => 0))
          ⟨0, false, Nat.zero_le _, rfl, ⟨fun e => absurd e (by decide), fun ⟨q, _, hq, _⟩ => absurd hq (Nat.not_lt_zero q)⟩, h⟩ ?_
        clear h
        rintro x w7 ⟨j, d, hj, rfl, hd, h⟩ next hnext
        simp -zeta only [rowR.len hL sl_s_int, bin_lss, ifB_dec]
        refine ⟨fun hlt => ?_, fun hge2 => ?_⟩
        · have hjl : j < L.length := by omega
          refine LETJ_intro fun J3 hJ3 => ?_
          replace hJ3 : ∀ d' : Bool, (d' = true ↔ d = true ∨ L[j] = (v : Int)) → J3 (.bool d', ()) w7 := by
            intro d' hd'
            refine hJ3 _ _ ?_
            rw [bin_add, wrap_id (by omega) (by omega)]
            refine hnext _ _ ⟨j + 1, d', by omega, rfl, ?_, h⟩ (by simp only; omega)
            rw [hd', hd]
            constructor
            · rintro (⟨q, hq, h5, h6⟩ | h)
              · exact ⟨q, hq, by omega, h6⟩
              · exact ⟨j, hjl, by omega, h⟩
            · rintro ⟨q, hq, h5, h6⟩
              by_cases e : q = j
              · subst e; exact .inr h6
              · exact .inl ⟨q, hq, by omega, h6⟩
          obtain ⟨g2, o2, hx2, hcl⟩ := rowR.idx hL sl_s_int hjl
          simp -zeta only [ifB_bool, hx2, cellsR.ld0 (h.hereB hcl) sc_int rfl, bin_eql]
          refine ⟨fun hct => hJ3 true ⟨fun _ => .inl hct, fun _ => rfl⟩, fun hcf => hJ3 _ ⟨fun e2 => .inr (of_decide_eq_true e2), fun e2 => ?_⟩⟩
          rcases e2 with e2 | e2
          · rw [hcf] at e2; cases e2
          · exact decide_eq_true e2
        · clear hnext
          have hdc : (d == c) = true := by
            have : d = true ↔ c = true := by
              rw [hd, his]
              constructor
              · rintro ⟨q, hq, _, e⟩; exact e ▸ List.getElem_mem hq
              · intro hm
                obtain ⟨q, hq, e⟩ := List.getElem_of_mem hm
                exact ⟨q, hq, by omega, e⟩
            cases d <;> cases c <;> simp_all
          rw [bin_neq_bool U_bool, hdc]
          simp -zeta only [Bool.not_true, ifB_false]
          exact hJ _ h
  · clear hnext
    refine h.make (fun B2 own base2 => tOpen_m (base2 rB) ht.sorted (by omega) (closed := later) (by omega)) fun u2 τ w5 hp h => ?_
    subst hp
    have h : Rel B w5 ([] ++ [rowD T_int u2 (openS t later)]) := h
    obtain ⟨B2, hext2, h, hrow⟩ := h.frz1
    have hL2 := rowD.read hrow
    clear hrow
    have hL2l : (openS t later).length ≤ 1000 := by
      unfold openS versS
      refine Nat.le_trans (Lib.compact_length_le _) ?_
      rw [sortI_length, List.length_map, List.length_drop]
      omega
    generalize openS t later = L2 at hL2 hless hL2l
    have hLB : rowR u L B2 := Dat.mono _ hext2.le hL
    have rB2 : rowR v0 t B2 := Dat.mono _ hext2.le rB
    replace fin : ∀ w' σ, Rel B2 w' σ → K (.bool true) w' := fun w' σ h => fin w' σ (hext2.rel h)
    refine LOOP_intro (fun x w' => ∃ i : Nat, i ≤ L2.length ∧ x = (.int .i64 i, ()) ∧ Rel B2 w' []) (fun x _ => L2.length - (match x.1 with | .int _ n => n.toNat | _ => 0))
      ⟨0, Nat.zero_le _, rfl, h⟩ ?_
    clear h
    rintro x w6 ⟨i, hi, rfl, h⟩ next hnext
    simp -zeta only [rowR.len hL2 sl_s_int, bin_lss, ifB_dec]
    refine ⟨fun hlt => ?_, fun hge => ?_⟩
    · have hil : i < L2.length := by omega
      refine LETJ_intro fun J6 hJ6 => ?_
      replace hJ6 : ∀ w', Rel B2 w' [] → J6 () w' := by
        intro w' h
        refine hJ6 _ _ ?_
        rw [bin_add, wrap_id (by omega) (by omega)]
        exact hnext _ _ ⟨i + 1, by omega, rfl, h⟩ (by simp only; omega)
      clear hnext
      obtain ⟨g1, o1, hx1, hc1⟩ := rowR.idx hL2 sl_s_int (P := Try.prog) hil
      refine LOOP_intro (fun x w' => ∃ (j : Nat) (d : Bool), j ≤ L.length ∧ x = (.bool d, .int .i64 j, ()) ∧ (d = true ↔ ∃ q, ∃ hq : q < L.length, q < j ∧ L[q] = L2[i]) ∧ Rel B2 w' []) (fun x _ => L.length - (match x.2.1 with | .int _ n => n.toNat | _ => 0))
        ⟨0, false, Nat.zero_le _, rfl, ⟨fun e => absurd e (by decide), fun ⟨q, _, hq, _⟩ => absurd hq (Nat.not_lt_zero q)⟩, h⟩ ?_
      clear h
      rintro x w7 ⟨j, d, hj, rfl, hd, h⟩ next hnext
      simp -zeta only [rowR.len hLB sl_s_int, bin_lss, ifB_dec]
      refine ⟨fun hlt => ?_, fun hge2 => ?_⟩
      · have hjl : j < L.length := by omega
        have h := h.tick
        refine LETJ_intro fun J3 hJ3 => ?_
        replace hJ3 : ∀ d' : Bool, (d' = true ↔ d = true ∨ L[j] = L2[i]) → J3 (.bool d', ()) (tick w7) := by
          intro d' hd'
          refine hJ3 _ _ ?_
          rw [bin_add, wrap_id (by omega) (by omega)]
          refine hnext _ _ ⟨j + 1, d', by omega, rfl, ?_, h⟩ (by simp only; omega)
          rw [hd', hd]
          constructor
          · rintro (⟨q, hq, h5, h6⟩ | h)
            · exact ⟨q, hq, by omega, h6⟩
            · exact ⟨j, hjl, by omega, h⟩
          · rintro ⟨q, hq, h5, h6⟩
            by_cases e : q = j
            · subst e; exact .inr h6
            · exact .inl ⟨q, hq, by omega, h6⟩
        obtain ⟨g2, o2, hx2, hcl⟩ := rowR.idx hLB sl_s_int hjl
        simp -zeta only [ifB_bool, hx1, hx2, cellsR.ld0 (h.hereB hc1) sc_int rfl, cellsR.ld0 (h.hereB hcl) sc_int rfl, bin_eql]
        refine ⟨fun hct => hJ3 true ⟨fun _ => .inl hct, fun _ => rfl⟩, fun hcf => hJ3 _ ⟨fun e2 => .inr (of_decide_eq_true e2), fun e2 => ?_⟩⟩
        rcases e2 with e2 | e2
        · rw [hcf] at e2; cases e2
        · exact decide_eq_true e2
      · clear hnext
        obtain ⟨q, hq, e⟩ := List.getElem_of_mem (hless _ (List.getElem_mem hil))
        have hdt : d = true := hd.2 ⟨q, hq, by omega, e⟩
        subst hdt
        simp -zeta only [un_not, Bool.not_true, ifB_false]
        exact hJ6 _ h
    · clear hnext
      simp -zeta only [bin_add]
      rw [wrap_id (by omega) (by omega)]
      refine h.make (fun B3 own base2 => Replace_m (base2 rB2) ht.sorted (by omega) (later + 1) version) fun u3 τ w7 hp h => ?_
      obtain ⟨v', rfl, rfl⟩ := hp
      have h : Rel B2 w7 [rowD T_api_Seg v' (replT t (later + 1) version).1] := h
      by_cases hver : 1 ≤ version ∧ version ≤ 50
      · obtain ⟨hok, hs', hne', hl'⟩ := replT_ok (t := t) (fr := later + 1) ⟨by omega, by omega⟩ hver ht.sorted
        rw [hok]
        simp -zeta only [ext_2_0, ext_2_1, bin_neq, decide_true, Bool.not_true, ifB_false]
        refine h.make (fun B3 own base2 => tOpen_m (rowD.read (own (i := 0) rfl)) hs' (by omega) (closed := later) (by omega)) fun u4 τ w8 hp h => ?_
        subst hp
        rw [openS_after ht (by omega) (by omega) hver] at h
        have hr := rowD.read (h.here (i := 1) rfl)
        obtain ⟨g4, o4, hx4, hc4⟩ := rowR.idx hr sl_s_int (P := Try.prog) (i := 0) (by simp)
        have hx4 : ∀ {Kp : Value → Prop}, pureK Try.prog (sIdxAddr T_s_int u4 (.int .i64 0)) Kp = Kp _ := hx4
        have e1 : decide ((([version] : List Int).length : Int) = 1) = true := by simp
        have hc4 : cellsR g4 o4 [Value.int .i64 version] ⟨w8, fun _ => True⟩ := hc4
        simp -zeta only [ifB_true, rowR.len hr sl_s_int, bin_eql, e1, hx4, cellsR.ld0 hc4 sc_int rfl, decide_true]
        exact fin _ _ h
      · rw [replT_bad (by omega)]
        have e3 : decide ((3 : Int) = 0) = false := by decide
        simp -zeta only [ext_2_0, ext_2_1, bin_neq, e3, Bool.not_false, ifB_true, bin_lss, bin_gtr, ifB_dec]
        refine ⟨fun _ => fin _ _ h, fun hv => ?_⟩
        rw [decide_eq_true (by omega)]
        exact fin _ _ h
end Go.Proofs.Ytmpnniicmmekmaa
