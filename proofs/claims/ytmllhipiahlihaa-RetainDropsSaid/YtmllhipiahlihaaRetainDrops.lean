/-
  RetainDrops: dropping and trimming leave exactly the events from a position on. No condition.
-/
import Derived.Test.YtmllhipiahlihaaRetainFull
namespace Go.Proofs.Ytmllhipiahlihaa
open Go.RowKit

def aft (l : List Int) : Int := l.foldl (fun n x => max n (x + 1)) 0
theorem after_g {B : Base} {v : Value} {l : List Int} (r : rowR v l B) (hl : l.length ≤ 1000000) (hr : ∀ x ∈ l, 0 ≤ x ∧ x ≤ 1099511627776) : Gives Try.prog B (sCall F_erratalaw12_after #[v]) (.int .i64 (aft l)) := by
  refine Gives.intro fun B' w K base h k => ?_
  replace r := base r
  refine erratalaw12_after.up (erratalaw12_after.call ?_)
  unfold erratalaw12_after.pt
  refine LOOP_intro (fun x w' => ∃ i : Nat, i ≤ l.length ∧ x = (.int .i64 (aft (l.take i)), .int .i64 i, ()) ∧ Rel B' w' []) (fun x _ => l.length - (match x.2.1 with | .int _ n => n.toNat | _ => 0)) ⟨0, Nat.zero_le _, rfl, h⟩ ?_
  clear h
  rintro x w1 ⟨i, hi, rfl, h⟩ next hnext
  simp -zeta only [rowR.len r sl_s_int, bin_lss, ifB_dec]
  refine ⟨fun hlt => ?_, fun hge => ?_⟩
  · have hil : i < l.length := by omega
    obtain ⟨p, q1, q2⟩ := rowR.at_sc r h sl_s_int hil sc_int rfl
    have := hr _ (List.getElem_mem hil)
    simp -zeta only [q1, q2, bin_add, blt_max]
    rw [wrap_id (by omega) (by omega), wrap_id (by omega) (by omega)]
    refine hnext _ _ ⟨i + 1, by omega, ?_, h⟩ (by simp only; omega)
    have e : aft (l.take (i + 1)) = max (aft (l.take i)) (l[i] + 1) := by
      unfold aft
      rw [List.take_succ_eq_append_getElem hil, List.foldl_append]
      rfl
    rw [e]
    rfl
  · have : i = l.length := by omega
    subst this
    rw [List.take_length]
    exact k _ _ h
theorem and40 (a : Int) : IntKind.wrap .i64 (BitVec.ofInt IntKind.i64.bits a &&& BitVec.ofInt IntKind.i64.bits 1099511627775).toNat = a % 1099511627776 := and_low a 40 (by omega) 1099511627775 (by decide)

def v7 : Val := ⟨0, 7, ⟨#[]⟩⟩
def dropE (i t : Int) : Ev := ⟨0, i, ⟨#[]⟩, 0, t, [v7]⟩
/-- The store has the events of these times. -/
structure Has (s : St) (T : List Int) : Prop where
  part : s.part = 0
  first : s.first = 0
  horizon : s.horizon = 0
  times : s.events.map (·.time) = T
  rows : ∀ e ∈ s.events, e.row = [v7]
theorem Has.len {s : St} {T : List Int} (h : Has s T) : s.events.length = T.length := by rw [← h.times]; simp
theorem Has.next {s : St} {T : List Int} (h : Has s T) : s.next = T.length := by unfold St.next; rw [h.first, h.len]; omega
theorem Has.add {s : St} {T : List Int} (h : Has s T) {t : Int} (ht : 0 ≤ t ∧ t ≤ 1099511627776) (hl : T.length < 2000) : addS s (dropE T.length t) = (0, { s with events := s.events ++ [dropE T.length t] }) ∧ Has { s with events := s.events ++ [dropE T.length t] } (T ++ [t]) := by
  have h1 : rightE s (dropE T.length t) = true := by simp [rightE, dropE, h.part, ht.1, ht.2, ByteArray.size]
  have h2 : rightRow (dropE T.length t).row = true := by show rightRow [v7] = true; decide +kernel
  have h3 : (dropE T.length t).pos = s.next := h.next.symm
  refine ⟨by unfold addS; rw [if_pos h1, if_pos h2, if_pos h3, if_pos (by rw [h.len]; exact hl)], h.part, h.first, h.horizon, by simp [h.times, dropE], fun e he => ?_⟩
  rcases List.mem_append.1 he with he | he
  · exact h.rows e he
  · simp only [List.mem_cons, List.not_mem_nil, or_false] at he
    subst he; rfl
theorem Has.hor {s : St} {T : List Int} (h : Has s T) (n : Nat) : (cutS s n).horizon = aft (T.take n) := by
  show Go.Proofs.Ytmllhipiahlihaa.hor s.horizon (s.events.take n) = _
  rw [h.horizon, ← h.times, ← List.map_take]
  unfold Go.Proofs.Ytmllhipiahlihaa.hor aft
  rw [List.foldl_map]
theorem Has.place {s : St} {T : List Int} (h : Has s T) (pos : Int) : (placeS s pos : Int) = max 0 (min pos T.length) := by
  unfold placeS
  rw [h.next, h.first]
  omega
theorem Has.trim {s : St} {T : List Int} (h : Has s T) {m : Nat} {t : Int} (hm : m ≤ T.length) (hlt : ∀ x ∈ T.take m, x < t) (hge : ∀ hm : m < T.length, t ≤ T[m]) : trimN s t = m := by
  have e : idxP (fun e : Ev => decide (t ≤ e.time)) s.events = idxP (fun x : Int => decide (t ≤ x)) T := by rw [← h.times, idxP_map]
  unfold trimN
  rw [e]
  rcases Nat.lt_or_ge m T.length with hm' | hm'
  · rw [idxP_take hm' (fun x hx => by have := hlt x hx; simp; omega) (by simp; exact hge hm')]
    rw [if_neg (by omega)]
    omega
  · have : m = T.length := by omega
    subst this
    rw [List.take_length] at hlt
    rw [idxP_none fun x hx => by have := hlt x hx; simp; omega, if_pos (by decide), h.len]
theorem Has.all {s : St} {T : List Int} (h : Has s T) (hT : ∀ x ∈ T, 0 ≤ x) : (∀ e ∈ s.events, 0 ≤ e.time) := by
  intro e he
  exact hT _ (by rw [← h.times]; exact List.mem_map.2 ⟨e, he, rfl⟩)

theorem retainDrops_pt {W : World} {v0 : Value} {pos time : Int} {times : List Int} (r : rowR v0 times (lawB W)) (hpos : -9223372036854775808 ≤ pos ∧ pos ≤ 9223372036854775807) {K : Value → World → Prop}
    (fin : ∀ w' σ, Rel (lawB W) w' σ → K (.bool true) w') : erratalaw12_RetainDrops.pt v0 (.int .i64 pos) (.int .i64 time) W K := by
  unfold erratalaw12_RetainDrops.pt
  refine small_r (lawB.start W) fun w1 h => ?_
  simp -zeta only [rowR.len r sl_s_int, bin_gtr, ifB_dec]
  refine ⟨fun _ => fin _ _ h, fun e1 => ?_⟩
  refine h.make (fun _ _ _ => new_m 0) fun u τ w2 hp h => ?_
  obtain ⟨b, rfl, rfl⟩ := hp
  simp -zeta only [bin_eql_ptr_nil UpS, ifB_false, bd_api_Value_1]
  refine h.build1 v7 sl_s_api_Value (by decide) fun vr w3 h => ?_
  refine h.build0 (α := Int) sl_s_int fun vt0 w4 h _ => ?_
  refine h.append 2 rfl sl_s_int (Rd.base r) (by simp; omega) (by simp; omega) fun vt w5 h => ?_
  replace h : Rel (lawB W) w5 [storeD b ⟨0, 0, 0, []⟩, rowD T_api_Value vr [v7], rowD T_int vt times] := h
  have T0 : ∀ (T : List Int) (hT : T = times.map (· % 1099511627776)), T.length = times.length ∧ ∀ x ∈ T, 0 ≤ x ∧ x ≤ 1099511627776 := by
    rintro T rfl
    refine ⟨by simp, fun x hx => ?_⟩
    obtain ⟨y, _, rfl⟩ := List.mem_map.1 hx
    omega
  obtain ⟨T, hT⟩ : ∃ T, T = times.map (· % 1099511627776) := ⟨_, rfl⟩
  obtain ⟨hTl, hTr⟩ := T0 T hT
  clear T0
  have hTi : ∀ (i : Nat) (hi : i < times.length), T[i]'(by omega) = times[i] % 1099511627776 := fun i hi => by simp [hT]
  refine LOOP_intro (fun x w' => ∃ (i : Nat) (s : St), i ≤ times.length ∧ x = (.int .i64 i, ()) ∧ Has s (T.take i) ∧ Rel (lawB W) w' [storeD b s, rowD T_api_Value vr [v7], rowD T_int vt (T.take i ++ times.drop i)]) (fun x _ => times.length - (match x.1 with | .int _ n => n.toNat | _ => 0))
    ⟨0, ⟨0, 0, 0, []⟩, Nat.zero_le _, rfl, ⟨rfl, rfl, rfl, rfl, fun e he => by cases he⟩, h⟩ ?_
  clear h
  rintro x w6 ⟨i, s, hi, rfl, hs, h⟩ next hnext
  have hrl : (T.take i ++ times.drop i).length = times.length := by simp; omega
  have hrd := rowD.read (h.here (i := 2) rfl)
  simp -zeta only [rowR.len hrd sl_s_int, hrl, bin_lss, ifB_dec]
  refine ⟨fun hlt => ?_, fun hge => ?_⟩
  · have hil : i < times.length := by omega
    obtain ⟨g, cap, hvt⟩ := h.open_ (i := 2) rfl (by omega)
    rw [hrl] at hvt
    rw [hvt] at h ⊢
    have hel := h.elem (α := Int) (i := 2) (j := i) rfl (by omega)
    have e2 : (T.take i ++ times.drop i)[i]'(by omega) = times[i] := by
      rw [List.getElem_append_right (by simp; omega)]
      simp [show i - min i T.length = 0 by omega]
    rw [e2] at hel
    simp -zeta only [idx_own (α := Int) sl_s_int hil, cellsR.ld0 hel sc_int rfl, bin_and, and40]
    refine h.set_sc (α := Int) 2 rfl (times[i] % 1099511627776) (j := i) (f := 0) (by omega) rfl (by decide) rfl sc_int rfl fun w7 h => ?_
    have e3 : (T.take i ++ times.drop i).set i (times[i] % 1099511627776) = T.take (i + 1) ++ times.drop (i + 1) := by
      rw [List.set_append_right _ _ (by simp; omega), List.length_take, show i - min i T.length = 0 by omega, List.drop_eq_getElem_cons hil, List.set_cons_zero, List.take_succ_eq_append_getElem (by omega), hTi i hil]
      simp
    replace h : Rel (lawB W) w7 [storeD b s, rowD T_api_Value vr [v7], rowD T_int (.slice (some ⟨g, 0, none⟩) times.length cap) (T.take (i + 1) ++ times.drop (i + 1))] := by rw [← e3]; exact h
    have hrl' : (T.take (i + 1) ++ times.drop (i + 1)).length = times.length := by simp; omega
    have hel := h.elem (α := Int) (i := 2) (j := i) rfl (by omega)
    have e4 : (T.take (i + 1) ++ times.drop (i + 1))[i]'(by omega) = T[i]'(by omega) := by
      rw [List.getElem_append_left (by simp; omega)]
      simp
    rw [e4] at hel
    obtain ⟨gr, capr, rfl⟩ := h.open_ (i := 1) rfl (by simp)
    simp -zeta only [idx_own (α := Int) sl_s_int hil, cellsR.ld0 hel sc_int rfl, bd_api_Event_1_4_5]
    have hti := hTr (T[i]'(by omega)) (List.getElem_mem _)
    refine h.act 0 rfl (fun B2 own base2 => add_d (dropE i (T[i]'(by omega))) ⟨.slice (some ⟨gr, 0, none⟩) [v7].length capr, rfl⟩ (rowD.read (own (j := 1) (by decide) rfl)) (by simp [dropE]) (fun x hx => by
      simp only [dropE, List.mem_cons, List.not_mem_nil, or_false] at hx
      subst hx
      simp [v7, ByteArray.size])) fun u e' τ w8 hp h => ?_
    obtain ⟨rfl, rfl, rfl⟩ := hp
    have hlt' : (T.take i).length = i := by simp; omega
    have hadd := hs.add (t := T[i]'(by omega)) hti (by omega)
    rw [hlt'] at hadd
    rw [hadd.1] at h ⊢
    simp -zeta only [bin_neq, decide_true, Bool.not_true, ifB_false, bin_add]
    rw [wrap_id (by omega) (by omega)]
    rw [← hvt] at h
    refine hnext _ _ ⟨i + 1, _, by omega, rfl, ?_, h⟩ (by simp only; omega)
    rw [List.take_succ_eq_append_getElem (by omega)]
    exact hadd.2
  · have hil : i = times.length := by omega
    subst hil
    clear hnext hrd
    rw [List.take_of_length_le (by omega)] at hs h
    rw [List.drop_length, List.append_nil] at h
    obtain ⟨gr, capr, rfl⟩ := h.open_ (i := 1) rfl (by simp)
    have i0 : ∀ {Kp : Value → Prop}, pureK Try.prog (sIdxAddr T_s_api_Value (.slice (some ⟨gr, 0, none⟩) [v7].length capr) (.int .i64 0)) Kp = Kp (.pointer (some ⟨gr, 0 * Enc.sz Val, none⟩)) := fun {Kp} => idx_own (α := Val) sl_s_api_Value (i := 0) (by simp)
    simp -zeta only [i0, field_addr f_api_Value_1]
    refine h.set_sc (α := Val) 1 rfl ⟨0, 8, ⟨#[]⟩⟩ (j := 0) (f := 1) (by simp) rfl (by decide) rfl sc_int rfl fun w7 h => ?_
    refine h.make (fun _ own _ => slice_m (storeD.read (own (i := 0) rfl)) 0 1) fun u τ w8 hp h => ?_
    obtain ⟨L1, hL1, rfl⟩ := hp
    have hlen := hs.len
    refine LETJ_intro fun J1 hJ1 => ?_
    replace hJ1 : ∀ w', Rel (lawB W) w' [storeD b s, rowD T_int vt T] → J1 () w' := by
      clear h hL1
      intro w' h
      refine hJ1 _ _ ?_
      clear hJ1
      refine h.make (fun _ own _ => copy_m (storeD.read (own (i := 0) rfl))) fun u τ w9 hp h => ?_
      obtain ⟨bc, rfl, rfl⟩ := hp
      refine h.make (fun _ own _ => copy_m (storeD.read (own (i := 0) rfl))) fun u τ w10 hp h => ?_
      obtain ⟨bd, rfl, rfl⟩ := hp
      replace h : Rel (lawB W) w10 [storeD b s, rowD T_int vt T, storeD bc s, storeD bd s] := h
      have hrd := rowD.read (h.here (i := 1) rfl)
      simp -zeta only [bin_eql_ptr_nil UpS, ifB_false, rowR.len hrd sl_s_int, hTl, blt_min, blt_max]
      obtain ⟨n, hn, hnl⟩ : ∃ n : Nat, max 0 (min pos (times.length : Int)) = n ∧ n ≤ times.length := ⟨(max 0 (min pos (times.length : Int))).toNat, by omega, by omega⟩
      have hpl : placeS s pos = n := by have := hs.place pos; rw [hTl] at this; omega
      simp -zeta only [hn]
      refine LETJ_intro fun J2 hJ2 => ?_
      replace hJ2 : ∀ w' (m : Nat), m ≤ T.length → trimN s time = m → Rel (lawB W) w' [storeD b s, rowD T_int vt T, storeD bc s, storeD bd s] → J2 (.int .i64 m, ()) w' := by
        clear h hrd
        intro w' m hm htr h
        refine hJ2 _ _ ?_
        clear hJ2
        have hf0 := hs.first
        refine h.act 2 rfl (fun B2 own base2 => drop_d pos (by omega)) fun u e' τ w11 hp h => ?_
        obtain ⟨rfl, rfl, rfl⟩ := hp
        rw [hpl] at h ⊢
        simp -zeta only [bin_neq, decide_true, Bool.not_true, ifB_false]
        refine h.act 3 rfl (fun B2 own base2 => trim_d time (by omega)) fun u e' τ w12 hp h => ?_
        obtain ⟨rfl, rfl, rfl⟩ := hp
        rw [htr] at h ⊢
        simp -zeta only [bin_neq, decide_true, Bool.not_true, ifB_false]
        replace h : Rel (lawB W) w12 [storeD b s, rowD T_int vt T, storeD bc (cutS s n), storeD bd (cutS s m)] := h
        have q1 : (cutS s n).first = n := by show s.first + n = _; omega
        have q2 : (cutS s m).first = m := by show s.first + m = _; omega
        refine h.ask (fun _ own _ => first_g (storeD.read (own (i := 2) rfl))) fun w13 h => ?_
        simp -zeta only [q1, bin_neq, decide_true, Bool.not_true, ifB_false]
        refine h.ask (fun _ own _ => first_g (storeD.read (own (i := 3) rfl))) fun w14 h => ?_
        simp -zeta only [q2, bin_neq, decide_true, Bool.not_true, ifB_false]
        refine h.ask (fun _ own _ => first_g (storeD.read (own (i := 0) rfl))) fun w15 h => ?_
        simp -zeta only [hf0, bin_neq, decide_true, Bool.not_true, ifB_false]
        refine h.ask (fun _ own _ => horizon_g (storeD.read (own (i := 0) rfl))) fun w16 h => ?_
        simp -zeta only [hs.horizon, bin_neq, decide_true, Bool.not_true, ifB_false]
        refine h.make (fun _ own _ => from_m (storeD.read (own (i := 0) rfl)) 0) fun u τ w17 hp h => ?_
        obtain ⟨L2, hL2, rfl⟩ := hp
        have ht0 := hs.all fun x hx => (hTr x hx).1
        have hfr : fromS s 0 = s.events := by
          unfold fromS
          exact List.filter_eq_self.2 fun e he => by simp [ht0 e he]
        have hfrc : fromS (cutS s n) 0 = s.events.drop n := by
          unfold fromS
          exact List.filter_eq_self.2 fun e he => by simp [ht0 e (List.mem_of_mem_drop he)]
        rw [hfr] at hL2
        have hL2l : L2.length = times.length := by have := congrArg List.length hL2; simp [evs] at this; omega
        have hr2 : (raws L2).length = times.length := by simp [raws, hL2l]
        have hrows : ∀ p ∈ L2, p.1.row = [v7] := fun p hp => hs.rows _ (by rw [← hL2]; exact List.mem_map.2 ⟨p, hp, rfl⟩)
        refine LOOP_intro (fun x w' => ∃ i : Nat, i ≤ times.length ∧ x = (.int .i64 i, ()) ∧ Rel (lawB W) w' ([storeD b s, rowD T_int vt T, storeD bc (cutS s n), storeD bd (cutS s m)] ++ rowD T_api_Event u (raws L2) :: L2.map rowEnt)) (fun x _ => times.length - (match x.1 with | .int _ n => n.toNat | _ => 0)) ⟨0, Nat.zero_le _, rfl, h⟩ ?_
        clear h
        rintro x w18 ⟨i, hi, rfl, h⟩ next hnext
        have hev := newEvs.read (B2 := ⟨w18, fun _ => True⟩) (fun hd => h.here hd)
        simp -zeta only [rowR.len hev.1 sl_s_api_Event, hr2, bin_lss, ifB_dec]
        refine ⟨fun hlt => ?_, fun hge => ?_⟩
        · have hil : i < L2.length := by omega
          obtain ⟨g, o, hx, hc⟩ := rowR.idx hev.1 sl_s_api_Event (i := i) (by omega)
          have hel : (raws L2)[i]'(by omega) = L2[i].1.raw L2[i].2 := by simp [raws]
          rw [hel] at hc
          simp -zeta only [hx, field_addr f_api_Event_5, cellsR.ld hc sc_s_api_Value (j := 5) rfl, bd_api_Value_1]
          refine h.build1 v7 sl_s_api_Value (by decide) fun vq w19 h => ?_
          refine h.ask (fun B2 own _ => sameRow_g (l := [v7]) (m := [v7]) (va := L2[i].2.1) ?_ (rowD.read (own get_last)) (by simp)) fun w20 h => ?_
          · have := (newEvs.read (σ := [storeD b s, rowD T_int vt T, storeD bc (cutS s n), storeD bd (cutS s m)]) (u := u) (L' := L2) (B2 := B2) (fun {i d} hd => own (i := i) (d := d) (by
              rw [List.getElem?_append_left]
              · exact hd
              · exact (List.getElem?_eq_some_iff.1 hd).1))).2 L2[i] (List.getElem_mem hil)
            have this : rowR L2[i].2.1 L2[i].1.row B2 := this
            rw [hrows _ (List.getElem_mem hil)] at this
            exact this
          simp -zeta only [decide_true, un_not, Bool.not_true, ifB_false, bin_add]
          rw [wrap_id (by omega) (by omega)]
          exact hnext _ _ ⟨i + 1, by omega, rfl, h.drop⟩ (by simp only; omega)
        · clear hnext
          have hrd := rowD.read (h.here (i := 1) rfl)
          simp -zeta only [ifB_true, rowR.cutE hrd sl_s_int (lo := 0) (hi := n) Bnd.none Bnd.some (Nat.zero_le _) (by omega)]
          have hcut : ∀ (B2 : Base) (n : Nat), n ≤ T.length → rowD T_int vt T B2 → rowR (cutV (Enc.sz Int) vt 0 n) (T.take n) B2 := fun B2 n hn hB => by
            have := rowR.cutR (rowD.read hB) (lo := 0) (hi := n) (Nat.zero_le _) hn
            rwa [List.drop_zero] at this
          refine h.tick.ask (fun _ own _ => horizon_g (storeD.read (own (i := 2) rfl))) fun w19 h => ?_
          refine h.ask (fun B2 own _ => after_g (hcut B2 n (by omega) (own (i := 1) rfl)) (by simp; omega) fun x hx => hTr x (List.mem_of_mem_take hx)) fun w20 h => ?_
          simp -zeta only [hs.hor n, bin_eql, decide_true, ifB_true]
          have hrd := rowD.read (h.here (i := 1) rfl)
          simp -zeta only [rowR.cutE hrd sl_s_int (lo := 0) (hi := m) Bnd.none Bnd.some (Nat.zero_le _) hm]
          refine h.ask (fun _ own _ => horizon_g (storeD.read (own (i := 3) rfl))) fun w21 h => ?_
          refine h.ask (fun B2 own _ => after_g (hcut B2 m hm (own (i := 1) rfl)) (by simp; omega) fun x hx => hTr x (List.mem_of_mem_take hx)) fun w22 h => ?_
          have hev := newEvs.read (B2 := ⟨w22, fun _ => True⟩) (fun hd => h.here hd)
          have hrd := rowD.read (h.here (i := 1) rfl)
          simp -zeta only [hs.hor m, bin_eql, decide_true, ifB_true, rowR.len hev.1 sl_s_api_Event, hr2, rowR.len hrd sl_s_int, hTl, bin_sub]
          rw [wrap_id (by omega) (by omega)]
          refine h.make (fun _ own _ => from_m (storeD.read (own (i := 2) rfl)) 0) fun u3 τ w23 hp h => ?_
          obtain ⟨L3, hL3, rfl⟩ := hp
          rw [hfrc] at hL3
          have hL3l : (raws L3).length = times.length - n := by have := congrArg List.length hL3; simp [evs] at this; simp [raws]; omega
          have hev := newEvs.read (B2 := ⟨w23, fun _ => True⟩) (fun hd => h.here hd)
          refine ⟨by
            have hrd := rowD.read (h.here (i := 1) rfl)
            have := is_of (P := Try.prog) (w := w23) (s := sBlt .len #[T_s_int] T_int #[false] #[vt]) (v := .int .i64 (times.length : Nat)) (fun {K} => by rw [rowR.len hrd sl_s_int, hTl])
            exact this, ?_⟩
          simp -zeta only [rowR.len hev.1 sl_s_api_Event, hL3l, bin_eql]
          have : decide (((times.length - n : Nat) : Int) = (times.length : Int) - n) = true := decide_eq_true (by omega)
          rw [this]
          exact fin _ _ h
      refine LOOP_intro (fun x w' => ∃ m : Nat, m ≤ times.length ∧ x = (.int .i64 m, ()) ∧ (∀ x ∈ T.take m, x < time) ∧ Rel (lawB W) w' [storeD b s, rowD T_int vt T, storeD bc s, storeD bd s]) (fun x _ => times.length - (match x.1 with | .int _ n => n.toNat | _ => 0)) ⟨0, Nat.zero_le _, rfl, (fun x hx => by simp at hx), h⟩ ?_
      clear h hrd
      rintro x w11 ⟨m, hm, rfl, hml, h⟩ next hnext
      have hrd := rowD.read (h.here (i := 1) rfl)
      simp -zeta only [rowR.len hrd sl_s_int, hTl, bin_lss, ifB_dec]
      refine ⟨fun hlt => ?_, fun hge => hJ2 _ m (by omega) (hs.trim (by omega) hml fun hm => absurd hm (by omega)) h⟩
      have hml' : m < T.length := by omega
      have ew : IntKind.i64.wrap ((times.length : Int) - 1) = (times.length : Int) - 1 := wrap_id (by omega) (by omega)
      have emin : min (m : Int) ((times.length : Int) - 1) = m := by omega
      obtain ⟨g, o, hx, hc⟩ := rowR.idx hrd sl_s_int (P := Try.prog) hml'
      simp -zeta only [bin_sub, ew, blt_min, emin, hx, cellsR.ld0 hc sc_int rfl, bin_lss, ifB_dec]
      refine ⟨fun hlt2 => ?_, fun hge2 => hJ2 _ m (by omega) (hs.trim (by omega) hml fun _ => by omega) h⟩
      rw [bin_add, wrap_id (by omega) (by omega)]
      refine hnext _ _ ⟨m + 1, by omega, rfl, ?_, h⟩ (by simp only; omega)
      intro x hx
      rw [List.take_succ_eq_append_getElem hml'] at hx
      rcases List.mem_append.1 hx with hx | hx
      · exact hml x hx
      · simp only [List.mem_cons, List.not_mem_nil, or_false] at hx
        omega
    have hfin : ∀ w' τ, Rel (lawB W) w' (storeD b s :: τ) → True := fun _ _ _ => trivial
    clear hfin
    have hev := newEvs.read (B2 := ⟨w8, fun _ => True⟩) (fun hd => h.here hd)
    have hp0 : placeS s 0 = 0 := by have := hs.place 0; omega
    have hL1e : evs L1 = s.events.take (max 0 (min 1 (s.events.length : Int))).toNat := by
      rw [hL1]
      unfold sliceS
      rw [hp0]
      simp
    simp -zeta only [rowR.len hev.1 sl_s_api_Event, bin_gtr, ifB_dec]
    have three : ∀ w' τ d, Rel (lawB W) w' (storeD b s :: d :: rowD T_int vt T :: τ) → J1 () w' := fun w' τ d h => hJ1 w' (by
      have := h.pick [0, 2] (by decide)
      exact this)
    refine ⟨fun hpos1 => ?_, fun _ => three _ _ _ h⟩
    cases L1 with
    | nil => exact absurd hpos1 (by decide)
    | cons p L1 =>
      have hp1 : p.1.row = [v7] := hs.rows _ (by
        have : p.1 ∈ evs (p :: L1) := List.mem_cons_self
        rw [hL1e] at this
        exact List.mem_of_mem_take this)
      obtain ⟨g, o, hx, hc⟩ := rowR.idx hev.1 sl_s_api_Event (P := Try.prog) (i := 0) (by simp [raws])
      have hx : ∀ {Kp : Value → Prop}, pureK Try.prog (sIdxAddr T_s_api_Event u (.int .i64 0)) Kp = Kp _ := hx
      have hc : cellsR g o (p.1.raw p.2).cs ⟨w8, fun _ => True⟩ := hc
      have hrow : rowR p.2.1 p.1.row ⟨w8, fun _ => True⟩ := hev.2 p List.mem_cons_self
      have e5 : (p.1.raw p.2).row.1 = p.2.1 := rfl
      have hr1 : p.1.row.length = 1 := by rw [hp1]; rfl
      have hent : Rel (lawB W) w8 [storeD b s, rowD T_api_Value (.slice (some ⟨gr, 0, none⟩) [v7].length capr) ([v7].set 0 ⟨0, 8, ⟨#[]⟩⟩), rowD T_int vt T, rowD T_api_Value p.2.1 p.1.row] := h.pick [0, 1, 2, 4] (by decide)
      obtain ⟨g3, cap3, h3⟩ := hent.open_ (i := 3) rfl (by omega)
      have i3 : ∀ {Kp : Value → Prop}, pureK Try.prog (sIdxAddr T_s_api_Value p.2.1 (.int .i64 0)) Kp = Kp (.pointer (some ⟨g3, 0 * Enc.sz Val, none⟩)) := fun {Kp} => by rw [h3]; exact idx_own (α := Val) sl_s_api_Value (i := 0) (by omega)
      have e7 : decide (((1 : Nat) : Int) = 1) = true := by decide
      simp -zeta only [hx, field_addr f_api_Event_5, cellsR.ld hc sc_s_api_Value (j := 5) rfl, e5, rowR.len hrow sl_s_api_Value, hr1, bin_neq, e7, Bool.not_true, ifB_false, i3, field_addr f_api_Value_1]
      rw [h3, hp1] at hent
      exact hent.set_sc (α := Val) 3 rfl ⟨0, 9, ⟨#[]⟩⟩ (j := 0) (f := 1) (by simp) rfl (by decide) rfl sc_int rfl fun w9 h => three _ _ _ h
end Go.Proofs.Ytmllhipiahlihaa
