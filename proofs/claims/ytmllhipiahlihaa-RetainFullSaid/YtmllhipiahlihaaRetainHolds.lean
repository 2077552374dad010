/-
  RetainHolds: the retained events are those that were added, from First on. No condition.
-/
import Derived.Test.YtmllhipiahlihaaRetainF
namespace Go.Proofs.Ytmllhipiahlihaa
open Go.RowKit

/-! ### The plain law -/
theorem hor_append (h : Int) (l m : List Ev) : hor h (l ++ m) = hor (hor h l) m := by unfold hor; rw [List.foldl_append]
theorem hor_ge (h : Int) (l : List Ev) : h ≤ hor h l ∧ ∀ e ∈ l, e.time < hor h l := by
  induction l generalizing h with
  | nil => exact ⟨Int.le_refl _, fun e he => by cases he⟩
  | cons a l ih =>
    obtain ⟨h1, h2⟩ := ih (max h (a.time + 1))
    have e : hor h (a :: l) = hor (max h (a.time + 1)) l := rfl
    rw [e]
    refine ⟨by omega, fun x hx => ?_⟩
    cases hx with
    | head => omega
    | tail _ hx => exact h2 x hx

/-- The store has what was added, from its first position on. -/
structure Holds (s : St) (all : List Ev) (n : Nat) : Prop where
  first : s.first = n
  le : n ≤ all.length
  events : s.events = all.drop n
  horizon : s.horizon = hor 0 (all.take n)

theorem Holds.next {s : St} {all : List Ev} {n : Nat} (h : Holds s all n) : s.next = all.length ∧ s.events.length + n = all.length := by
  have h1 : s.events.length = all.length - n := by rw [h.events, List.length_drop]
  have := h.le
  unfold St.next
  rw [h.first]
  omega
theorem Holds.cut {s : St} {all : List Ev} {n m : Nat} (h : Holds s all n) (hm : m ≤ s.events.length) : Holds (cutS s m) all (n + m) ∧ s.horizon ≤ (cutS s m).horizon := by
  have hn := h.next.2
  refine ⟨⟨by show s.first + m = _; rw [h.first]; omega, by omega, ?_, ?_⟩, (hor_ge s.horizon (s.events.take m)).1⟩
  · show s.events.drop m = _
    rw [h.events, List.drop_drop]
  · show hor s.horizon (s.events.take m) = _
    rw [h.horizon, h.events, ← hor_append]
    congr 1
    rw [List.take_add]
theorem addS_cases (s : St) (e : Ev) : ((addS s e).1 ≠ 0 ∧ (addS s e).2 = s) ∨ ((addS s e).1 = 0 ∧ e.pos = s.next ∧ (addS s e).2 = { s with events := s.events ++ [e] }) := by
  unfold addS
  split
  · split
    · split
      · split
        · right; exact ⟨rfl, by assumption, rfl⟩
        · left; refine ⟨?_, rfl⟩; intro h; cases h
      · left; refine ⟨?_, rfl⟩; intro h; cases h
    · left; refine ⟨?_, rfl⟩; intro h; cases h
  · left; refine ⟨?_, rfl⟩; intro h; cases h
theorem Holds.add {s : St} {all : List Ev} {n : Nat} (h : Holds s all n) (e : Ev) : Holds { s with events := s.events ++ [e] } (all ++ [e]) n :=
  ⟨h.first, by simp; have := h.le; omega, by show s.events ++ [e] = _; rw [h.events, List.drop_append_of_le_length h.le], by show s.horizon = _; rw [h.horizon, List.take_append_of_le_length h.le]⟩
theorem Holds.slice {s : St} {all : List Ev} {n : Nat} (h : Holds s all n) (hl : all.length ≤ 100) : sliceS s 0 100 = all.drop n := by
  have hn := h.next
  have hp : placeS s 0 = 0 := by unfold placeS; rw [hn.1, h.first]; omega
  unfold sliceS
  rw [hp, List.drop_zero, List.take_of_length_le (by omega), h.events]
theorem Holds.from_ {s : St} {all : List Ev} {n : Nat} (h : Holds s all n) {t : Int} (ht : s.horizon ≤ t) : fromS s t = all.filter fun e => decide (t ≤ e.time) := by
  unfold fromS
  rw [h.events]
  conv => rhs; rw [← List.take_append_drop n all, List.filter_append]
  have : (all.take n).filter (fun e => decide (t ≤ e.time)) = [] := by
    rw [List.filter_eq_nil_iff]
    intro e he
    have := (hor_ge 0 (all.take n)).2 e he
    rw [← h.horizon] at this
    simp
    omega
  rw [this, List.nil_append]

theorem retainHolds_pt {W : World} {v1 : Value} {part time : Int} {ops : List D_erratalaw12_Op} (r : rowR v1 ops (lawB W)) (hm : ops.length ≤ maxLen) (hq : ∀ o ∈ ops, ok_erratalaw12_Op W o) {K : Value → World → Prop}
    (fin : ∀ w' σ, Rel (lawB W) w' σ → K (.bool true) w') : erratalaw12_RetainHolds.pt (.int .i64 part) v1 (.int .i64 time) W K := by
  unfold erratalaw12_RetainHolds.pt
  refine small_r (lawB.start W) fun w1 h => ?_
  refine few_r h r hm hq fun b w2 hb h => ?_
  simp -zeta only [un_not, ifB_not]
  rw [ifB_bool]
  refine ⟨fun e => ?_, fun _ => fin _ _ h⟩
  obtain ⟨hlen, hfew⟩ := hb e
  clear hb hm hq
  refine h.make (fun _ _ _ => new_m part) fun u τ w3 hp h => ?_
  obtain ⟨b, rfl, rfl⟩ := hp
  simp -zeta only [bin_eql_ptr_nil UpS, ifB_false]
  have h := h.addNil D_api_Event T_api_Event
  refine LOOP_intro (fun x w' => ∃ (i : Nat) (va : Value) (s : St) (LA : EvL) (n : Nat), i ≤ ops.length ∧ LA.length ≤ i ∧ x = (va, .int .i64 s.first, .int .i64 s.horizon, .int .i64 i, ()) ∧ Holds s (evs LA) n ∧ rowsR LA (lawB W) ∧ (∀ p ∈ LA, p.1.row.length ≤ 13) ∧ Rel (lawB W) w' [storeD b s, rowD T_api_Event va (raws LA)])
    (fun x _ => ops.length - (match x.2.2.2.1 with | .int _ n => n.toNat | _ => 0)) ⟨0, _, ⟨part, 0, 0, []⟩, [], 0, Nat.zero_le _, Nat.le_refl _, rfl, ⟨rfl, Nat.le_refl _, rfl, rfl⟩, (fun p hp => by cases hp), (fun p hp => by cases hp), h⟩ ?_
  clear h
  rintro x w4 ⟨i, va, s, LA, n, hi, hLi, rfl, hs, hrows, hrl, h⟩ next hnext
  simp -zeta only [rowR.len r sl_s_erratalaw12_Op, bin_lss, ifB_dec]
  refine ⟨fun hlt => ?_, fun _ => fin _ _ h⟩
  have hil : i < ops.length := by omega
  refine LETJ_intro fun J1 hJ1 => ?_
  replace hJ1 : ∀ (w' : World) (va : Value) (s : St) (LA : EvL) (n : Nat), LA.length ≤ i + 1 → Holds s (evs LA) n → rowsR LA (lawB W) → (∀ p ∈ LA, p.1.row.length ≤ 13) → Rel (lawB W) w' [storeD b s, rowD T_api_Event va (raws LA)] → J1 (va, .int .i64 s.first, .int .i64 s.horizon, ()) w' := by
    intro w' va s LA n h1 h2 h3 h4 h5
    refine hJ1 _ _ ?_
    show pureK _ _ _
    rw [bin_add, wrap_id (by omega) (by omega)]
    exact hnext _ _ ⟨i + 1, va, s, LA, n, by omega, h1, rfl, h2, h3, h4, h5⟩ (by simp only; omega)
  clear hnext
  obtain ⟨g, o, hx, hc⟩ := rowR.idx r sl_s_erratalaw12_Op hil
  obtain ⟨row, hrow, hr13, hsrc, hrs⟩ := hfew _ (List.getElem_mem hil)
  generalize ops[i] = op at hc hrow hsrc
  simp -zeta only [hx, cellsR.ldAg (h.hereB hc) ag_erratalaw12_Op rfl]
  refine h.allocAg (ds := op.cs.toArray) z_erratalaw12_Op rfl ag_erratalaw12_Op rfl (fun v hv => Enc.one op v hv) fun bo w5 h => ?_
  refine LETJ_intro fun J2 hJ2 => ?_
  replace hJ2 : ∀ (w' : World) (op : D_erratalaw12_Op), rowR op.e.row.1 row (lawB W) → op.e.source.size ≤ 300 → Rel (lawB W) w' [storeD b s, rowD T_api_Event va (raws LA), cellD bo T_erratalaw12_Op op.cs.toArray] → J2 () w' := by
    clear h hrow hsrc hc op
    intro w5 op hrow hsrc h
    refine hJ2 _ _ ?_
    clear hJ2
    refine LETJ_intro fun J3 hJ3 => ?_
    replace hJ3 : ∀ (w' : World) (va : Value) (s' : St) (LA : EvL) (n : Nat), LA.length ≤ i + 1 → Holds s' (evs LA) n → s.first ≤ s'.first → s.horizon ≤ s'.horizon → rowsR LA (lawB W) → (∀ p ∈ LA, p.1.row.length ≤ 13) → Rel (lawB W) w' [storeD b s', rowD T_api_Event va (raws LA)] → J3 (va, ()) w' := by
      clear h hs hLi hrows hrl
      intro w' va s' LA n hLi hs hf hh hrows hrl h
      refine hJ3 _ _ ?_
      clear hJ3
      have hn := hs.next
      have hLl : (evs LA).length = LA.length := by simp [evs]
      have hrw : (raws LA).length = LA.length := by simp [raws]
      refine h.ask (fun _ own _ => first_g (storeD.read (own (i := 0) rfl))) fun w6 h => ?_
      simp -zeta only [bin_lss, ifB_dec]
      refine ⟨fun e => absurd e (by omega), fun _ => ?_⟩
      refine h.ask (fun _ own _ => horizon_g (storeD.read (own (i := 0) rfl))) fun w7 h => ?_
      simp -zeta only [bin_lss, ifB_dec]
      refine ⟨fun e => absurd e (by omega), fun _ => ?_⟩
      refine h.ask (fun _ own _ => first_g (storeD.read (own (i := 0) rfl))) fun w8 h => ?_
      have hrd := rowD.read (h.here (i := 1) rfl)
      have hfn := hs.first
      have hle := hs.le
      simp -zeta only [rowR.len hrd sl_s_api_Event, hrw, bin_gtr, ifB_dec]
      refine ⟨fun e => absurd e (by omega), fun _ => ?_⟩
      refine h.ask (fun _ own _ => next_g (storeD.read (own (i := 0) rfl))) fun w9 h => ?_
      have hrd := rowD.read (h.here (i := 1) rfl)
      simp -zeta only [rowR.len hrd sl_s_api_Event, hrw, bin_neq, ifB_not, ifB_dec]
      refine ⟨fun _ => ?_, fun e => absurd (by omega) e⟩
      refine h.ask (fun _ own _ => first_g (storeD.read (own (i := 0) rfl))) fun w10 h => ?_
      refine h.ask (fun _ own _ => horizon_g (storeD.read (own (i := 0) rfl))) fun w11 h => ?_
      have hrd := rowD.read (h.here (i := 1) rfl)
      rw [hfn, rowR.cutE hrd sl_s_api_Event (lo := n) (hi := (raws LA).length) Bnd.some Bnd.none (by omega) (Nat.le_refl _)]
      have h := h.tick
      refine h.make (fun _ own _ => slice_m (storeD.read (own (i := 0) rfl)) 0 100) fun u τ w12 hp h => ?_
      obtain ⟨L', he', rfl⟩ := hp
      rw [hs.slice (by omega)] at he'
      have hL' : L'.length ≤ 100 := by have := congrArg List.length he'; simp [evs] at this; omega
      refine h.ask (fun B2 own base2 => sameEv_g (L := L') (M := LA.drop n) (newEvs.read own) ⟨?_, fun p hp => base2 (Dat.mono _ (Base.le.refl _) (show (Dat.all [p] fun p => rowR p.2.1 p.1.row) (lawB W) from fun q hq => by
        simp only [List.mem_cons, List.not_mem_nil, or_false] at hq
        subst hq
        exact hrows q (List.mem_of_mem_drop hp))) p List.mem_cons_self⟩ (by omega) fun p hp => ?_) fun w13 h => ?_
      · have := rowR.cutR (rowD.read (own (i := 1) rfl)) (lo := n) (hi := (raws LA).length) (by omega) (Nat.le_refl _)
        have e1 : ((raws LA).take (raws LA).length).drop n = raws (LA.drop n) := by rw [List.take_length]; simp [raws]
        rw [e1] at this
        exact this
      · have : p.1 ∈ (evs LA).drop n := by rw [← he']; exact List.mem_map.2 ⟨p, hp, rfl⟩
        obtain ⟨q, hq, hqe⟩ := List.mem_map.1 (List.mem_of_mem_drop this)
        rw [← hqe]
        have := hrl q hq
        omega
      have hsame : decide (evs L' = evs (LA.drop n)) = true := decide_eq_true (by rw [he']; simp [evs])
      rw [hsame]
      simp -zeta only [un_not, Bool.not_true, ifB_false]
      have h := (h.take 2).addNil D_api_Event T_api_Event
      refine LOOP_intro (fun x w' => ∃ (k : Nat) (vw : Value), k ≤ LA.length ∧ x = (vw, .int .i64 k, ()) ∧ Rel (lawB W) w' [storeD b s', rowD T_api_Event va (raws LA), rowD T_api_Event vw (raws ((LA.take k).filter fun p => decide (time ≤ p.1.time)))])
        (fun x _ => LA.length - (match x.2.1 with | .int _ n => n.toNat | _ => 0)) ⟨0, _, Nat.zero_le _, rfl, h⟩ ?_
      clear h hsame hL' he' hrd
      rintro x w14 ⟨k, vw, hk, rfl, h⟩ next hnext
      have hrd := rowD.read (h.here (i := 1) rfl)
      simp -zeta only [rowR.len hrd sl_s_api_Event, hrw, bin_lss, ifB_dec]
      refine ⟨fun hlt => ?_, fun hge => ?_⟩
      · have hkl : k < LA.length := by omega
        refine LETJ_intro fun J4 hJ4 => ?_
        replace hJ4 : ∀ w' vw, Rel (lawB W) w' [storeD b s', rowD T_api_Event va (raws LA), rowD T_api_Event vw (raws ((LA.take (k + 1)).filter fun p => decide (time ≤ p.1.time)))] → J4 (vw, ()) w' := by
          intro w' vw h
          refine hJ4 _ _ ?_
          show pureK _ _ _
          rw [bin_add, wrap_id (by omega) (by omega)]
          exact hnext _ _ ⟨k + 1, vw, by omega, rfl, h⟩ (by simp only; omega)
        clear hnext
        obtain ⟨g, o, hx, hc⟩ := rowR.idx hrd sl_s_api_Event (i := k) (by omega)
        have hel : (raws LA)[k]'(by omega) = LA[k].1.raw LA[k].2 := by simp [raws]
        rw [hel] at hc
        have hsucc : (LA.take (k + 1)).filter (fun p => decide (time ≤ p.1.time)) = (LA.take k).filter (fun p => decide (time ≤ p.1.time)) ++ (if time ≤ LA[k].1.time then [LA[k]] else []) := by
          rw [List.take_succ_eq_append_getElem hkl, List.filter_append]
          congr 1
          by_cases hh : time ≤ LA[k].1.time <;> simp [hh]
        have hfl := List.length_filter_le (fun p : Ev × SV => decide (time ≤ p.1.time)) (LA.take k)
        simp -zeta only [hx, field_addr f_api_Event_4, cellsR.ld hc sc_int (j := 4) rfl, cellsR.ldAg hc ag_api_Event rfl, bin_geq, ifB_dec]
        refine ⟨fun (hle : time ≤ LA[k].1.time) => ?_, fun (hle : ¬ time ≤ LA[k].1.time) => ?_⟩
        · refine h.push1 (α := D_api_Event) 2 rfl (LA[k].1.raw LA[k].2) sl_s_api_Event (by decide) (by simp [raws] at hfl ⊢; omega) (by simp [raws] at hfl ⊢; omega) fun vw' w15 h => ?_
          refine hJ4 _ vw' ?_
          rw [hsucc, if_pos hle]
          simpa [raws] using h
        · refine hJ4 _ vw ?_
          rw [hsucc, if_neg hle, List.append_nil]
          exact h
      · have hkl : k = LA.length := by omega
        subst hkl
        clear hnext
        rw [List.take_length] at h
        have fin1 : ∀ w', Rel (lawB W) w' [storeD b s', rowD T_api_Event va (raws LA)] → J1 (va, .int .i64 (n : Int), .int .i64 s'.horizon, ()) w' := fun w' h => by
          have := hJ1 w' va s' LA n hLi hs hrows hrl h
          rw [hfn] at this
          exact this
        simp -zeta only [bin_geq, ifB_dec]
        refine ⟨fun hge => ?_, fun _ => fin1 _ (h.take 2)⟩
        refine h.make (fun _ own _ => from_m (storeD.read (own (i := 0) rfl)) time) fun u τ w15 hp h => ?_
        obtain ⟨L', he', rfl⟩ := hp
        rw [hs.from_ hge] at he'
        have hfe : evs (LA.filter fun p => decide (time ≤ p.1.time)) = (evs LA).filter fun e => decide (time ≤ e.time) := by
          simp only [evs, List.filter_map]
          rfl
        have hL' : L'.length ≤ 100 := by
          have := congrArg List.length he'
          have h2 := List.length_filter_le (fun e : Ev => decide (time ≤ e.time)) (evs LA)
          simp [evs] at this h2
          omega
        refine h.ask (fun B2 own base2 => sameEv_g (L := L') (M := LA.filter fun p => decide (time ≤ p.1.time)) (newEvs.read own) ⟨rowD.read (own (i := 2) rfl), fun p hp => base2 (Dat.mono _ (Base.le.refl _) (show (Dat.all [p] fun p => rowR p.2.1 p.1.row) (lawB W) from fun q hq => by
          simp only [List.mem_cons, List.not_mem_nil, or_false] at hq
          subst hq
          exact hrows q (List.mem_filter.1 hp).1)) p List.mem_cons_self⟩ (by omega) fun p hp => ?_) fun w16 h => ?_
        · have : p.1 ∈ (evs LA).filter fun e => decide (time ≤ e.time) := by rw [← he']; exact List.mem_map.2 ⟨p, hp, rfl⟩
          obtain ⟨q, hq, hqe⟩ := List.mem_map.1 (List.mem_filter.1 this).1
          rw [← hqe]
          have := hrl q hq
          omega
        have hsame : decide (evs L' = evs (LA.filter fun p => decide (time ≤ p.1.time))) = true := decide_eq_true (by rw [he', hfe])
        rw [hsame]
        simp -zeta only [un_not, Bool.not_true, ifB_false]
        exact fin1 _ (h.take 2)
    have hmod : 0 ≤ op.do_ % 5 ∧ op.do_ % 5 < 5 := by omega
    simp -zeta only [field_addr f_erratalaw12_Op_0, Nat.zero_add, h.ld 2 rfl sc_int (o := 0) rfl]
    refine h.ask (fun _ _ _ => pick_g op.do_) fun w6 h => ?_
    have hn := hs.next
    have hLl : (evs LA).length = LA.length := by simp [evs]
    refine LETJ_intro fun J5 hJ5 => ?_
    replace hJ5 : ∀ bb : Bool, J5 (.bool bb, ()) w6 := by
      intro bb
      refine hJ5 _ _ ?_
      clear hJ5
      simp -zeta only [field_addr f_erratalaw12_Op_1, field_addr f_erratalaw12_Op_3]
      show ifB (.bool bb) _ _
      rw [ifB_bool]
      have hrw : (raws LA).length = LA.length := by simp [raws]
      have hce : ∀ w' τ, Rel (lawB W) w' (storeD b s :: rowD T_api_Event va (raws LA) :: cellD bo T_erratalaw12_Op op.cs.toArray :: τ) → cellsR bo 1 op.e.cs ⟨w', fun _ => True⟩ := fun w' τ h => cellD.sub (h.here (i := 2) rfl) rfl
      have hs3 : s.first ≤ 100 ∧ s.events.length ≤ 100 := by have := hs.first; have := hs.le; omega
      refine ⟨fun _ => ?_, fun _ => ?_⟩
      · simp -zeta only [Nat.zero_add, cellsR.ldAg (hce _ _ h) ag_api_Event rfl]
        refine h.act 0 rfl (fun B2 own base2 => add_d (evOf op.e row) op.e.row (base2 hrow) (by show row.length ≤ _; omega) (fun x hx => by have := hrs x hx; omega)) fun u e' τ w7 hp h => ?_
        obtain ⟨rfl, rfl, rfl⟩ := hp
        have h : Rel (lawB W) w7 [storeD b (addS s (evOf op.e row)).2, rowD T_api_Event va (raws LA), cellD bo T_erratalaw12_Op op.cs.toArray] := h
        refine LETJ_intro fun J6 hJ6 => ?_
        replace hJ6 : ((addS s (evOf op.e row)).1 = 0 → (evOf op.e row).pos = (evs LA).length) → J6 () w7 := by
          intro hpos
          refine hJ6 _ _ ?_
          simp -zeta only [bin_eql, ifB_dec]
          refine ⟨fun hok => ?_, fun hno => ?_⟩
          · have hce' : cellsR bo 1 op.e.cs ⟨w7, fun _ => True⟩ := cellD.sub (h.here (i := 2) rfl) rfl
            simp -zeta only [field_addr f_erratalaw12_Op_1, Nat.zero_add, cellsR.ldAg hce' ag_api_Event rfl]
            refine h.push1 (α := D_api_Event) 1 rfl op.e sl_s_api_Event (by decide) (by omega) (by omega) fun va' w8 h => ?_
            rcases addS_cases s (evOf op.e row) with ⟨h1, _⟩ | ⟨_, _, h2⟩
            · exact absurd hok h1
            · rw [h2] at h
              refine hJ3 _ va' { s with events := s.events ++ [evOf op.e row] } (LA ++ [(evOf op.e row, op.e.row)]) n (by simp; omega) ?_ (Int.le_refl _) (Int.le_refl _) ?_ ?_ ?_
              · have := hs.add (evOf op.e row)
                simpa [evs] using this
              · exact Dat.all_append hrows fun p hp => by
                  simp only [List.mem_cons, List.not_mem_nil, or_false] at hp
                  subst hp
                  exact hrow
              · intro p hp
                rcases List.mem_append.1 hp with hp | hp
                · exact hrl p hp
                · simp only [List.mem_cons, List.not_mem_nil, or_false] at hp
                  subst hp
                  exact hr13
              · have e1 : raws (LA ++ [(evOf op.e row, op.e.row)]) = raws LA ++ [op.e] := by simp [raws, evOf_raw]
                rw [e1]
                exact h.take 2
          · rcases addS_cases s (evOf op.e row) with ⟨_, h2⟩ | ⟨h1, _⟩
            · rw [h2] at h
              exact hJ3 _ va s LA n (by omega) hs (Int.le_refl _) (Int.le_refl _) hrows hrl (h.take 2)
            · exact absurd h1 hno
        have hrd := rowD.read (h.here (i := 1) rfl)
        simp -zeta only [bin_eql, ifB_dec, field_addr f_erratalaw12_Op_1, field_addr f_api_Event_1, Nat.zero_add, Nat.reduceAdd, h.ld 2 rfl sc_int (o := 2) rfl, rowR.len hrd sl_s_api_Event, hrw, bin_neq, ifB_not]
        refine ⟨fun hok => ?_, fun hno => hJ6 fun h => absurd h hno⟩
        rcases addS_cases s (evOf op.e row) with ⟨h1, _⟩ | ⟨_, hp, _⟩
        · exact absurd hok h1
        · have hp : op.e.pos_ = s.next := hp
          refine ⟨fun _ => hJ6 fun _ => by show op.e.pos_ = _; omega, fun hne => absurd (by show op.e.pos_ = _; omega) hne⟩
      · simp -zeta only [bin_eql, ifB_dec, Nat.zero_add, h.ld 2 rfl sc_int (o := 8) rfl]
        refine ⟨fun _ => ?_, fun _ => ⟨fun _ => ?_, fun _ => hJ3 _ va s LA n (by omega) hs (Int.le_refl _) (Int.le_refl _) hrows hrl (h.take 2)⟩⟩
        · refine h.act 0 rfl (fun B2 own base2 => drop_d op.n (by omega)) fun u e' τ w7 hp h => ?_
          obtain ⟨rfl, rfl, rfl⟩ := hp
          obtain ⟨q1, q2⟩ := hs.cut (placeS_le s op.n)
          exact hJ3 _ va _ LA _ (by omega) q1 (by show s.first ≤ s.first + _; omega) q2 hrows hrl (h.take 2)
        · refine h.act 0 rfl (fun B2 own base2 => trim_d op.n (by omega)) fun u e' τ w7 hp h => ?_
          obtain ⟨rfl, rfl, rfl⟩ := hp
          obtain ⟨q1, q2⟩ := hs.cut (trimN_le s op.n)
          exact hJ3 _ va _ LA _ (by omega) q1 (by show s.first ≤ s.first + _; omega) q2 hrows hrl (h.take 2)
    simp -zeta only [bin_eql, ifB_dec]
    exact ⟨fun _ => hJ5 _, fun _ => hJ5 _⟩
  simp -zeta only [field_addr f_erratalaw12_Op_2, Nat.zero_add, h.ld 2 rfl sc_bool (o := 7) rfl]
  rw [ifB_bool]
  refine ⟨fun _ => ?_, fun _ => hJ2 _ op hrow hsrc h⟩
  have hrd := rowD.read (h.here (i := 1) rfl)
  simp -zeta only [rowR.len hrd sl_s_api_Event, field_addr f_erratalaw12_Op_1, field_addr f_api_Event_1, Nat.zero_add, Nat.reduceAdd]
  refine h.st 2 rfl sc_int (show 2 < 9 by omega) rfl fun w6 h => ?_
  exact hJ2 _ { op with e := { op.e with pos_ := ((raws LA).length : Int) } } hrow hsrc h
end Go.Proofs.Ytmllhipiahlihaa
