/-
  RetainTells: what the law computes. No condition.
-/
import Derived.Test.YtmllhipiahlihaaGreatDoorRetainK
namespace Go.Proofs.YtmllhipiahlihaaGreatDoor
open Go.RowKit
set_option maxRecDepth 100000

section
variable {W : World} {w : World} {K : Value → World → Prop}
theorem rowsR_len {s : St} (h : RightS s) : ∀ e ∈ s.events, e.row.length ≤ 4611686018427387904 := fun e he => by
  have := (h.good e he).len.1
  omega
theorem same_r {B : Base} {σ : List Dat} {u u2 : Value} {L' M : EvL} {l : List Ev} (h : Rel B w ((σ ++ rowD T_api_Event u (raws L') :: L'.map rowEnt) ++ [rowD T_api_Event u2 (raws M)])) (hL : evs L' = l) (hM : evs M = l) (hq : rowsR M B) (hl : ∀ e ∈ l, e.row.length ≤ 4611686018427387904) (hll : l.length ≤ 1000000)
    (k : ∀ w', Rel B w' σ → K (.bool true) w') : upK Tryz.prog (sCall F_errataref12_Same #[u, u2]) w K := by
  have hlen : L'.length ≤ 4611686018427387904 := by
    have : L'.length = l.length := by rw [← hL, evs_length]
    omega
  refine h.ask (v := .bool true) (fun B2 own base2 => ?_) fun w' h => k _ (by have := h.drop; exact this.drop)
  have := sameEv_g (B := B2) (va := u) (vb := u2) (L := L') (M := M) (newEvs.read (σ := σ) fun {i d} hd => own (i := i) (by
    rw [List.getElem?_append_left]
    · exact hd
    · exact (List.getElem?_eq_some_iff.1 hd).1)) ⟨rowD.read (own get_last), base2 hq⟩ hlen fun p hp => hl _ (by rw [← hL]; exact List.mem_map.2 ⟨p, hp, rfl⟩)
  rw [decide_eq_true (by rw [hL, hM])] at this
  exact this
set_option maxHeartbeats 2000000 in
theorem retainTells_pt {part fr most time : Int} {v : Value} {ops : List D_erratalaw12_Op} (hB : wireD (lawB W)) (hp0 : -9223372036854775808 ≤ part ∧ part ≤ 9223372036854775807) (r : rowR v ops (lawB W)) (hm : ops.length ≤ maxLen) (hq : ∀ o ∈ ops, ok_erratalaw12_Op W o)
    (fin : ∀ w' σ, Rel (lawB W) w' σ → K (.bool true) w') : erratalaw12_RetainTells.pt (.int .i64 part) v (.int .i64 fr) (.int .i64 most) (.int .i64 time) W K := by
  unfold erratalaw12_RetainTells.pt
  have h := lawB.start W
  refine small_r h fun w1 h => ?_
  refine few_r h r hm hq fun bb w2 hfew h => ?_
  rw [un_not, ifB_not, ifB_bool]
  refine ⟨fun hb => ?_, fun _ => fin _ _ h⟩
  obtain ⟨h60, hfew⟩ := hfew hb
  refine h.make (fun _ _ _ => new_m part) fun u τ w3 hp h => ?_
  obtain ⟨b, rfl, rfl⟩ := hp
  refine h.make (fun _ _ _ => fNew_m part) fun u τ w4 hp h => ?_
  obtain ⟨b', rfl, rfl⟩ := hp
  have h : Rel (lawB W) w4 [storeD b ⟨part, 0, 0, []⟩, fstD b' ⟨part, 0, 0, 0, []⟩] := h
  have hR0 : RightS ⟨part, 0, 0, []⟩ := ⟨hp0, ⟨Int.le_refl _, by show (0 : Int) ≤ _; omega⟩, ⟨Int.le_refl _, by show (0 : Int) ≤ _; omega⟩, Iff.rfl, Nat.zero_le _, fun e he => (by cases he), fun i hi => absurd hi (Nat.not_lt_zero i)⟩
  have hO0 : (⟨part, 0, 0, 0, []⟩ : FSt).ok := ⟨⟨Int.le_refl _, by show (0 : Int) ≤ _; omega⟩, ⟨Int.le_refl _, by show (0 : Int) ≤ 0 + ((([] : EvL).length : Nat) : Int); rw [List.length_nil]; omega⟩, Nat.zero_le _, fun e he => (by cases he)⟩
  refine LOOP_intro (fun x w' => ∃ (i : Nat) (s : St) (F : FSt) (b b' : Nat) (B : Base), i ≤ ops.length ∧ x = (ptr b, ptr b', .int .i64 i, ()) ∧ (lawB W).ext B ∧ RightS s ∧ F.st = s ∧ F.ok ∧ s.part = part ∧ s.first + s.events.length ≤ i ∧ F.L.length ≤ i ∧ rowsR F.L B ∧ Rel B w' [storeD b s, fstD b' F])
    (fun x _ => ops.length - (match x.2.2.1 with | .int _ n => n.toNat | _ => 0))
    ⟨0, _, ⟨part, 0, 0, 0, []⟩, b, b', lawB W, Nat.zero_le _, rfl, Base.ext.refl _, hR0, rfl, hO0, rfl, Int.le_refl _, Nat.zero_le _, fun p hp => (by cases hp), h⟩ ?_
  clear h hR0 hO0
  rintro x w5 ⟨i, s, F, b, b', B, hi, rfl, hext, hs, hst, hok, hpart, hle, hFl, hrows, h⟩ next hnext
  have lift : ∀ {d : Dat}, d (lawB W) → d B := fun hd => Dat.mono _ hext.le hd
  have fin' : ∀ w' σ, Rel B w' σ → K (.bool true) w' := fun w' σ h => fin _ _ (hext.rel h)
  have hB' := lift hB
  have r' := lift r
  simp -zeta only [rowR.len r' sl_s_erratalaw12_Op, bin_lss]
  rw [ifB_dec]
  refine ⟨fun hlt => ?_, fun hge => fin' _ _ h⟩
  have hil : i < ops.length := by omega
  have hbnd : s.first + s.events.length ≤ 60 := by omega
  have hf0 := hs.first
  refine LETJ_intro fun J1 hJ1 => ?_
  have UpS' := UpS
  simp -zeta only [bin_eql_ptr_nil UpS, bin_eql_ptr_nil UpF, ifB_false]
  refine hJ1 _ _ ?_
  clear hJ1
  rw [ifB_false]
  obtain ⟨g, o, hx, hc⟩ := rowR.idx r' sl_s_erratalaw12_Op hil
  obtain ⟨row, hrow, hr13, hsrc, hrs, hrv⟩ := hfew _ (List.getElem_mem hil)
  obtain ⟨_, ⟨e0, e1, _, e3, e4, _⟩, _⟩ := hq _ (List.getElem_mem hil)
  generalize ops[i] = op at hc hrow hsrc e0 e1 e3 e4
  have hrow' := lift hrow
  have hgv : ∀ v ∈ row, GoodVal v := fun v hv => ⟨(hrv v hv).1, (hrv v hv).2.1, by have := hrs v hv; rw [bl_length]; omega⟩
  simp -zeta only [hx, cellsR.ldAg (h.hereB hc) ag_erratalaw12_Op rfl]
  refine h.allocAg (ds := op.cs.toArray) z_erratalaw12_Op rfl ag_erratalaw12_Op rfl (fun v hv => Enc.one op v hv) fun bo w8 h => ?_
  have h : Rel B w8 [storeD b s, fstD b' F, cellD bo T_erratalaw12_Op op.cs.toArray] := h
  refine LETJ_intro fun J2 hJ2 => ?_
  replace hJ2 : ∀ (w' : World) (op : D_erratalaw12_Op), rowR op.e.row.1 row B → inI op.e.schema → inI op.e.time → Rel B w' [storeD b s, fstD b' F, cellD bo T_erratalaw12_Op op.cs.toArray] → J2 () w' := by
    clear h
    intro w9 op hrow hsch htm h
    refine hJ2 _ _ ?_
    clear hJ2
    refine LETJ_intro fun J3 hJ3 => ?_
    replace hJ3 : ∀ w' (s' : St) (F' : FSt) (b b' : Nat) (B' : Base), (lawB W).ext B' → RightS s' → F'.st = s' → F'.ok → s'.part = part → s'.first + s'.events.length ≤ (i + 1 : Nat) → F'.L.length ≤ i + 1 → rowsR F'.L B' → Rel B' w' [storeD b s', fstD b' F'] → J3 (ptr b, ptr b', ()) w' := by
      clear h hrow hsch htm
      intro w10 s' F' b b' B' hext hs hst hok hpart hle hFl hrows h
      refine hJ3 _ _ ?_
      clear hJ3
      refine LETJ_intro fun J4 hJ4 => ?_
      replace hJ4 : ∀ w', Rel B' w' [storeD b s', fstD b' F'] → J4 (.bool false, ()) w' := fun w' h => by
        refine hJ4 _ _ ?_
        rw [ifB_false, bin_add, wrap_id (by omega) (by omega)]
        exact hnext _ _ ⟨i + 1, s', F', b, b', B', hil, rfl, hext, hs, hst, hok, hpart, hle, hFl, hrows, h⟩ (by simp only; omega)
      clear hnext
      have hB' : wireD B' := Dat.mono _ hext.le hB
      have h := h.tick
      refine h.ask (fun _ own _ => part_g (storeD.read (own (i := 0) rfl))) fun w12 h => ?_
      rw [bin_neq, decide_eq_true hpart, Bool.not_true, ifB_false]
      have ld3 : ∀ {w : World} {σ : List Dat} {Kp : Value → Prop}, Rel B' w (storeD b s' :: fstD b' F' :: σ) → readK Tryz.prog (sLoad T_int (.pointer (some ⟨b', 3, none⟩))) w Kp = Kp (.int .i64 F'.first) := fun h => by
        obtain ⟨v, hc, _⟩ := fstD.read (h.here (i := 1) rfl)
        exact cellD.ld hc sc_int rfl
      have is3 : ∀ {w : World} {σ : List Dat}, Rel B' w (storeD b s' :: fstD b' F' :: σ) → Is Tryz.prog (sLoad T_int (.pointer (some ⟨b', 3, none⟩))) (.int .i64 F'.first) w := fun h => by
        obtain ⟨v, hc, _⟩ := fstD.read (h.here (i := 1) rfl)
        exact cellD.is hc sc_int rfl
      simp -zeta only [nil_ptr, field_addr f_errataref12_Store_3, Nat.zero_add]
      rw [ld3 h]
      refine h.ask (fun _ own _ => first_g (storeD.read (own (i := 0) rfl))) fun w13 h => ⟨is3 h, ?_⟩
      rw [bin_neq, decide_eq_true (by rw [← hst]; rfl), Bool.not_true, ifB_false]
      refine h.ask (fun _ own _ => next_g (storeD.read (own (i := 0) rfl))) fun w14 h => ?_
      refine h.ask (fun _ own _ => fNext_g (fstD.read (own (i := 1) rfl)) hok) fun w15 h => ?_
      rw [bin_neq, decide_eq_true (by rw [← hst, FSt.st_next hok]), Bool.not_true, ifB_false]
      refine h.ask (fun _ own _ => horizon_g (storeD.read (own (i := 0) rfl))) fun w16 h => ?_
      refine h.ask (fun _ own _ => fLeast_g (fstD.read (own (i := 1) rfl)) hok) fun w17 h => ?_
      rw [bin_neq, decide_eq_true (by rw [← hst]), Bool.not_true, ifB_false]
      refine h.ask (fun B2 own base2 => stBytes_g (base2 hB') (storeD.read (own (i := 0) rfl)) hs) fun w18 h => ⟨is3 h, ?_⟩
      refine h.ask (fun B2 own base2 => fBytes_g2 (fstD.read (own (i := 1) rfl)) (base2 hrows) hok (by rw [hst]; exact hs)) fun w19 h => ⟨is3 h, ?_⟩
      rw [neq_str, decide_eq_true (by rw [hst]), Bool.not_true, ifB_false]
      have hcnt := hs.count
      refine h.make (fun _ own _ => slice_m (storeD.read (own (i := 0) rfl)) fr most) fun u τ w20 hp h => ?_
      obtain ⟨L', he', rfl⟩ := hp
      refine ⟨is3 (σ := rowD T_api_Event u (raws L') :: L'.map rowEnt) h, ?_⟩
      refine h.make (fun _ own _ => fSlice_m fr most (fstD.read (own (i := 1) rfl)) hok fun i hi => by
        have e : F'.st.events = s'.events := by rw [hst]
        have e2 : F'.st.first = s'.first := by rw [hst]
        rw [e2]
        have := hs.pos i (by rw [← e]; exact hi)
        rw [← this]
        congr 1
        exact List.getElem_of_eq e hi) fun u2 τ w21 hp h => ?_
      obtain ⟨M, hMin, hMe, rfl⟩ := hp
      rw [hst] at hMe
      refine ⟨is3 (σ := (rowD T_api_Event u (raws L') :: L'.map rowEnt) ++ [rowD T_api_Event u2 (raws M)]) h, ?_⟩
      have hrl := rowsR_len hs
      refine same_r (σ := [storeD b s', fstD b' F']) h he' hMe (fun p hp => hrows p (hMin p hp)) (fun e he => hrl e (by unfold sliceS at he; exact List.mem_of_mem_drop (List.mem_of_mem_take he))) (by unfold sliceS; rw [List.length_take, List.length_drop]; omega) fun w22 h => ?_
      refine ⟨is3 h, ?_⟩
      rw [un_not, Bool.not_true, ifB_false]
      refine h.make (fun _ own _ => from_m (storeD.read (own (i := 0) rfl)) time) fun u τ w23 hp h => ?_
      obtain ⟨L2, he2, rfl⟩ := hp
      refine ⟨is3 (σ := rowD T_api_Event u (raws L2) :: L2.map rowEnt) h, ?_⟩
      refine h.make (fun _ own _ => fFrom_m time (fstD.read (own (i := 1) rfl)) hok) fun u2 τ w24 hp h => ?_
      obtain ⟨M2, hMin2, hMe2, rfl⟩ := hp
      rw [hst] at hMe2
      refine ⟨is3 (σ := (rowD T_api_Event u (raws L2) :: L2.map rowEnt) ++ [rowD T_api_Event u2 (raws M2)]) h, ?_⟩
      have hfl := List.length_filter_le (fun e : Ev => decide (time ≤ e.time)) s'.events
      refine same_r (σ := [storeD b s', fstD b' F']) h he2 hMe2 (fun p hp => hrows p (hMin2 p hp)) (fun e he => hrl e (by unfold fromS at he; exact (List.mem_filter.1 he).1)) (by unfold fromS; omega) fun w25 h => ?_
      refine ⟨is3 h, ?_⟩
      rw [un_not, Bool.not_true]
      exact hJ4 _ h
    clear hnext
    have hmod : 0 ≤ op.do_ % 5 ∧ op.do_ % 5 < 5 := by omega
    simp -zeta only [field_addr f_erratalaw12_Op_0, Nat.zero_add, h.ld 2 rfl sc_int (o := 0) (v := .int .i64 op.do_) rfl]
    refine h.ask (fun _ _ _ => pick_g op.do_) fun w26 h => ?_
    refine LETJ_intro fun J5 hJ5 => ?_
    replace hJ5 : ∀ bb : Bool, J5 (.bool bb, ()) w26 := by
      intro bb
      refine hJ5 _ _ ?_
      clear hJ5
      simp -zeta only [field_addr f_erratalaw12_Op_1, field_addr f_erratalaw12_Op_3]
      show ifB (.bool bb) _ _
      rw [ifB_bool]
      have h0 := h
      have h := h.tick
      refine ⟨fun _ => ?_, fun _ => ?_⟩
      · have hce : ∀ {w' : World} {s' : St}, Rel B w' [storeD b s', fstD b' F, cellD bo T_erratalaw12_Op op.cs.toArray] → cellsR bo 1 op.e.cs ⟨w', fun _ => True⟩ := fun h => cellD.sub (h.here (i := 2) rfl) rfl
        simp -zeta only [Nat.zero_add, cellsR.ldAg (hce h) ag_api_Event rfl]
        refine h.act 0 rfl (fun B2 own base2 => addN_d (evOf op.e row) op.e.row (base2 hrow) (fun x hx => by have := hrs x hx; omega)) fun u e' τ w7 hp h => ?_
        obtain ⟨rfl, rfl, rfl⟩ := hp
        refine ⟨cellsR.isAg (hce h) ag_api_Event rfl, ?_⟩
        refine h.act 1 rfl (fun B2 own base2 => fAdd_d (evOf op.e row) op.e.row (base2 hrow) (by show row.length ≤ _; omega) hok (by omega)) fun u e' τ w9 hp h => ?_
        obtain ⟨rfl, rfl, rfl⟩ := hp
        rw [hst, bin_neq, decide_eq_true rfl, Bool.not_true, ifB_false]
        obtain ⟨a1, a2, a3⟩ := addS_len s (evOf op.e row)
        obtain ⟨o1, o2⟩ := FSt.add_ok hok (evOf op.e row) op.e.row (by omega)
        refine hJ3 _ _ (F.add (evOf op.e row) op.e.row) b b' B hext (hs.add _ hgv hsch htm) (by rw [FSt.add_st hok, hst]) o1 (by rw [a2]; exact hpart) (by rw [a1]; omega) (by omega) ?_ (h.pick [0, 1] (by decide))
        unfold FSt.add
        split
        · exact Dat.all_append hrows fun p hp => by rw [List.mem_singleton.1 hp]; exact hrow
        · exact hrows
      · simp -zeta only [bin_eql, ifB_dec, Nat.zero_add, h.ld 2 rfl sc_int (o := 8) (v := .int .i64 op.n) rfl]
        refine ⟨fun _ => ?_, fun _ => ⟨fun _ => ?_, fun _ => ?_⟩⟩
        · refine h.act 0 rfl (fun B2 own base2 => drop_d op.n (by omega)) fun u e' τ w7 hp h => ?_
          obtain ⟨rfl, rfl, rfl⟩ := hp
          refine ⟨h.is 2 rfl sc_int (o := 8) rfl, ?_⟩
          refine h.act 1 rfl (fun B2 own base2 => fDrop_d op.n hok) fun u e' τ w9 hp h => ?_
          obtain ⟨rfl, rfl, rfl⟩ := hp
          rw [hst, bin_neq, decide_eq_true rfl, Bool.not_true, ifB_false]
          have hn := placeS_le s op.n
          refine hJ3 _ _ (F.drop op.n) b b' B hext (hs.cut hn (by omega)) (by rw [FSt.drop_st hok, hst]) (FSt.drop_ok hok _) hpart (by show s.first + (placeS s op.n : Int) + ((s.events.drop (placeS s op.n)).length : Int) ≤ _; rw [List.length_drop]; omega) (by show F.L.length ≤ _; omega) hrows (h.pick [0, 1] (by decide))
        · refine h.act 0 rfl (fun B2 own base2 => trim_d op.n (by omega)) fun u e' τ w7 hp h => ?_
          obtain ⟨rfl, rfl, rfl⟩ := hp
          refine ⟨h.is 2 rfl sc_int (o := 8) rfl, ?_⟩
          refine h.act 1 rfl (fun B2 own base2 => fTrim_d op.n hok) fun u e' τ w9 hp h => ?_
          obtain ⟨rfl, rfl, hts, rfl⟩ := hp
          rw [hst] at hts
          rw [hst, bin_neq, decide_eq_true rfl, Bool.not_true, ifB_false]
          rw [hst] at h
          have hn := trimN_le s op.n
          refine hJ3 _ _ (F.drop (F.first + trimN s op.n)) b b' B hext (hs.cut hn (by omega)) hts (FSt.drop_ok hok _) hpart (by show s.first + (trimN s op.n : Int) + ((s.events.drop (trimN s op.n)).length : Int) ≤ _; rw [List.length_drop]; omega) (by show F.L.length ≤ _; omega) hrows (h.pick [0, 1] (by decide))
        · have hel := encSt_len hs
          refine h0.ask (fun B2 own base2 => stBytes_g (base2 hB') (storeD.read (own (i := 0) rfl)) hs) fun w34 h => ?_
          refine h.make (fun B2 own base2 => stRead_m (base2 hB') (by omega)) fun u τ w35 hp h => ?_
          rw [readSt_enc hs] at hp
          rcases hp with ⟨s', b2, e, rfl, rfl⟩ | ⟨hn, _⟩
          case inr => cases hn
          injection e with e
          subst e
          simp -zeta only [ext_2_0, ext_2_1]
          refine h.ask (fun B2 own base2 => fBytes_g2 (fstD.read (own (i := 1) rfl)) (base2 hrows) hok (by rw [hst]; exact hs)) fun w36 h => ?_
          rw [hst]
          refine h.make (fun B2 own base2 => fRead_m (by omega)) fun u τ w37 hp h => ?_
          rcases hp with ⟨s2, b3, F2, e, hst2, hok2, hF2, hbf, rfl, rfl⟩ | ⟨hn, _⟩
          case inr => rw [readSt_enc hs] at hn; cases hn
          rw [readSt_enc hs] at e
          injection e with e
          rw [← e] at hst2
          simp -zeta only [ext_2_0, ext_2_1]
          have h : Rel B w37 [storeD b s, fstD b' F, cellD bo T_erratalaw12_Op op.cs.toArray, storeD b2 s, fstD b3 F2, rowsR F2.L] := h
          refine LETJ_intro fun J6 hJ6 => ?_
          simp -zeta only [bin_eql_ptr_nil UpS, bin_eql_ptr_nil UpF, ifB_false]
          refine hJ6 _ _ ?_
          rw [ifB_false]
          have h := h.pick [3, 4, 5] (by decide)
          obtain ⟨B3, hext3, h, hrows3⟩ := Rel.frz1 (σ := [storeD b2 s, fstD b3 F2]) (d := rowsR F2.L) h
          have hlen2 : F2.L.length ≤ i + 1 := by
            have hk0 : F2.k = 0 := by unfold FSt.k; omega
            have h1 : F2.st.events.length = s.events.length := by rw [hst2]
            rw [st_len, hk0, List.drop_zero] at h1
            omega
          exact hJ3 _ s F2 b2 b3 B3 (hext.trans hext3) hs hst2 hok2 hpart (by omega) hlen2 hrows3 h
    simp -zeta only [bin_eql, ifB_dec]
    exact ⟨fun _ => hJ5 _, fun _ => hJ5 _⟩
  simp -zeta only [field_addr f_erratalaw12_Op_2, Nat.zero_add, h.ld 2 rfl sc_bool (o := 7) (v := .bool op.next) rfl]
  rw [ifB_bool]
  refine ⟨fun _ => ?_, fun _ => hJ2 _ op hrow' e3 e4 h⟩
  refine h.ask (fun _ own _ => fNext_g (fstD.read (own (i := 1) rfl)) hok) fun w14 h => ?_
  simp -zeta only [field_addr f_erratalaw12_Op_1, field_addr f_api_Event_1, Nat.zero_add, Nat.reduceAdd]
  refine h.st 2 rfl sc_int (show 2 < 9 by omega) rfl fun w6 h => ?_
  exact hJ2 _ { op with e := { op.e with pos_ := F.next } } hrow' e3 e4 h
end
end Go.Proofs.YtmllhipiahlihaaGreatDoor
