/-
  AggregateJoins. No condition.
-/
import Derived.Test.YtoebncgnjbblgaaDoorAggN
import Derived.Test.YtoebncgnjbblgaaDoorAgX
import Derived.Test.YtoebncgnjbblgaaDoorAggS
import Derived.Test.YtoebncgnjbblgaaDoorAggQ
--@auto
namespace Go.Proofs.YtoebncgnjbblgaaDoor
open Go.RowKit
set_option maxRecDepth 100000

theorem chs_take' (L : ChL) (i : Nat) : chs (L.take i) = (chs L).take i := by unfold chs; rw [List.map_take]
theorem chs_mem' {L : ChL} {P : List ValD → Prop} (h : ∀ p ∈ L, P p.2) : ∀ p ∈ chs L, P p.1 := fun p hp => by
  obtain ⟨q, hq, rfl⟩ := List.mem_map.1 hp
  exact h q hq
set_option maxHeartbeats 2000000 in
theorem aggregateJoins_pt {W : World} {v0 v1 v2 : Value} {aggs : List AggD} {l : List ChD} {deal : List Bool} (hB : powD (lawB W)) (r0 : rowR v0 aggs (lawB W)) (hm0 : aggs.length ≤ maxLen) (r1 : rowR v1 l (lawB W)) (hm1 : l.length ≤ maxLen) (hq1 : ∀ a ∈ l, ok_erratalaw30_Change W a) (r2 : rowR v2 deal (lawB W)) {K : Value → World → Prop}
    (fin : ∀ w' σ, Rel (lawB W) w' σ → K (.bool true) w') : erratalaw30_AggregateJoins.pt v0 v1 v2 W K := by
  unfold erratalaw30_AggregateJoins.pt
  have h := lawB.start W
  have hm0 : aggs.length ≤ 9223372036854775807 := by unfold maxLen at hm0; omega
  obtain ⟨L, rfl, q, hq⟩ := ch_open hq1
  rw [raws_len] at hm1
  have hm1 : L.length ≤ 9223372036854775807 := by unfold maxLen at hm1; omega
  have hrl : ∀ p ∈ L, p.2.length ≤ 9223372036854775807 := fun p hp => by have := (hq p hp).1; unfold maxLen at this; omega
  refine h.ask (fun B2 own base2 => small_g) fun w1 h => ?_
  refine h.ask (fun B2 own base2 => right_g (base2 r0) hm0) fun w2 h => ?_
  rw [un_not, ifB_not, ifB_bool]
  refine ⟨fun cr => ?_, fun _ => fin _ _ h⟩
  obtain ⟨hok, hl8⟩ := rightA_ok cr
  refine h.ask (fun B2 own base2 => few_g (base2 r1) (base2 q) hm1 hrl) fun w3 h => ?_
  rw [un_not, ifB_not, ifB_bool]
  refine ⟨fun cf => ?_, fun _ => fin _ _ h⟩
  obtain ⟨hl40, hrows⟩ := few_rows cf hq
  have hrok : ∀ p ∈ L, RowOk p.2 := fun p hp => (hrows p hp).1
  refine h.make (fun B2 own base2 => New_m (base2 r0) (by omega)) fun u τ w4 hp h => ?_
  obtain ⟨pa, rfl, rfl⟩ := hp
  refine h.make (fun B2 own base2 => New_m (base2 r0) (by omega)) fun u τ w5 hp h => ?_
  obtain ⟨pb, rfl, rfl⟩ := hp
  refine h.make (fun B2 own base2 => New_m (base2 r0) (by omega)) fun u τ w6 hp h => ?_
  obtain ⟨pc, rfl, rfl⟩ := hp
  have h : Rel (lawB W) w6 [accD pa (newS aggs), accD pb (newS aggs), accD pc (newS aggs)] := h
  rw [bd_api_Agg_0]
  refine h.buildN (α := AggD) [⟨0, 0, ⟨#[]⟩⟩] sl_s_api_Agg fun vr w7 h => ?_
  refine h.append 3 rfl sl_s_api_Agg (Rd.base r0) (by simp; omega) (by simp; omega) fun vt w8 h => ?_
  have h : Rel (lawB W) w8 [accD pa (newS aggs), accD pb (newS aggs), accD pc (newS aggs), rowD T_api_Agg vt ([⟨0, 0, ⟨#[]⟩⟩] ++ aggs)] := h
  generalize hmore : ([⟨0, 0, ⟨#[]⟩⟩] ++ aggs : List AggD) = more at *
  have hml : more.length = aggs.length + 1 := by rw [← hmore]; simp
  refine h.make (fun B2 own base2 => New_m (rowD.read (own (i := 3) rfl)) (by omega)) fun u τ w9 hp h => ?_
  obtain ⟨pm, rfl, rfl⟩ := hp
  have h : Rel (lawB W) w9 [accD pa (newS aggs), accD pb (newS aggs), accD pc (newS aggs), accD pm (newS more)] := h.pick [0, 1, 2, 4] (by decide)
  rw [bin_eql_ptr_nil U_p_aggregate_Acc, ifB_false, bin_eql_ptr_nil U_p_aggregate_Acc, ifB_false, bin_eql_ptr_nil U_p_aggregate_Acc, ifB_false, bin_eql_ptr_nil U_p_aggregate_Acc, ifB_false]
  refine LOOP_intro (fun z w' => ∃ (i : Nat) (x y c : ACC) (X Y : List Chg), i ≤ L.length ∧ z = (.int .i64 i, ()) ∧ IsAcc aggs X x ∧ IsAcc aggs Y y ∧ IsAcc aggs (chs (L.take i)) c ∧ GoodA i x ∧ GoodA i y ∧ GoodA i c ∧ SameT (X ++ Y) (chs (L.take i)) ∧ (∀ p ∈ X, RowOk p.1) ∧ (∀ p ∈ Y, RowOk p.1) ∧ Rel (lawB W) w' [accD pa x, accD pb y, accD pc c, accD pm (newS more)]) (fun z _ => L.length - (match z.1 with | .int _ n => n.toNat | _ => 0))
    ⟨0, newS aggs, newS aggs, newS aggs, [], [], Nat.zero_le _, rfl, isAcc_new aggs, isAcc_new aggs, isAcc_new aggs, newS_good (by omega), newS_good (by omega), newS_good (by omega), SameT.refl _, fun p hp => (by cases hp), fun p hp => (by cases hp), h⟩ ?_
  clear h
  rintro z w10 ⟨i, x, y, c, X, Y, hi, rfl, ix, iy, ic, gx, gy, gc, hs, hX, hY, h⟩ next hnext
  rw [rowR.len r1 sl_s_erratalaw30_Change, raws_len, bin_lss, ifB_dec]
  refine ⟨fun hlt => ?_, fun hge => ?_⟩
  · have hil : i < L.length := by omega
    obtain ⟨g1, o1, hx1, hc1⟩ := ch_idx r1 hil
    have qi := chR.at q hil
    have hri := hrok _ (List.getElem_mem hil)
    have ic' := ic.add gc L[i].2 L[i].1.n
    rw [← chs_take_succ hil] at ic'
    have ht : ∀ f, tot (chs (L.take (i + 1))) f = tot (chs (L.take i)) f + L[i].1.n * f L[i].2 := fun f => by rw [chs_take_succ hil, tot_append, tot_one]
    refine LETJ_intro fun J1 hJ1 => ?_
    replace hJ1 : ∀ (b : Bool) w', Rel (lawB W) w' [accD pa x, accD pb y, accD pc c, accD pm (newS more)] → J1 (.bool b, ()) w' := by
      intro b w' h
      refine hJ1 _ _ ?_
      clear hJ1
      refine LETJ_intro fun J2 hJ2 => ?_
      replace hJ2 : ∀ w' x' y' X' Y', IsAcc aggs X' x' → IsAcc aggs Y' y' → GoodA (i + 1) x' → GoodA (i + 1) y' → SameT (X' ++ Y') (chs (L.take (i + 1))) → (∀ p ∈ X', RowOk p.1) → (∀ p ∈ Y', RowOk p.1) → Rel (lawB W) w' [accD pa x', accD pb y', accD pc c, accD pm (newS more)] → J2 () w' := by
        intro w' x' y' X' Y' h1 h2 h3 h4 h5 h6 h7 h
        refine hJ2 _ _ ?_
        have h := h.tick
        generalize tick w' = w' at *
        show pureK _ _ _
        rw [hx1, field_addr f_erratalaw30_Change_0, cellsR.ld (h.hereB hc1) sc_s_api_Value (j := 0) (v := L[i].1.row.1) rfl, hx1, field_addr f_erratalaw30_Change_1, cellsR.ld (h.hereB hc1) sc_int (j := 1) (v := .int .i64 L[i].1.n) rfl]
        refine h.act 2 rfl (fun B2 own base2 => Add_d (base2 qi) gc L[i].1.n) fun u e' τ w8 hp h => ?_
        obtain ⟨rfl, rfl, rfl⟩ := hp
        rw [bin_add, wrap_id (by omega) (by omega)]
        exact hnext _ _ ⟨i + 1, x', y', _, X', Y', hil, rfl, h1, h2, ic', h3, h4, gc.addK _ _ _, h5, h6, h7, h⟩ (by simp only; omega)
      clear hnext
      rw [ifB_bool]
      have h := h.tick
      refine ⟨fun _ => ?_, fun _ => ?_⟩
      · rw [hx1, field_addr f_erratalaw30_Change_0, cellsR.ld (h.hereB hc1) sc_s_api_Value (j := 0) (v := L[i].1.row.1) rfl, hx1, field_addr f_erratalaw30_Change_1, cellsR.ld (h.hereB hc1) sc_int (j := 1) (v := .int .i64 L[i].1.n) rfl]
        refine h.act 0 rfl (fun B2 own base2 => Add_d (base2 qi) gx L[i].1.n) fun u e' τ w8 hp h => ?_
        obtain ⟨rfl, rfl, rfl⟩ := hp
        refine hJ2 _ _ y _ Y (ix.add gx L[i].2 L[i].1.n) iy (gx.addK _ _ _) (gy.mono (by omega)) (fun f => ?_) (fun p hp => ?_) hY h
        · have := hs f
          rw [tot_append] at this
          rw [ht, tot_append, tot_append, tot_one, show tot X f + L[i].1.n * f L[i].2 + tot Y f = (tot X f + tot Y f) + L[i].1.n * f L[i].2 by omega]
          exact W_cong this rfl
        · rcases List.mem_append.1 hp with hp | hp
          · exact hX p hp
          · rw [List.mem_singleton.1 hp]; exact hri
      · rw [hx1, field_addr f_erratalaw30_Change_0, cellsR.ld (h.hereB hc1) sc_s_api_Value (j := 0) (v := L[i].1.row.1) rfl, hx1, field_addr f_erratalaw30_Change_1, cellsR.ld (h.hereB hc1) sc_int (j := 1) (v := .int .i64 L[i].1.n) rfl]
        refine h.act 1 rfl (fun B2 own base2 => Add_d (base2 qi) gy L[i].1.n) fun u e' τ w8 hp h => ?_
        obtain ⟨rfl, rfl, rfl⟩ := hp
        refine hJ2 _ x _ X _ ix (iy.add gy L[i].2 L[i].1.n) (gx.mono (by omega)) (gy.addK _ _ _) (fun f => ?_) hX (fun p hp => ?_) h
        · have := hs f
          rw [tot_append] at this
          rw [ht, tot_append, tot_append, tot_one, ← Int.add_assoc]
          exact W_cong this rfl
        · rcases List.mem_append.1 hp with hp | hp
          · exact hY p hp
          · rw [List.mem_singleton.1 hp]; exact hri
    rw [rowR.len r2 sl_s_bool, bin_lss, ifB_dec]
    refine ⟨fun hd => ?_, fun _ => hJ1 false _ h⟩
    have hid : i < deal.length := by omega
    obtain ⟨g2, o2, hx2, hc2⟩ := rowR.idx (P := Tryd.prog) r2 sl_s_bool hid
    rw [hx2, cellsR.ld0 (h.hereB hc2) sc_bool (v := .bool deal[i]) rfl]
    exact hJ1 _ _ h
  have : i = L.length := by omega
  subst this
  clear hnext
  rw [List.take_length] at hs ic
  have fx := ix.fit gx hX
  have fy := iy.fit gy hY
  have fc := ic.fit gc (chs_mem' hrok)
  refine h.ask (fun B2 own base2 => Bytes_g (base2 hB) (own (i := 1) rfl) fy (by omega)) fun w16 h => ?_
  refine h.ask (fun B2 own base2 => Bytes_g (base2 hB) (own (i := 0) rfl) fx (by omega)) fun w17 h => ?_
  refine h.ask (fun B2 own base2 => mergeNo_g (own (i := 0) rfl) (own (i := 3) rfl) (by rw [ix.same]; show aggs.length ≠ more.length; omega)) fun w18 h => ?_
  rw [bin_neq, ifB_not, ifB_dec]
  refine ⟨fun _ => ?_, fun hh => absurd rfl hh⟩
  refine h.ask (fun B2 own base2 => Bytes_g (base2 hB) (own (i := 0) rfl) fx (by omega)) fun w19 h => ?_
  rw [neq_str, decide_eq_true rfl, Bool.not_true, ifB_false, ifB_true]
  refine h.act 0 rfl (fun B2 own base2 => Merge_d (own (j := 1) (by decide) rfl) gx gy ix iy (by omega)) fun u e' τ w20 hp h => ?_
  obtain ⟨z, rfl, rfl, iz, gz, rfl⟩ := hp
  have h : Rel (lawB W) w20 [accD pa z, accD pb y, accD pc c, accD pm (newS more)] := h
  rw [bin_eql, ifB_dec]
  refine ⟨fun _ => ?_, fun hh => absurd rfl hh⟩
  have fz := iz.fit gz fun p hp => (List.mem_append.1 hp).elim (hX p) (hY p)
  have hsa := iz.same' ic gz gc hs
  refine h.ask (fun B2 own base2 => Bytes_g (base2 hB) (own (i := 0) rfl) fz (by omega)) fun w21 h => ?_
  refine h.ask (fun B2 own base2 => Bytes_g (base2 hB) (own (i := 2) rfl) fc (by omega)) fun w22 h => ?_
  rw [hsa.enc, eql_str, decide_eq_true rfl, ifB_true]
  refine h.ask (fun B2 own base2 => Bytes_g (base2 hB) (own (i := 1) rfl) fy (by omega)) fun w23 h => ?_
  rw [eql_str, decide_eq_true rfl]
  exact fin _ _ h
end Go.Proofs.YtoebncgnjbblgaaDoor
