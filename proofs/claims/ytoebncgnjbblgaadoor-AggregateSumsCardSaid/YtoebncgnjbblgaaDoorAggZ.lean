/-
  AggregateSums. No condition.
-/
import Derived.Test.YtoebncgnjbblgaaDoorAggP
import Derived.Test.YtoebncgnjbblgaaDoorAggS
import Derived.Test.YtoebncgnjbblgaaDoorAggQ
--@auto
namespace Go.Proofs.YtoebncgnjbblgaaDoor
open Go.RowKit
set_option maxRecDepth 100000

section
variable {B : Base} {w : World} {σ : List Dat} {p N : Nat} {x : ACC}
theorem Count_g (a : accD p x B) : Gives Tryd.prog B (sCall F_aggregate_Acc_Count #[ptr p]) (.int .i64 x.count) := by
  refine Gives.intro fun B' w K base h k => ?_
  replace a := base a
  refine aggregate_Acc_Count.up (aggregate_Acc_Count.call ?_)
  unfold aggregate_Acc_Count.pt
  obtain ⟨⟨⟨av, hav⟩, ⟨sv, hsv⟩, ⟨bv, hbv⟩, ms⟩, hms, hr⟩ := accD.read a
  have c0 : cellD p T_aggregate_Acc #[av, .int .i64 x.count, sv, bv] B' := hr 0 _ rfl
  simp -zeta only [nil_ptr, field_addr f_aggregate_Acc_1, Nat.zero_add]
  rw [cellD.ld (h.hereB c0) sc_int (o := 1) (v := .int .i64 x.count) rfl]
  exact k _ _ h
end
theorem chR.sub {L M : ChL} {B : Base} (q : chR L B) (h : ∀ p ∈ M, p ∈ L) : chR M B := fun p hp => q p (h p hp)
theorem chs_take (L : ChL) (i : Nat) : chs (L.take i) = (chs L).take i := by unfold chs; rw [List.map_take]
theorem chs_mem {L : ChL} {P : List ValD → Prop} (h : ∀ p ∈ L, P p.2) : ∀ p ∈ chs L, P p.1 := fun p hp => by
  obtain ⟨q, hq, rfl⟩ := List.mem_map.1 hp
  exact h q hq
set_option maxHeartbeats 2000000 in
theorem aggregateSums_pt {W : World} {v0 v1 : Value} {aggs : List AggD} {l : List ChD} (hB : powD (lawB W)) (r0 : rowR v0 aggs (lawB W)) (hm0 : aggs.length ≤ maxLen) (r1 : rowR v1 l (lawB W)) (hm1 : l.length ≤ maxLen) (hq1 : ∀ a ∈ l, ok_erratalaw30_Change W a) {K : Value → World → Prop}
    (fin : ∀ w' σ, Rel (lawB W) w' σ → K (.bool true) w') : erratalaw30_AggregateSums.pt v0 v1 W K := by
  unfold erratalaw30_AggregateSums.pt
  have h := lawB.start W
  have hm0 : aggs.length ≤ 9223372036854775807 := by unfold maxLen at hm0; omega
  obtain ⟨L, rfl, q, hq⟩ := ch_open hq1
  rw [raws_len] at hm1
  have hm1 : L.length ≤ 9223372036854775807 := by unfold maxLen at hm1; omega
  have hrl : ∀ p ∈ L, p.2.length ≤ 9223372036854775807 := fun p hp => by have := (hq p hp).1; unfold maxLen at this; omega
  refine h.ask (fun B2 own base2 => small_g) fun w1 h => ?_
  refine h.ask (fun B2 own base2 => right_g (base2 r0) hm0) fun w2 h => ?_
  rw [un_not, ifB_not, ifB_bool]
  refine ⟨fun cr => ?_, fun _ => fin _ _ h⟩
  obtain ⟨hok, hl8⟩ := rightA_ok cr
  have hkinds := right_kinds hok
  refine h.ask (fun B2 own base2 => few_g (base2 r1) (base2 q) hm1 hrl) fun w3 h => ?_
  rw [un_not, ifB_not, ifB_bool]
  refine ⟨fun cf => ?_, fun _ => fin _ _ h⟩
  obtain ⟨hl40, hrows⟩ := few_rows cf hq
  have hrok : ∀ p ∈ L, RowOk p.2 := fun p hp => (hrows p hp).1
  refine h.make (fun B2 own base2 => New_m (base2 r0) (by omega)) fun u τ w4 hp h => ?_
  obtain ⟨p, rfl, rfl⟩ := hp
  refine h.make (fun B2 own base2 => New_m (base2 r0) (by omega)) fun u τ w5 hp h => ?_
  obtain ⟨p2, rfl, rfl⟩ := hp
  rw [bin_eql_ptr_nil U_p_aggregate_Acc, ifB_false, bin_eql_ptr_nil U_p_aggregate_Acc, ifB_false]
  have h : Rel (lawB W) w5 [accD p (newS aggs), accD p2 (newS aggs)] := h
  refine LOOP_intro (fun z w' => ∃ (i : Nat) (x : ACC), i ≤ L.length ∧ z = (.int .i64 i, ()) ∧ IsAcc aggs (chs (L.take i)) x ∧ GoodA i x ∧ Rel (lawB W) w' [accD p x, accD p2 (newS aggs)]) (fun z _ => L.length - (match z.1 with | .int _ n => n.toNat | _ => 0))
    ⟨0, newS aggs, Nat.zero_le _, rfl, isAcc_new aggs, newS_good (by omega), h⟩ ?_
  clear h
  rintro z w6 ⟨i, x, hi, rfl, hx, gx, h⟩ next hnext
  rw [rowR.len r1 sl_s_erratalaw30_Change, raws_len, bin_lss, ifB_dec]
  refine ⟨fun hlt => ?_, fun hge => ?_⟩
  · have hil : i < L.length := by omega
    obtain ⟨g1, o1, hx1, hc1⟩ := ch_idx r1 hil
    have qi := chR.at q hil
    refine LETJ_intro fun J hJ => ?_
    have hx' := hx.add gx L[i].2 L[i].1.n
    have gx' := gx.addK L[i].2 L[i].1.n x.aggs.length
    rw [← chs_take_succ hil] at hx'
    have gx' : GoodA (i + 1) (addS x L[i].2 L[i].1.n) := gx'
    replace hJ : ∀ w', Rel (lawB W) w' [accD p (addS x L[i].2 L[i].1.n), accD p2 (newS aggs)] → J () w' := by
      intro w' h
      refine hJ _ _ ?_
      show pureK _ _ _
      rw [bin_add, wrap_id (by omega) (by omega)]
      exact hnext _ _ ⟨i + 1, _, hil, rfl, hx', gx', h⟩ (by simp only; omega)
    clear hnext fin
    have h := h.tick
    generalize tick w6 = w6 at *
    rw [hx1, field_addr f_erratalaw30_Change_0, cellsR.ld (h.hereB hc1) sc_s_api_Value (j := 0) (v := L[i].1.row.1) rfl, hx1, field_addr f_erratalaw30_Change_1, cellsR.ld (h.hereB hc1) sc_int (j := 1) (v := .int .i64 L[i].1.n) rfl]
    refine h.act 0 rfl (fun B2 own base2 => Add_d (base2 qi) gx L[i].1.n) fun u e' τ w8 hp h => ?_
    obtain ⟨rfl, rfl, rfl⟩ := hp
    have h : Rel (lawB W) w8 [accD p (addS x L[i].2 L[i].1.n), accD p2 (newS aggs)] := h
    generalize addS x L[i].2 L[i].1.n = y at *
    have hka : Kinds y.aggs := by rw [hx'.same]; exact hkinds
    refine h.make (fun B2 own base2 => Result_m (own (i := 0) rfl) gx' (by omega) hka) fun u τ w9 hp h => ?_
    subst hp
    have h : Rel (lawB W) w9 [accD p y, accD p2 (newS aggs), rowD T_api_Value u (resultS y)] := h
    have hrl : (resultS y).length = aggs.length := by rw [resAt_bound, hx'.same]
    rw [rowR.len (rowD.read (h.here (i := 2) rfl)) sl_s_api_Value, rowR.len r0 sl_s_api_Agg, bin_neq, ifB_not, ifB_dec]
    refine ⟨fun _ => ?_, fun hh => absurd (by rw [hrl]) hh⟩
    refine LOOP_intro (fun z w' => ∃ (k : Nat), k ≤ aggs.length ∧ z = (.int .i64 k, ()) ∧ Rel (lawB W) w' [accD p y, accD p2 (newS aggs), rowD T_api_Value u (resultS y)]) (fun z _ => aggs.length - (match z.1 with | .int _ n => n.toNat | _ => 0))
      ⟨0, Nat.zero_le _, rfl, h⟩ ?_
    clear h
    rintro z w10 ⟨k, hk, rfl, h⟩ next hnext
    rw [rowR.len r0 sl_s_api_Agg, bin_lss, ifB_dec]
    refine ⟨fun hlt => ?_, fun _ => hJ _ (h.take 2)⟩
    have hkl : k < aggs.length := by omega
    have hkr : k < (resultS y).length := by omega
    have hkg : aggs[k]? = some aggs[k] := List.getElem?_eq_getElem hkl
    have h := h.tick
    generalize tick w10 = w10 at *
    obtain ⟨gg, cap, rfl⟩ := h.open_ (i := 2) rfl (by omega)
    have e3 : (resultS y)[k] = resAt y k := by simp [resultS]
    have hc3 := h.elem (α := ValD) (i := 2) rfl hkr
    rw [e3] at hc3
    have hc3 : (cellsR gg (k * 3) (resAt y k).cs).here w10 := hc3
    rw [idx_own (α := ValD) sl_s_api_Value hkr]
    rw [show k * Enc.sz ValD = k * 3 from rfl, cellsR.ldAg hc3 ag_api_Value rfl, bin_add, wrap_id (by omega) (by omega)]
    have hcut : ∀ Kp : Value → Prop, pureK Tryd.prog (sSlice T_s_erratalaw30_Change v1 none (some (.int .i64 (i + 1))) none) Kp = Kp (cutV 2 v1 0 (i + 1)) := fun Kp =>
      rowR.cutE (α := ChD) (P := Tryd.prog) (lo := 0) (hi := i + 1) r1 sl_s_erratalaw30_Change Bnd.none Bnd.some (Nat.zero_le _) (by rw [raws_len]; omega)
    rw [hcut]
    have rcut : rowR (cutV 2 v1 0 (i + 1)) (raws (L.take (i + 1))) (lawB W) := by
      have := rowR.cutR (α := ChD) (lo := 0) (hi := i + 1) r1 (Nat.zero_le _) (by rw [raws_len]; omega)
      rw [List.drop_zero] at this
      have e : (raws L).take (i + 1) = raws (L.take (i + 1)) := by unfold raws; rw [List.map_take]
      rw [e] at this
      exact this
    obtain ⟨g4, o4, hx4, hc4⟩ := rowR.idx (P := Tryd.prog) r0 sl_s_api_Agg hkl
    have hc4 : cellsR g4 o4 aggs[k].cs (lawB W) := hc4
    rw [hx4, cellsR.ldAg (h.hereB hc4) ag_api_Agg rfl]
    refine h.ask (fun B2 own base2 => wanted_g (base2 rcut) (base2 (chR.sub q fun p hp => List.mem_of_mem_take hp)) (by rw [List.length_take]; omega) aggs[k]) fun w11 h => ?_
    have hc3 := h.elem (α := ValD) (i := 2) rfl hkr
    rw [e3] at hc3
    refine ⟨cellsR.isAg hc3 ag_api_Value rfl, ?_⟩
    rw [← hx'.res gx' hkinds hkg]
    refine h.ask (fun B2 own base2 => fCompare_g _ _) fun w12 h => ?_
    rw [(compareV_ord.eq _ _).2 rfl, bin_neq, ifB_not, ifB_dec]
    refine ⟨fun _ => ?_, fun hh => absurd rfl hh⟩
    rw [bin_add, wrap_id (by omega) (by omega)]
    exact hnext _ _ ⟨k + 1, hkl, rfl, h⟩ (by simp only; omega)
  have : i = L.length := by omega
  subst this
  clear hnext
  rw [List.take_length] at hx
  rw [rowR.len r1 sl_s_erratalaw30_Change, raws_len, bin_sub, wrap_id (by omega) (by omega)]
  have hcl := chs_len L
  refine LOOP_intro (fun z w' => ∃ (k : Nat) (y : ACC), k ≤ L.length ∧ z = (.int .i64 ((L.length : Int) - 1 - k), ()) ∧ IsAcc aggs (netM (chs L) (dRows (chs L) k)) y ∧ GoodA k y ∧ Rel (lawB W) w' [accD p x, accD p2 y]) (fun z _ => match z.1 with | .int _ n => (n + 1).toNat | _ => 0)
    ⟨0, newS aggs, Nat.zero_le _, by rw [show (L.length : Int) - 1 - (0 : Nat) = (L.length : Int) - 1 by omega], isAcc_new aggs, newS_good (by omega), h⟩ ?_
  clear h
  rintro z w13 ⟨k, y, hk, rfl, hy, gy, h⟩ next hnext
  simp -zeta only [bin_geq, ifB_dec]
  refine ⟨fun hge => ?_, fun hlt => ?_⟩
  · have hkl : k < L.length := by omega
    obtain ⟨j, hj⟩ : ∃ j, j = L.length - 1 - k := ⟨_, rfl⟩
    have hjl : j < L.length := by omega
    have hji : (L.length : Int) - 1 - k = j := by omega
    refine LETJ_intro fun J hJ => ?_
    replace hJ : ∀ w' (y' : ACC), IsAcc aggs (netM (chs L) (dRows (chs L) (k + 1))) y' → GoodA (k + 1) y' → Rel (lawB W) w' [accD p x, accD p2 y'] → J () w' := by
      intro w' y' h1 h2 h
      refine hJ _ _ ?_
      show pureK _ _ _
      rw [bin_sub, wrap_id (by omega) (by omega)]
      exact hnext _ _ ⟨k + 1, y', by omega, by rw [show (L.length : Int) - 1 - k - 1 = (L.length : Int) - 1 - ((k + 1 : Nat) : Int) by omega], h1, h2, h⟩ (by simp only; omega)
    clear hnext fin
    have hd : dRows (chs L) (k + 1) = dRows (chs L) k ++ (if isFirst (chs L) j then [L[j].2] else []) := by
      show dRows (chs L) k ++ _ = _
      rw [hcl, ← hj]
      have : (chs L)[j]? = some (L[j].2, L[j].1.n) := by unfold chs; rw [List.getElem?_map, List.getElem?_eq_getElem hjl]; rfl
      rw [this]
    rw [hd] at hJ
    obtain ⟨g1, o1, hx1, hc1⟩ := ch_idx r1 hjl
    have qj := chR.at q hjl
    rw [hji]
    refine h.ask (fun B2 own base2 => first_g (base2 r1) (base2 q) hm1 hrl hjl) fun w15 h => ?_
    rw [ifB_bool]
    refine ⟨fun c => ?_, fun c => ?_⟩
    case refine_2 =>
      rw [if_neg (by rw [c]; decide), List.append_nil] at hJ
      exact hJ _ y hy (gy.mono (by omega)) h
    rw [if_pos c] at hJ
    have h := h.tick
    generalize tick w15 = w15 at *
    rw [hx1, field_addr f_erratalaw30_Change_0, cellsR.ld (h.hereB hc1) sc_s_api_Value (j := 0) (v := L[j].1.row.1) rfl, hx1, field_addr f_erratalaw30_Change_0, cellsR.ld (h.hereB hc1) sc_s_api_Value (j := 0) (v := L[j].1.row.1) rfl]
    refine h.ask (fun B2 own base2 => net_g (base2 r1) (base2 q) (base2 qj) hm1 hrl) fun w16 h => ?_
    refine ⟨cellsR.is (h.hereB hc1) sc_s_api_Value (j := 0) (v := L[j].1.row.1) rfl, ?_⟩
    refine h.act 1 rfl (fun B2 own base2 => Add_d (base2 qj) gy _) fun u e' τ w17 hp h => ?_
    obtain ⟨rfl, rfl, rfl⟩ := hp
    refine hJ _ _ ?_ (gy.addK _ _ _) h
    have := hy.add gy L[j].2 (W64 (tot (chs L) (fRow L[j].2)))
    unfold netM at this ⊢
    rw [List.map_append]
    exact this
  have : k = L.length := by omega
  subst this
  clear hnext
  have hsame : SameT (netM (chs L) (dRows (chs L) L.length)) (chs L) := by
    have := nets_same (chs L)
    rw [hcl] at this
    exact this
  have hsa := hy.same' hx gy gx hsame
  have fx := hx.fit gx (chs_mem hrok)
  have hdm : ∀ p ∈ netM (chs L) (dRows (chs L) L.length), RowOk p.1 := fun p hp => by
    obtain ⟨r, hr, rfl⟩ := List.mem_map.1 hp
    obtain ⟨_, h2, _⟩ := dRows_inv (chs L) L.length (by omega)
    obtain ⟨i, _, h3, _⟩ := h2 r hr
    cases hc : (chs L)[i]? with
    | none => rw [hc] at h3; cases h3
    | some c =>
      rw [hc] at h3
      have h3 : c.1 = r := by simpa using h3
      subst h3
      exact chs_mem hrok c (List.mem_of_getElem? hc)
  have fy := hy.fit gy hdm
  refine h.ask (fun B2 own base2 => Bytes_g (base2 hB) (own (i := 0) rfl) fx (by omega)) fun w18 h => ?_
  refine h.ask (fun B2 own base2 => Bytes_g (base2 hB) (own (i := 1) rfl) fy (by omega)) fun w19 h => ?_
  rw [hsa.enc, neq_str, decide_eq_true rfl, Bool.not_true, ifB_false]
  refine h.make (fun B2 own base2 => Result_m (own (i := 0) rfl) gx (by omega) (by rw [hx.same]; exact hkinds)) fun u τ w20 hp h => ?_
  subst hp
  refine h.make (fun B2 own base2 => Result_m (own (i := 1) rfl) gy (by omega) (by rw [hy.same]; exact hkinds)) fun u2 τ w21 hp h => ?_
  subst hp
  have h : Rel (lawB W) w21 [accD p x, accD p2 y, rowD T_api_Value u (resultS x), rowD T_api_Value u2 (resultS y)] := h
  refine h.ask (fun B2 own base2 => fSame_g (rowD.read (own (i := 2) rfl)) (rowD.read (own (i := 3) rfl)) (by rw [resAt_bound, hx.same]; omega)) fun w22 h => ?_
  rw [decide_eq_true hsa.res.symm, un_not, Bool.not_true, ifB_false]
  have h := h.take 1
  have h : Rel (lawB W) w22 [accD p x] := h
  clear hsa hsame hy gy fy hdm fx
  refine LOOP_intro (fun z w' => ∃ (k : Nat) (y : ACC), k ≤ L.length ∧ z = (.int .i64 k, ()) ∧ IsAcc aggs (chs L ++ negC ((chs L).take k)) y ∧ GoodA (L.length + k) y ∧ Rel (lawB W) w' [accD p y]) (fun z _ => L.length - (match z.1 with | .int _ n => n.toNat | _ => 0))
    ⟨0, x, Nat.zero_le _, rfl, by rw [List.take_zero]; show IsAcc aggs (chs L ++ []) x; rw [List.append_nil]; exact hx, gx, h⟩ ?_
  clear h hx gx
  rintro z w23 ⟨k, y, hk, rfl, hy, gy, h⟩ next hnext
  rw [rowR.len r1 sl_s_erratalaw30_Change, raws_len, bin_lss, ifB_dec]
  refine ⟨fun hlt => ?_, fun hge => ?_⟩
  · have hkl : k < L.length := by omega
    obtain ⟨g1, o1, hx1, hc1⟩ := ch_idx r1 hkl
    have qk := chR.at q hkl
    have h := h.tick
    generalize tick w23 = w23 at *
    rw [hx1, field_addr f_erratalaw30_Change_0, cellsR.ld (h.hereB hc1) sc_s_api_Value (j := 0) (v := L[k].1.row.1) rfl, hx1, field_addr f_erratalaw30_Change_1, cellsR.ld (h.hereB hc1) sc_int (j := 1) (v := .int .i64 L[k].1.n) rfl, un_neg]
    refine h.act 0 rfl (fun B2 own base2 => Add_d (base2 qk) gy _) fun u e' τ w24 hp h => ?_
    obtain ⟨rfl, rfl, rfl⟩ := hp
    rw [bin_add, wrap_id (by omega) (by omega)]
    refine hnext _ _ ⟨k + 1, _, hkl, rfl, ?_, gy.addK _ _ _, h⟩ (by simp only; omega)
    have := hy.add gy L[k].2 (W64 (0 - L[k].1.n))
    rw [List.append_assoc] at this
    have e : negC ((chs L).take (k + 1)) = negC ((chs L).take k) ++ [(L[k].2, W64 (0 - L[k].1.n))] := by
      rw [← chs_take, ← chs_take, chs_take_succ hkl]
      unfold negC
      rw [List.map_append]
      rfl
    rw [e]
    exact this
  have : k = L.length := by omega
  subst this
  clear hnext
  rw [List.take_of_length_le (by omega)] at hy
  obtain ⟨e1, e2, e3⟩ := hy.empty gy (neg_same (chs L))
  rw [ifB_true]
  refine h.ask (fun B2 own base2 => Empty_g (own (i := 0) rfl) gy (by omega)) fun w25 h => ?_
  rw [e3, ifB_true]
  refine h.ask (fun B2 own base2 => Count_g (own (i := 0) rfl)) fun w26 h => ?_
  rw [e1, bin_eql, ifB_dec]
  refine ⟨fun _ => ?_, fun hh => absurd rfl hh⟩
  refine h.ask (fun B2 own base2 => Rows_g (own (i := 0) rfl) gy (by omega)) fun w27 h => ?_
  rw [e2, bin_eql, decide_eq_true (by rfl)]
  exact fin _ _ h
end Go.Proofs.YtoebncgnjbblgaaDoor
