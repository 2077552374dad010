/-
  AggregateTells. No condition.
-/
import Derived.Test.YtoebncgnjbblgaaGreatDoorAgG
namespace Go.Proofs.YtoebncgnjbblgaaGreatDoor
open Go.RowKit
set_option maxRecDepth 100000

theorem sum_map_le {α : Type} (f : α → Nat) (N : Nat) : ∀ l : List α, (∀ a ∈ l, f a ≤ N) → (l.map f).sum ≤ l.length * N
  | [], _ => by simp
  | a :: l, h => by
    rw [List.map_cons, List.sum_cons, List.length_cons, Nat.add_mul, Nat.one_mul]
    have h1 := h a List.mem_cons_self
    have h2 := sum_map_le f N l fun b hb => h b (List.mem_cons_of_mem _ hb)
    omega
theorem rowsS_le {N : Nat} {x : ACC} (h : GoodA N x) : rowsS x ≤ x.aggs.length * N := by
  unfold rowsS
  rw [← h.bags]
  refine sum_map_le rowsAt N x.bags fun b hb => ?_
  cases b with
  | none => exact Nat.zero_le _
  | some b =>
    obtain ⟨i, hi, e⟩ := List.getElem_of_mem hb
    exact (h.wf i b (by rw [List.getElem?_eq_getElem hi, e])).2
section
variable {B : Base} {w : World} {σ : List Dat} {p i : Nat} {X : RF} {x : ACC}
theorem aCount_g (a : accD p x B) : Gives Tryz.prog B (sCall F_aggregate_Acc_Count #[ptr p]) (.int .i64 x.count) := by
  refine Gives.intro fun B' w K base h k => ?_
  replace a := base a
  refine aggregate_Acc_Count.up (aggregate_Acc_Count.call ?_)
  unfold aggregate_Acc_Count.pt
  obtain ⟨⟨⟨av, hav⟩, ⟨sv, hsv⟩, ⟨bv, hbv⟩, ms⟩, hms, hr⟩ := accD.read a
  have c0 : cellD p T_aggregate_Acc #[av, .int .i64 x.count, sv, bv] B' := hr 0 _ rfl
  simp -zeta only [nil_ptr, field_addr f_aggregate_Acc_1, Nat.zero_add]
  rw [cellD.ld (h.hereB c0) sc_int (o := 1) (v := .int .i64 x.count) rfl]
  exact k _ _ h
theorem refN_ld {Kp : Value → Prop} (h : Rel B w σ) (i : Nat) (hi : σ[i]? = some (refD p X)) : readK Tryz.prog (sLoad T_int (.pointer (some ⟨p, 1, none⟩))) w Kp = Kp (.int .i64 X.n) := by
  obtain ⟨⟨⟨av, hav⟩, ⟨sv, hsv⟩, ⟨bv, hbv⟩, vs⟩, hvs, hr⟩ := refD.read (h.here hi)
  have c0 : (cellD p T_errataref30_Acc #[av, .int .i64 X.n, sv, bv]).here w := hr 0 _ rfl
  exact cellD.ld c0 sc_int (o := 1) (v := .int .i64 X.n) rfl
theorem refN_is (h : Rel B w σ) (i : Nat) (hi : σ[i]? = some (refD p X)) : Is Tryz.prog (sLoad T_int (.pointer (some ⟨p, 1, none⟩))) (.int .i64 X.n) w := by
  obtain ⟨⟨⟨av, hav⟩, ⟨sv, hsv⟩, ⟨bv, hbv⟩, vs⟩, hvs, hr⟩ := refD.read (h.here hi)
  have c0 : (cellD p T_errataref30_Acc #[av, .int .i64 X.n, sv, bv]).here w := hr 0 _ rfl
  exact cellD.is c0 sc_int (o := 1) (v := .int .i64 X.n) rfl
end
theorem newF_of (aggs : List AggD) (h : aggs.length ≤ 1000) : newF aggs = refOf (newS aggs) := (isRef_new aggs).is (isAcc_new aggs) (newS_good h)
/-- Both accumulators of the same changes. -/
structure Both30 (aggs : List AggD) (L : List Chg) (N : Nat) (x : ACC) : Prop where
  acc : IsAcc aggs L x
  good : GoodA N x
  ref : IsRef aggs L (refOf x)
theorem Both30.new {aggs : List AggD} (h : aggs.length ≤ 1000) : Both30 aggs [] 0 (newS aggs) := ⟨isAcc_new aggs, newS_good h, by rw [← newF_of aggs h]; exact isRef_new aggs⟩
theorem Both30.add {aggs : List AggD} {L : List Chg} {N : Nat} {x : ACC} (h : Both30 aggs L N x) (row : List ValD) {n : Int} (hn : inI n) : Both30 aggs (L ++ [(row, n)]) (N + 1) (addS x row n) ∧ addF (refOf x) row n = refOf (addS x row n) := by
  have h1 := h.acc.add h.good row n
  have h2 : GoodA (N + 1) (addS x row n) := h.good.addK row n x.aggs.length
  have h3 := h.ref.add row hn
  have h4 := h3.is h1 h2
  exact ⟨⟨h1, h2, by rw [← h4]; exact h3⟩, h4⟩
theorem Both30.same {aggs : List AggD} {L : List Chg} {N : Nat} {x : ACC} (h : Both30 aggs L N x) : x.aggs = aggs := h.acc.same
theorem Both30.empty {aggs : List AggD} {L : List Chg} {N : Nat} {x : ACC} (h : Both30 aggs L N x) (hN : N ≤ 1000000) (hL : ∀ p ∈ L, RowOk p.1) (hR : ∀ p ∈ L, ∀ c, vRight (atS p.1 c) = true) (hl : aggs.length ≤ 1000) : emptyS x = decide (encF (refOf x) = encF (newF aggs)) := by
  have hf := h.acc.fit h.good hL
  rw [emptyS_enc hf hN (again_of h.acc h.good hR) (fun i g hg hk => by
    rw [h.same] at hg
    rw [h.acc.sums i g hg, if_neg hk]), h.same, encF_of h.good, newF_of aggs hl, encF_of (newS_good hl)]
set_option maxHeartbeats 4000000 in
theorem aggregateTells_pt {W : World} {v0 v1 v2 v4 : Value} {aggs : List AggD} {l m : List ChD} {s : ByteArray} {cols : List ColD} (hB : wireD (lawB W)) (r0 : rowR v0 aggs (lawB W)) (hm0 : aggs.length ≤ maxLen) (r1 : rowR v1 l (lawB W)) (hm1 : l.length ≤ maxLen) (hq1 : ∀ a ∈ l, ok_erratalaw30_Change W a) (r2 : rowR v2 m (lawB W)) (hm2 : m.length ≤ maxLen) (hq2 : ∀ a ∈ m, ok_erratalaw30_Change W a) (r4 : rowR v4 cols (lawB W)) (hm4 : cols.length ≤ maxLen) {K : Value → World → Prop}
    (fin : ∀ w' σ, Rel (lawB W) w' σ → K (.bool true) w') : erratalaw30_AggregateTells.pt v0 v1 v2 (.string s) v4 W K := by
  unfold erratalaw30_AggregateTells.pt
  have h := lawB.start W
  have hbool : Tryz.prog.underlying T_bool = some .bool := by kernel_rfl
  have hm0 : aggs.length ≤ 9223372036854775807 := by unfold maxLen at hm0; omega
  obtain ⟨L, rfl, q, hq⟩ := ch_open hq1
  obtain ⟨M, rfl, q2, hqm⟩ := ch_open hq2
  rw [raws_len] at hm1 hm2
  have hm1 : L.length ≤ 9223372036854775807 := by unfold maxLen at hm1; omega
  have hm2 : M.length ≤ 9223372036854775807 := by unfold maxLen at hm2; omega
  have hrl : ∀ p ∈ L, p.2.length ≤ 9223372036854775807 := fun p hp => by have := (hq p hp).1; unfold maxLen at this; omega
  have hrm : ∀ p ∈ M, p.2.length ≤ 9223372036854775807 := fun p hp => by have := (hqm p hp).1; unfold maxLen at this; omega
  refine h.ask (fun B2 own base2 => small_g) fun w1 h => ?_
  refine h.ask (fun B2 own base2 => right_g (base2 r0) hm0) fun w2 h => ?_
  rw [un_not, ifB_not, ifB_bool]
  refine ⟨fun cr => ?_, fun _ => fin _ _ h⟩
  obtain ⟨hok, hl8⟩ := rightA_ok cr
  have hkinds := right_kinds hok
  refine h.ask (fun B2 own base2 => few_g (base2 r1) (base2 q) hm1 hrl) fun w3 h => ?_
  rw [un_not, ifB_not, ifB_bool]
  refine ⟨fun cf => ?_, fun _ => fin _ _ h⟩
  obtain ⟨hl40, hrows⟩ := few_rows cf hq
  have hrok : ∀ p ∈ L, RowOk p.2 := fun p hp => (hrows p hp).1
  refine h.ask (fun B2 own base2 => few_g (base2 r2) (base2 q2) hm2 hrm) fun w4 h => ?_
  rw [un_not, ifB_not, ifB_bool]
  refine ⟨fun cfm => ?_, fun _ => fin _ _ h⟩
  obtain ⟨hlm40, hrowsm⟩ := few_rows cfm hqm
  have hrokm : ∀ p ∈ M, RowOk p.2 := fun p hp => (hrowsm p hp).1
  rw [len_string U_string, bin_gtr, ifB_dec]
  refine ⟨fun _ => fin _ _ h, fun hs600 => ?_⟩
  rw [rowR.len r4 sl_s_api_Col, bin_gtr, ifB_dec]
  refine ⟨fun _ => fin _ _ h, fun hc20 => ?_⟩
  have hl1000 : aggs.length ≤ 1000 := by omega
  have hrightL := few_right cf
  have hrightM := few_right cfm
  clear hm0 hm1 hm2 hrl hrm hrows hrowsm hm4
  refine h.make (fun B2 own base2 => New_m (base2 r0) (by omega)) fun u τ w5 hp h => ?_
  obtain ⟨p1, rfl, rfl⟩ := hp
  refine h.make (fun B2 own base2 => New_m (base2 r0) (by omega)) fun u τ w6 hp h => ?_
  obtain ⟨p2, rfl, rfl⟩ := hp
  refine h.make (fun B2 own base2 => rNew_m (base2 r0) (by omega)) fun u τ w7 hp h => ?_
  obtain ⟨p3, rfl, rfl⟩ := hp
  refine h.make (fun B2 own base2 => rNew_m (base2 r0) (by omega)) fun u τ w8 hp h => ?_
  obtain ⟨p4, rfl, rfl⟩ := hp
  rw [bin_eql_ptr_nil U_p_aggregate_Acc, ifB_false, bin_eql_ptr_nil U_p_aggregate_Acc, ifB_false]
  rw [newF_of aggs hl1000] at h
  have h : Rel (lawB W) w8 [accD p1 (newS aggs), accD p2 (newS aggs), refD p3 (refOf (newS aggs)), refD p4 (refOf (newS aggs))] := h
  have hnew := encA_small ((isAcc_new aggs).fit (newS_good hl1000) fun p hp => by cases hp) (by omega) hl8
  have hnew1 := hnew.1
  clear hnew
  refine LOOP_intro (fun z w' => ∃ (i : Nat) (x : ACC), i ≤ L.length ∧ z = (.int .i64 i, ()) ∧ Both30 aggs (chs (L.take i)) i x ∧ Rel (lawB W) w' [accD p1 x, accD p2 (newS aggs), refD p3 (refOf x), refD p4 (refOf (newS aggs))]) (fun z _ => L.length - (match z.1 with | .int _ n => n.toNat | _ => 0))
    ⟨0, newS aggs, Nat.zero_le _, rfl, Both30.new hl1000, h⟩ ?_
  clear h
  rintro z w9 ⟨i, x, hi, rfl, bx, h⟩ next hnext
  rw [rowR.len r1 sl_s_erratalaw30_Change, raws_len, bin_lss, ifB_dec]
  refine ⟨fun hlt => ?_, fun hge => ?_⟩
  · have hil : i < L.length := by omega
    obtain ⟨g1, o1, hx1, hc1⟩ := ch_idx r1 hil
    have qi := chR.at q hil
    have hin : inI L[i].1.n := (hq L[i] (List.getElem_mem hil)).2.2
    obtain ⟨by_, ey⟩ := bx.add L[i].2 hin
    rw [← chs_take_succ hil] at by_
    have fx := bx.acc.fit bx.good (chs_mem2 fun x hx => hrok x (List.mem_of_mem_take hx))
    have h := h.tick
    generalize tick w9 = w9 at *
    rw [hx1, field_addr f_erratalaw30_Change_0, cellsR.ld (h.hereB hc1) sc_s_api_Value (j := 0) (v := L[i].1.row.1) rfl, hx1, field_addr f_erratalaw30_Change_1, cellsR.ld (h.hereB hc1) sc_int (j := 1) (v := .int .i64 L[i].1.n) rfl]
    refine h.act 0 rfl (fun B2 own base2 => Add_d (base2 qi) bx.good L[i].1.n) fun u e' τ w10 hp h => ?_
    obtain ⟨rfl, rfl, rfl⟩ := hp
    have h := h.tick
    generalize tick w10 = w10 at *
    rw [hx1, field_addr f_erratalaw30_Change_0, cellsR.ld (h.hereB hc1) sc_s_api_Value (j := 0) (v := L[i].1.row.1) rfl, hx1, field_addr f_erratalaw30_Change_1, cellsR.ld (h.hereB hc1) sc_int (j := 1) (v := .int .i64 L[i].1.n) rfl]
    refine h.act 2 rfl (fun B2 own base2 => rAdd_d (base2 qi) fx.ref.good (by omega) L[i].1.n) fun u e' τ w11 hp h => ?_
    obtain ⟨rfl, rfl, rfl⟩ := hp
    rw [ey] at h
    have h : Rel (lawB W) w11 [accD p1 (addS x L[i].2 L[i].1.n), accD p2 (newS aggs), refD p3 (refOf (addS x L[i].2 L[i].1.n)), refD p4 (refOf (newS aggs))] := h
    clear fx ey bx
    generalize addS x L[i].2 L[i].1.n = y at *
    have hmem : ∀ p ∈ chs (L.take (i + 1)), RowOk p.1 := chs_mem2 fun x hx => hrok x (List.mem_of_mem_take hx)
    have hmr : ∀ p ∈ chs (L.take (i + 1)), ∀ c, vRight (atS p.1 c) = true := fun p hp => by
      rw [show chs (L.take (i + 1)) = (chs L).take (i + 1) by unfold chs; rw [List.map_take]] at hp
      exact hrightL p (List.mem_of_mem_take hp)
    have fy := by_.acc.fit by_.good hmem
    have hys := by_.same
    have hsm := encA_small fy (by omega) (by rw [hys]; exact hl8)
    have hemp := by_.empty (by omega) hmem hmr hl1000
    have ef := encF_of by_.good
    have hrws := rowsS_le by_.good
    have hrw8 : y.aggs.length * (i + 1) ≤ 8 * 41 := by rw [hys]; exact Nat.mul_le_mul hl8 (by omega)
    have h := h.tick
    generalize tick w11 = w11 at *
    refine h.make (fun B2 own base2 => Result_m (own (i := 0) rfl) by_.good (by omega) (by rw [hys]; exact hkinds)) fun u τ w12 hp h => ?_
    subst hp
    refine h.make (fun B2 own base2 => rResult_m (own (i := 2) rfl) fy.ref.good (by omega)) fun u2 τ w13 hp h => ?_
    subst hp
    have h : Rel (lawB W) w13 [accD p1 y, accD p2 (newS aggs), refD p3 (refOf y), refD p4 (refOf (newS aggs)), rowD T_api_Value u (resultS y), rowD T_api_Value u2 (resultF (refOf y))] := h
    refine h.ask (fun B2 own base2 => fSame_g (rowD.read (own (i := 4) rfl)) (rowD.read (own (i := 5) rfl)) (by rw [resAt_bound, hys]; omega)) fun w14 h => ?_
    rw [decide_eq_true (resultF_of by_.good (by rw [hys]; exact hkinds)).symm, un_not, Bool.not_true, ifB_false]
    have h := h.take 4
    have h : Rel (lawB W) w14 [accD p1 y, accD p2 (newS aggs), refD p3 (refOf y), refD p4 (refOf (newS aggs))] := h
    rw [nil_ptr, field_addr f_errataref30_Acc_1, Nat.zero_add, refN_ld h 2 rfl]
    refine h.ask (fun B2 own base2 => aCount_g (own (i := 0) rfl)) fun w15 h => ?_
    refine ⟨refN_is h 2 rfl, ?_⟩
    rw [show (refOf y).n = y.count from rfl, bin_neq, ifB_not, ifB_dec]
    refine ⟨fun _ => ?_, fun hh => absurd rfl hh⟩
    refine h.ask (fun B2 own base2 => Rows_g (own (i := 0) rfl) by_.good (by omega)) fun w16 h => ?_
    refine h.ask (fun B2 own base2 => rRows_g (own (i := 2) rfl) fy.ref.good (by rw [rowsF_of]; omega)) fun w17 h => ?_
    rw [rowsF_of, bin_neq, ifB_not, ifB_dec]
    refine ⟨fun _ => ?_, fun hh => absurd rfl hh⟩
    refine h.ask (fun B2 own base2 => Empty_g (own (i := 0) rfl) by_.good (by omega)) fun w18 h => ?_
    refine h.ask (fun B2 own base2 => rEmpty_g (own (i := 2) rfl) fy.ref (by omega) (by rw [ef]; omega) (by rw [show (refOf y).aggs = y.aggs from rfl, hys, newF_of aggs hl1000, encF_of (newS_good hl1000)]; omega)) fun w19 h => ?_
    rw [show (refOf y).aggs = y.aggs from rfl, hys, ← hemp, bin_neq_bool hbool, show (!(emptyS y == emptyS y)) = false by cases emptyS y <;> rfl, ifB_false]
    refine h.ask (fun B2 own base2 => Bytes_g (base2 hB) (own (i := 0) rfl) fy (by omega)) fun w20 h => ?_
    refine ⟨refN_is h 2 rfl, ?_⟩
    refine h.ask (fun B2 own base2 => rBytes_g (own (i := 2) rfl) fy.ref (by omega) (by rw [ef]; omega)) fun w21 h => ?_
    refine ⟨refN_is h 2 rfl, ?_⟩
    rw [ef, neq_str, decide_eq_true rfl, Bool.not_true, ifB_false, bin_add, wrap_id (by omega) (by omega)]
    exact hnext _ _ ⟨i + 1, y, hil, rfl, by_, h⟩ (by simp only; omega)
  have : i = L.length := by omega
  subst this
  clear hnext
  rw [List.take_length] at bx
  refine LOOP_intro (fun z w' => ∃ (k : Nat) (y : ACC), k ≤ M.length ∧ z = (.int .i64 k, ()) ∧ Both30 aggs (chs (M.take k)) k y ∧ Rel (lawB W) w' [accD p1 x, accD p2 y, refD p3 (refOf x), refD p4 (refOf y)]) (fun z _ => M.length - (match z.1 with | .int _ n => n.toNat | _ => 0))
    ⟨0, newS aggs, Nat.zero_le _, rfl, Both30.new hl1000, h⟩ ?_
  clear h
  rintro z w22 ⟨k, y, hk, rfl, by_, h⟩ next hnext
  rw [rowR.len r2 sl_s_erratalaw30_Change, raws_len, bin_lss, ifB_dec]
  refine ⟨fun hlt => ?_, fun hge => ?_⟩
  · have hkl : k < M.length := by omega
    obtain ⟨g1, o1, hx1, hc1⟩ := ch_idx r2 hkl
    have qk := chR.at q2 hkl
    have hin : inI M[k].1.n := (hqm M[k] (List.getElem_mem hkl)).2.2
    obtain ⟨bz, ez⟩ := by_.add M[k].2 hin
    rw [← chs_take_succ hkl] at bz
    have fy := by_.acc.fit by_.good (chs_mem2 fun x hx => hrokm x (List.mem_of_mem_take hx))
    have h := h.tick
    generalize tick w22 = w22 at *
    rw [hx1, field_addr f_erratalaw30_Change_0, cellsR.ld (h.hereB hc1) sc_s_api_Value (j := 0) (v := M[k].1.row.1) rfl, hx1, field_addr f_erratalaw30_Change_1, cellsR.ld (h.hereB hc1) sc_int (j := 1) (v := .int .i64 M[k].1.n) rfl]
    refine h.act 1 rfl (fun B2 own base2 => Add_d (base2 qk) by_.good M[k].1.n) fun u e' τ w23 hp h => ?_
    obtain ⟨rfl, rfl, rfl⟩ := hp
    have h := h.tick
    generalize tick w23 = w23 at *
    rw [hx1, field_addr f_erratalaw30_Change_0, cellsR.ld (h.hereB hc1) sc_s_api_Value (j := 0) (v := M[k].1.row.1) rfl, hx1, field_addr f_erratalaw30_Change_1, cellsR.ld (h.hereB hc1) sc_int (j := 1) (v := .int .i64 M[k].1.n) rfl]
    refine h.act 3 rfl (fun B2 own base2 => rAdd_d (base2 qk) fy.ref.good (by omega) M[k].1.n) fun u e' τ w24 hp h => ?_
    obtain ⟨rfl, rfl, rfl⟩ := hp
    rw [ez] at h
    rw [bin_add, wrap_id (by omega) (by omega)]
    exact hnext _ _ ⟨k + 1, _, hkl, rfl, bz, h⟩ (by simp only; omega)
  have : k = M.length := by omega
  subst this
  clear hnext
  rw [List.take_length] at by_
  have fx := bx.acc.fit bx.good (chs_mem2 hrok)
  have fy := by_.acc.fit by_.good (chs_mem2 hrokm)
  refine h.act 0 rfl (fun B2 own base2 => Merge_d (own (j := 1) (by decide) rfl) bx.good by_.good bx.acc by_.acc (by omega)) fun u e' τ w25 hp h => ?_
  obtain ⟨z, rfl, rfl, iz, gz, rfl⟩ := hp
  refine h.act 2 rfl (fun B2 own base2 => rMerge_d (own (j := 3) (by decide) rfl) fx.ref.good fy.ref.good (bx.same.trans by_.same.symm) (by omega)) fun u e' τ w26 hp h => ?_
  obtain ⟨rfl, rfl, rfl⟩ := hp
  have rz := bx.ref.merge by_.ref
  have ez := rz.is iz gz
  rw [ez] at h
  have h : Rel (lawB W) w26 [accD p1 z, accD p2 y, refD p3 (refOf z), refD p4 (refOf y)] := h
  have hmz : ∀ p ∈ chs L ++ chs M, RowOk p.1 := fun p hp => by
    rcases List.mem_append.1 hp with hp | hp
    · exact chs_mem2 hrok p hp
    · exact chs_mem2 hrokm p hp
  have fz := iz.fit gz hmz
  have hsz := encA_small fz (by omega) (by rw [iz.same]; exact hl8)
  have hsy := encA_small fy (by omega) (by rw [by_.same]; exact hl8)
  have efz := encF_of gz
  have efy := encF_of by_.good
  rw [bin_neq, ifB_not, ifB_dec]
  refine ⟨fun _ => ?_, fun hh => absurd rfl hh⟩
  refine h.ask (fun B2 own base2 => Bytes_g (base2 hB) (own (i := 0) rfl) fz (by omega)) fun w27 h => ?_
  refine h.ask (fun B2 own base2 => rBytes_g (own (i := 2) rfl) fz.ref (by omega) (by rw [efz]; omega)) fun w28 h => ?_
  rw [efz, neq_str, decide_eq_true rfl, Bool.not_true, ifB_false]
  refine h.ask (fun B2 own base2 => Bytes_g (base2 hB) (own (i := 1) rfl) fy (by omega)) fun w29 h => ?_
  refine h.ask (fun B2 own base2 => rBytes_g (own (i := 3) rfl) fy.ref (by omega) (by rw [efy]; omega)) fun w30 h => ?_
  rw [efy, neq_str, decide_eq_true rfl, Bool.not_true, ifB_false]
  have h := h.nil
  clear hsz hsy efz efy fz hmz ez rz gz iz fx fy bx by_
  have hsl : (bl s).length ≤ 600 := by
    have : (s.size : Int) ≤ 600 := by omega
    show s.size ≤ 600
    omega
  have rd : ∀ B2 : Base, (∀ {d : Dat}, d (lawB W) → d B2) → Makes Tryz.prog B2 (sCall F_aggregate_Read #[v0, .string s]) fun u τ => (∃ x p, readA aggs (bl s) = some x ∧ GoodA (bl s).length x ∧ FitA (bl s).length x ∧ u = .tuple #[ptr p, .bool true] ∧ τ = [accD p x]) ∨ (readA aggs (bl s) = none ∧ u = .tuple #[.pointer none, .bool false] ∧ τ = []) := fun B2 base2 => by
    have := aRead_m (t := bl s) (base2 hB) (base2 r0) (by omega) (by omega)
    rw [ofL_bl] at this
    exact this
  have rd2 : ∀ B2 : Base, (∀ {d : Dat}, d (lawB W) → d B2) → Makes Tryz.prog B2 (sCall F_errataref30_Read #[v0, .string s]) fun u τ => (∃ X p, readF aggs (bl s) = some X ∧ u = .tuple #[ptr p, .bool true] ∧ τ = [refD p X]) ∨ (readF aggs (bl s) = none ∧ u = .tuple #[.pointer none, .bool false] ∧ τ = []) := fun B2 base2 => by
    have := rRead_m (t := bl s) (base2 r0) (by omega) (by omega)
    rw [ofL_bl] at this
    exact this
  have last : ∀ w' τ, Rel (lawB W) w' τ → upK Tryz.prog (sCall F_aggregate_Cols #[v0, v4]) w' fun t227 w34 =>
                   pureK Tryz.prog (sExtract t227 0) fun t228 =>
                   pureK Tryz.prog (sExtract t227 1) fun t229 =>
                   upK Tryz.prog (sCall F_errataref30_Cols #[v0, v4]) w34 fun t233 w35 =>
                   pureK Tryz.prog (sExtract t233 0) fun t234 =>
                   pureK Tryz.prog (sExtract t233 1) fun t235 =>
                   ifB (.bool true)
                   (pureK Tryz.prog (sBin .eql T_api_Errno (.tmp 238) (.tmp 239) t229 t235) fun t240 =>
                    ifB t240
                    (upK Tryz.prog (sCall F_errataref13_Same #[t228, t234]) w35 fun t245 w36 =>
                     K t245 w36)
                    (K (.bool false) w35))
                   (K (.bool false) w35) := by
    intro w' τ h
    have h := h.nil
    refine h.make (fun B2 own base2 => cols_m (base2 r0) (base2 r4) (by omega)) fun u τ w34 hp h => ?_
    obtain ⟨y1, rfl, rfl⟩ := hp
    rw [ext_2_0, ext_2_1]
    refine h.make (fun B2 own base2 => rCols_m (base2 r0) (base2 r4) (by omega)) fun u τ w35 hp h => ?_
    obtain ⟨y2, rfl, rfl⟩ := hp
    rw [ext_2_0, ext_2_1, ifB_true, bin_eql, ifB_dec]
    have h : Rel (lawB W) w35 [rowD T_api_Col y1 (colsS cols aggs).2, rowD T_api_Col y2 (colsS cols aggs).2] := h
    refine ⟨fun _ => ?_, fun hh => absurd rfl hh⟩
    have hcl : (colsS cols aggs).2.length ≤ 1000000 := by
      unfold colsS
      split
      · exact Nat.zero_le _
      · rw [List.length_map]; omega
    refine h.ask (fun B2 own base2 => rSame_g (rowD.read (own (i := 0) rfl)) (rowD.read (own (i := 1) rfl)) hcl) fun w36 h => ?_
    rw [decide_eq_true rfl]
    exact fin _ _ h
  refine h.make (fun B2 own base2 => rd B2 base2) fun u τ w31 hp h => ?_
  rcases hp with ⟨d, pd, hd, gd, fd, rfl, rfl⟩ | ⟨hn, rfl, rfl⟩
  · obtain ⟨hdf, gd2, hda⟩ := readF_of hl1000 (by omega) hd
    have hde := readA_enc hd
    rw [ext_2_0, ext_2_1]
    refine h.make (fun B2 own base2 => rd2 B2 base2) fun u τ w32 hp h => ?_
    rcases hp with ⟨X, pz, hX, rfl, rfl⟩ | ⟨hn, _, _⟩
    case inr => rw [hn] at hdf; cases hdf
    rw [hX] at hdf
    have eX : X = refOf d := Option.some.inj hdf
    subst eX
    have h : Rel (lawB W) w32 [accD pd d, refD pz (refOf d)] := h
    rw [ext_2_0, ext_2_1, bin_neq_bool hbool, show (!(true == true)) = false from rfl, ifB_false, bin_neq_ptr_nil U_p_aggregate_Acc, bin_neq_bool hbool, show (!(true == true)) = false from rfl, ifB_false]
    refine LETJ_intro fun J hJ => ?_
    replace hJ : ∀ w' τ, Rel (lawB W) w' τ → J () w' := fun w' τ h => hJ _ _ (last w' τ h)
    rw [bin_neq_ptr_nil U_p_aggregate_Acc, ifB_true, bin_neq_ptr_nil U_p_errataref30_Acc, ifB_true]
    have efd := encF_of gd
    refine h.ask (fun B2 own base2 => Bytes_g (base2 hB) (own (i := 0) rfl) fd (by omega)) fun w37 h => ?_
    refine h.ask (fun B2 own base2 => rBytes_g (own (i := 1) rfl) fd.ref (by omega) (by rw [efd, hde]; omega)) fun w38 h => ?_
    rw [efd, neq_str, decide_eq_true rfl, Bool.not_true, ifB_false]
    refine h.make (fun B2 own base2 => Result_m (own (i := 0) rfl) gd (by omega) (by rw [hda]; exact hkinds)) fun u τ w39 hp h => ?_
    subst hp
    refine h.make (fun B2 own base2 => rResult_m (own (i := 1) rfl) fd.ref.good (by omega)) fun u2 τ w40 hp h => ?_
    subst hp
    have h : Rel (lawB W) w40 [accD pd d, refD pz (refOf d), rowD T_api_Value u (resultS d), rowD T_api_Value u2 (resultF (refOf d))] := h
    refine h.ask (fun B2 own base2 => fSame_g (rowD.read (own (i := 2) rfl)) (rowD.read (own (i := 3) rfl)) (by rw [resAt_bound, hda]; omega)) fun w41 h => ?_
    rw [decide_eq_true (resultF_of gd (by rw [hda]; exact hkinds)).symm, un_not, Bool.not_true, ifB_false]
    exact hJ _ _ h
  · rw [ext_2_0, ext_2_1]
    refine h.make (fun B2 own base2 => rd2 B2 base2) fun u τ w32 hp h => ?_
    rcases hp with ⟨X, pz, hX, _, _⟩ | ⟨_, rfl, rfl⟩
    · obtain ⟨x, hx⟩ := readA_of hl1000 (by omega) hX
      rw [hn] at hx
      cases hx
    rw [ext_2_0, ext_2_1, bin_neq_bool hbool, show (!(false == false)) = false from rfl, ifB_false, neq_pnil_pnil U_p_aggregate_Acc, bin_neq_bool hbool, show (!(false == false)) = false from rfl, ifB_false]
    refine LETJ_intro fun J hJ => ?_
    replace hJ : ∀ w' τ, Rel (lawB W) w' τ → J () w' := fun w' τ h => hJ _ _ (last w' τ h)
    rw [neq_pnil_pnil U_p_aggregate_Acc, ifB_false]
    exact hJ _ _ h
end Go.Proofs.YtoebncgnjbblgaaGreatDoor
