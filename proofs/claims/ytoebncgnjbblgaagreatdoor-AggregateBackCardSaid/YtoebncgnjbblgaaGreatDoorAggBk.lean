/-
  AggregateBack. No condition.
-/
import Derived.Test.YtoebncgnjbblgaaGreatDoorAggRt
import Derived.Test.YtoebncgnjbblgaaGreatDoorAggK
import Derived.Test.YtoebncgnjbblgaaGreatDoorAggS
import Derived.Test.YtoebncgnjbblgaaGreatDoorAggQ
--@auto
namespace Go.Proofs.YtoebncgnjbblgaaGreatDoor
open Go.RowKit
set_option maxRecDepth 100000

theorem encA_small {N : Nat} {x : ACC} (h : FitA N x) (hN : N ≤ 400) (hl : x.aggs.length ≤ 8) : (encA x).length ≤ 5000000 ∧ (encA x).length ≤ 100 + 8 * (100 + 1200 * N) := by
  have hat : ∀ i ∈ List.range x.aggs.length, (encAt x i).length ≤ 64 + 1200 * N := by
    intro i _
    unfold encAt
    split
    · simp
    · rw [List.length_append]
      have h1 : (encSum x ‹_› i).length ≤ 21 := by
        unfold encSum
        split
        · cases hs : x.sums[i]? with
          | none => exact encI_len (n := 0) ⟨by omega, by omega⟩
          | some s => exact encI_len (h.sum i s hs)
        · simp
      have h2 : (encOrd x ‹_› i).length ≤ 21 + 1200 * N := by
        unfold encOrd
        split
        · split
          · rename_i b hb
            have hlb := (h.good.wf i b hb).2
            have h1 := flat_len (encE b) (keysV b) 1200 fun u hu => encE_len (h.bag i b hb u hu)
            rw [keysV_len] at h1
            have h2 := encI_len (n := (b.1.length : Int)) ⟨by omega, by omega⟩
            unfold encBag
            rw [List.length_append]
            omega
          · simp
        · simp
      omega
  have h1 := flat_len (encAt x) (List.range x.aggs.length) (64 + 1200 * N) hat
  rw [List.length_range] at h1
  have h2 := encI_len h.count
  have h3 : (64 + 1200 * N) * x.aggs.length ≤ (64 + 1200 * N) * 8 := Nat.mul_le_mul_left _ hl
  unfold encA
  rw [List.length_append]
  omega
theorem few_right {L : ChL} (h : fewS (chs L) = true) : ∀ p ∈ chs L, ∀ c, vRight (atS p.1 c) = true := by
  intro p hp c
  unfold fewS at h
  rw [Bool.and_eq_true, List.all_eq_true] at h
  have := h.1 p hp
  rw [Bool.and_eq_true, List.all_eq_true] at this
  unfold atS
  split
  · rfl
  · cases hr : p.1[c.toNat]? with
    | none => rfl
    | some u => exact this.2 u (List.mem_of_getElem? hr)
theorem chs_mem2 {L : ChL} {P : List ValD → Prop} (h : ∀ p ∈ L, P p.2) : ∀ p ∈ chs L, P p.1 := fun p hp => by
  obtain ⟨q, hq, rfl⟩ := List.mem_map.1 hp
  exact h q hq
theorem readA_enc {aggs : List AggD} {t : Bs} {x : ACC} (h : readA aggs t = some x) : encA x = t := by
  unfold readA at h
  split at h
  · cases h
  · split at h
    · rename_i c
      have e := Option.some.inj h
      rw [← e]
      exact c.2.1
    · cases h
set_option maxHeartbeats 4000000 in
theorem aggregateBack_pt {W : World} {v0 v1 v2 : Value} {aggs : List AggD} {l m : List ChD} {s : ByteArray} (hB : wireD (lawB W)) (r0 : rowR v0 aggs (lawB W)) (hm0 : aggs.length ≤ maxLen) (r1 : rowR v1 l (lawB W)) (hm1 : l.length ≤ maxLen) (hq1 : ∀ a ∈ l, ok_erratalaw30_Change W a) (r2 : rowR v2 m (lawB W)) (hm2 : m.length ≤ maxLen) (hq2 : ∀ a ∈ m, ok_erratalaw30_Change W a) {K : Value → World → Prop}
    (fin : ∀ w' σ, Rel (lawB W) w' σ → K (.bool true) w') : erratalaw30_AggregateBack.pt v0 v1 v2 (.string s) W K := by
  unfold erratalaw30_AggregateBack.pt
  have h := lawB.start W
  have hm0 : aggs.length ≤ 9223372036854775807 := by unfold maxLen at hm0; omega
  obtain ⟨L, rfl, q, hq⟩ := ch_open hq1
  obtain ⟨M, rfl, q2, hqm⟩ := ch_open hq2
  rw [raws_len] at hm1 hm2
  have hm1 : L.length ≤ 9223372036854775807 := by unfold maxLen at hm1; omega
  have hm2 : M.length ≤ 9223372036854775807 := by unfold maxLen at hm2; omega
  have hrl : ∀ p ∈ L, p.2.length ≤ 9223372036854775807 := fun p hp => by have := (hq p hp).1; unfold maxLen at this; omega
  have hrm : ∀ p ∈ M, p.2.length ≤ 9223372036854775807 := fun p hp => by have := (hqm p hp).1; unfold maxLen at this; omega
  refine h.ask (fun B2 own base2 => small_g) fun w1 h => ?_
  refine h.ask (fun B2 own base2 => right_g (base2 r0) hm0) fun w2 h => ?_
  rw [un_not, ifB_not, ifB_bool]
  refine ⟨fun cr => ?_, fun _ => fin _ _ h⟩
  obtain ⟨hok, hl8⟩ := rightA_ok cr
  have hkinds := right_kinds hok
  refine h.ask (fun B2 own base2 => few_g (base2 r1) (base2 q) hm1 hrl) fun w3 h => ?_
  rw [un_not, ifB_not, ifB_bool]
  refine ⟨fun cf => ?_, fun _ => fin _ _ h⟩
  obtain ⟨hl40, hrows⟩ := few_rows cf hq
  have hrok : ∀ p ∈ L, RowOk p.2 := fun p hp => (hrows p hp).1
  refine h.ask (fun B2 own base2 => few_g (base2 r2) (base2 q2) hm2 hrm) fun w4 h => ?_
  rw [un_not, ifB_not, ifB_bool]
  refine ⟨fun cfm => ?_, fun _ => fin _ _ h⟩
  obtain ⟨hlm40, hrowsm⟩ := few_rows cfm hqm
  have hrokm : ∀ p ∈ M, RowOk p.2 := fun p hp => (hrowsm p hp).1
  rw [len_string U_string, bin_gtr, ifB_dec]
  refine ⟨fun _ => fin _ _ h, fun hs600 => ?_⟩
  refine h.make (fun B2 own base2 => New_m (base2 r0) (by omega)) fun u τ w5 hp h => ?_
  obtain ⟨p, rfl, rfl⟩ := hp
  rw [bin_eql_ptr_nil U_p_aggregate_Acc, ifB_false]
  have h : Rel (lawB W) w5 [accD p (newS aggs)] := h
  refine LOOP_intro (fun z w' => ∃ (i : Nat) (x : ACC), i ≤ L.length ∧ z = (.int .i64 i, ()) ∧ IsAcc aggs (chs (L.take i)) x ∧ GoodA i x ∧ Rel (lawB W) w' [accD p x]) (fun z _ => L.length - (match z.1 with | .int _ n => n.toNat | _ => 0))
    ⟨0, newS aggs, Nat.zero_le _, rfl, isAcc_new aggs, newS_good (by omega), h⟩ ?_
  clear h
  rintro z w6 ⟨i, x, hi, rfl, ix, gx, h⟩ next hnext
  rw [rowR.len r1 sl_s_erratalaw30_Change, raws_len, bin_lss, ifB_dec]
  refine ⟨fun hlt => ?_, fun hge => ?_⟩
  · have hil : i < L.length := by omega
    obtain ⟨g1, o1, hx1, hc1⟩ := ch_idx r1 hil
    have h := h.tick
    generalize tick w6 = w6 at *
    rw [hx1, field_addr f_erratalaw30_Change_0, cellsR.ld (h.hereB hc1) sc_s_api_Value (j := 0) (v := L[i].1.row.1) rfl, hx1, field_addr f_erratalaw30_Change_1, cellsR.ld (h.hereB hc1) sc_int (j := 1) (v := .int .i64 L[i].1.n) rfl]
    refine h.act 0 rfl (fun B2 own base2 => Add_d (base2 (chR.at q hil)) gx L[i].1.n) fun u e' τ w8 hp h => ?_
    obtain ⟨rfl, rfl, rfl⟩ := hp
    rw [bin_add, wrap_id (by omega) (by omega)]
    have ix' := ix.add gx L[i].2 L[i].1.n
    rw [← chs_take_succ hil] at ix'
    exact hnext _ _ ⟨i + 1, _, hil, rfl, ix', gx.addK _ _ _, h⟩ (by simp only; omega)
  have : i = L.length := by omega
  subst this
  clear hnext
  rw [List.take_length] at ix
  have fx := ix.fit gx (chs_mem2 hrok)
  have hsm := encA_small fx (by omega) (by rw [ix.same]; exact hl8)
  obtain ⟨y, hy, iy⟩ := read_again ix gx (by omega) (chs_mem2 hrok) (few_right cf)
  refine h.ask (fun B2 own base2 => Bytes_g (base2 hB) (own (i := 0) rfl) fx (by omega)) fun w8 h => ?_
  refine h.make (fun B2 own base2 => aRead_m (base2 hB) (base2 r0) (by omega) (by omega)) fun u τ w9 hp h => ?_
  rcases hp with ⟨y', pb, hy', gy, fy, rfl, rfl⟩ | ⟨hn, _, _⟩
  case inr => rw [hn] at hy; cases hy
  rw [hy] at hy'
  have e : y = y' := Option.some.inj hy'
  subst e
  rw [ext_2_0, ext_2_1, bin_eql_ptr_nil U_p_aggregate_Acc, ifB_false, un_not, Bool.not_true, ifB_false]
  have h : Rel (lawB W) w9 [accD p x, accD pb y] := h
  refine h.make (fun B2 own base2 => Copy_m (own (i := 0) rfl) gx) fun u τ w10 hp h => ?_
  obtain ⟨pc, rfl, rfl⟩ := hp
  rw [bin_eql_ptr_nil U_p_aggregate_Acc, ifB_false]
  have h : Rel (lawB W) w10 [accD p x, accD pb y, accD pc x] := h
  refine h.ask (fun B2 own base2 => Bytes_g (base2 hB) (own (i := 0) rfl) fx (by omega)) fun w11 h => ?_
  have hN0 : (encA x).length ≤ 400000 := by omega
  generalize hNN : (encA x).length = N0 at *
  refine LOOP_intro (fun z w' => ∃ (k : Nat) (y' x' : ACC), k ≤ M.length ∧ z = (.int .i64 k, ()) ∧ IsAcc aggs (chs L ++ chs (M.take k)) y' ∧ IsAcc aggs (chs L ++ chs (M.take k)) x' ∧ GoodA (N0 + k) y' ∧ GoodA (L.length + k) x' ∧ Rel (lawB W) w' [accD p x, accD pb y', accD pc x']) (fun z _ => M.length - (match z.1 with | .int _ n => n.toNat | _ => 0))
    ⟨0, y, x, Nat.zero_le _, rfl, by rw [List.take_zero]; show IsAcc aggs (chs L ++ []) y; rw [List.append_nil]; exact iy, by rw [List.take_zero]; show IsAcc aggs (chs L ++ []) x; rw [List.append_nil]; exact ix, gy, gx, h⟩ ?_
  clear h gy iy fy hy hy'
  rintro z w12 ⟨k, y', x', hk, rfl, iy, ix', gy, gx', h⟩ next hnext
  rw [rowR.len r2 sl_s_erratalaw30_Change, raws_len, bin_lss, ifB_dec]
  refine ⟨fun hlt => ?_, fun hge => ?_⟩
  · have hkl : k < M.length := by omega
    obtain ⟨g1, o1, hx1, hc1⟩ := ch_idx r2 hkl
    have qk := chR.at q2 hkl
    have h := h.tick
    generalize tick w12 = w12 at *
    rw [hx1, field_addr f_erratalaw30_Change_0, cellsR.ld (h.hereB hc1) sc_s_api_Value (j := 0) (v := M[k].1.row.1) rfl, hx1, field_addr f_erratalaw30_Change_1, cellsR.ld (h.hereB hc1) sc_int (j := 1) (v := .int .i64 M[k].1.n) rfl]
    refine h.act 1 rfl (fun B2 own base2 => Add_d (base2 qk) gy M[k].1.n) fun u e' τ w13 hp h => ?_
    obtain ⟨rfl, rfl, rfl⟩ := hp
    have h := h.tick
    generalize tick w13 = w13 at *
    rw [hx1, field_addr f_erratalaw30_Change_0, cellsR.ld (h.hereB hc1) sc_s_api_Value (j := 0) (v := M[k].1.row.1) rfl, hx1, field_addr f_erratalaw30_Change_1, cellsR.ld (h.hereB hc1) sc_int (j := 1) (v := .int .i64 M[k].1.n) rfl]
    refine h.act 2 rfl (fun B2 own base2 => Add_d (base2 qk) gx' M[k].1.n) fun u e' τ w14 hp h => ?_
    obtain ⟨rfl, rfl, rfl⟩ := hp
    have iy2 := iy.add gy M[k].2 M[k].1.n
    have ix2 := ix'.add gx' M[k].2 M[k].1.n
    rw [List.append_assoc, ← chs_take_succ hkl] at iy2 ix2
    have gy2 : GoodA (N0 + k + 1) (addS y' M[k].2 M[k].1.n) := gy.addK _ _ _
    have gx2 : GoodA (L.length + k + 1) (addS x' M[k].2 M[k].1.n) := gx'.addK _ _ _
    have hro : ∀ p ∈ chs L ++ chs (M.take (k + 1)), RowOk p.1 := fun p hp => by
      rcases List.mem_append.1 hp with hp | hp
      · exact chs_mem2 hrok p hp
      · exact chs_mem2 (fun x hx => hrokm x (List.mem_of_mem_take hx)) p hp
    have fy2 := iy2.fit gy2 hro
    have fx2 := ix2.fit gx2 hro
    have h : Rel (lawB W) w14 [accD p x, accD pb (addS y' M[k].2 M[k].1.n), accD pc (addS x' M[k].2 M[k].1.n)] := h
    generalize addS y' M[k].2 M[k].1.n = y2 at *
    generalize addS x' M[k].2 M[k].1.n = x2 at *
    have hsa := iy2.same' ix2 gy2 gx2 (SameT.refl _)
    refine h.ask (fun B2 own base2 => Bytes_g (base2 hB) (own (i := 1) rfl) fy2 (by omega)) fun w15 h => ?_
    refine h.ask (fun B2 own base2 => Bytes_g (base2 hB) (own (i := 2) rfl) fx2 (by omega)) fun w16 h => ?_
    rw [hsa.enc, neq_str, decide_eq_true rfl, Bool.not_true, ifB_false]
    refine h.make (fun B2 own base2 => Result_m (own (i := 1) rfl) gy2 (by omega) (by rw [iy2.same]; exact hkinds)) fun u τ w17 hp h => ?_
    subst hp
    refine h.make (fun B2 own base2 => Result_m (own (i := 2) rfl) gx2 (by omega) (by rw [ix2.same]; exact hkinds)) fun u2 τ w18 hp h => ?_
    subst hp
    have h : Rel (lawB W) w18 [accD p x, accD pb y2, accD pc x2, rowD T_api_Value u (resultS y2), rowD T_api_Value u2 (resultS x2)] := h
    refine h.ask (fun B2 own base2 => fSame_g (rowD.read (own (i := 3) rfl)) (rowD.read (own (i := 4) rfl)) (by rw [resAt_bound, iy2.same]; omega)) fun w19 h => ?_
    rw [decide_eq_true hsa.res, un_not, Bool.not_true, ifB_false, bin_add, wrap_id (by omega) (by omega)]
    exact hnext _ _ ⟨k + 1, y2, x2, hkl, rfl, iy2, ix2, gy2, gx2, h.take 3⟩ (by simp only; omega)
  clear hnext
  have h := h.take 1
  have h : Rel (lawB W) w12 [accD p x] := h
  have hsl : (bl s).length ≤ 600 := by
    have : (s.size : Int) ≤ 600 := by omega
    show s.size ≤ 600
    omega
  have es : s = ofL (bl s) := (ofL_bl s).symm
  have last : ∀ w', Rel (lawB W) w' [accD p x] → upK Tryz.prog (sCall F_aggregate_Acc_Bytes #[ptr p]) w' fun t144 w22 => pureK Tryz.prog (sBin .eql T_string (.tmp 144) (.tmp 145) t144 (.string (ofL (encA x)))) fun t146 => K t146 w22 := by
    intro w' h
    refine h.ask (fun B2 own base2 => Bytes_g (base2 hB) (own (i := 0) rfl) fx (by omega)) fun w22 h => ?_
    rw [eql_str, decide_eq_true rfl]
    exact fin _ _ h
  have rd : ∀ B2 : Base, (∀ {d : Dat}, d (lawB W) → d B2) → Makes Tryz.prog B2 (sCall F_aggregate_Read #[v0, .string s]) fun u τ => (∃ x p, readA aggs (bl s) = some x ∧ GoodA (bl s).length x ∧ FitA (bl s).length x ∧ u = .tuple #[ptr p, .bool true] ∧ τ = [accD p x]) ∨ (readA aggs (bl s) = none ∧ u = .tuple #[.pointer none, .bool false] ∧ τ = []) := fun B2 base2 => by
    have := aRead_m (t := bl s) (base2 hB) (base2 r0) (by omega) (by omega)
    rw [ofL_bl] at this
    exact this
  have hbool : Tryz.prog.underlying T_bool = some .bool := by kernel_rfl
  refine h.make (fun B2 own base2 => rd B2 base2) fun u τ w20 hp h => ?_
  rcases hp with ⟨d, pd, hd, gd, fd, rfl, rfl⟩ | ⟨hn, rfl, rfl⟩
  · have h : Rel (lawB W) w20 [accD p x, accD pd d] := h
    rw [ext_2_0, ext_2_1, bin_neq_ptr_nil U_p_aggregate_Acc, bin_neq_bool hbool]
    rw [show (!(true == true)) = false from rfl, ifB_false]
    refine LETJ_intro fun J hJ => ?_
    replace hJ : ∀ w', Rel (lawB W) w' [accD p x] → J () w' := by
      intro w' h
      refine hJ _ _ ?_
      rw [ifB_true]
      exact last w' h
    rw [bin_neq_ptr_nil U_p_aggregate_Acc, ifB_true]
    refine h.ask (fun B2 own base2 => Bytes_g (base2 hB) (own (i := 1) rfl) fd (by omega)) fun w23 h => ?_
    rw [readA_enc hd, ofL_bl, neq_str, decide_eq_true rfl, Bool.not_true, ifB_false]
    exact hJ _ (h.take 1)
  · rw [ext_2_0, ext_2_1, neq_pnil_pnil U_p_aggregate_Acc, bin_neq_bool hbool]
    rw [show (!(false == false)) = false from rfl, ifB_false]
    refine LETJ_intro fun J hJ => ?_
    replace hJ : ∀ w', Rel (lawB W) w' [accD p x] → J () w' := by
      intro w' h
      refine hJ _ _ ?_
      rw [ifB_true]
      exact last w' h
    rw [neq_pnil_pnil U_p_aggregate_Acc, ifB_false]
    exact hJ _ (h.take 1)
end Go.Proofs.YtoebncgnjbblgaaGreatDoor
