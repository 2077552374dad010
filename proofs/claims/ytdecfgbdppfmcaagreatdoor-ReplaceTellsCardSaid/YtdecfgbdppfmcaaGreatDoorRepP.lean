/-
  ReplaceTells: the walk. No condition.
-/
import Derived.Test.YtdecfgbdppfmcaaGreatDoorRepO
namespace Go.Proofs.YtdecfgbdppfmcaaGreatDoor
open Go.RowKit
set_option maxRecDepth 100000

theorem good_of {l : List Rpl} {t : List Seg} (h : SInv l t) : ∀ r ∈ l, GoodR r := fun r hr => by
  have o := h.r.one r hr
  have h1 := o.fr
  have h2 := o.ver
  have h3 := o.start
  have h4 := o.state
  have h5 := o.cut
  have hcut : 0 ≤ r.cut ∧ r.cut ≤ 16 := by
    by_cases e2 : r.state = 2
    · have := h5.1 e2; omega
    · by_cases e3 : r.state = 3
      · have := h5.2.1 e3; omega
      · have := h5.2.2 e2 e3; omega
  intro n hn
  simp only [ints5, List.mem_cons, List.not_mem_nil, or_false] at hn
  rcases hn with rfl | rfl | rfl | rfl | rfl <;> constructor <;> omega

set_option maxHeartbeats 1000000 in
theorem replaceTells_pt {W : World} {K : Value → World → Prop} {v0 v4 : Value} {m : List Rpl} {text : ByteArray} {b : Bud} {n : Int} {ops : List OpR} {time bucket : Int} (hB : wireD (lawB W)) (rm : rowR v0 m (lawB W)) (wx : text.size ≤ maxLen) (r : rowR v4 ops (lawB W))
    (ht : -9223372036854775808 ≤ time ∧ time ≤ 9223372036854775807) (fin : ∀ w' σ, Rel (lawB W) w' σ → K (.bool true) w') : erratalaw47_ReplaceTells.pt v0 (.string text) b.v (.int .i64 n) v4 (.int .i64 time) (.int .i64 bucket) W K := by
  unfold erratalaw47_ReplaceTells.pt
  refine (lawB.start W).box fun b9 w1 h => ?_
  replace h : Rel (lawB W) w1 ([] ++ [cellD b9 T_api_Budget b.cs.toArray]) := bud_box (σ := []) h
  refine small_r h fun w2 h => ?_
  have h : Rel (lawB W) w2 [cellD b9 T_api_Budget b.cs.toArray] := h
  refine LETJ_intro fun J1 hJ1 => ?_
  replace hJ1 : ∀ bb : Bool, (bb = false → m.length ≤ 40 ∧ text.size ≤ 1000 ∧ ops.length ≤ 60) → J1 (.bool bb, ()) w2 := by
    intro bb hbb
    refine hJ1 _ _ ?_
    clear hJ1
    show ifB (.bool bb) _ _
    rw [ifB_bool]
    refine ⟨fun _ => fin _ _ h, fun e => ?_⟩
    obtain ⟨hm40, ht1, h60⟩ := hbb e
    obtain ⟨t, rfl⟩ : ∃ t : Bs, text = ofL t := ⟨bl text, (ofL_bl text).symm⟩
    rw [ofL_size] at ht1
    refine h.make (fun B2 own base2 => Read_m (base2 hB) (by omega)) fun u τ w3 hp h => ?_
    obtain ⟨vx, rfl, rfl⟩ := hp
    simp -zeta only [ext_2_0, ext_2_1]
    refine h.make (fun B2 own base2 => fRead_m (by omega)) fun u τ w4 hp h => ?_
    obtain ⟨vy, rfl, rfl⟩ := hp
    simp -zeta only [ext_2_0, ext_2_1]
    have h : Rel (lawB W) w4 [cellD b9 T_api_Budget b.cs.toArray, rowD T_api_Replacement vx (readL t).1, rowD T_api_Replacement vy (readL t).1] := h
    rw [h.ldAg 0 rfl ag_api_Budget rfl]
    refine h.ask (fun _ _ _ => Spend_g b n) fun w5 h => ?_
    simp -zeta only [ext_2_0, ext_2_1]
    refine h.allocAg (ds := (spendS b n).1.cs.toArray) z_api_Budget rfl ag_api_Budget rfl (fun v hv => Enc.one (spendS b n).1 v hv) fun c20 w6 h => ?_
    rw [h.ldAg 0 rfl ag_api_Budget rfl]
    refine h.ask (fun _ _ _ => fSpend_g b n) fun w7 h => ?_
    simp -zeta only [ext_2_0, ext_2_1]
    refine h.allocAg (ds := (spendS b n).1.cs.toArray) z_api_Budget rfl ag_api_Budget rfl (fun v hv => Enc.one (spendS b n).1 v hv) fun d22 w8 h => ?_
    have h := h.tick
    have h : Rel (lawB W) (tick w8) [cellD b9 T_api_Budget b.cs.toArray, rowD T_api_Replacement vx (readL t).1, rowD T_api_Replacement vy (readL t).1, cellD c20 T_api_Budget (spendS b n).1.cs.toArray, cellD d22 T_api_Budget (spendS b n).1.cs.toArray] := h
    have hxl : (readL t).1.length ≤ 1000000 := by
      unfold readL postR
      split
      · rw [readTo_len]
        have := Nat.min_le_right (numOf t) t.length
        simp only [List.length_nil]
        omega
      · exact Nat.zero_le _
    refine LETJ_intro fun J2 hJ2 => ?_
    replace hJ2 : ∀ w' τ, Rel (lawB W) w' τ → J2 (.bool false, ()) w' := by
      clear h
      intro w9 τ h
      have h := h.nil
      refine hJ2 _ _ ?_
      clear hJ2
      simp -zeta only [ifB_false, bd_api_Seg_1]
      refine start_r h fun B0 bs vt0 w10 hext0 hr0 h => ?_
      refine start_r h fun B1 bm vt1 w11 hext1 hr1 h => ?_
      have h : Rel B1 w11 [stateD bs (.slice none 0 0) vt0, stateD bm (.slice none 0 0) vt1] := h
      refine LOOP_intro (fun x w' => ∃ (i : Nat) (B : Base) (vl vt vl2 vt2 : Value) (l : List Rpl) (t : List Seg), i ≤ ops.length ∧ x = (.int .i64 i, ()) ∧ (lawB W).ext B ∧ rowR vl l B ∧ rowR vt t B ∧ rowR vl2 l B ∧ rowR vt2 t B ∧ WInv l t i ∧ SInv l t ∧ Rel B w' [stateD bs vl vt, stateD bm vl2 vt2]) (fun x _ => ops.length - (match x.1 with | .int _ n => n.toNat | _ => 0))
        ⟨0, B1, _, vt0, _, vt1, [], seg0, Nat.zero_le _, rfl, hext0.trans hext1, nilR B1, Dat.mono _ hext1.le hr0, nilR B1, hr1, ⟨Nat.le_refl _, Nat.le_refl _, sorted0, by decide, fun r hr => by cases hr⟩, SInv.start, h⟩ ?_
      clear h hr0 hr1 hext0 hext1
      rintro x w12 ⟨i, B, vl, vt, vl2, vt2, l, t, hi, rfl, hext, hl, ht', hl2, ht2, hinv, hsi, h⟩ next hnext
      have lift : ∀ {d : Dat}, d (lawB W) → d B := fun hd => Dat.mono _ hext.le hd
      simp -zeta only [rowR.len (lift r) sl_s_erratalaw47_Op, bin_lss, ifB_dec]
      have hll := hinv.ll
      have htl := hinv.tl
      refine ⟨fun hlt => ?_, fun hge => ?_⟩
      · have hil : i < ops.length := by omega
        obtain ⟨g, o, hx, hc⟩ := rowR.idx r sl_s_erratalaw47_Op hil
        simp -zeta only [hx, cellsR.ldAg (h.hereB (lift hc)) ag_erratalaw47_Op rfl]
        refine step_r h 0 rfl hl ht' (by omega) hinv.sorted (by omega) (fun r hr => by have := hinv.each r hr; omega) ops[i] fun Ba vla vta w13 hexta hla hta h => ?_
        simp -zeta only [ext_2_0, ext_2_1]
        have h : Rel Ba w13 [stateD bs vla vta, stateD bm vl2 vt2] := h
        have lift2 : ∀ {d : Dat}, d B → d Ba := fun hd => Dat.mono _ hexta.le hd
        simp -zeta only [hx, cellsR.ldAg (h.hereB (lift2 (lift hc))) ag_erratalaw47_Op rfl]
        refine model_r h 1 rfl (lift2 hl2) (lift2 ht2) (by omega) hinv.sorted (by omega) (fun r hr => by have := hinv.each r hr; omega) ops[i] fun Bb vlb vtb w14 hextb hlb htb h => ?_
        simp -zeta only [ext_2_0, ext_2_1]
        have h : Rel Bb w14 [stateD bs vla vta, stateD bm vlb vtb] := h
        have h := h.tick
        replace hla := Dat.mono _ hextb.le hla
        replace hta := Dat.mono _ hextb.le hta
        have hinv' := hinv.step ops[i]
        have hsi' := (hsi.step ops[i]).1
        replace hext := (hext.trans hexta).trans hextb
        generalize (stepS l t ops[i]).1 = res at *
        generalize (stepS l t ops[i]).2 = lt' at *
        obtain ⟨l', t'⟩ := lt'
        obtain ⟨n', e'⟩ := res
        simp only at hla hta hlb htb hinv' hsi' ⊢
        have hll' := hinv'.ll
        have htl' := hinv'.tl
        have hsl : rowR vla l' Bb := hla
        clear hl ht' hl2 ht2 hinv hsi lift lift2 hexta hextb
        refine LETJ_intro fun J3 hJ3 => ?_
        replace hJ3 : ∀ w', Rel Bb w' [stateD bs vla vta, stateD bm vlb vtb] → J3 (.bool false, ()) w' := by
          clear h
          intro w' h
          refine hJ3 _ _ ?_
          clear hJ3
          show ifB (.bool false) _ _
          rw [ifB_false]
          refine LETJ_intro fun J4 hJ4 => ?_
          replace hJ4 : ∀ w' τ, Rel Bb w' (stateD bs vla vta :: stateD bm vlb vtb :: τ) → J4 (.bool false, ()) w' := by
            clear h
            intro w' τ h
            refine hJ4 _ _ ?_
            show ifB (.bool false) _ _
            rw [ifB_false, bin_add, wrap_id (by omega) (by omega)]
            exact hnext _ _ ⟨i + 1, Bb, vla, vta, vlb, vtb, l', t', by omega, rfl, hext, hla, hta, hlb, htb, hinv', hsi', h.take 2⟩ (by simp only; omega)
          clear hnext
          have h := h.tick
          have isL : ∀ {w : World}, Rel Bb w [stateD bs vla vta, stateD bm vlb vtb] → Is Tryz.prog (sLoad T_s_api_Replacement (.pointer (some ⟨bm, 0, none⟩))) vlb w := fun h => cellD.is (h.here (i := 1) rfl) sc_s_api_Replacement rfl
          have isT : ∀ {w : World}, Rel Bb w [stateD bs vla vta, stateD bm vlb vtb] → Is Tryz.prog (sLoad T_s_api_Seg (.pointer (some ⟨bm, 1, none⟩))) vtb w := fun h => cellD.is (h.here (i := 1) rfl) sc_s_api_Seg rfl
          simp -zeta only [nil_ptr, field_addr f_erratalaw47_state_0, field_addr f_erratalaw47_state_1, Nat.add_zero, Nat.zero_add, h.ld 0 rfl sc_s_api_Replacement (o := 0) (v := vla) rfl, h.ld 0 rfl sc_s_api_Seg (o := 1) (v := vta) rfl, h.ld 1 rfl sc_s_api_Replacement (o := 0) (v := vlb) rfl, h.ld 1 rfl sc_s_api_Seg (o := 1) (v := vtb) rfl]
          refine h.ask (fun B2 own base2 => Side_g (base2 hla) (base2 hta) (by omega) hsi'.t.sorted hsi'.t.some_ (by omega) time bucket) fun w15 h => ?_
          refine ⟨isT h, isL h, ?_⟩
          refine h.ask (fun B2 own base2 => fSide_g (base2 hlb) (base2 htb) (by omega) hsi'.t (by omega) time bucket) fun w16 h => ?_
          rw [bin_neq, decide_eq_true rfl, Bool.not_true, ifB_false]
          simp -zeta only [h.ld 0 rfl sc_s_api_Replacement (o := 0) (v := vla) rfl, h.ld 0 rfl sc_s_api_Seg (o := 1) (v := vta) rfl, h.ld 1 rfl sc_s_api_Replacement (o := 0) (v := vlb) rfl, h.ld 1 rfl sc_s_api_Seg (o := 1) (v := vtb) rfl]
          refine h.make (fun B2 own base2 => Needed_m (base2 hla) (base2 hta) (by omega) hsi'.t.sorted (by omega) ht.1) fun u τ w17 hp h => ?_
          subst hp
          have hne := need_eq hsi'.t (fun r hr => (hsi'.r.one r hr).ver) time
          have hnl := needTo_le l' t' time 50
          rw [hne] at h
          have h : Rel Bb w17 [stateD bs vla vta, stateD bm vlb vtb, rowD T_int u (needTo l' t' time 50)] := h
          refine ⟨isT (h.take 2), isL (h.take 2), ?_⟩
          refine h.make (fun B2 own base2 => fNeeded_m (base2 hlb) (base2 htb) (by omega) hsi'.t (by omega) time) fun u2 τ w18 hp h => ?_
          subst hp
          have h : Rel Bb w18 [stateD bs vla vta, stateD bm vlb vtb, rowD T_int u (needTo l' t' time 50), rowD T_int u2 (needTo l' t' time 50)] := h
          refine h.ask (fun B2 own base2 => ints_g (rowD.read (own (i := 2) rfl)) (rowD.read (own (i := 3) rfl)) (by omega)) fun w19 h => ?_
          rw [un_not, decide_eq_true rfl, Bool.not_true]
          exact hJ4 _ _ h
        clear hnext
        rw [bin_neq, decide_eq_true rfl, Bool.not_true, ifB_false, bin_neq, decide_eq_true rfl, Bool.not_true, ifB_false]
        have isL : ∀ {w : World}, Rel Bb w [stateD bs vla vta, stateD bm vlb vtb] → Is Tryz.prog (sLoad T_s_api_Replacement (.pointer (some ⟨bm, 0, none⟩))) vlb w := fun h => cellD.is (h.here (i := 1) rfl) sc_s_api_Replacement rfl
        simp -zeta only [nil_ptr, field_addr f_erratalaw47_state_0, field_addr f_erratalaw47_state_1, Nat.add_zero, Nat.zero_add, h.ld 0 rfl sc_s_api_Replacement (o := 0) (v := vla) rfl, h.ld 1 rfl sc_s_api_Replacement (o := 0) (v := vlb) rfl]
        refine h.ask (fun B2 own base2 => fSame_g (base2 hla) (base2 hlb) (by omega)) fun w15 h => ?_
        rw [un_not, decide_eq_true rfl, Bool.not_true, ifB_false]
        simp -zeta only [h.ld 0 rfl sc_s_api_Seg (o := 1) (v := vta) rfl, h.ld 1 rfl sc_s_api_Seg (o := 1) (v := vtb) rfl]
        refine h.ask (fun B2 own base2 => RSame_g (base2 hta) (base2 htb) (by omega)) fun w16 h => ?_
        rw [un_not, decide_eq_true rfl, Bool.not_true, ifB_false]
        simp -zeta only [h.ld 0 rfl sc_s_api_Replacement (o := 0) (v := vla) rfl, h.ld 1 rfl sc_s_api_Replacement (o := 0) (v := vlb) rfl]
        refine h.make (fun B2 own base2 => Open_m (base2 hla) (by omega)) fun u τ w17 hp h => ?_
        subst hp
        have h : Rel Bb w17 [stateD bs vla vta, stateD bm vlb vtb, rowD T_api_Replacement u (l'.filter openR)] := h
        refine ⟨isL (h.take 2), ?_⟩
        refine h.make (fun B2 own base2 => fOpen_m (base2 hlb) (by omega)) fun u2 τ w18 hp h => ?_
        subst hp
        have h : Rel Bb w18 [stateD bs vla vta, stateD bm vlb vtb, rowD T_api_Replacement u (l'.filter openR), rowD T_api_Replacement u2 (l'.filter openR)] := h
        have hfl : (l'.filter openR).length ≤ l'.length := List.length_filter_le _ _
        refine h.ask (fun B2 own base2 => fSame_g (rowD.read (own (i := 2) rfl)) (rowD.read (own (i := 3) rfl)) (by omega)) fun w19 h => ?_
        rw [un_not, decide_eq_true rfl, Bool.not_true]
        exact hJ3 _ (h.take 2)
      · clear hnext
        have h := h.tick
        have hgd := good_of hsi
        have isL : ∀ {w : World}, Rel B w [stateD bs vl vt, stateD bm vl2 vt2] → Is Tryz.prog (sLoad T_s_api_Replacement (.pointer (some ⟨bm, 0, none⟩))) vl2 w := fun h => cellD.is (h.here (i := 1) rfl) sc_s_api_Replacement rfl
        simp -zeta only [ifB_true, nil_ptr, field_addr f_erratalaw47_state_0, Nat.add_zero, Nat.zero_add, h.ld 0 rfl sc_s_api_Replacement (o := 0) (v := vl) rfl, h.ld 1 rfl sc_s_api_Replacement (o := 0) (v := vl2) rfl]
        refine h.ask (fun B2 own base2 => Bytes_g (base2 (lift hB)) (base2 hl) (by omega) hgd) fun w13 h => ?_
        refine ⟨isL h, ?_⟩
        refine h.ask (fun B2 own base2 => fBytes_g (base2 hl2) (by omega) hgd) fun w14 h => ?_
        rw [eql_ofL, decide_eq_true rfl]
        exact fin _ _ (hext.rel h)
    refine h.ask (fun B2 own base2 => Right_g (base2 rm) (by omega)) fun w9 h => ?_
    refine h.ask (fun B2 own base2 => fRight_g (base2 rm) (by omega)) fun w10 h => ?_
    rw [bin_neq_bool U_bool, BEq.rfl, Bool.not_true, ifB_false]
    refine h.ask (fun B2 own base2 => SameR_g (base2 rm) (base2 rm) (by omega)) fun w11 h => ?_
    rw [un_not, decide_eq_true rfl, Bool.not_true, ifB_false, bin_neq_bool U_bool, BEq.rfl, Bool.not_true, ifB_false]
    refine h.ask (fun B2 own base2 => fSame_g (rowD.read (own (i := 1) rfl)) (rowD.read (own (i := 2) rfl)) (by omega)) fun w12 h => ?_
    rw [un_not, decide_eq_true rfl, Bool.not_true, ifB_false]
    rw [h.ldAg 3 rfl ag_api_Budget rfl, h.ldAg 4 rfl ag_api_Budget rfl]
    refine Eq.mpr (neq_api_Budget (spendS b n).1 (spendS b n).1) ?_
    rw [decide_eq_true rfl, Bool.not_true, ifB_false, bin_neq_bool U_bool, BEq.rfl, Bool.not_true, ifB_false]
    rw [h.ldAg 0 rfl ag_api_Budget rfl, h.ldAg 0 rfl ag_api_Budget rfl]
    refine h.ask (fun _ _ _ => Earn_g b) fun w13 h => ?_
    refine ⟨cellD.isAg (h.here (i := 0) rfl) ag_api_Budget rfl, ?_⟩
    refine h.ask (fun _ _ _ => fEarn_g b) fun w14 h => ?_
    refine Eq.mpr (neq_api_Budget (earnS b) (earnS b)) ?_
    rw [decide_eq_true rfl, Bool.not_true]
    exact hJ2 _ _ h
  simp -zeta only [rowR.len rm sl_s_api_Replacement, rowR.len r sl_s_erratalaw47_Op, len_string U_string, bin_gtr, ifB_dec]
  refine ⟨fun _ => hJ1 true fun e => (by cases e), fun c1 => ⟨fun _ => hJ1 true fun e => (by cases e), fun c2 => ⟨fun _ => hJ1 true fun e => (by cases e), fun c3 => ?_⟩⟩⟩
  have ok : ∀ bb : Bool, J1 (.bool bb, ()) w2 := fun bb => hJ1 bb fun _ => ⟨by omega, by omega, by omega⟩
  simp -zeta only [field_addr f_api_Budget_0, field_addr f_api_Budget_1, field_addr f_api_Budget_2, Nat.add_zero, Nat.zero_add, h.ld 0 rfl sc_int (o := 0) (v := .int .i64 b.rate) rfl, h.ld 0 rfl sc_int (o := 1) (v := .int .i64 b.most) rfl, h.ld 0 rfl sc_int (o := 2) (v := .int .i64 b.saved) rfl, bin_lss, bin_gtr, ifB_dec]
  exact ⟨fun _ => ok _, fun _ => ⟨fun _ => ok _, fun _ => ⟨fun _ => ok _, fun _ => ⟨fun _ => ok _, fun _ => ⟨fun _ => ok _, fun _ => ok _⟩⟩⟩⟩⟩
end Go.Proofs.YtdecfgbdppfmcaaGreatDoor
