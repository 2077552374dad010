/-
  NetOrders: whichever packet is delivered first, the others stay in order, and all arrive. No condition.
-/
import Derived.Test.YtollnmlnpngmfaaNetD
namespace Go.Proofs.Ytollnmlnpngmfaa
open Go.RowKit

theorem and_low (a : Int) (k : Nat) (hk : k ≤ 62) (m : Int) (hm : m = 2 ^ k - 1) : IntKind.wrap .i64 (BitVec.ofInt IntKind.i64.bits a &&& BitVec.ofInt IntKind.i64.bits m).toNat = a % 2 ^ k := by
  subst hm
  show IntKind.wrap .i64 (((BitVec.ofInt 64 a &&& BitVec.ofInt 64 (2 ^ k - 1)).toNat : Nat) : Int) = _
  have hp : (2 : Nat) ^ k ≤ 2 ^ 62 := Nat.pow_le_pow_right (by omega) hk
  have hpos : 0 < (2 : Nat) ^ k := Nat.pow_pos (by omega)
  have h2 : ((2 : Int) ^ k) = ((2 ^ k : Nat) : Int) := by simp
  have hk2 : ((2 : Int) ^ k - 1) = ((2 ^ k - 1 : Nat) : Int) := by rw [h2]; omega
  have h1 : (BitVec.ofInt 64 (2 ^ k - 1)).toNat = 2 ^ k - 1 := by
    rw [hk2, BitVec.toNat_ofInt]
    omega
  have h3 : (BitVec.ofInt 64 a &&& BitVec.ofInt 64 (2 ^ k - 1)).toNat = (a % 2 ^ 64).toNat % 2 ^ k := by
    rw [BitVec.toNat_and, h1, Nat.and_two_pow_sub_one_eq_mod, BitVec.toNat_ofInt]
    rfl
  rw [h3]
  have hlt : (a % 2 ^ 64).toNat % 2 ^ k < 2 ^ k := Nat.mod_lt _ hpos
  have hd : ((2 : Int) ^ k) ∣ 2 ^ 64 := ⟨2 ^ (64 - k), by rw [← Int.pow_add]; congr 1; omega⟩
  rw [wrap_id (by omega) (by omega)]
  rw [Int.natCast_emod, Int.toNat_of_nonneg (Int.emod_nonneg _ (by decide)), ← h2]
  exact Int.emod_emod_of_dvd _ hd

theorem and15 (a : Int) : IntKind.wrap .i64 (BitVec.ofInt IntKind.i64.bits a &&& BitVec.ofInt IntKind.i64.bits 15).toNat = a % 16 := and_low a 4 (by omega) 15 (by decide)
theorem and7 (a : Int) : IntKind.wrap .i64 (BitVec.ofInt IntKind.i64.bits a &&& BitVec.ofInt IntKind.i64.bits 7).toNat = a % 8 := and_low a 3 (by omega) 7 (by decide)

theorem sbit_zero (a : Int) : sbit 0 a = 0 := by
  unfold sbit
  rw [Int.zero_fdiv]
  rfl

def mkp (x : OpD) : Pkt := ⟨x.n % 16, (x.n % 16 + 1 + x.to % 8) % 16, x.s⟩
theorem mkp_ends (x : OpD) : isEnd (mkp x).frm = true ∧ isEnd (mkp x).to = true := by
  have h1 : isEnd (x.n % 16) = true := by simp [isEnd]; omega
  have h2 : isEnd ((x.n % 16 + 1 + x.to % 8) % 16) = true := by simp [isEnd]; omega
  exact ⟨h1, h2⟩
theorem send_mkp (fl : List Pkt) (x : OpD) (h : fl.length < 500) : send ⟨fl, 0⟩ (mkp x) = (0, ⟨fl ++ [mkp x], 0⟩) := by
  have h1 : isEnd (x.n % 16) = true := by simp [isEnd]; omega
  have h2 : isEnd ((x.n % 16 + 1 + x.to % 8) % 16) = true := by simp [isEnd]; omega
  have h3 : ¬ (x.n % 16 = (x.n % 16 + 1 + x.to % 8) % 16) := by omega
  simp [send, mkp, h1, h2, h3, hear, sbit_zero, h]

def T1 : Nat → Prop := fun x => 1 ≤ x
theorem T1_two (i j : Nat) (hi : 1 ≤ i) (hj : 1 ≤ j) : ∀ x, two i j x → T1 x := fun x e => by rcases e with e | e <;> (show 1 ≤ x; omega)
theorem T1_only (i : Nat) (hi : 1 ≤ i) : ∀ x, only i x → T1 x := fun x (e : x = i) => (show 1 ≤ x by omega)

theorem netOrders_pt {W : World} {v1 v2 : Value} {l : List OpD} {ps : List Int} (h1 : RowR (fun _ => 0) 0 W v1 l) (h2 : RowR (fun _ => 0) 0 W v2 ps) {K : Value → World → Prop}
    (fin : ∀ c w', Step T1 (fun _ => 0) W c w' → K (.bool true) w') : erratalaw07_NetOrders.pt v1 v2 W K := by
  unfold erratalaw07_NetOrders.pt
  have nT : ¬ T1 0 := fun e => absurd (show 1 ≤ 0 from e) (by omega)
  refine small_sp (fun _ => 0) fun c1 w1 st => ?_
  replace st : Step T1 _ W c1 w1 := st.none
  refine new_sp (c := c1) 1 2 fun c2 b w2 st2 hn => ?_
  replace st := st.trans st2.none
  refine few_sp (h1.frame st nT) 30 fun r hr => ?_
  simp -zeta only [un_not, ifB_not, ifB_true, bin_neq_ptr_nil UpN, bin_eql_ptr_nil UpN, ifB_false]
  rw [ifB_bool]
  refine ⟨fun hr1 => ?_, fun _ => fin _ _ st⟩
  have hlen := hr hr1
  simp -zeta only [(h2.frame st nT).len_eq TIs, bin_gtr, ifB_dec]
  refine ⟨fun _ => fin _ _ st, fun hps => ?_⟩
  refine LOOP_intro (fun x w' => ∃ (i : Nat) (c' : Nat → Nat) (v : Value), i ≤ l.length ∧ x = (v, .int .i64 i, ()) ∧ Step T1 (fun _ => 0) W c' w' ∧ NetAt c' 1 2 w' b ⟨(l.take i).map mkp, 0⟩ ∧ RowO c' 3 w' T_api_Packet v ((l.take i).map mkp))
    (fun x _ => l.length - (match x.2.1 with | .int _ n => n.toNat | _ => 0)) ⟨0, c2, _, Nat.zero_le _, rfl, st, hn, RowO.nil _ _ _ _⟩ ?_
  rintro x w3 ⟨i, c3, v, hi, rfl, st, hn, hrow⟩ next hnext
  simp -zeta only [(h1.frame st nT).len_eq TO, bin_lss, ifB_dec]
  refine ⟨fun hlt => ?_, fun hge => ?_⟩
  · have hil : i < l.length := by omega
    obtain ⟨g, o, _, _, hx, hc⟩ := opAt (h1.frame st nT) hil
    have e1 : IntKind.i64.wrap (l[i].n % 16 + 1) = l[i].n % 16 + 1 := wrap_id (by omega) (by omega)
    have e2 : IntKind.i64.wrap (l[i].n % 16 + 1 + l[i].to % 8) = l[i].n % 16 + 1 + l[i].to % 8 := wrap_id (by omega) (by omega)
    simp only [hx, field_addr TO1, field_addr TO2, field_addr TO3, ld_sc TI (hc.2.2 1 _ rfl), ld_sc TI (hc.2.2 2 _ rfl), ld_sc TStr (hc.2.2 3 _ rfl), bin_and, and15, and7, bin_add, e1, e2]
    have hlt5 : ((l.take i).map mkp).length < 500 := by simp; omega
    have hsend : send ⟨(l.take i).map mkp, 0⟩ ⟨l[i].n % 16, (l[i].n % 16 + 1 + l[i].to % 8) % 16, l[i].s⟩ = (0, ⟨(l.take i).map mkp ++ [mkp l[i]], 0⟩) := send_mkp _ l[i] hlt5
    refine send_sp hn (by omega) _ _ _ fun c4 w4 st4 hn4 => ?_
    rw [hsend] at hn4 ⊢
    have hc4 := hc.frame st4 (by unfold two; omega)
    have hr4 := hrow.frame st4 (by unfold two; omega)
    have st' := st.trans (st4.mono (T1_two 1 2 (by omega) (by omega)))
    simp only [bin_neq, decide_true, Bool.not_true, ifB_false, ld_sc TStr (hc4.2.2 3 _ rfl), build_pkt]
    refine build1p (c := c4) _ 4 fun c5 v5 w5 st5 hr5 => ?_
    refine append_own TP (hr4.frame st5 fun h => h) hr5.read (by simp; omega) (by simp; omega) fun c6 v6 w6 st6 hr6 => ?_
    have hn6 := (hn4.frame st5 (fun h => h) (fun h => h)).frame st6 (by unfold only; omega) (by unfold only; omega)
    rw [wrap_id (by omega) (by omega)]
    have hl1 : (l.take (i + 1)).map mkp = (l.take i).map mkp ++ [mkp l[i]] := by rw [List.take_succ_eq_append_getElem hil, List.map_append]; rfl
    refine hnext _ _ ⟨i + 1, c6, v6, by omega, by simp, st'.trans (st5.none.trans (st6.mono (T1_only 3 (by omega)))), ?_, ?_⟩ ?_
    · rw [hl1]; exact hn6
    · rw [hl1]; exact hr6
    · simp only
      omega
  · have hil : i = l.length := by omega
    subst hil
    rw [List.take_length] at hn hrow
    clear hnext
    refine LOOP_intro (fun x w' => ∃ (i q : Nat) (c' : Nat → Nat) (v : Value) (fl : List Pkt), 3 ≤ q ∧ i ≤ ps.length ∧ fl.length ≤ 30 ∧ x = (v, .int .i64 i, ()) ∧ Step T1 (fun _ => 0) W c' w' ∧ NetAt c' 1 2 w' b ⟨fl, 0⟩ ∧ (∀ p ∈ fl, isEnd p.frm = true ∧ isEnd p.to = true) ∧ RowO c' q w' T_api_Packet v fl)
      (fun x _ => ps.length - (match x.2.1 with | .int _ n => n.toNat | _ => 0)) ⟨0, 3, c3, v, l.map mkp, Nat.le_refl _, Nat.zero_le _, by simp; omega, rfl, st, hn, ?_, hrow⟩ ?_
    · intro p hp
      obtain ⟨x, _, rfl⟩ := List.mem_map.1 hp
      exact mkp_ends x
    clear hn hrow st v
    rintro x w4 ⟨i, q, c4, v, fl, hq, hi, hfl, rfl, st, hn, hends, hrow⟩ next hnext
    simp -zeta only [(h2.frame st nT).len_eq TIs, bin_lss, ifB_dec]
    refine ⟨fun hlt => ?_, fun hge => ?_⟩
    · intro J1
      have hpl : i < ps.length := by omega
      have hJ : ∀ (q' : Nat) (c' : Nat → Nat) (v' : Value) (w' : World) (fl' : List Pkt), 3 ≤ q' → fl'.length ≤ 30 → Step T1 (fun _ => 0) W c' w' → NetAt c' 1 2 w' b ⟨fl', 0⟩ → (∀ p ∈ fl', isEnd p.frm = true ∧ isEnd p.to = true) → RowO c' q' w' T_api_Packet v' fl' → J1 v' w' := by
        intro q' c' v' w' fl' hq' hfl' st' hn' he' hr'
        show pureK _ _ _
        rw [bin_add, wrap_id (by omega) (by omega)]
        refine hnext _ _ ⟨i + 1, q', c', v', fl', hq', by omega, hfl', by simp, st', hn', he', hr'⟩ ?_
        simp only
        omega
      clear_value J1
      obtain ⟨g, o, _, _, hx, hc⟩ := (h2.frame st nT).idx TIs hpl
      have hc0 : w4.cell? ⟨g, o, none⟩ = some (.int .i64 ps[i]) := hc 0 _ rfl
      rw [hx, ld_sc TI hc0]
      refine deliver_sp hn (by omega) ps[i] fun c5 w5 st5 hn5 => ?_
      have hr5 := hrow.frame st5 (by unfold two; omega)
      have st5' := st.trans (st5.mono (T1_two 1 2 (by omega) (by omega)))
      simp only [ofPkt, ext_2_0, ext_2_1]
      refine alloc_store_p 4 c5 _ fun c6 b6 w6 st6 hv6 => ?_
      have hr6 := hr5.frame st6 fun h => h
      have hn6 := hn5.frame st6 (fun h => h) (fun h => h)
      have st6' := st5'.trans st6.none
      by_cases hin : inl ⟨fl, 0⟩ ps[i] = true
      · obtain ⟨n, hpn, hnl⟩ := inl_iff.1 hin
        have hnl : n < fl.length := hnl
        have hat : at_ ⟨fl, 0⟩ (n : Int) = fl[n] := by simp [at_, List.getD, hnl]
        have hh : hear ⟨fl, 0⟩ fl[n].frm fl[n].to = true := by
          have := hends fl[n] (List.getElem_mem hnl)
          simp [hear, this.1, this.2, sbit_zero]
        rw [hpn] at hin hv6 hn6 ⊢
        have hd : deliver ⟨fl, 0⟩ (n : Int) = ((fl[n], 0), ⟨fl.take n ++ fl.drop (n + 1), 0⟩) := by
          simp only [deliver, hin, if_true, hat, hh, rm, Int.toNat_natCast]
        rw [hd] at hv6 hn6 ⊢
        have g1 : ¬ ((n : Int) < 0) := by omega
        have g2 : ¬ ((fl.length : Int) ≤ n) := by omega
        obtain ⟨x, q1, q2⟩ := loadAt_p hr6.read.tick hnl
        obtain ⟨va, ka, ra⟩ := hr6.read.cut TP (lov := none) (hiv := some (.int .i64 n)) Bnd.none Bnd.some (Nat.zero_le _) (by omega)
        obtain ⟨vb, kb, rb⟩ := hr6.read.cut TP (lov := some (.int .i64 ((n + 1 : Nat) : Int))) (hiv := none) Bnd.some Bnd.none (by omega) (Nat.le_refl _)
        have ew : IntKind.i64.wrap ((n : Int) + 1) = ((n + 1 : Nat) : Int) := by rw [wrap_id (by omega) (by omega)]; omega
        simp only [bin_lss, g1, decide_false, ifB_false, hr6.read.len_eq TP, bin_geq, g2, bin_neq, decide_true, Bool.not_true, load_p (hv6.frame (Step.tick nobody c6 w6) fun h => h), q1, q2, neq_pkt, ka, bin_add, ew, kb]
        have tt := (Step.tick nobody c6 w6).ticked
        refine build0 (α := Pkt) (c := c6) (t := q + 1) TP fun c7 v7 w7 st7 hr7 _ => ?_
        have tt7 := tt.trans st7
        refine append_own TP hr7 (ra.frame tt7 fun h => h) (by simp; omega) (by simp; omega) fun c8 v8 w8 st8 hr8 => ?_
        have rb8 := (rb.frame tt7 fun h => h).frame st8 (by unfold only; omega)
        refine append_own TP hr8 rb8 (by simp; omega) (by simp; omega) fun c9 v9 w9 st9 hr9 => ?_
        have hn9 := ((hn6.frame tt7 (fun h => h) (fun h => h)).frame st8 (by unfold only; omega) (by unfold only; omega)).frame st9 (by unfold only; omega) (by unfold only; omega)
        refine hJ (q + 1) c9 v9 w9 _ (by omega) ?_ (st6'.trans (tt7.none.trans ((st8.mono (T1_only _ (by omega))).trans (st9.mono (T1_only _ (by omega)))))) hn9 ?_ ?_
        · simp; omega
        · intro p hp
          rcases List.mem_append.1 hp with hp | hp
          · exact hends p (List.mem_of_mem_take hp)
          · exact hends p (List.mem_of_mem_drop hp)
        · simpa using hr9
      · have hd : deliver ⟨fl, 0⟩ ps[i] = ((pzero, 4), ⟨fl, 0⟩) := by simp [deliver, hin]
        rw [hd] at hn6 ⊢
        have fin2 : J1 v w6 := hJ q c6 v w6 fl hq hfl st6' hn6 hends hr6
        simp only [bin_lss, ifB_dec, bin_neq, decide_true, Bool.not_true, ifB_false, hr6.read.len_eq TP, bin_geq]
        refine ⟨fun _ => fin2, fun g1 => ⟨fun _ => fin2, fun g2 => ?_⟩⟩
        exact absurd (by simp [inl]; omega) hin
    · refine list_sp hn (q + 1) fun c5 v5 w5 st5 hr5 => ?_
      refine same_sp hr5.read (hrow.frame st5 fun h => h).read (show fl.length ≤ _ by omega) fun w6 st6 => ?_
      simp only [decide_true]
      exact fin _ _ (st.trans (st5.none.trans st6.none))

end Go.Proofs.Ytollnmlnpngmfaa
