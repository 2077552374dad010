/-
  NetSides: exactly those packets arrive whose ends have equal bits in the split. No condition.
-/
import Derived.Test.YtollnmlnpngmfaaNetOrders
namespace Go.Proofs.Ytollnmlnpngmfaa
open Go.RowKit

def bitm (m a : Int) : Int := m / 2 ^ a.toNat % 2

theorem sbit_eq (m a : Int) (h : 0 ≤ a) (h' : a < 16) : sbit m a = bitm m a := by
  have := and_low (m.fdiv (2 ^ min a.toNat 64)) 1 (by omega) 1 (by decide)
  have e : min a.toNat 64 = a.toNat := by omega
  rw [e] at this
  have e2 : m.fdiv (2 ^ a.toNat) = m / 2 ^ a.toNat := Int.fdiv_eq_ediv_of_nonneg _ (by have := Int.pow_pos (n := 2) (m := a.toNat) (by omega); omega)
  rw [e2] at this
  unfold sbit bitm
  rw [e, e2]
  exact this

theorem mask16_eq (m : Int) : mask16 m = m % 65536 := and_low m 16 (by omega) 65535 (by decide)

theorem bitm_mask (m a : Int) (h : 0 ≤ a) (h' : a < 16) : bitm (mask16 m) a = bitm m a := by
  rw [mask16_eq]
  unfold bitm
  have : a = 0 ∨ a = 1 ∨ a = 2 ∨ a = 3 ∨ a = 4 ∨ a = 5 ∨ a = 6 ∨ a = 7 ∨ a = 8 ∨ a = 9 ∨ a = 10 ∨ a = 11 ∨ a = 12 ∨ a = 13 ∨ a = 14 ∨ a = 15 := by omega
  rcases this with rfl | rfl | rfl | rfl | rfl | rfl | rfl | rfl | rfl | rfl | rfl | rfl | rfl | rfl | rfl | rfl <;> simp <;> omega

theorem hear_mask (fl : List Pkt) (m a b : Int) (ha : 0 ≤ a ∧ a < 16) (hb : 0 ≤ b ∧ b < 16) : hear ⟨fl, mask16 m⟩ a b = decide (bitm m a = bitm m b) := by
  simp only [hear, isEnd, ha, hb, sbit_eq _ a ha.1 ha.2, sbit_eq _ b hb.1 hb.2, bitm_mask m a ha.1 ha.2, bitm_mask m b hb.1 hb.2, decide_true, Bool.true_and]
theorem hear_zero (fl : List Pkt) (a b : Int) (ha : 0 ≤ a ∧ a < 16) (hb : 0 ≤ b ∧ b < 16) : hear ⟨fl, 0⟩ a b = true := by
  simp [hear, isEnd, ha, hb, sbit_zero]

theorem UUint : Try.prog.underlying T_uint = some (.int .u64) := by kernel_rfl
theorem wrap_u (a : Int) (h : 0 ≤ a) (h' : a < 16) : IntKind.wrap .u64 a = a := IntWalk.u64_in _ ⟨h, by omega⟩

theorem shr_eq (m a : Int) (h : 0 ≤ a) (h' : a < 16) : IntKind.wrap .i64 (BitVec.ofInt IntKind.i64.bits (m.fdiv (2 ^ min a.toNat IntKind.i64.bits)) &&& BitVec.ofInt IntKind.i64.bits 1).toNat = bitm m a := by
  have := sbit_eq m a h h'
  unfold sbit at this
  exact this

section
variable {K : Value → World → Prop} {w : World} {c : Nat → Nat} {b : Nat}

/-- Sends between ends that hear each other. -/
theorem more_loop {W : World} {more : Int} (h0 : 0 ≤ more) (h6 : more ≤ 600) (hst : Step T1 (fun _ => 0) W c w) (hn : NetAt c 1 2 w b ⟨[], 0⟩) {B : Value × Unit → World → (Value × Unit → World → Prop) → Prop}
    (hB : ∀ (i : Nat) (c' : Nat → Nat) (w' : World) (fl : List Pkt) (next : Value × Unit → World → Prop), (i : Int) ≤ more → fl.length = min i 500 → Step T1 (fun _ => 0) W c' w' → NetAt c' 1 2 w' b ⟨fl, 0⟩ →
      (∀ (c2 : Nat → Nat) (w2 : World) (fl2 : List Pkt), (i : Int) < more → fl2.length = min (i + 1) 500 → Step T1 (fun _ => 0) W c2 w2 → NetAt c2 1 2 w2 b ⟨fl2, 0⟩ → next (.int .i64 ((i + 1 : Nat) : Int), ()) w2) → B (.int .i64 i, ()) w' next) :
    LOOP B (.int .i64 0, ()) w := by
  refine LOOP_intro (fun x w' => ∃ (i : Nat) (c' : Nat → Nat) (fl : List Pkt), (i : Int) ≤ more ∧ x = (.int .i64 i, ()) ∧ fl.length = min i 500 ∧ Step T1 (fun _ => 0) W c' w' ∧ NetAt c' 1 2 w' b ⟨fl, 0⟩)
    (fun x _ => more.toNat - (match x.1 with | .int _ n => n.toNat | _ => 0)) ⟨0, c, [], by omega, rfl, rfl, hst, hn⟩ ?_
  rintro x w' ⟨i, c', fl, hi, rfl, hl, st, hn⟩ next hnext
  refine hB i c' w' fl next hi hl st hn fun c2 w2 fl2 hlt hl2 st2 hn2 => ?_
  refine hnext _ _ ⟨i + 1, c2, fl2, by omega, rfl, hl2, st2, hn2⟩ ?_
  simp only
  omega

/-- What one send and one delivery come to. -/
theorem round_eq (mask : Int) (late : Bool) (a e : Int) (m : ByteArray) (ha : 0 ≤ a ∧ a < 16) (he : 0 ≤ e ∧ e < 16) (hne : ¬ a = e) :
    ∃ (er : Int) (fl : List Pkt) (q : Pkt) (f : Int), send ⟨[], if late then 0 else mask16 mask⟩ ⟨a, e, m⟩ = (er, ⟨fl, if late then 0 else mask16 mask⟩) ∧
      deliver ⟨fl, mask16 mask⟩ 0 = ((q, f), ⟨[], mask16 mask⟩) ∧ (er = 0 ↔ (late = true ∨ bitm mask a = bitm mask e)) ∧ (f = 0 ↔ bitm mask a = bitm mask e) ∧ (bitm mask a = bitm mask e → q = ⟨a, e, m⟩) := by
  have h1 : isEnd a = true := by simp [isEnd, ha]
  have h2 : isEnd e = true := by simp [isEnd, he]
  have d0 : deliver ⟨[], mask16 mask⟩ 0 = ((pzero, 4), ⟨[], mask16 mask⟩) := by simp [deliver, inl]
  have d1 : deliver ⟨[⟨a, e, m⟩], mask16 mask⟩ 0 = (if bitm mask a = bitm mask e then (⟨a, e, m⟩, 0) else (pzero, 10), ⟨[], mask16 mask⟩) := by
    have hi : inl ⟨[⟨a, e, m⟩], mask16 mask⟩ 0 = true := by simp [inl]
    simp only [deliver, hi, if_true]
    have hat : at_ ⟨[⟨a, e, m⟩], mask16 mask⟩ 0 = ⟨a, e, m⟩ := rfl
    have hrm : rm ⟨[⟨a, e, m⟩], mask16 mask⟩ 0 = ⟨[], mask16 mask⟩ := rfl
    rw [hat, hrm]
    rw [hear_mask _ mask a e ha he]
    by_cases h : bitm mask a = bitm mask e <;> simp [h]
  cases late with
  | true =>
    have hs : send ⟨[], 0⟩ ⟨a, e, m⟩ = (0, ⟨[⟨a, e, m⟩], 0⟩) := by simp [send, h1, h2, hne, hear_zero _ a e ha he]
    by_cases h : bitm mask a = bitm mask e
    · rw [if_pos h] at d1
      exact ⟨0, [⟨a, e, m⟩], _, _, hs, d1, by simp, by simp [h], by simp⟩
    · rw [if_neg h] at d1
      exact ⟨0, [⟨a, e, m⟩], _, _, hs, d1, by simp, by simp [h], by simp [h]⟩
  | false =>
    by_cases h : bitm mask a = bitm mask e
    · have hs : send ⟨[], mask16 mask⟩ ⟨a, e, m⟩ = (0, ⟨[⟨a, e, m⟩], mask16 mask⟩) := by simp [send, h1, h2, hne, hear_mask _ mask a e ha he, h]
      rw [if_pos h] at d1
      exact ⟨0, [⟨a, e, m⟩], _, _, hs, d1, by simp [h], by simp [h], by simp⟩
    · have hs : send ⟨[], mask16 mask⟩ ⟨a, e, m⟩ = (10, ⟨[], mask16 mask⟩) := by simp [send, h1, h2, hne, hear_mask _ mask a e ha he, h]
      exact ⟨10, [], _, _, hs, d0, by simp [h], by simp [h], by simp [h]⟩

theorem send_more (fl : List Pkt) (i : Int) (m : ByteArray) : send ⟨fl, 0⟩ ⟨i % 16, (i + 1) % 16, m⟩ = if fl.length < 500 then (0, ⟨fl ++ [⟨i % 16, (i + 1) % 16, m⟩], 0⟩) else (6, ⟨fl, 0⟩) := by
  have h1 : isEnd (i % 16) = true := by simp [isEnd]; omega
  have h2 : isEnd ((i + 1) % 16) = true := by simp [isEnd]; omega
  have h3 : ¬ (i % 16 = (i + 1) % 16) := by omega
  simp [send, h1, h2, h3, hear, sbit_zero]

theorem netSides_pt {W : World} {mask : Int} {late : Bool} {more : Int} {K : Value → World → Prop}
    (fin : ∀ c w', Step T1 (fun _ => 0) W c w' → K (.bool true) w') : erratalaw07_NetSides.pt (.int .i64 mask) (.bool late) (.int .i64 more) W K := by
  unfold erratalaw07_NetSides.pt
  refine small_sp (fun _ => 0) fun c1 w1 st => ?_
  replace st : Step T1 _ W c1 w1 := st.none
  refine new_sp (c := c1) 1 2 fun c2 b w2 st2 hn => ?_
  replace st := st.trans st2.none
  simp -zeta only [un_not, ifB_not, ifB_true, bin_neq_ptr_nil UpN, bin_eql_ptr_nil UpN, ifB_false, bin_lss, bin_gtr, ifB_dec]
  refine ⟨fun _ => fin _ _ st, fun h0 => ⟨fun _ => fin _ _ st, fun h6 => ?_⟩⟩
  intro J1
  have hJ1 : ∀ (c3 : Nat → Nat) (w3 : World), Step T1 (fun _ => 0) W c3 w3 → NetAt c3 1 2 w3 b ⟨[], if late then 0 else mask16 mask⟩ → J1 w3 := by
    clear st hn st2
    intro c3 w3 st hn
    show LOOP _ _ _
    refine LOOP_intro (fun x w' => ∃ (a : Nat) (c' : Nat → Nat), a ≤ 16 ∧ x = (.int .i64 a, ()) ∧ Step T1 (fun _ => 0) W c' w' ∧ NetAt c' 1 2 w' b ⟨[], if late then 0 else mask16 mask⟩)
      (fun x _ => 16 - (match x.1 with | .int _ n => n.toNat | _ => 0)) ⟨0, c3, by omega, rfl, st, hn⟩ ?_
    clear st hn
    rintro x w4 ⟨a, c4, ha, rfl, st, hn⟩ next hnext
    simp -zeta only [bin_lss, ifB_dec]
    refine ⟨fun ha1 => ?_, fun _ => ?_⟩
    · intro J2
      have hJ2 : ∀ (c' : Nat → Nat) (w' : World), Step T1 (fun _ => 0) W c' w' → NetAt c' 1 2 w' b ⟨[], if late then 0 else mask16 mask⟩ → J2 w' := by
        intro c' w' st hn
        show pureK _ _ _
        rw [bin_add, wrap_id (by omega) (by omega)]
        refine hnext _ _ ⟨a + 1, c', by omega, rfl, st, hn⟩ ?_
        simp only
        omega
      clear_value J2
      clear hnext
      refine LOOP_intro (fun x w' => ∃ (e : Nat) (c' : Nat → Nat), e ≤ 16 ∧ x = (.int .i64 e, ()) ∧ Step T1 (fun _ => 0) W c' w' ∧ NetAt c' 1 2 w' b ⟨[], if late then 0 else mask16 mask⟩)
        (fun x _ => 16 - (match x.1 with | .int _ n => n.toNat | _ => 0)) ⟨0, c4, by omega, rfl, st, hn⟩ ?_
      clear st hn
      rintro x w5 ⟨e, c5, he, rfl, st, hn⟩ next hnext
      simp -zeta only [bin_lss, ifB_dec]
      refine ⟨fun he1 => ?_, fun _ => hJ2 _ _ st hn⟩
      intro J3
      have hJ3 : ∀ (c' : Nat → Nat) (w' : World), Step T1 (fun _ => 0) W c' w' → NetAt c' 1 2 w' b ⟨[], if late then 0 else mask16 mask⟩ → J3 w' := by
        intro c' w' st hn
        show pureK _ _ _
        rw [bin_add, wrap_id (by omega) (by omega)]
        refine hnext _ _ ⟨e + 1, c', by omega, rfl, st, hn⟩ ?_
        simp only
        omega
      clear_value J3
      clear hnext hJ2
      have ha0 : (0 : Int) ≤ a ∧ (a : Int) < 16 := by omega
      have he0 : (0 : Int) ≤ e ∧ (e : Int) < 16 := by omega
      simp -zeta only [conv_int UInt' UUint, wrap_u a ha0.1 ha0.2, wrap_u e he0.1 he0.2, bin_shr ha0.1, bin_shr he0.1, bin_and, shr_eq mask a ha0.1 ha0.2, shr_eq mask e he0.1 he0.2, bin_eql]
      have hia : isEnd a = true := by simp [isEnd, ha0]
      have hie : isEnd e = true := by simp [isEnd, he0]
      refine send_sp hn (by omega) _ _ _ fun c6 w6 st6 hn6 => ?_
      replace st := st.trans (st6.mono (T1_two 1 2 (by omega) (by omega)))
      clear st6
      simp -zeta only [ifB_dec]
      refine ⟨fun heq => ?_, fun hne => ?_⟩
      · have hs : ∀ s m, send s ⟨a, e, m⟩ = (1, s) := fun s m => by simp [send, heq]
        rw [hs] at hn6 ⊢
        simp -zeta only [bin_neq, decide_true, Bool.not_true, ifB_false]
        refine hear_sp hn6 a e ?_
        have hh : hear ⟨[], if late then 0 else mask16 mask⟩ a e = true := by
          rw [← heq]
          simp [hear, hia]
        rw [hh]
        simp -zeta only [un_not, Bool.not_true, ifB_false]
        exact hJ3 _ _ st.ticked hn6.tick
      · obtain ⟨er, fl, q, f, e1, e2, e3, e4, e5⟩ := round_eq mask late a e ⟨#[120]⟩ ha0 he0 hne
        rw [e1] at hn6 ⊢
        dsimp -zeta only at hn6 ⊢
        intro J4
        have hJ4 : ∀ (c' : Nat → Nat) (w' : World), Step T1 (fun _ => 0) W c' w' → NetAt c' 1 2 w' b ⟨fl, mask16 mask⟩ → J4 w' := by
          intro c7 w7 st hn
          show upK _ _ _ _
          refine deliver_sp hn (by omega) 0 fun c8 w8 st8 hn8 => ?_
          rw [e2] at hn8 ⊢
          replace st := st.trans (st8.mono (T1_two 1 2 (by omega) (by omega)))
          simp -zeta only [ofPkt, ext_2_0, ext_2_1]
          refine alloc_store_p 3 c8 _ fun c9 b9 w9 st9 hv9 => ?_
          replace st := st.trans st9.none
          have hn9 := hn8.frame st9 (fun h => h) (fun h => h)
          intro J5
          have hJ5 : J5 (tick w9) := by
            show ifB _ _ _
            cases late with
            | true =>
              rw [ifB_true]
              refine heal_sp hn9.tick (by omega) fun w10 st10 hn10 => ?_
              exact hJ3 _ _ (st.ticked.trans (st10.mono (T1_only 1 (by omega)))) hn10
            | false =>
              rw [ifB_false]
              exact hJ3 _ _ st.ticked hn9.tick
          clear_value J5
          refine hear_sp hn9 a e ?_
          rw [hear_mask _ mask a e ha0 he0]
          have hv10 := hv9.frame (Step.tick nobody c9 w9) fun h => h
          by_cases hnear : bitm mask a = bitm mask e
          · have hf : f = 0 := e4.2 hnear
            have her : er = 0 := e3.2 (.inr hnear)
            subst hf her
            have hq := e5 hnear
            subst hq
            simp -zeta only [hnear, decide_true, bin_neq_bool UBool, beq_self_eq_true, Bool.not_true, ifB_false, bin_eql, ifB_true, field_addr TK0, field_addr TK1, ld_sc TI (Blk.cell hv10 (o := 0) (v := .int .i64 a) rfl), ld_sc TI (Blk.cell hv10 (o := 1) (v := .int .i64 e) rfl), bin_neq]
            exact ⟨fun _ => ⟨fun _ => hJ5, fun h => (h trivial).elim⟩, fun h => (h trivial).elim⟩
          · have hf : ¬ f = 0 := fun h => hnear (e4.1 h)
            have her : decide (er = 0) = late := by
              rw [Bool.eq_iff_iff, decide_eq_true_eq, e3]
              simp [hnear]
            simp -zeta only [hnear, hf, her, decide_false, bin_neq_bool UBool, beq_self_eq_true, Bool.not_true, ifB_false, bin_eql]
            exact ⟨fun h => h.elim, fun _ => ⟨fun h => h.elim, fun _ => hJ5⟩⟩
        clear_value J4
        cases late with
        | true =>
          rw [ifB_true]
          refine split_sp hn6 (by omega) mask fun w7 st7 hn7 => ?_
          exact hJ4 _ _ (st.trans (st7.mono (T1_only 1 (by omega)))) hn7
        | false =>
          rw [ifB_false]
          exact hJ4 _ _ st hn6
    · clear hnext
      refine heal_sp hn (by omega) fun w5 st5 hn5 => ?_
      have st := st.trans (st5.mono (T1_only 1 (by omega)))
      refine more_loop (more := more) (by omega) (by omega) st hn5 ?_
      clear st hn5 st5 hn
      intro i c6 w6 fl next hi hl st hn hnext
      simp -zeta only [bin_lss, ifB_dec]
      refine ⟨fun hlt => ?_, fun hge => ?_⟩
      · intro J6
        have hJ6 : ∀ (c' : Nat → Nat) (w' : World) (fl' : List Pkt), fl'.length = min (i + 1) 500 → Step T1 (fun _ => 0) W c' w' → NetAt c' 1 2 w' b ⟨fl', 0⟩ → J6 w' := by
          intro c' w' fl' hl' st' hn'
          show pureK _ _ _
          rw [bin_add, wrap_id (by omega) (by omega)]
          exact hnext c' w' fl' hlt hl' st' hn'
        clear_value J6
        have ew : IntKind.i64.wrap ((i : Int) + 1) = (i : Int) + 1 := wrap_id (by omega) (by omega)
        simp -zeta only [bin_and, and15, bin_add, ew]
        refine send_sp hn (by omega) _ _ _ fun c7 w7 st7 hn7 => ?_
        rw [send_more] at hn7 ⊢
        have st7' := st.trans (st7.mono (T1_two 1 2 (by omega) (by omega)))
        by_cases h5 : fl.length < 500
        · rw [if_pos h5] at hn7 ⊢
          have hi5 : (i : Int) < 500 := by omega
          simp -zeta only [bin_eql, bin_neq, hi5, decide_true, bin_neq_bool UBool, beq_self_eq_true, Bool.not_true, ifB_false]
          exact hJ6 _ _ _ (by simp; omega) st7' hn7
        · rw [if_neg h5] at hn7 ⊢
          have hi5 : ¬ ((i : Int) < 500) := by omega
          have h60 : ¬ ((6 : Int) = 0) := by omega
          simp -zeta only [bin_eql, bin_neq, hi5, h60, decide_true, decide_false, bin_neq_bool UBool, beq_self_eq_true, Bool.not_true, Bool.not_false, ifB_false, ifB_true]
          exact hJ6 _ _ _ (by omega) st7' hn7
      · refine count_sp hn ?_
        have hmore : more = i := by omega
        subst hmore
        have e1 : ∀ (s : NetS) (m : ByteArray), send s ⟨-1, 0, m⟩ = (1, s) := fun s m => by simp [send, isEnd]
        have e2 : ∀ (s : NetS) (m : ByteArray), send s ⟨0, 16, m⟩ = (1, s) := fun s m => by simp [send, isEnd]
        have last : ∀ (c' : Nat → Nat) (w' : World) (fl' : List Pkt), Step T1 (fun _ => 0) W c' w' → NetAt c' 1 2 w' b ⟨fl', 0⟩ →
            upK Try.prog (sCall F_net_Net_Send #[ptr b, .int .i64 (-1), .int .i64 0, .string ⟨#[]⟩]) w' fun t168 w25 =>
             pureK Try.prog (sBin .eql T_api_Errno (.tmp 168) (.const (.int .i64 1)) t168 (.int .i64 1)) fun t169 =>
             ifB t169
             (upK Try.prog (sCall F_net_Net_Send #[ptr b, .int .i64 0, .int .i64 16, .string ⟨#[]⟩]) w25 fun t173 w26 =>
              pureK Try.prog (sBin .eql T_api_Errno (.tmp 173) (.const (.int .i64 1)) t173 (.int .i64 1)) fun t174 =>
              K t174 w26)
             (K (.bool false) w25) := by
          intro c' w' fl' st hn
          refine send_sp hn (by omega) _ _ _ fun c7 w7 st7 hn7 => ?_
          rw [e1] at hn7 ⊢
          simp only [bin_eql, decide_true, ifB_true]
          refine send_sp hn7 (by omega) _ _ _ fun c8 w8 st8 hn8 => ?_
          rw [e2] at hn8 ⊢
          simp only [bin_eql, decide_true]
          exact fin _ _ ((st.trans (st7.mono (T1_two 1 2 (by omega) (by omega)))).trans (st8.mono (T1_two 1 2 (by omega) (by omega))))
        have emin : pureK Try.prog (sBlt .min #[T_int, T_int] T_int #[false, true] #[.int .i64 i, .int .i64 500]) = fun Kp => Kp (.int .i64 (if (500 : Int) < i then 500 else i)) := by
          funext Kp
          exact pureK_eq fun w => vN_run (run_min_int2 w _ _ _ _ _ _)
        rw [emin]
        have ec : ((fl.length : Nat) : Int) = (if (500 : Int) < (i : Int) then (500 : Int) else (i : Int)) := by split <;> omega
        simp only [bin_eql, ec, decide_true, ifB_true, bin_lss, ifB_dec]
        refine ⟨fun h5 => last _ _ _ st hn, fun h5 => ?_⟩
        refine double_sp hn (by omega) 3 fun c7 w7 st7 hn7 => ?_
        have ed : double ⟨fl, 0⟩ 3 = (6, ⟨fl, 0⟩) := by
          have h1 : inl ⟨fl, 0⟩ 3 = true := by simp [inl]; omega
          have h2 : ¬ fl.length < 500 := by omega
          simp [double, h1, h2]
        rw [ed] at hn7 ⊢
        simp only [bin_eql, decide_true, ifB_true]
        exact last _ _ _ (st.trans (st7.mono (T1_two 1 2 (by omega) (by omega)))) hn7
  clear_value J1
  cases late with
  | true =>
    rw [ifB_true]
    exact hJ1 _ _ st hn
  | false =>
    rw [ifB_false]
    refine split_sp hn (by omega) mask fun w3 st3 hn3 => ?_
    exact hJ1 _ _ (st.trans (st3.mono (T1_only 1 (by omega)))) hn3
end

end Go.Proofs.Ytollnmlnpngmfaa
