/-
  Chapter 01's reference: the encodings, Back. No condition.
-/
import Derived.Test.YtdecfgbdppfmcaaGreatDoorWireD
--@auto
namespace Go.Proofs.YtdecfgbdppfmcaaGreatDoor
open Go.RowKit
set_option maxRecDepth 100000

theorem wrap_inI (n : Int) : inI (IntKind.i64.wrap n) := by
  rw [IntKind.wrap_i64]
  constructor <;> omega
section
variable {B : Base} {w : World} {σ : List Dat}
theorem digits_g : ∀ (m : Nat), m ≤ 9223372036854775808 → ∀ B : Base, Gives Tryz.prog B (sCall F_errataref01_digits #[.int .i64 (-(m : Int))]) (.string (ofL (Go.Lib.decDigits m))) := by
  intro m
  induction m using Nat.strongRecOn with
  | _ m ih =>
    intro hm B
    refine Gives.intro fun B' w K base h k => ?_
    refine errataref01_digits.up (errataref01_digits.call ?_)
    unfold errataref01_digits.pt
    have hrem : (-(m : Int)).tmod 10 = -((m % 10 : Nat) : Int) := by rw [Int.neg_tmod, Int.tmod_eq_emod_of_nonneg (by omega)]; omega
    have hquo : (-(m : Int)).tdiv 10 = -((m / 10 : Nat) : Int) := by rw [Int.neg_tdiv, Int.tdiv_eq_ediv_of_nonneg (by omega)]; omega
    have hd : m % 10 < 10 := Nat.mod_lt _ (by decide)
    have hw : IntKind.i64.wrap (48 - -((m % 10 : Nat) : Int)) = ((48 + m % 10 : Nat) : Int) := by rw [wrap_id (by omega) (by omega)]; omega
    simp -zeta only [bin_rem (show (10 : Int) ≠ 0 by decide), hrem, bin_sub, hw, conv_int U_int U_uint8]
    have h8 : IntKind.u8.wrap ((48 + m % 10 : Nat) : Int) = ((UInt8.ofNat (48 + m % 10)).toNat : Int) := by rw [IntWalk.u8_in _ (by omega), dig_toNat hd]
    rw [h8]
    refine h.build1 (α := UInt8) (UInt8.ofNat (48 + m % 10)) sl_s_uint8 (by decide) fun u w2 h => ?_
    have h : Rel B' w2 [rowD T_uint8 u [UInt8.ofNat (48 + m % 10)]] := h
    refine h.toStr (Rd.at 0 rfl) U_s_uint8 U_uint8 U_string ?_
    simp -zeta only [bin_gtr, ifB_dec]
    refine ⟨fun c => ?_, fun c => ?_⟩
    · rw [dec_small (by omega)] at k
      rw [Nat.mod_eq_of_lt (by omega)] at h ⊢
      exact k _ _ h
    · rw [dec_big (by omega)] at k
      rw [bin_quo (show (10 : Int) ≠ 0 by decide), hquo, wrap_id (by omega) (by omega)]
      refine h.ask (fun B2 own base2 => ih (m / 10) (by omega) (by omega) B2) fun w4 h => ?_
      have hl : (Go.Lib.decDigits (m / 10)).length ≤ 30 := by
        rw [Go.Lib.decDigits_length]
        have := nDigits_le 18 (m / 10) (by rw [show (10 : Nat) ^ (18 + 1) = 10000000000000000000 by decide]; omega)
        omega
      rw [strL_add (by simp; omega)]
      exact k _ _ h
theorem fInt_g {n : Int} (hn : inI n) : Gives Tryz.prog B (sCall F_errataref01_Int #[.int .i64 n]) (.string (ofL (encI n))) := by
  refine Gives.intro fun B' w K base h k => ?_
  refine errataref01_Int.up (errataref01_Int.call ?_)
  unfold errataref01_Int.pt
  have h1 := hn.1
  have h2 := hn.2
  have hlen := encI_len hn
  unfold encI at k hlen
  rw [show (⟨#[45]⟩ : ByteArray) = ofL [45] from rfl, show (⟨#[59]⟩ : ByteArray) = ofL [59] from rfl]
  rw [List.length_append, List.length_singleton] at hlen
  rcases itoa_cases n with ⟨c, e⟩ | ⟨c, e⟩ <;> rw [e] at k hlen
  · rw [bin_lss, decide_eq_false (by omega), ifB_false, un_neg, wrap_id (by omega) (by omega)]
    have e2 : (0 - n) = -((n.toNat : Nat) : Int) := by omega
    rw [e2]
    refine h.ask (fun B2 own base2 => digits_g n.toNat (by omega) B2) fun w2 h => ?_
    rw [strL_add (by simp; omega)]
    exact k _ _ h
  · rw [bin_lss, decide_eq_true (by omega), ifB_true]
    have e2 : n = -((n.natAbs : Nat) : Int) := by omega
    rw [List.length_cons] at hlen
    generalize hm : n.natAbs = m at *
    subst e2
    refine h.ask (fun B2 own base2 => digits_g m (by omega) B2) fun w2 h => ?_
    rw [strL_add (by simp; omega), strL_add (by simp; omega)]
    exact k _ _ h
theorem fNum_g {n : Int} (hn : inI n) : Gives Tryz.prog B (sCall F_errataref01_Num #[.int .i64 n]) (.string (ofL (encN n))) := by
  refine Gives.intro fun B' w K base h k => ?_
  refine errataref01_Num.up (errataref01_Num.call ?_)
  unfold errataref01_Num.pt
  simp -zeta only [bin_lss, ifB_dec]
  unfold encN at k
  refine ⟨fun c => ?_, fun c => ?_⟩
  · rw [if_pos c] at k
    exact k _ _ h
  · rw [if_neg c] at k
    exact h.ask (fun B2 own base2 => fInt_g hn) fun w1 h => k _ _ h
theorem digits_len (n : Nat) (hn : n ≤ 4611686018427387904) {B : Base} : Gives Tryz.prog B (sCall F_errataref01_digits #[.int .i64 (IntKind.i64.wrap (0 - (n : Int)))]) (.string (ofL (Go.Lib.itoa n))) := by
  have e : IntKind.i64.wrap (0 - (n : Int)) = -(n : Int) := by rw [wrap_id (by omega) (by omega)]; omega
  rw [e, itoa_nat]
  exact digits_g n (by omega) B
end

/-! ### Back -/
def BackV (s : Bs) (v : Int) (ok : Bool) : Prop := (ok = true → s = Go.Lib.itoa v ∧ inI v) ∧ ∀ n, inI n → s = Go.Lib.itoa n → ok = true ∧ v = n
theorem valD_snoc (l : Bs) (c : UInt8) : valD (l ++ [c]) = valD l * 10 + (c.toNat - 48) := by simp [valD]
/-- The sign's place. -/
def signN (s : Bs) : Nat := match s with
  | [] => 0
  | c :: _ => if c = 45 then 1 else 0
theorem sign_itoa {n : Int} : ((n < 0 → signN (Go.Lib.itoa n) = 1) ∧ (0 ≤ n → signN (Go.Lib.itoa n) = 0)) ∧ (Go.Lib.itoa n).drop (signN (Go.Lib.itoa n)) = Go.Lib.decDigits n.natAbs := by
  rcases itoa_cases n with ⟨h, e⟩ | ⟨h, e⟩ <;> rw [e]
  · have hs : signN (Go.Lib.decDigits n.toNat) = 0 := by
      cases hd : Go.Lib.decDigits n.toNat with
      | nil => rfl
      | cons c r =>
        have := dec_digit n.toNat c (by rw [hd]; exact List.mem_cons_self)
        have hc : ¬ c = 45 := fun hh => by subst hh; exact absurd this.1 (by decide)
        simp [signN, hc]
    refine ⟨⟨fun hh => by omega, fun _ => hs⟩, ?_⟩
    rw [hs, List.drop_zero]
    congr 1
    omega
  · exact ⟨⟨fun _ => rfl, fun hh => by omega⟩, rfl⟩
section
variable {B : Base} {w : World} {σ : List Dat}
set_option maxHeartbeats 1000000 in
theorem back_r {s : Bs} {K : Value → World → Prop} (hs : s.length ≤ 4611686018427387904) (h : Rel B w σ) (k : ∀ v ok w', BackV s v ok → Rel B w' σ → K (.tuple #[.int .i64 v, .bool ok]) w') : upK Tryz.prog (sCall F_errataref01_Back #[.string (ofL s)]) w K := by
  obtain ⟨B', h', back, _, base⟩ := h.frz
  replace k : ∀ v ok w', BackV s v ok → Rel B' w' [] → K (.tuple #[.int .i64 v, .bool ok]) w' := fun v ok w' hb h => k v ok w' hb (by have := back w' _ h; simpa using this)
  clear back h
  have h := h'
  clear h'
  refine errataref01_Back.up (errataref01_Back.call ?_)
  unfold errataref01_Back.pt
  have no : ∀ w', Rel B' w' [] → (∀ n, inI n → s ≠ Go.Lib.itoa n) → K (.tuple #[.int .i64 0, .bool false]) w' := fun w' h hn => k 0 false w' ⟨fun hh => (by cases hh), fun n h1 h2 => absurd h2 (hn n h1)⟩ h
  have hsl : signN s ≤ s.length := by
    cases s with
    | nil => exact Nat.le_refl _
    | cons c r =>
      show (if c = 45 then 1 else 0) ≤ r.length + 1
      split <;> omega
  refine LETJ_intro fun J1 hJ1 => ?_
  replace hJ1 : J1 (.int .i64 (signN s), ()) w := by
    refine hJ1 _ _ ?_
    clear hJ1
    refine LOOP_intro (fun x w' => ∃ (i : Nat) (acc : Int), signN s ≤ i ∧ i ≤ s.length ∧ (i ≤ 21 ∨ i = signN s) ∧ x = (.int .i64 acc, .int .i64 i, ()) ∧ inI acc ∧ (∀ j (hj : j < s.length), signN s ≤ j → j < i → 48 ≤ s[j].toNat ∧ s[j].toNat ≤ 57) ∧
        (valD ((s.take i).drop (signN s)) ≤ 9223372036854775808 → acc = -(valD ((s.take i).drop (signN s)) : Int)) ∧ Rel B' w' []) (fun x _ => s.length - (match x.2.1 with | .int _ n => n.toNat | _ => 0))
      ⟨signN s, 0, Nat.le_refl _, hsl, .inr rfl, rfl, ⟨by decide, by decide⟩, fun j hj h1 h2 => absurd h2 (by omega), fun _ => by rw [List.drop_of_length_le (by rw [List.length_take]; omega)]; rfl, h⟩ ?_
    clear h
    rintro x w2 ⟨i, acc, hi0, hi, hi21, rfl, hacc, hdig, hval, h⟩ next hnext
    simp -zeta only [str_len U_string, bl_ofL, bin_lss, ifB_dec]
    refine ⟨fun hlt => ?_, fun hge => ?_⟩
    · have hil : i < s.length := by omega
      have bad : (¬ (48 ≤ s[i].toNat ∧ s[i].toNat ≤ 57) ∨ 20 < i) → ∀ n, inI n → s ≠ Go.Lib.itoa n := by
        intro hb n hn e
        have h1 := sign_itoa (n := n)
        rw [← e] at h1
        rcases hb with hb | hb
        · apply hb
          have hm : s[i] ∈ s.drop (signN s) := List.mem_drop_iff_getElem.2 ⟨i - signN s, by omega, by congr 1; omega⟩
          rw [h1.2] at hm
          exact dec_digit _ _ hm
        · have := itoa_len hn
          rw [← e] at this
          omega
      rw [str_idx U_string (show i < (ofL s).size by rw [ofL_size]; exact hil)]
      have hget : (bl (ofL s))[i]'(by rw [bl_ofL]; exact hil) = s[i] := rfl
      rw [hget]
      simp -zeta only [bin_lss, bin_gtr, ifB_dec, str_idx U_string (show i < (ofL s).size by rw [ofL_size]; exact hil), hget]
      refine ⟨fun c => no _ h (bad (.inl (by omega))), fun c1 => ⟨fun c => no _ h (bad (.inl (by omega))), fun c2 => ⟨fun c => no _ h (bad (.inr (by omega))), fun c3 => ?_⟩⟩⟩
      have h8 : IntKind.u8.wrap ((s[i].toNat : Int) - 48) = ((s[i].toNat - 48 : Nat) : Int) := by rw [IntWalk.u8_in _ (by omega)]; omega
      have h64 : IntKind.i64.wrap ((s[i].toNat - 48 : Nat) : Int) = ((s[i].toNat - 48 : Nat) : Int) := wrap_id (by omega) (by omega)
      simp -zeta only [bin_mul, bin_sub, h8, conv_int U_uint8 U_int, h64]
      rw [bin_add, wrap_id (n := (i : Int) + 1) (by omega) (by omega)]
      have hsnoc : (s.take (i + 1)).drop (signN s) = (s.take i).drop (signN s) ++ [s[i]] := by
        rw [List.take_succ_eq_append_getElem hil, List.drop_append_of_le_length (by rw [List.length_take]; omega)]
      refine hnext _ _ ⟨i + 1, _, by omega, hil, .inl (by omega), rfl, wrap_inI _, fun j hj h1 h2 => ?_, fun hv => ?_, h⟩ (by simp only; omega)
      · by_cases e : j = i
        · subst e; exact ⟨by omega, by omega⟩
        · exact hdig j hj h1 (by omega)
      · rw [hsnoc, valD_snoc] at hv ⊢
        have := hval (by omega)
        subst this
        have e1 : IntKind.i64.wrap (10 * -(valD ((s.take i).drop (signN s)) : Int)) = 10 * -(valD ((s.take i).drop (signN s)) : Int) := wrap_id (by omega) (by omega)
        rw [e1, wrap_id (by omega) (by omega)]
        omega
    · clear hnext
      obtain rfl : i = s.length := by omega
      rw [List.take_length] at hval
      refine LETJ_intro fun J2 hJ2 => ?_
      replace hJ2 : ∀ v, inI v → (∀ n, inI n → s = Go.Lib.itoa n → v = n) → J2 (.int .i64 v, ()) w2 := by
        intro v hv hn
        refine hJ2 _ _ ?_
        refine h.ask (fun B2 own base2 => fInt_g hv) fun w5 h => ?_
        rw [show (⟨#[59]⟩ : ByteArray) = ofL [59] from rfl, strL_add (by simp; omega), eql_ofL]
        refine k v _ _ ⟨fun hh => ?_, fun n h1 h2 => ?_⟩ h
        · have e := of_decide_eq_true hh
          unfold encI at e
          exact ⟨(List.append_cancel_right e).symm, hv⟩
        · have := hn n h1 h2
          subst this
          exact ⟨decide_eq_true (by unfold encI; rw [h2]), rfl⟩
      have hn : ∀ n, inI n → s = Go.Lib.itoa n → acc = -(n.natAbs : Int) ∧ (n < 0 → signN s = 1) ∧ (0 ≤ n → signN s = 0) := by
        intro n h1 h2
        have h3 := sign_itoa (n := n)
        rw [← h2] at h3
        have h4 := h1.1
        have h5 := h1.2
        rw [h3.2, valD_dec] at hval
        exact ⟨hval (by omega), h3.1.1, h3.1.2⟩
      simp -zeta only [bin_eql, ifB_dec]
      refine ⟨fun c => ?_, fun c => ?_⟩
      · rw [un_neg]
        refine hJ2 _ (wrap_inI _) fun n h1 h2 => ?_
        obtain ⟨e1, e2, e3⟩ := hn n h1 h2
        have h4 := h1.1
        have h5 := h1.2
        by_cases hneg : n < 0
        · have := e2 hneg; omega
        · rw [e1, wrap_id (by omega) (by omega)]; omega
      · refine hJ2 _ hacc fun n h1 h2 => ?_
        obtain ⟨e1, e2, e3⟩ := hn n h1 h2
        by_cases hneg : n < 0
        · omega
        · have := e3 (by omega); omega
  simp -zeta only [str_len U_string, bl_ofL, bin_gtr, ifB_dec]
  refine ⟨fun c => ?_, fun c => ?_⟩
  · have h0 : 0 < s.length := by omega
    have hi := str_idx (P := Tryz.prog) (Kp := fun t12 => pureK Tryz.prog (sBin .eql T_uint8 (.tmp 12) (.const (.int .u8 45)) t12 (.int .u8 45)) fun t13 => ifB t13 (J1 (.int .i64 1, ()) w) (J1 (.int .i64 0, ()) w)) U_string (show 0 < (ofL s).size by rw [ofL_size]; exact h0)
    show pureK Tryz.prog (sIdx T_string (.string (ofL s)) (.int .i64 ((0 : Nat) : Int))) _
    rw [hi, bin_eql, ifB_dec]
    have hget : (bl (ofL s))[0]'(by rw [bl_ofL]; exact h0) = s[0] := rfl
    rw [hget]
    cases s with
    | nil => cases h0
    | cons a r =>
      by_cases ha : a = 45
      · subst ha
        exact ⟨fun _ => hJ1, fun c => absurd rfl c⟩
      · have hs0 : signN (a :: r) = 0 := by simp [signN, ha]
        rw [hs0] at hJ1
        refine ⟨fun c => ?_, fun _ => hJ1⟩
        exfalso
        apply ha
        have c : ((a.toNat : Nat) : Int) = 45 := c
        apply UInt8.toNat_inj.1
        show a.toNat = 45
        omega
  · have : s = [] := List.eq_nil_of_length_eq_zero (by omega)
    subst this
    exact hJ1
end
end Go.Proofs.YtdecfgbdppfmcaaGreatDoor
