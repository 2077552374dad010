/-
  Chapter 01's reference: the encodings, Back. No condition.
-/
import Derived.Test.YtoebncgnjbblgaaGreatDoorWiA
import Derived.Test.YtoebncgnjbblgaaGreatDoorVaP
import Derived.Test.YtoebncgnjbblgaaGreatDoorValF
import Derived.Test.YtoebncgnjbblgaaGreatDoorValV
--@auto
namespace Go.Proofs.YtoebncgnjbblgaaGreatDoor
open Go.RowKit
set_option maxRecDepth 100000

theorem wrap_inI (n : Int) : inI (IntKind.i64.wrap n) := by
  rw [IntKind.wrap_i64]
  constructor <;> omega
section
variable {B : Base} {w : World} {σ : List Dat}
theorem digits_g : ∀ (m : Nat), m ≤ 9223372036854775808 → ∀ B : Base, Gives Tryz.prog B (sCall F_errataref01_digits #[.int .i64 (-(m : Int))]) (.string (ofL (Go.Lib.decDigits m))) := by
  intro m
  induction m using Nat.strongRecOn with
  | _ m ih =>
    intro hm B
    refine Gives.intro fun B' w K base h k => ?_
    refine errataref01_digits.up (errataref01_digits.call ?_)
    unfold errataref01_digits.pt
    have hrem : (-(m : Int)).tmod 10 = -((m % 10 : Nat) : Int) := by rw [Int.neg_tmod, Int.tmod_eq_emod_of_nonneg (by omega)]; omega
    have hquo : (-(m : Int)).tdiv 10 = -((m / 10 : Nat) : Int) := by rw [Int.neg_tdiv, Int.tdiv_eq_ediv_of_nonneg (by omega)]; omega
    have hd : m % 10 < 10 := Nat.mod_lt _ (by decide)
    have hw : IntKind.i64.wrap (48 - -((m % 10 : Nat) : Int)) = ((48 + m % 10 : Nat) : Int) := by rw [wrap_id (by omega) (by omega)]; omega
    simp -zeta only [bin_rem (show (10 : Int) ≠ 0 by decide), hrem, bin_sub, hw, conv_int U_int U_uint8]
    have h8 : IntKind.u8.wrap ((48 + m % 10 : Nat) : Int) = ((UInt8.ofNat (48 + m % 10)).toNat : Int) := by rw [IntWalk.u8_in _ (by omega), dig_toNat hd]
    rw [h8]
    refine h.build1 (α := UInt8) (UInt8.ofNat (48 + m % 10)) sl_s_uint8 (by decide) fun u w2 h => ?_
    have h : Rel B' w2 [rowD T_uint8 u [UInt8.ofNat (48 + m % 10)]] := h
    refine h.toStr (Rd.at 0 rfl) U_s_uint8 U_uint8 U_string ?_
    simp -zeta only [bin_gtr, ifB_dec]
    refine ⟨fun c => ?_, fun c => ?_⟩
    · rw [dec_small (by omega)] at k
      rw [Nat.mod_eq_of_lt (by omega)] at h ⊢
      exact k _ _ h
    · rw [dec_big (by omega)] at k
      rw [bin_quo (show (10 : Int) ≠ 0 by decide), hquo, wrap_id (by omega) (by omega)]
      refine h.ask (fun B2 own base2 => ih (m / 10) (by omega) (by omega) B2) fun w4 h => ?_
      have hl : (Go.Lib.decDigits (m / 10)).length ≤ 30 := by
        rw [Go.Lib.decDigits_length]
        have := nDigits_le 18 (m / 10) (by rw [show (10 : Nat) ^ (18 + 1) = 10000000000000000000 by decide]; omega)
        omega
      rw [strL_add (by simp; omega)]
      exact k _ _ h
theorem fInt_g {n : Int} (hn : inI n) : Gives Tryz.prog B (sCall F_errataref01_Int #[.int .i64 n]) (.string (ofL (encI n))) := by
  refine Gives.intro fun B' w K base h k => ?_
  refine errataref01_Int.up (errataref01_Int.call ?_)
  unfold errataref01_Int.pt
  have h1 := hn.1
  have h2 := hn.2
  have hlen := encI_len hn
  unfold encI at k hlen
  rw [show (⟨#[45]⟩ : ByteArray) = ofL [45] from rfl, show (⟨#[59]⟩ : ByteArray) = ofL [59] from rfl]
  rw [List.length_append, List.length_singleton] at hlen
  rcases itoa_cases n with ⟨c, e⟩ | ⟨c, e⟩ <;> rw [e] at k hlen
  · rw [bin_lss, decide_eq_false (by omega), ifB_false, un_neg, wrap_id (by omega) (by omega)]
    have e2 : (0 - n) = -((n.toNat : Nat) : Int) := by omega
    rw [e2]
    refine h.ask (fun B2 own base2 => digits_g n.toNat (by omega) B2) fun w2 h => ?_
    rw [strL_add (by simp; omega)]
    exact k _ _ h
  · rw [bin_lss, decide_eq_true (by omega), ifB_true]
    have e2 : n = -((n.natAbs : Nat) : Int) := by omega
    rw [List.length_cons] at hlen
    generalize hm : n.natAbs = m at *
    subst e2
    refine h.ask (fun B2 own base2 => digits_g m (by omega) B2) fun w2 h => ?_
    rw [strL_add (by simp; omega), strL_add (by simp; omega)]
    exact k _ _ h
theorem fNum_g {n : Int} (hn : inI n) : Gives Tryz.prog B (sCall F_errataref01_Num #[.int .i64 n]) (.string (ofL (encN n))) := by
  refine Gives.intro fun B' w K base h k => ?_
  refine errataref01_Num.up (errataref01_Num.call ?_)
  unfold errataref01_Num.pt
  simp -zeta only [bin_lss, ifB_dec]
  unfold encN at k
  refine ⟨fun c => ?_, fun c => ?_⟩
  · rw [if_pos c] at k
    exact k _ _ h
  · rw [if_neg c] at k
    exact h.ask (fun B2 own base2 => fInt_g hn) fun w1 h => k _ _ h
theorem digits_len (n : Nat) (hn : n ≤ 4611686018427387904) {B : Base} : Gives Tryz.prog B (sCall F_errataref01_digits #[.int .i64 (IntKind.i64.wrap (0 - (n : Int)))]) (.string (ofL (Go.Lib.itoa n))) := by
  have e : IntKind.i64.wrap (0 - (n : Int)) = -(n : Int) := by rw [wrap_id (by omega) (by omega)]; omega
  rw [e, itoa_nat]
  exact digits_g n (by omega) B
theorem fText_g {s : Bs} (hs : s.length ≤ 4611686018427387904) : Gives Tryz.prog B (sCall F_errataref01_Text #[.string (ofL s)]) (.string (ofL (encT s))) := by
  refine Gives.intro fun B' w K base h k => ?_
  refine errataref01_Text.up (errataref01_Text.call ?_)
  unfold errataref01_Text.pt
  rw [str_len U_string, bl_ofL, un_neg]
  refine h.ask (fun B2 own base2 => digits_len s.length hs) fun w1 h => ?_
  have hl := itoa_len (n := s.length) ⟨by omega, by omega⟩
  rw [show (⟨#[58]⟩ : ByteArray) = ofL [58] from rfl, show (⟨#[44]⟩ : ByteArray) = ofL [44] from rfl]
  rw [strL_add (by simp; omega), strL_add (by simp; omega), strL_add (by simp; omega)]
  have e : encT s = Go.Lib.itoa s.length ++ [58] ++ s ++ [44] := by simp [encT]
  rw [e] at k
  exact k _ _ h
end

/-! ### Back -/
def BackV (s : Bs) (v : Int) (ok : Bool) : Prop := (ok = true → s = Go.Lib.itoa v ∧ inI v) ∧ ∀ n, inI n → s = Go.Lib.itoa n → ok = true ∧ v = n
theorem valD_snoc (l : Bs) (c : UInt8) : valD (l ++ [c]) = valD l * 10 + (c.toNat - 48) := by simp [valD]
/-- The sign's place. -/
def signN (s : Bs) : Nat := match s with
  | [] => 0
  | c :: _ => if c = 45 then 1 else 0
theorem sign_itoa {n : Int} : ((n < 0 → signN (Go.Lib.itoa n) = 1) ∧ (0 ≤ n → signN (Go.Lib.itoa n) = 0)) ∧ (Go.Lib.itoa n).drop (signN (Go.Lib.itoa n)) = Go.Lib.decDigits n.natAbs := by
  rcases itoa_cases n with ⟨h, e⟩ | ⟨h, e⟩ <;> rw [e]
  · have hs : signN (Go.Lib.decDigits n.toNat) = 0 := by
      cases hd : Go.Lib.decDigits n.toNat with
      | nil => rfl
      | cons c r =>
        have := dec_digit n.toNat c (by rw [hd]; exact List.mem_cons_self)
        have hc : ¬ c = 45 := fun hh => by subst hh; exact absurd this.1 (by decide)
        simp [signN, hc]
    refine ⟨⟨fun hh => by omega, fun _ => hs⟩, ?_⟩
    rw [hs, List.drop_zero]
    congr 1
    omega
  · exact ⟨⟨fun _ => rfl, fun hh => by omega⟩, rfl⟩
section
variable {B : Base} {w : World} {σ : List Dat}
set_option maxHeartbeats 1000000 in
theorem back_r {s : Bs} {K : Value → World → Prop} (hs : s.length ≤ 4611686018427387904) (h : Rel B w σ) (k : ∀ v ok w', BackV s v ok → Rel B w' σ → K (.tuple #[.int .i64 v, .bool ok]) w') : upK Tryz.prog (sCall F_errataref01_Back #[.string (ofL s)]) w K := by
  obtain ⟨B', h', back, _, base⟩ := h.frz
  replace k : ∀ v ok w', BackV s v ok → Rel B' w' [] → K (.tuple #[.int .i64 v, .bool ok]) w' := fun v ok w' hb h => k v ok w' hb (by have := back w' _ h; simpa using this)
  clear back h
  have h := h'
  clear h'
  refine errataref01_Back.up (errataref01_Back.call ?_)
  unfold errataref01_Back.pt
  have no : ∀ w', Rel B' w' [] → (∀ n, inI n → s ≠ Go.Lib.itoa n) → K (.tuple #[.int .i64 0, .bool false]) w' := fun w' h hn => k 0 false w' ⟨fun hh => (by cases hh), fun n h1 h2 => absurd h2 (hn n h1)⟩ h
  have hsl : signN s ≤ s.length := by
    cases s with
    | nil => exact Nat.le_refl _
    | cons c r =>
      show (if c = 45 then 1 else 0) ≤ r.length + 1
      split <;> omega
  refine LETJ_intro fun J1 hJ1 => ?_
  replace hJ1 : J1 (.int .i64 (signN s), ()) w := by
    refine hJ1 _ _ ?_
    clear hJ1
    refine LOOP_intro (fun x w' => ∃ (i : Nat) (acc : Int), signN s ≤ i ∧ i ≤ s.length ∧ (i ≤ 21 ∨ i = signN s) ∧ x = (.int .i64 acc, .int .i64 i, ()) ∧ inI acc ∧ (∀ j (hj : j < s.length), signN s ≤ j → j < i → 48 ≤ s[j].toNat ∧ s[j].toNat ≤ 57) ∧
        (valD ((s.take i).drop (signN s)) ≤ 9223372036854775808 → acc = -(valD ((s.take i).drop (signN s)) : Int)) ∧ Rel B' w' []) (fun x _ => s.length - (match x.2.1 with | .int _ n => n.toNat | _ => 0))
      ⟨signN s, 0, Nat.le_refl _, hsl, .inr rfl, rfl, ⟨by decide, by decide⟩, fun j hj h1 h2 => absurd h2 (by omega), fun _ => by rw [List.drop_of_length_le (by rw [List.length_take]; omega)]; rfl, h⟩ ?_
    clear h
    rintro x w2 ⟨i, acc, hi0, hi, hi21, rfl, hacc, hdig, hval, h⟩ next hnext
    simp -zeta only [str_len U_string, bl_ofL, bin_lss, ifB_dec]
    refine ⟨fun hlt => ?_, fun hge => ?_⟩
    · have hil : i < s.length := by omega
      have bad : (¬ (48 ≤ s[i].toNat ∧ s[i].toNat ≤ 57) ∨ 20 < i) → ∀ n, inI n → s ≠ Go.Lib.itoa n := by
        intro hb n hn e
        have h1 := sign_itoa (n := n)
        rw [← e] at h1
        rcases hb with hb | hb
        · apply hb
          have hm : s[i] ∈ s.drop (signN s) := List.mem_drop_iff_getElem.2 ⟨i - signN s, by omega, by congr 1; omega⟩
          rw [h1.2] at hm
          exact dec_digit _ _ hm
        · have := itoa_len hn
          rw [← e] at this
          omega
      rw [str_idx U_string (show i < (ofL s).size by rw [ofL_size]; exact hil)]
      have hget : (bl (ofL s))[i]'(by rw [bl_ofL]; exact hil) = s[i] := rfl
      rw [hget]
      simp -zeta only [bin_lss, bin_gtr, ifB_dec, str_idx U_string (show i < (ofL s).size by rw [ofL_size]; exact hil), hget]
      refine ⟨fun c => no _ h (bad (.inl (by omega))), fun c1 => ⟨fun c => no _ h (bad (.inl (by omega))), fun c2 => ⟨fun c => no _ h (bad (.inr (by omega))), fun c3 => ?_⟩⟩⟩
      have h8 : IntKind.u8.wrap ((s[i].toNat : Int) - 48) = ((s[i].toNat - 48 : Nat) : Int) := by rw [IntWalk.u8_in _ (by omega)]; omega
      have h64 : IntKind.i64.wrap ((s[i].toNat - 48 : Nat) : Int) = ((s[i].toNat - 48 : Nat) : Int) := wrap_id (by omega) (by omega)
      simp -zeta only [bin_mul, bin_sub, h8, conv_int U_uint8 U_int, h64]
      rw [bin_add, wrap_id (n := (i : Int) + 1) (by omega) (by omega)]
      have hsnoc : (s.take (i + 1)).drop (signN s) = (s.take i).drop (signN s) ++ [s[i]] := by
        rw [List.take_succ_eq_append_getElem hil, List.drop_append_of_le_length (by rw [List.length_take]; omega)]
      refine hnext _ _ ⟨i + 1, _, by omega, hil, .inl (by omega), rfl, wrap_inI _, fun j hj h1 h2 => ?_, fun hv => ?_, h⟩ (by simp only; omega)
      · by_cases e : j = i
        · subst e; exact ⟨by omega, by omega⟩
        · exact hdig j hj h1 (by omega)
      · rw [hsnoc, valD_snoc] at hv ⊢
        have := hval (by omega)
        subst this
        have e1 : IntKind.i64.wrap (10 * -(valD ((s.take i).drop (signN s)) : Int)) = 10 * -(valD ((s.take i).drop (signN s)) : Int) := wrap_id (by omega) (by omega)
        rw [e1, wrap_id (by omega) (by omega)]
        omega
    · clear hnext
      obtain rfl : i = s.length := by omega
      rw [List.take_length] at hval
      refine LETJ_intro fun J2 hJ2 => ?_
      replace hJ2 : ∀ v, inI v → (∀ n, inI n → s = Go.Lib.itoa n → v = n) → J2 (.int .i64 v, ()) w2 := by
        intro v hv hn
        refine hJ2 _ _ ?_
        refine h.ask (fun B2 own base2 => fInt_g hv) fun w5 h => ?_
        rw [show (⟨#[59]⟩ : ByteArray) = ofL [59] from rfl, strL_add (by simp; omega), eql_ofL]
        refine k v _ _ ⟨fun hh => ?_, fun n h1 h2 => ?_⟩ h
        · have e := of_decide_eq_true hh
          unfold encI at e
          exact ⟨(List.append_cancel_right e).symm, hv⟩
        · have := hn n h1 h2
          subst this
          exact ⟨decide_eq_true (by unfold encI; rw [h2]), rfl⟩
      have hn : ∀ n, inI n → s = Go.Lib.itoa n → acc = -(n.natAbs : Int) ∧ (n < 0 → signN s = 1) ∧ (0 ≤ n → signN s = 0) := by
        intro n h1 h2
        have h3 := sign_itoa (n := n)
        rw [← h2] at h3
        have h4 := h1.1
        have h5 := h1.2
        rw [h3.2, valD_dec] at hval
        exact ⟨hval (by omega), h3.1.1, h3.1.2⟩
      simp -zeta only [bin_eql, ifB_dec]
      refine ⟨fun c => ?_, fun c => ?_⟩
      · rw [un_neg]
        refine hJ2 _ (wrap_inI _) fun n h1 h2 => ?_
        obtain ⟨e1, e2, e3⟩ := hn n h1 h2
        have h4 := h1.1
        have h5 := h1.2
        by_cases hneg : n < 0
        · have := e2 hneg; omega
        · rw [e1, wrap_id (by omega) (by omega)]; omega
      · refine hJ2 _ hacc fun n h1 h2 => ?_
        obtain ⟨e1, e2, e3⟩ := hn n h1 h2
        by_cases hneg : n < 0
        · omega
        · have := e3 (by omega); omega
  simp -zeta only [str_len U_string, bl_ofL, bin_gtr, ifB_dec]
  refine ⟨fun c => ?_, fun c => ?_⟩
  · have h0 : 0 < s.length := by omega
    have hi := str_idx (P := Tryz.prog) (Kp := fun t12 => pureK Tryz.prog (sBin .eql T_uint8 (.tmp 12) (.const (.int .u8 45)) t12 (.int .u8 45)) fun t13 => ifB t13 (J1 (.int .i64 1, ()) w) (J1 (.int .i64 0, ()) w)) U_string (show 0 < (ofL s).size by rw [ofL_size]; exact h0)
    show pureK Tryz.prog (sIdx T_string (.string (ofL s)) (.int .i64 ((0 : Nat) : Int))) _
    rw [hi, bin_eql, ifB_dec]
    have hget : (bl (ofL s))[0]'(by rw [bl_ofL]; exact h0) = s[0] := rfl
    rw [hget]
    cases s with
    | nil => cases h0
    | cons a r =>
      by_cases ha : a = 45
      · subst ha
        exact ⟨fun _ => hJ1, fun c => absurd rfl c⟩
      · have hs0 : signN (a :: r) = 0 := by simp [signN, ha]
        rw [hs0] at hJ1
        refine ⟨fun c => ?_, fun _ => hJ1⟩
        exfalso
        apply ha
        have c : ((a.toNat : Nat) : Int) = 45 := c
        apply UInt8.toNat_inj.1
        show a.toNat = 45
        omega
  · have : s = [] := List.eq_nil_of_length_eq_zero (by omega)
    subst this
    exact hJ1
end
end Go.Proofs.YtoebncgnjbblgaaGreatDoor
/-
  Chapter 01's reference: the reader. No condition.
-/
--@auto
namespace Go.Proofs.YtoebncgnjbblgaaGreatDoor
open Go.RowKit
set_option maxRecDepth 100000

abbrev rfD (p : Nat) (s : RS) : Dat := cellD p T_errataref01_Reader (rdC s)
def rfPost (p : Nat) (v : Value) (s : RS) : Value → Dat → List Dat → Prop := fun u e' τ => u = v ∧ e' = rfD p s ∧ τ = []
section
variable {B : Base} {w : World} {σ : List Dat} {p : Nat} {s : RS}
theorem Does.rf {sem : Sem Next} {v : Value} {s' : RS} (h : ∀ (B' : Base) (w : World) (K : Value → World → Prop), (∀ {d : Dat}, d B → d B') → Rel B' w [rfD p s] → (∀ w' τ, Rel B' w' (rfD p s' :: τ) → K v w') → upK Tryz.prog sem w K) : Does Tryz.prog B (rfD p s) sem (rfPost p v s') := by
  refine Does.intro fun B' w K base h' k => ?_
  refine h B' w K base h' fun w' τ h2 => k v _ [] w' ⟨rfl, rfl, rfl⟩ ?_
  have h3 : Rel B' w' ([rfD p s'] ++ τ) := h2
  exact h3.drop
theorem Rel.rf_ (h : Rel B w σ) (i : Nat) (hi : σ[i]? = some (rfD p s)) {sem : Sem Next} {v : Value} {s' : RS} {K : Value → World → Prop} (G : ∀ B' : Base, (∀ {j : Nat} {d : Dat}, j ≠ i → σ[j]? = some d → d B') → (∀ {d : Dat}, d B → d B') → Does Tryz.prog B' (rfD p s) sem (rfPost p v s'))
    (k : ∀ w', Rel B w' (σ.set i (rfD p s')) → K v w') : upK Tryz.prog sem w K := by
  refine h.act i hi G fun u e' τ w' hp h2 => ?_
  obtain ⟨rfl, rfl, rfl⟩ := hp
  rw [List.append_nil] at h2
  exact k _ h2
theorem ffail_d : Does Tryz.prog B (rfD p s) (sCall F_errataref01_Reader_fail #[ptr1 p]) (rfPost p (.int .i64 0) failR) := by
  refine Does.rf fun B' w K base h k => ?_
  refine errataref01_Reader_fail.up (errataref01_Reader_fail.call ?_)
  unfold errataref01_Reader_fail.pt
  simp -zeta only [nil_ptr, field_addr f_errataref01_Reader_0, Nat.add_zero]
  refine h.st 0 rfl sc_string (show 0 < 2 by omega) rfl fun w1 h => ?_
  simp -zeta only [field_addr f_errataref01_Reader_1, Nat.zero_add]
  refine h.st 0 rfl sc_bool (show 1 < 2 by omega) rfl fun w2 h => ?_
  exact k _ [] h
theorem u8_eq {a b : UInt8} : ((a.toNat : Nat) : Int) = (b.toNat : Int) ↔ a = b := ⟨fun h => UInt8.toNat_inj.1 (by omega), fun h => by rw [h]⟩
theorem fclose_d {e : UInt8} (hsn : Sane s) (hs : s.rest.length ≤ 140737488355328) : Does Tryz.prog B (rfD p s) (sCall F_errataref01_Reader_close #[ptr1 p, .int .u8 e.toNat]) (rfPost p (.bool (!(closeR e s).bad)) (closeR e s)) := by
  refine Does.rf fun B' w K base h k => ?_
  refine errataref01_Reader_close.up (errataref01_Reader_close.call ?_)
  unfold errataref01_Reader_close.pt
  have bad : closeR e s = failR → ∀ w', Rel B' w' [rfD p s] → upK Tryz.prog (sCall F_errataref01_Reader_fail #[ptr1 p]) w' fun _ w1 => K (.bool false) w1 := fun hc w' h => by
    rw [hc] at k
    exact h.rf_ 0 rfl (fun B2 own base2 => ffail_d) fun w2 h => k _ [] h
  simp -zeta only [nil_ptr, field_addr f_errataref01_Reader_0, Nat.add_zero, h.ld 0 rfl sc_string (o := 0) rfl, str_len U_string, bl_ofL, bin_eql, ifB_dec]
  refine ⟨fun c => ?_, fun c => ?_⟩
  · have hn : s.rest = [] := List.eq_nil_of_length_eq_zero (by omega)
    exact bad (by unfold closeR; rw [hn]) _ h
  · have h0 : 0 < s.rest.length := by omega
    have hi : ∀ {Kp : Value → Prop}, pureK Tryz.prog (sIdx T_string (.string (ofL s.rest)) (.int .i64 0)) Kp = Kp (.int .u8 s.rest[0].toNat) := fun {Kp} => str_idx (P := Tryz.prog) (Kp := Kp) U_string (show 0 < (ofL s.rest).size by rw [ofL_size]; exact h0)
    simp -zeta only [hi, bin_neq, ifB_not, ifB_dec, u8_eq]
    obtain ⟨x, r, hr⟩ : ∃ x r, s.rest = x :: r := by
      cases hr : s.rest with
      | nil => rw [hr] at h0; exact absurd h0 (Nat.lt_irrefl 0)
      | cons x r => exact ⟨x, r, rfl⟩
    have hx : s.rest[0] = x := by simp [hr]
    rw [hx]
    refine ⟨fun c1 => ?_, fun c1 => bad (by unfold closeR; rw [hr]; simp [c1]) _ h⟩
    have hb : s.bad = false := by
      cases hb : s.bad
      · rfl
      · have := hsn hb; rw [this] at hr; cases hr
    have hcl : closeR e s = ⟨r, s.bad⟩ := by unfold closeR; rw [hr]; simp [c1]
    rw [hcl] at k
    have k : ∀ w' τ, Rel B' w' (rfD p ⟨r, s.bad⟩ :: τ) → K (.bool (!s.bad)) w' := k
    rw [hb] at k
    have hcut := str_cut (P := Tryz.prog) (s := ofL s.rest) U_string (lo := 1) (hi := (ofL s.rest).size) (lov := some (.int .i64 1)) (hiv := none) (Kp := fun t27 => pureK Tryz.prog (sNil (ptr1 p)) fun t28 => pureK Tryz.prog (sFieldAddr T_errataref01_Reader t28 0) fun t29 => upK Tryz.prog (sStore T_string t29 t27) w fun _ w3 => K (.bool true) w3) Bnd.some Bnd.none (by rw [ofL_size]; omega) (Nat.le_refl _)
    have hdr : (((bl (ofL s.rest)).take (ofL s.rest).size).drop 1) = r := by
      rw [bl_ofL, ofL_size, List.take_length, hr]; rfl
    rw [hdr] at hcut
    simp -zeta only [nil_ptr, field_addr f_errataref01_Reader_0, Nat.add_zero] at hcut
    rw [hcut]
    refine h.st 0 rfl sc_string (show 0 < 2 by omega) rfl fun w3 h => ?_
    rw [← hb] at k
    have := k w3 [] h
    rw [hb] at this
    exact this
set_option maxHeartbeats 1000000 in
theorem fahead_d {e : UInt8} (he : isEnd e) (hs : s.rest.length ≤ 140737488355328) : Does Tryz.prog B (rfD p s) (sCall F_errataref01_Reader_ahead #[ptr1 p, .int .u8 e.toNat]) (rfPost p (.int .i64 (numR e minI s).1) (numR e minI s).2) := by
  refine Does.rf fun B' w K base h k => ?_
  refine errataref01_Reader_ahead.up (errataref01_Reader_ahead.call ?_)
  unfold errataref01_Reader_ahead.pt
  have bad : (∀ m r, s.rest = Go.Lib.itoa m ++ e :: r → ¬ inI m) → ∀ w', Rel B' w' [rfD p s] → upK Tryz.prog (sCall F_errataref01_Reader_fail #[ptr1 p]) w' fun t w1 => K t w1 := fun hno w' h => by
    have hc : numR e minI s = (0, failR) := by
      unfold numR
      rw [numS_none.2 fun m r h1 _ h3 => hno m r h1 h3]
    rw [hc] at k
    exact h.rf_ 0 rfl (fun B2 own base2 => ffail_d) fun w2 h => k _ [] h
  have atE : ∀ m r, s.rest = Go.Lib.itoa m ++ e :: r → ∃ hj : (Go.Lib.itoa m).length < s.rest.length, s.rest[(Go.Lib.itoa m).length] = e := fun m r h1 => by
    have hj : (Go.Lib.itoa m).length < s.rest.length := by rw [h1, List.length_append, List.length_cons]; omega
    refine ⟨hj, ?_⟩
    have : s.rest[(Go.Lib.itoa m).length]? = some e := by
      rw [h1, List.getElem?_append_right (Nat.le_refl _), Nat.sub_self]
      rfl
    rw [List.getElem?_eq_getElem hj] at this
    injection this
  have hidx : ∀ {n : Nat} (hn : n < s.rest.length) {Kp : Value → Prop}, pureK Tryz.prog (sIdx T_string (.string (ofL s.rest)) (.int .i64 n)) Kp = Kp (.int .u8 s.rest[n].toNat) := fun {n} hn {Kp} => str_idx (P := Tryz.prog) (Kp := Kp) U_string (show n < (ofL s.rest).size by rw [ofL_size]; exact hn)
  refine LETJ_intro fun J1 hJ1 => ?_
  replace hJ1 : ∀ n : Nat, n ≤ s.rest.length → n ≤ 21 → (∀ j (hj : j < s.rest.length), j < n → s.rest[j] ≠ e) → (n = s.rest.length ∨ n = 21 ∨ (∃ h : n < s.rest.length, s.rest[n] = e)) → ∀ w', Rel B' w' [rfD p s] → J1 (.int .i64 n, ()) w' := by
    intro n hn h21 hno hstop w' h
    refine hJ1 _ _ ?_
    clear hJ1
    simp -zeta only [nil_ptr, field_addr f_errataref01_Reader_0, Nat.add_zero, h.ld 0 rfl sc_string (o := 0) rfl, str_len U_string, bl_ofL, bin_geq, ifB_dec]
    refine ⟨fun c => bad (fun m r h1 h3 => ?_) _ h, fun c => ?_⟩
    · obtain ⟨hj, he1⟩ := atE m r h1
      exact hno _ hj (by omega) he1
    have hil : n < s.rest.length := by omega
    simp -zeta only [hidx hil, bin_neq, ifB_not, ifB_dec, u8_eq]
    refine ⟨fun c1 => ?_, fun c1 => bad (fun m r h1 h3 => ?_) _ h⟩
    case refine_2 =>
      obtain ⟨hj, he1⟩ := atE m r h1
      have hl := itoa_len h3
      have hn21 : n = 21 := by
        rcases hstop with h4 | h4 | ⟨h4, h5⟩
        · omega
        · exact h4
        · exact absurd h5 c1
      exact hno _ hj (by omega) he1
    have hsp : s.rest = s.rest.take n ++ e :: s.rest.drop (n + 1) := by
      rw [← c1, List.getElem_cons_drop, List.take_append_drop]
    have hna : e ∉ s.rest.take n := fun hm => by
      obtain ⟨j, hj, hje⟩ := List.mem_take_iff_getElem.1 hm
      exact hno j (by omega) (by omega) hje
    rw [str_cut U_string (lo := 0) (hi := n) Bnd.none Bnd.some (Nat.zero_le _) (by rw [ofL_size]; omega), bl_ofL, List.drop_zero]
    refine back_r (by rw [List.length_take]; omega) h fun v ok w4 hv h => ?_
    simp -zeta only [ext_2_0, ext_2_1]
    rw [un_not, ifB_not, ifB_bool]
    refine ⟨fun c2 => ?_, fun c2 => bad (fun m r h1 h3 => ?_) _ h⟩
    case refine_2 =>
      have h1' := hsp.symm.trans h1
      obtain ⟨h4, _⟩ := split_first hna (itoa_not he) h1'
      have := (hv.2 m h3 h4).1
      rw [c2] at this
      cases this
    obtain ⟨h4, h5⟩ := hv.1 c2
    have hnum : numR e minI s = (v, ⟨s.rest.drop (n + 1), s.bad⟩) := by
      unfold numR
      rw [(numS_some he (n := v) (r := s.rest.drop (n + 1))).2 ⟨by rw [← h4]; exact hsp, h5.1, h5⟩]
    rw [hnum] at k
    have hw : IntKind.i64.wrap ((n : Int) + 1) = ((n + 1 : Nat) : Int) := by rw [wrap_id (by omega) (by omega)]; omega
    simp -zeta only [nil_ptr, field_addr f_errataref01_Reader_0, Nat.add_zero, h.ld 0 rfl sc_string (o := 0) rfl, bin_add, hw]
    rw [str_cut U_string (lo := n + 1) (hi := (ofL s.rest).size) Bnd.some Bnd.none (by rw [ofL_size]; omega) (Nat.le_refl _)]
    have hcut : (((bl (ofL s.rest)).take (ofL s.rest).size).drop (n + 1)) = s.rest.drop (n + 1) := by
      rw [bl_ofL, ofL_size, List.take_length]
    rw [hcut]
    refine h.st 0 rfl sc_string (show 0 < 2 by omega) rfl fun w8 h => ?_
    exact k _ [] h
  refine LOOP_intro (fun x w' => ∃ n : Nat, n ≤ s.rest.length ∧ n ≤ 21 ∧ x = (.int .i64 n, ()) ∧ (∀ j (hj : j < s.rest.length), j < n → s.rest[j] ≠ e) ∧ Rel B' w' [rfD p s]) (fun x _ => s.rest.length - (match x.1 with | .int _ n => n.toNat | _ => 0))
    ⟨0, Nat.zero_le _, Nat.zero_le _, rfl, fun j _ hj => absurd hj (Nat.not_lt_zero j), h⟩ ?_
  clear h
  rintro x w2 ⟨n, hn, h21, rfl, hno, h⟩ next hnext
  simp -zeta only [nil_ptr, field_addr f_errataref01_Reader_0, Nat.add_zero, h.ld 0 rfl sc_string (o := 0) rfl, str_len U_string, bl_ofL, bin_lss, ifB_dec]
  refine ⟨fun c => ⟨fun c1 => ?_, fun c1 => hJ1 n hn h21 hno (.inr (.inl (by omega))) _ h⟩, fun c => hJ1 n hn h21 hno (.inl (by omega)) _ h⟩
  have hil : n < s.rest.length := by omega
  simp -zeta only [hidx hil, bin_neq, ifB_not, ifB_dec, u8_eq]
  refine ⟨fun c2 => hJ1 n hn h21 hno (.inr (.inr ⟨hil, c2⟩)) _ h, fun c2 => ?_⟩
  rw [bin_add, wrap_id (by omega) (by omega)]
  refine hnext _ _ ⟨n + 1, hil, by omega, rfl, fun j hj h1 => ?_, h⟩ (by simp only; omega)
  by_cases ej : j = n
  · subst ej; exact c2
  · exact hno j hj (by omega)
theorem fnumber_d {e : UInt8} (he : isEnd e) (hs : s.rest.length ≤ 140737488355328) : Does Tryz.prog B (rfD p s) (sCall F_errataref01_Reader_number #[ptr1 p, .int .u8 e.toNat]) (rfPost p (.int .i64 (numR e 0 s).1) (numR e 0 s).2) := by
  refine Does.rf fun B' w K base h k => ?_
  refine errataref01_Reader_number.up (errataref01_Reader_number.call ?_)
  unfold errataref01_Reader_number.pt
  refine h.rf_ 0 rfl (fun B2 own base2 => fahead_d he hs) fun w1 h => ?_
  rw [numR_zero he] at k
  rw [bin_lss, ifB_dec]
  refine ⟨fun c => ?_, fun c => ?_⟩
  · rw [if_pos c] at k
    exact h.rf_ 0 rfl (fun B2 own base2 => ffail_d) fun w2 h => k _ [] h
  · rw [if_neg c] at k
    exact k _ [] h
theorem fNumR_d (hs : s.rest.length ≤ 140737488355328) : Does Tryz.prog B (rfD p s) (sCall F_errataref01_Reader_Num #[ptr1 p]) (rfPost p (.int .i64 (natR s).1) (natR s).2) := by
  refine Does.rf fun B' w K base h k => ?_
  refine errataref01_Reader_Num.up (errataref01_Reader_Num.call ?_)
  unfold errataref01_Reader_Num.pt
  exact h.rf_ 0 rfl (fun B2 own base2 => fnumber_d (e := 59) (.inl rfl) hs) fun w1 h => k _ [] h
theorem fIntR_d (hs : s.rest.length ≤ 140737488355328) : Does Tryz.prog B (rfD p s) (sCall F_errataref01_Reader_Int #[ptr1 p]) (rfPost p (.int .i64 (intR s).1) (intR s).2) := by
  refine Does.rf fun B' w K base h k => ?_
  refine errataref01_Reader_Int.up (errataref01_Reader_Int.call ?_)
  unfold errataref01_Reader_Int.pt
  exact h.rf_ 0 rfl (fun B2 own base2 => fahead_d (e := 59) (.inl rfl) hs) fun w1 h => k _ [] h
theorem fTextR_d (hsn : Sane s) (hs : s.rest.length ≤ 140737488355328) : Does Tryz.prog B (rfD p s) (sCall F_errataref01_Reader_Text #[ptr1 p]) (rfPost p (.string (ofL (textR s).1)) (textR s).2) := by
  refine Does.rf fun B' w K base h k => ?_
  refine errataref01_Reader_Text.up (errataref01_Reader_Text.call ?_)
  unfold errataref01_Reader_Text.pt
  refine h.rf_ 0 rfl (fun B2 own base2 => fnumber_d (e := 58) (.inr (.inl rfl)) hs) fun w1 h => ?_
  obtain ⟨hle, hin, h0⟩ := numR_le (.inr (.inl rfl) : isEnd 58) 0 s
  have h0 := h0 (Int.le_refl 0)
  have hs1 := numR_sane (.inr (.inl rfl) : isEnd 58) (lo := 0) hsn
  have hfl := textR_fail (s := s) (n := (numR 58 0 s).1) (s1 := (numR 58 0 s).2) rfl
  have htx : ¬ ((numR 58 0 s).2.rest.length : Int) < (numR 58 0 s).1 → textR s = (if (closeR 44 ⟨(numR 58 0 s).2.rest.drop (numR 58 0 s).1.toNat, (numR 58 0 s).2.bad⟩).bad = true then [] else (numR 58 0 s).2.rest.take (numR 58 0 s).1.toNat, closeR 44 ⟨(numR 58 0 s).2.rest.drop (numR 58 0 s).1.toNat, (numR 58 0 s).2.bad⟩) := fun c => by
    unfold textR
    simp only
    rw [if_neg c]
  generalize numR 58 0 s = q at h hle hin h0 hs1 hfl htx
  obtain ⟨n, s1⟩ := q
  have h : Rel B' w1 [rfD p s1] := h
  simp only at hle hin h0 hs1 hfl htx ⊢
  have bad : (s1.rest = [] ∨ (s1.rest.length : Int) ≤ n) → ∀ w', Rel B' w' [rfD p s1] → upK Tryz.prog (sCall F_errataref01_Reader_fail #[ptr1 p]) w' fun _ w1 => K (.string ⟨#[]⟩) w1 := fun hc w' h => by
    rw [hfl hc] at k
    exact h.rf_ 0 rfl (fun B2 own base2 => ffail_d) fun w2 h => k _ [] h
  simp -zeta only [nil_ptr, field_addr f_errataref01_Reader_0, field_addr f_errataref01_Reader_1, Nat.add_zero, Nat.zero_add, h.ld 0 rfl sc_string (o := 0) rfl, h.ld 0 rfl sc_bool (o := 1) rfl, str_len U_string, bl_ofL, bin_geq]
  rw [ifB_bool]
  refine ⟨fun c => bad (.inl (hs1 c)) _ h, fun c0 => ?_⟩
  rw [ifB_dec]
  refine ⟨fun c => bad (.inr c) _ h, fun c => ?_⟩
  have htx := htx (by omega)
  rw [htx] at k
  obtain ⟨m, rfl⟩ : ∃ m : Nat, n = m := ⟨n.toNat, by omega⟩
  rw [str_cut U_string (lo := 0) (hi := m) Bnd.none Bnd.some (Nat.zero_le _) (by rw [ofL_size]; omega)]
  rw [str_cut U_string (lo := m) (hi := (ofL s1.rest).size) Bnd.some Bnd.none (by rw [ofL_size]; omega) (Nat.le_refl _)]
  rw [bl_ofL, ofL_size, List.take_length, List.drop_zero]
  refine h.st 0 rfl sc_string (show 0 < 2 by omega) rfl fun w3 h => ?_
  have h : Rel B' w3 [rfD p ⟨s1.rest.drop m, s1.bad⟩] := h
  refine h.rf_ 0 rfl (fun B2 own base2 => fclose_d (e := 44) (sane_drop hs1 m) (by show (s1.rest.drop m).length ≤ _; rw [List.length_drop]; omega)) fun w4 h => ?_
  simp only [Int.toNat_natCast] at k
  have h : Rel B' w4 [rfD p (closeR 44 ⟨s1.rest.drop m, s1.bad⟩)] := h
  rw [un_not, Bool.not_not, ifB_bool]
  refine ⟨fun c2 => ?_, fun c2 => ?_⟩
  · rw [if_pos c2] at k; exact k _ [] h
  · rw [if_neg (by rw [c2]; decide)] at k; exact k _ [] h
theorem fLeft_g (hc : rfD p s B) : Gives Tryz.prog B (sCall F_errataref01_Reader_Left #[ptr1 p]) (.int .i64 s.rest.length) := by
  refine Gives.intro fun B' w K base h k => ?_
  replace hc := base hc
  refine errataref01_Reader_Left.up (errataref01_Reader_Left.call ?_)
  unfold errataref01_Reader_Left.pt
  simp -zeta only [nil_ptr, field_addr f_errataref01_Reader_0, Nat.add_zero, cellD.ld (h.hereB hc) sc_string (o := 0) rfl, str_len U_string, bl_ofL]
  exact k _ _ h
theorem fDone_g (hc : rfD p s B) : Gives Tryz.prog B (sCall F_errataref01_Reader_Done #[ptr1 p]) (.bool (doneR s)) := by
  refine Gives.intro fun B' w K base h k => ?_
  replace hc := base hc
  refine errataref01_Reader_Done.up (errataref01_Reader_Done.call ?_)
  unfold errataref01_Reader_Done.pt
  simp -zeta only [nil_ptr, field_addr f_errataref01_Reader_0, field_addr f_errataref01_Reader_1, Nat.zero_add, Nat.add_zero, cellD.ld (h.hereB hc) sc_string (o := 0) rfl, cellD.ld (h.hereB hc) sc_bool (o := 1) rfl, un_not, ifB_not, ifB_bool, empty_str, eql_ofL]
  unfold doneR at k
  refine ⟨fun c => ?_, fun c => ?_⟩
  · rw [c] at k; exact k _ _ h
  · rw [c] at k; exact k _ _ h
theorem fopen_m {t : Bs} : Makes Tryz.prog B (sCall F_errataref01_Open #[.string (ofL t)]) fun u τ => ∃ p, u = ptr1 p ∧ τ = [rfD p ⟨t, false⟩] := by
  refine Makes.intro fun B' w K base h k => ?_
  refine errataref01_Open.up (errataref01_Open.call ?_)
  unfold errataref01_Open.pt
  rw [bd_errataref01_Reader_0]
  refine h.box fun b w1 h => ?_
  exact k _ _ _ ⟨b, rfl, rfl⟩ h
end
end Go.Proofs.YtoebncgnjbblgaaGreatDoor
/-
  The reference of layer 3: Right, Compare, Bytes, Read, rows. No condition.
-/
--@auto
namespace Go.Proofs.YtoebncgnjbblgaaGreatDoor
open Go.RowKit
set_option maxRecDepth 100000

theorem timesR_snoc {α : Type} (one : RS → α × RS) : ∀ (k : Nat) (acc : List α) (s : RS), timesR one (k + 1) acc s = ((timesR one k acc s).1 ++ [(one (timesR one k acc s).2).1], (one (timesR one k acc s).2).2)
  | 0, acc, s => by rw [timesR, timesR, timesR]
  | k + 1, acc, s => by rw [timesR, timesR_snoc one k, timesR]
section
variable {B : Base} {w : World} {σ : List Dat}
theorem fBytes_g {v : ValD} (hg : GoodVal v) (hs : (bl v.s).length ≤ 1099511627776) : Gives Tryz.prog B (sCall F_errataref03_Bytes #[.agg v.cs.toArray]) (.string (ofL (encV1 v))) := by
  refine Gives.intro fun B' w K base h k => ?_
  refine errataref03_Bytes.up (errataref03_Bytes.call ?_)
  unfold errataref03_Bytes.pt
  refine h.box fun o w1 h => ?_
  have h : Rel B' w1 [cellD o T_api_Value v.cs.toArray] := h
  have h := h.tick
  have h1 := encI_len hg.kind
  have h2 := encI_len hg.n
  have h3 := encT_len (bl v.s) hg.s
  have es : v.s = ofL (bl v.s) := (ofL_bl v.s).symm
  simp -zeta only [field_addr f_api_Value_0, field_addr f_api_Value_1, field_addr f_api_Value_2, Nat.add_zero, Nat.zero_add, h.ld 0 rfl sc_int (o := 0) rfl, h.ld 0 rfl sc_int (o := 1) rfl, h.ld 0 rfl sc_string (o := 2) rfl]
  refine h.ask (fun B2 own base2 => fInt_g hg.kind) fun w2 h => ?_
  refine ⟨h.is 0 rfl sc_string (o := 2) rfl, h.is 0 rfl sc_int (o := 1) rfl, ?_⟩
  refine h.ask (fun B2 own base2 => fInt_g hg.n) fun w3 h => ?_
  refine ⟨h.is 0 rfl sc_string (o := 2) rfl, ?_⟩
  rw [strL_add (by omega)]
  refine h.ask (v := .string (ofL (encT (bl v.s)))) (fun B2 own base2 => by have := fText_g (B := B2) (s := bl v.s) (by omega); rw [← es] at this; exact this) fun w4 h => ?_
  rw [strL_add (by rw [List.length_append]; omega)]
  exact k _ _ h
theorem fRead_g {t : Bs} (ht : t.length ≤ 1099511627776) : Gives Tryz.prog B (sCall F_errataref03_Read #[.string (ofL t)]) (.tuple #[((readV1 t).getD vZero).v, .bool (readV1 t).isSome]) := by
  refine Gives.intro fun B' w K base h k => ?_
  refine errataref03_Read.up (errataref03_Read.call ?_)
  unfold errataref03_Read.pt
  unfold readV1 at k
  refine h.alloc z_api_Value fun o w1 h => ?_
  refine h.make (fun B2 own base2 => fopen_m) fun u τ w2 hp h => ?_
  obtain ⟨p, rfl, rfl⟩ := hp
  have h : Rel B' w2 [cellD o T_api_Value (Value.cells (.agg #[(.int .i64 0), (.int .i64 0), (.string ⟨#[]⟩)])), rfD p ⟨t, false⟩] := h
  rw [bd_api_Value_]
  refine h.allocAg (ds := vZero.cs.toArray) z_api_Value rfl ag_api_Value rfl (fun v hv => Enc.one vZero v hv) fun a w4 h => ?_
  have hsn : Sane ⟨t, false⟩ := fun hb => by cases hb
  have l1 : (intR ⟨t, false⟩).2.rest.length ≤ t.length := intR_le ⟨t, false⟩
  have l2 := intR_le (intR ⟨t, false⟩).2
  refine h.rf_ 1 rfl (fun B2 own base2 => fIntR_d (by show t.length ≤ _; omega)) fun w5 h => ?_
  simp -zeta only [field_addr f_api_Value_0, field_addr f_api_Value_1, field_addr f_api_Value_2, Nat.add_zero, Nat.zero_add]
  refine h.st 2 rfl sc_int (show 0 < 3 by omega) rfl fun w6 h => ?_
  refine h.rf_ 1 rfl (fun B2 own base2 => fIntR_d (by omega)) fun w7 h => ?_
  refine h.st 2 rfl sc_int (show 1 < 3 by omega) rfl fun w8 h => ?_
  refine h.rf_ 1 rfl (fun B2 own base2 => fTextR_d (intR_sane (intR_sane hsn)) (by omega)) fun w9 h => ?_
  refine h.st 2 rfl sc_string (show 2 < 3 by omega) rfl fun w10 h => ?_
  have h : Rel B' w10 [cellD o T_api_Value (Value.cells (.agg #[(.int .i64 0), (.int .i64 0), (.string ⟨#[]⟩)])), rfD p (valR ⟨t, false⟩).2, cellD a T_api_Value (valR ⟨t, false⟩).1.cs.toArray] := h
  generalize valR ⟨t, false⟩ = y at *
  obtain ⟨x, s2⟩ := y
  simp only at k h ⊢
  refine h.ask (fun B2 own base2 => fDone_g (own (i := 1) rfl)) fun w11 h => ?_
  rw [un_not, ifB_not, ifB_bool]
  refine ⟨fun cd => ?_, fun cd => ?_⟩
  · rw [if_pos cd] at k
    rw [h.ldAg 2 rfl ag_api_Value rfl]
    refine h.stAll 0 (ds := x.cs.toArray) rfl ag_api_Value rfl rfl (fun v hv => Enc.one x v hv) fun w8 h => ?_
    rw [rv_ag h 0 rfl ag_api_Value rfl]
    exact k _ _ h
  · rw [if_neg (by rw [cd]; decide)] at k
    rw [bd_api_Value_]
    refine h.stAll 0 (ds := vZero.cs.toArray) rfl ag_api_Value rfl rfl (fun v hv => Enc.one vZero v hv) fun w8 h => ?_
    rw [rv_ag h 0 rfl ag_api_Value rfl]
    exact k _ _ h
end
end Go.Proofs.YtoebncgnjbblgaaGreatDoor
