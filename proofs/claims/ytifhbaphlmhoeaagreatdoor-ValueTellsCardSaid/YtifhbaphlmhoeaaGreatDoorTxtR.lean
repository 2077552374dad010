/-
  The reference of layer 2: Decimal, Int, Quote, Unquote. No condition.
-/
import Derived.Test.YtifhbaphlmhoeaaGreatDoorTxtD
import Derived.Test.YtifhbaphlmhoeaaGreatDoorWireR
namespace Go.Proofs.YtifhbaphlmhoeaaGreatDoor
open Go.RowKit
set_option maxRecDepth 100000

/-! ### Quoted strings, as the reference reads them -/
def digV (c : UInt8) : Nat := match hexL.findIdx? (· == c) with
  | some i => i
  | none => 0
theorem digV_hex : ∀ n : Fin 16, digV (hexd n.1) = n.1 := by decide
theorem digV_lt (c : UInt8) : digV c < 16 := by
  unfold digV
  split
  · rename_i i h
    obtain ⟨hi, _⟩ := List.findIdx?_eq_some_iff_getElem.1 h
    exact hi
  · decide
def hexW (a b : UInt8) : UInt8 := UInt8.ofNat (digV a * 16 + digV b)
theorem hexW_digits (c : UInt8) : hexW (hexd (c.toNat / 16)) (hexd (c.toNat % 16)) = c := by
  have hc := c.toNat_lt
  have h1 := digV_hex ⟨c.toNat / 16, by omega⟩
  have h2 := digV_hex ⟨c.toNat % 16, by omega⟩
  unfold hexW
  simp only at h1 h2
  rw [h1, h2, show c.toNat / 16 * 16 + c.toNat % 16 = c.toNat by omega]
  simp
def unq2 : Bs → Bs
  | [] => []
  | c :: [] => [c]
  | c :: d :: [] => if c ≠ 92 then c :: unq2 [d] else if d = 110 then [10] else [d]
  | c :: d :: a :: [] => if c ≠ 92 then c :: unq2 [d, a] else if d = 110 then 10 :: unq2 [a] else d :: unq2 [a]
  | c :: d :: a :: b :: r => if c ≠ 92 then c :: unq2 (d :: a :: b :: r) else if d = 110 then 10 :: unq2 (a :: b :: r) else if d = 120 then hexW a b :: unq2 r else d :: unq2 (a :: b :: r)
theorem unq2_plain {c : UInt8} (h : c ≠ 92) (r : Bs) : unq2 (c :: r) = c :: unq2 r := by
  match r with
  | [] => simp [unq2]
  | [d] => simp [unq2, h]
  | [d, a] => simp [unq2, h]
  | d :: a :: b :: r => rw [unq2, if_pos h]
theorem unq2_n (r : Bs) : unq2 (92 :: 110 :: r) = 10 :: unq2 r := by
  match r with
  | [] => simp [unq2]
  | [a] => simp [unq2]
  | a :: b :: r => simp [unq2]
theorem unq2_x (a b : UInt8) (r : Bs) : unq2 (92 :: 120 :: a :: b :: r) = hexW a b :: unq2 r := by simp [unq2]
theorem unq2_other {d : UInt8} (h1 : d ≠ 110) (h2 : d ≠ 120) (r : Bs) : unq2 (92 :: d :: r) = d :: unq2 r := by
  match r with
  | [] => simp [unq2, h1]
  | [a] => simp [unq2, h1]
  | a :: b :: r => simp [unq2, h1, h2]
theorem unq2_x1 {r : Bs} (h : r.length < 2) : unq2 (92 :: 120 :: r) = 120 :: unq2 r := by
  match r with
  | [] => simp [unq2]
  | [a] => simp [unq2]
  | a :: b :: r => simp at h; omega
theorem unq2_esc (c : UInt8) (r : Bs) : unq2 (escB c ++ r) = c :: unq2 r := by
  have inj : ∀ {n : UInt8}, c.toNat = n.toNat → c = n := fun h => UInt8.toNat_inj.1 h
  unfold escB
  split
  · rename_i h
    show unq2 (92 :: c :: r) = _
    refine unq2_other ?_ ?_ r
    · rintro rfl; rcases h with h | h <;> exact absurd h (by decide)
    · rintro rfl; rcases h with h | h <;> exact absurd h (by decide)
  · rename_i h
    split
    · rename_i h10
      have : c = 10 := inj h10
      subst this
      exact unq2_n r
    · split
      · exact unq2_plain (fun hh => h (.inr (by rw [hh]; rfl))) r
      · show unq2 (92 :: 120 :: hexd (c.toNat / 16) :: hexd (c.toNat % 16) :: r) = _
        rw [unq2_x, hexW_digits]
theorem unq2_quote : ∀ s : Bs, unq2 (s.flatMap escB) = s
  | [] => rfl
  | c :: s => by rw [List.flatMap_cons, unq2_esc, unq2_quote s]
theorem unquote2 (s : Bs) : unquoteS s = if quoteS (unq2 (bodyQ s)) = s then some (unq2 (bodyQ s)) else none := by
  by_cases c : quoteS (unq2 (bodyQ s)) = s
  · rw [if_pos c]
    conv => lhs; rw [← c]
    exact unquote_quote _
  · rw [if_neg c]
    cases hu : unquoteS s with
    | none => rfl
    | some t =>
      have e := unquote_back hu
      refine absurd ?_ c
      rw [← e, bodyQ_quote, unq2_quote]
section
variable {B : Base} {w : World} {σ : List Dat}
/-! ### Decimals -/
theorem dig2_g {d : Nat} (hd : d < 10) : Gives Tryz.prog B (sCall F_errataref02_Decimal #[.int .i64 (d : Int)]) (.string (ofL [UInt8.ofNat (48 + d)])) := by
  refine Gives.intro fun B' w K base h k => ?_
  refine errataref02_Decimal.up (errataref02_Decimal.call ?_)
  unfold errataref02_Decimal.pt
  refine LETJ_intro fun J1 _ => ?_
  have hw : IntKind.i64.wrap (48 + (d : Int)) = ((48 + d : Nat) : Int) := by rw [wrap_id (by omega) (by omega)]; omega
  have h8 : IntKind.u8.wrap ((48 + d : Nat) : Int) = ((UInt8.ofNat (48 + d)).toNat : Int) := by rw [IntWalk.u8_in _ (by omega), dig_toNat hd]
  rw [bin_geq, decide_eq_true (by omega), ifB_true, bin_lss, decide_eq_true (by omega), ifB_true, bin_add, hw, conv_int U_int U_uint8, h8]
  refine h.build1 (α := UInt8) (UInt8.ofNat (48 + d)) sl_s_uint8 (by decide) fun u w2 h => ?_
  have h : Rel B' w2 [rowD T_uint8 u [UInt8.ofNat (48 + d)]] := h
  refine h.toStr (Rd.at 0 rfl) U_s_uint8 U_uint8 U_string ?_
  exact k _ _ h
theorem decs_len {m : Nat} (hm : m ≤ 9223372036854775808) : (Go.Lib.decDigits m).length ≤ 30 := by
  rw [Go.Lib.decDigits_length]
  have := nDigits_le 18 m (by rw [show (10 : Nat) ^ (18 + 1) = 10000000000000000000 by decide]; omega)
  omega
theorem decimal2_g : ∀ (m : Nat) (n : Int), n.natAbs = m → inI n → ∀ B : Base, Gives Tryz.prog B (sCall F_errataref02_Decimal #[.int .i64 n]) (.string (ofL (Go.Lib.itoa n))) := by
  intro m
  induction m using Nat.strongRecOn with
  | _ m ih =>
    intro n hm hn B
    have h1 := hn.1
    have h2 := hn.2
    have hlen := itoa_len hn
    rcases itoa_cases n with ⟨c, e⟩ | ⟨c, e⟩
    · obtain ⟨d, rfl⟩ : ∃ d : Nat, n = d := ⟨n.toNat, by omega⟩
      rw [Int.toNat_natCast] at e
      by_cases hd : d < 10
      · rw [e, dec_small hd]; exact dig2_g hd
      · refine Gives.intro fun B' w K base h k => ?_
        refine errataref02_Decimal.up (errataref02_Decimal.call ?_)
        unfold errataref02_Decimal.pt
        refine LETJ_intro fun J1 hJ1 => ?_
        replace hJ1 : J1 () w := by
          refine hJ1 _ _ ?_
          have hq : IntKind.i64.wrap ((d : Int).tdiv 10) = ((d / 10 : Nat) : Int) := by rw [Int.tdiv_eq_ediv_of_nonneg (by omega), wrap_id (by omega) (by omega)]; omega
          have hr : (d : Int).tmod 10 = ((d % 10 : Nat) : Int) := by rw [Int.tmod_eq_emod_of_nonneg (by omega)]; omega
          rw [bin_gtr, decide_eq_true (by omega), ifB_true, bin_quo (show (10 : Int) ≠ 0 by decide), hq]
          refine h.ask (fun B2 own base2 => ih (d / 10) (by omega) ((d / 10 : Nat) : Int) (by omega) ⟨by omega, by omega⟩ B2) fun w2 h => ?_
          rw [bin_rem (show (10 : Int) ≠ 0 by decide), hr]
          refine h.ask (fun B2 own base2 => dig2_g (Nat.mod_lt d (by decide))) fun w3 h => ?_
          have hl := decs_len (m := d / 10) (by omega)
          rw [itoa_nat, strL_add (by rw [List.length_singleton]; omega), ← dec_big hd, ← e]
          exact k _ _ h
        rw [bin_geq, decide_eq_true (by omega), ifB_true, bin_lss, decide_eq_false (by omega), ifB_false]
        exact hJ1
    · obtain ⟨d, rfl⟩ : ∃ d : Nat, n = -(d : Int) := ⟨n.natAbs, by omega⟩
      rw [show (-(d : Int)).natAbs = d by omega] at e hm
      subst hm
      refine Gives.intro fun B' w K base h k => ?_
      refine errataref02_Decimal.up (errataref02_Decimal.call ?_)
      unfold errataref02_Decimal.pt
      refine LETJ_intro fun J1 hJ1 => ?_
      rw [bin_geq, decide_eq_false (by omega), ifB_false]
      refine hJ1 _ _ ?_
      rw [bin_gtr, decide_eq_false (by omega), ifB_false, bin_gtr, ifB_dec, e] at *
      refine ⟨fun c1 => ?_, fun c1 => ?_⟩
      · have hneg : IntKind.i64.wrap (0 - -(d : Int)) = (d : Int) := by rw [wrap_id (by omega) (by omega)]; omega
        rw [un_neg, hneg]
        refine h.ask (fun B2 own base2 => dig2_g (B := B2) (d := d) (by omega)) fun w4 h => ?_
        rw [show (⟨#[45]⟩ : ByteArray) = ofL [45] from rfl, strL_add (by simp)]
        rw [dec_small (by omega)] at k
        exact k _ _ h
      · have hq : IntKind.i64.wrap ((-(d : Int)).tdiv 10) = -((d / 10 : Nat) : Int) := by
          rw [Int.neg_tdiv, Int.tdiv_eq_ediv_of_nonneg (by omega), wrap_id (by omega) (by omega)]; omega
        have hr : (-(d : Int)).tmod 10 = -((d % 10 : Nat) : Int) := by rw [Int.neg_tmod, Int.tmod_eq_emod_of_nonneg (by omega)]; omega
        have hneg : IntKind.i64.wrap (0 - -((d % 10 : Nat) : Int)) = ((d % 10 : Nat) : Int) := by rw [wrap_id (by omega) (by omega)]; omega
        rw [bin_quo (show (10 : Int) ≠ 0 by decide), hq]
        refine h.ask (fun B2 own base2 => ih (d / 10) (by omega) (-((d / 10 : Nat) : Int)) (by omega) ⟨by omega, by omega⟩ B2) fun w2 h => ?_
        rw [bin_rem (show (10 : Int) ≠ 0 by decide), hr, un_neg, hneg]
        refine h.ask (fun B2 own base2 => dig2_g (Nat.mod_lt d (by decide))) fun w3 h => ?_
        have hl := decs_len (m := d / 10) (by omega)
        have e2 : Go.Lib.itoa (-((d / 10 : Nat) : Int)) = 45 :: Go.Lib.decDigits (d / 10) := by
          rcases itoa_cases (-((d / 10 : Nat) : Int)) with ⟨c2, _⟩ | ⟨_, e2⟩
          · omega
          · rw [e2, show (-((d / 10 : Nat) : Int)).natAbs = d / 10 by omega]
        rw [e2, strL_add (by rw [List.length_singleton, List.length_cons]; omega)]
        rw [dec_big (by omega)] at k
        exact k _ _ h
theorem Decimal2_g {n : Int} (hn : inI n) : Gives Tryz.prog B (sCall F_errataref02_Decimal #[.int .i64 n]) (.string (ofL (Go.Lib.itoa n))) := decimal2_g _ n rfl hn B
set_option maxHeartbeats 1000000 in
theorem textInt2_g {s : Bs} (hs : s.length ≤ 1099511627776) : Gives Tryz.prog B (sCall F_errataref02_Int #[.string (ofL s)]) (.tuple #[.int .i64 ((intOf s).getD 0), .bool (intOf s).isSome]) := by
  refine Gives.intro fun B' w K base h k => ?_
  refine errataref02_Int.up (errataref02_Int.call ?_)
  unfold errataref02_Int.pt
  have no : ∀ w', Rel B' w' [] → (∀ n, inI n → s ≠ Go.Lib.itoa n) → K (.tuple #[.int .i64 0, .bool false]) w' := fun w' h hn => by rw [intOf_none hn] at k; exact k _ _ h
  simp -zeta only [str_len U_string, bl_ofL, bin_eql, bin_gtr]
  rw [ifB_dec]
  refine ⟨fun c => no _ h fun n _ hh => by have := itoa_pos n; rw [← hh] at this; omega, fun c => ?_⟩
  rw [ifB_dec]
  refine ⟨fun c => no _ h fun n hn hh => by have := itoa_len hn; rw [← hh] at this; omega, fun c2 => ?_⟩
  have hpos : 0 < s.length := by omega
  have hs20 : s.length ≤ 20 := by omega
  have hidx : ∀ {n : Nat} (hn : n < s.length) {Kp : Value → Prop}, pureK Tryz.prog (sIdx T_string (.string (ofL s)) (.int .i64 n)) Kp = Kp (.int .u8 s[n].toNat) := fun {n} hn {Kp} => str_idx (P := Tryz.prog) (Kp := Kp) U_string (show n < (ofL s).size by rw [ofL_size]; exact hn)
  have h0 : ∀ {Kp : Value → Prop}, pureK Tryz.prog (sIdx T_string (.string (ofL s)) (.int .i64 0)) Kp = Kp (.int .u8 s[0].toNat) := fun {Kp} => hidx (n := 0) hpos
  have hsign : signN s = if s[0].toNat = 45 then 1 else 0 := by
    cases s with
    | nil => exact absurd hpos (Nat.not_lt_zero 0)
    | cons x r =>
      show (if x = 45 then 1 else 0) = if x.toNat = 45 then 1 else 0
      by_cases hx : x = 45
      · subst hx; rfl
      · rw [if_neg hx, if_neg (show ¬ x.toNat = 45 from fun hh => hx (UInt8.toNat_inj.1 hh))]
  have hs1 : signN s ≤ 1 := by rw [hsign]; split <;> omega
  refine LOOP_intro (fun x w' => ∃ (i : Nat) (acc : Int), i ≤ s.length ∧ x = (.int .i64 acc, .int .i64 i, ()) ∧ inI acc ∧ (∀ j (hj : j < s.length), signN s ≤ j → j < i → 48 ≤ s[j].toNat ∧ s[j].toNat ≤ 57) ∧
      (valD ((s.take i).drop (signN s)) ≤ 9223372036854775808 → acc = -(valD ((s.take i).drop (signN s)) : Int)) ∧ Rel B' w' []) (fun x _ => s.length - (match x.2.1 with | .int _ n => n.toNat | _ => 0))
    ⟨0, 0, Nat.zero_le _, rfl, ⟨by decide, by decide⟩, fun j hj h1 h2 => absurd h2 (Nat.not_lt_zero _), fun _ => by rw [List.take_zero, List.drop_nil]; rfl, h⟩ ?_
  clear h
  rintro x w1 ⟨i, acc, hi, rfl, hacc, hdig, hval, h⟩ next hnext
  simp -zeta only [bin_lss, ifB_dec]
  refine ⟨fun hlt => ?_, fun hge => ?_⟩
  · have hil : i < s.length := by omega
    refine LETJ_intro fun J1 hJ1 => ?_
    replace hJ1 : ∀ acc' : Int, inI acc' → (∀ j (hj : j < s.length), signN s ≤ j → j < i + 1 → 48 ≤ s[j].toNat ∧ s[j].toNat ≤ 57) →
        (valD ((s.take (i + 1)).drop (signN s)) ≤ 9223372036854775808 → acc' = -(valD ((s.take (i + 1)).drop (signN s)) : Int)) → ∀ w', Rel B' w' [] → J1 (.int .i64 acc', ()) w' := fun acc' h1 h2 h3 w' h => by
      refine hJ1 _ _ ?_
      rw [bin_add, wrap_id (by omega) (by omega)]
      exact hnext _ _ ⟨i + 1, acc', hil, rfl, h1, h2, h3, h⟩ (by simp only; omega)
    clear hnext
    refine LETJ_intro fun J2 hJ2 => ?_
    replace hJ2 : signN s ≤ i → J2 () w1 := fun hsi => by
      refine hJ2 _ _ ?_
      have bad : ¬ (48 ≤ s[i].toNat ∧ s[i].toNat ≤ 57) → ∀ n, inI n → s ≠ Go.Lib.itoa n := by
        intro hb n hn e
        have h1 := sign_itoa (n := n)
        rw [← e] at h1
        apply hb
        have hm : s[i] ∈ s.drop (signN s) := List.mem_drop_iff_getElem.2 ⟨i - signN s, by omega, by congr 1; omega⟩
        rw [h1.2] at hm
        exact dec_digit _ _ hm
      simp -zeta only [hidx hil, bin_lss, bin_gtr, ifB_dec]
      refine ⟨fun c => no _ h (bad (by omega)), fun c1 => ⟨fun c => no _ h (bad (by omega)), fun c2 => ?_⟩⟩
      have h8 : IntKind.u8.wrap ((s[i].toNat : Int) - 48) = ((s[i].toNat - 48 : Nat) : Int) := by rw [IntWalk.u8_in _ (by omega)]; omega
      have h64 : IntKind.i64.wrap ((s[i].toNat - 48 : Nat) : Int) = ((s[i].toNat - 48 : Nat) : Int) := wrap_id (by omega) (by omega)
      simp -zeta only [bin_mul, bin_sub, h8, conv_int U_uint8 U_int, h64]
      have hsnoc : (s.take (i + 1)).drop (signN s) = (s.take i).drop (signN s) ++ [s[i]] := by
        rw [List.take_succ_eq_append_getElem hil, List.drop_append_of_le_length (by rw [List.length_take]; omega)]
      refine hJ1 _ (wrap_inI _) (fun j hj h1 h2 => ?_) (fun hv => ?_) _ h
      · by_cases e : j = i
        · subst e; exact ⟨by omega, by omega⟩
        · exact hdig j hj h1 (by omega)
      · rw [hsnoc, valD_snoc] at hv ⊢
        have := hval (by omega)
        subst this
        have e1 : IntKind.i64.wrap (-(valD ((s.take i).drop (signN s)) : Int) * 10) = -(valD ((s.take i).drop (signN s)) : Int) * 10 := wrap_id (by omega) (by omega)
        rw [e1, wrap_id (by omega) (by omega)]
        omega
    simp -zeta only [h0, bin_eql, ifB_dec]
    refine ⟨fun c0 => ⟨fun c45 => ?_, fun c45 => hJ2 (by rw [hsign, if_neg (by omega)]; omega)⟩, fun c0 => hJ2 (by omega)⟩
    have e0 : i = 0 := by omega
    subst e0
    rw [if_pos (by omega)] at hsign
    rw [hsign] at hJ1 hdig hval
    refine hJ1 acc hacc (fun j hj h1 h2 => by omega) (fun _ => ?_) _ h
    have e1 : (s.take (0 + 1)).drop 1 = [] := List.drop_of_length_le (by rw [List.length_take]; omega)
    rw [e1]
    exact hval (by rw [List.take_zero, List.drop_nil]; decide)
  · clear hnext
    obtain rfl : i = s.length := by omega
    rw [List.take_length] at hval
    have hn : ∀ n, inI n → s = Go.Lib.itoa n → acc = -(n.natAbs : Int) ∧ (n < 0 → signN s = 1) ∧ (0 ≤ n → signN s = 0) := by
      intro n h1 h2
      have h3 := sign_itoa (n := n)
      rw [← h2] at h3
      have h4 := h1.1
      have h5 := h1.2
      rw [h3.2, valD_dec] at hval
      exact ⟨hval (by omega), h3.1.1, h3.1.2⟩
    refine LETJ_intro fun J3 hJ3 => ?_
    replace hJ3 : ∀ v, inI v → (∀ n, inI n → s = Go.Lib.itoa n → v = n) → J3 (.int .i64 v, ()) w1 := by
      intro v hv hn
      refine hJ3 _ _ ?_
      refine h.ask (fun B2 own base2 => Decimal2_g hv) fun w5 h => ?_
      rw [neq_str, ifB_not, ifB_dec]
      refine ⟨fun c => ?_, fun c => no _ h fun n h1 h2 => c (by rw [← hn n h1 h2] at h2; rw [h2])⟩
      have c : Go.Lib.itoa v = s := by have := congrArg bl c; exact this
      rw [← c, intOf_itoa hv] at k
      exact k _ _ h
    simp -zeta only [h0, bin_neq, ifB_not, ifB_dec]
    refine ⟨fun c45 => ?_, fun c45 => ?_⟩
    · refine hJ3 acc hacc fun n h1 h2 => ?_
      obtain ⟨e1, _, e3⟩ := hn n h1 h2
      rw [if_pos (by omega)] at hsign
      by_cases hz : 0 ≤ n
      · have := e3 hz; omega
      · omega
    · rw [un_neg]
      refine hJ3 _ (wrap_inI _) fun n h1 h2 => ?_
      obtain ⟨e1, e2, _⟩ := hn n h1 h2
      rw [if_neg (by omega)] at hsign
      have h4 := h1.1
      have h5 := h1.2
      by_cases hz : n < 0
      · have := e2 hz; omega
      · rw [e1, wrap_id (by omega) (by omega)]; omega
/-! ### Quote and Unquote -/
set_option maxHeartbeats 1000000 in
theorem quote2_g {s : Bs} (hs : s.length ≤ 1099511627776) : Gives Tryz.prog B (sCall F_errataref02_Quote #[.string (ofL s)]) (.string (ofL (quoteS s))) := by
  refine Gives.intro fun B' w K base h k => ?_
  refine errataref02_Quote.up (errataref02_Quote.call ?_)
  unfold errataref02_Quote.pt
  have hall := flat_len escB s 4 fun c _ => escB_len c
  refine h.build1 (α := UInt8) 34 sl_s_uint8 (by decide) (fun v w1 h => ?_) rfl
  have h : Rel B' w1 [rowD T_uint8 v ([34] : Bs)] := h
  simp -zeta only [str_len U_string, bl_ofL]
  refine LOOP_intro (fun x w' => ∃ (i : Nat) (v : Value), i ≤ s.length ∧ x = (v, .int .i64 i, ()) ∧ Rel B' w' [rowD T_uint8 v (34 :: (s.take i).flatMap escB)]) (fun x _ => s.length - (match x.2.1 with | .int _ n => n.toNat | _ => 0))
    ⟨0, v, Nat.zero_le _, rfl, h⟩ ?_
  clear h
  rintro x w2 ⟨i, v, hi, rfl, h⟩ next hnext
  simp -zeta only [bin_lss, ifB_dec]
  refine ⟨fun hlt => ?_, fun hge => ?_⟩
  · have hil : i < s.length := by omega
    have hstep := flat_take_succ escB hil
    have hle := flat_take_le escB s (i + 1)
    rw [hstep, List.length_append] at hle
    have hel := escB_len s[i]
    refine LETJ_intro fun J1 hJ1 => ?_
    replace hJ1 : ∀ v' w', Rel B' w' [rowD T_uint8 v' (34 :: (s.take i).flatMap escB ++ escB s[i])] → J1 (v', ()) w' := by
      intro v' w' h
      refine hJ1 _ _ ?_
      rw [bin_add, wrap_id (by omega) (by omega)]
      refine hnext _ _ ⟨i + 1, v', hil, rfl, ?_⟩ (by simp only; omega)
      rw [hstep]
      exact h
    clear hnext
    have hidx : ∀ {Kp : Value → Prop}, pureK Tryz.prog (sIdx T_string (.string (ofL s)) (.int .i64 i)) Kp = Kp (.int .u8 s[i].toNat) := fun {Kp} => str_idx (P := Tryz.prog) (Kp := Kp) U_string (show i < (ofL s).size by rw [ofL_size]; exact hil)
    rw [hidx]
    generalize hc : s[i] = c at *
    have hcl : c.toNat < 256 := c.toNat_lt
    have hsz : (34 :: (s.take i).flatMap escB).length ≤ 8796093022208 := by rw [List.length_cons]; omega
    generalize (34 :: (s.take i).flatMap escB) = pre at *
    have put : ∀ (l : Bs) (t : Value) (w' : World), escB c = l → l.length ≤ 4 → Rel B' w' [rowD T_uint8 v pre, rowD T_uint8 t l] → upK Tryz.prog (sBlt .append #[T_s_uint8, T_s_uint8] T_s_uint8 #[false, false] #[v, t]) w' fun t25 w5 => J1 (t25, ()) w5 := fun l t w' he hl h => by
      refine h.append (α := UInt8) 0 rfl sl_s_uint8 (l2 := l) (Rd.at 1 (E := T_uint8) rfl (by decide)) (by omega) (by omega) fun v' w'' h => ?_
      refine hJ1 _ _ ?_
      rw [he]
      exact h.take 1
    have two : escB c = [92, c] → upK Tryz.prog (sBuildSlice T_s_uint8 2 #[(0, (.int .u8 92)), (1, (.int .u8 c.toNat))]) w2 fun t24 w4 =>
      upK Tryz.prog (sBlt .append #[T_s_uint8, T_s_uint8] T_s_uint8 #[false, false] #[v, t24]) w4 fun t25 w5 => J1 (t25, ()) w5 := fun he => by
      refine h.buildN (α := UInt8) [92, c] sl_s_uint8 (fun t w4 h => ?_) rfl (by decide) (by decide) rfl
      exact put _ t _ he (by simp) h
    rw [bin_eql, ifB_dec]
    refine ⟨fun c1 => two (by unfold escB; rw [if_pos (.inl (by omega))]), fun c1 => ?_⟩
    rw [bin_eql, ifB_dec]
    refine ⟨fun c2 => two (by unfold escB; rw [if_pos (.inr (by omega))]), fun c2 => ?_⟩
    clear two
    have h12 : ¬ (c.toNat = 34 ∨ c.toNat = 92) := by omega
    rw [bin_eql, ifB_dec]
    refine ⟨fun c3 => ?_, fun c3 => ?_⟩
    · refine h.buildN (α := UInt8) [92, 110] sl_s_uint8 (fun t w4 h => ?_) rfl (by decide) (by decide) rfl
      exact put _ t _ (by unfold escB; rw [if_neg h12, if_pos (by omega)]) (by simp) h
    have h3 : ¬ c.toNat = 10 := by omega
    have hex : ¬ (32 ≤ c.toNat ∧ c.toNat ≤ 126) →
        pureK Tryz.prog (sBin .quo T_uint8 (.tmp 38) (.const (.int .u8 16)) (.int .u8 c.toNat) (.int .u8 16)) fun t39 =>
         pureK Tryz.prog (sIdx T_string (.string ⟨#[48, 49, 50, 51, 52, 53, 54, 55, 56, 57, 97, 98, 99, 100, 101, 102]⟩) t39) fun t40 =>
         pureK Tryz.prog (sBin .rem T_uint8 (.tmp 41) (.const (.int .u8 16)) (.int .u8 c.toNat) (.int .u8 16)) fun t42 =>
         pureK Tryz.prog (sIdx T_string (.string ⟨#[48, 49, 50, 51, 52, 53, 54, 55, 56, 57, 97, 98, 99, 100, 101, 102]⟩) t42) fun t43 =>
         upK Tryz.prog (sBuildSlice T_s_uint8 4 #[(0, (.int .u8 92)), (1, (.int .u8 120)), (2, t40), (3, t43)]) (tick w2) fun t44 w10 =>
         upK Tryz.prog (sBlt .append #[T_s_uint8, T_s_uint8] T_s_uint8 #[false, false] #[v, t44]) w10 fun t45 w11 => J1 (t45, ()) w11 := by
      intro hn
      have e1 : IntKind.u8.wrap ((c.toNat : Int).tdiv 16) = ((c.toNat / 16 : Nat) : Int) := by
        rw [Int.tdiv_eq_ediv_of_nonneg (by omega), IntWalk.u8_in _ (by omega)]
        omega
      have e2 : (c.toNat : Int).tmod 16 = ((c.toNat % 16 : Nat) : Int) := by
        rw [Int.tmod_eq_emod_of_nonneg (by omega)]
        omega
      rw [bin_quo (show (16 : Int) ≠ 0 by decide), e1, hex_at (by omega), bin_rem (show (16 : Int) ≠ 0 by decide), e2, hex_at (by omega)]
      have h := h.tick
      refine h.buildN (α := UInt8) [92, 120, hexd (c.toNat / 16), hexd (c.toNat % 16)] sl_s_uint8 (fun t w4 h => ?_) rfl (by decide) (by decide) rfl
      exact put _ t _ (by unfold escB; rw [if_neg h12, if_neg h3, if_neg hn]) (by simp) h
    rw [bin_lss, ifB_dec]
    refine ⟨fun c4 => hex (fun hh => by omega), fun c4 => ?_⟩
    rw [bin_gtr, ifB_dec]
    refine ⟨fun c5 => hex (fun hh => by omega), fun c5 => ?_⟩
    refine h.build1 (α := UInt8) c sl_s_uint8 (by decide) (fun t w10 h => ?_) rfl
    exact put _ t _ (by unfold escB; rw [if_neg h12, if_neg h3, if_pos ⟨by omega, by omega⟩]) (by simp) h
  · have hie : i = s.length := by omega
    subst hie
    rw [List.take_length] at h
    refine h.push1 (α := UInt8) 0 rfl 34 sl_s_uint8 (by decide) (by rw [List.length_cons]; omega) (by rw [List.length_cons]; omega) fun v' w7 h => ?_
    have h : Rel B' w7 [rowD T_uint8 v' (quoteS s)] := h
    refine h.toStr (Rd.at 0 rfl) U_s_uint8 U_uint8 U_string ?_
    exact k _ _ h
theorem digit_g (c : UInt8) : Gives Tryz.prog B (sCall F_errataref02_digit #[.int .u8 c.toNat]) (.int .u8 (digV c)) := by
  refine Gives.intro fun B' w K base h k => ?_
  refine errataref02_digit.up (errataref02_digit.call ?_)
  unfold errataref02_digit.pt
  refine LOOP_intro (fun x w' => ∃ i : Nat, i ≤ 16 ∧ x = (.int .i64 i, ()) ∧ (∀ j, j < i → hexd j ≠ c) ∧ Rel B' w' []) (fun x _ => 16 - (match x.1 with | .int _ n => n.toNat | _ => 0))
    ⟨0, Nat.zero_le _, rfl, fun j hj => absurd hj (Nat.not_lt_zero j), h⟩ ?_
  clear h
  rintro x w1 ⟨i, hi, rfl, hin, h⟩ next hnext
  have hat : ∀ j (hj : j < 16), hexL[j]'hj = hexd j := fun j hj => by
    unfold hexd
    rw [List.getD_eq_getElem?_getD, List.getElem?_eq_getElem (show j < hexL.length from hj)]; rfl
  rw [bin_lss, ifB_dec]
  refine ⟨fun hlt => ?_, fun hge => ?_⟩
  · have hi16 : i < 16 := by omega
    have hx : ∀ {Kp : Value → Prop}, pureK Tryz.prog (sIdx T_string (.string ⟨#[48, 49, 50, 51, 52, 53, 54, 55, 56, 57, 97, 98, 99, 100, 101, 102]⟩) (.int .i64 i)) Kp = Kp (.int .u8 (hexd i).toNat) := fun {Kp} => by
      have h := str_idx (P := Tryz.prog) (Kp := Kp) (s := ofL hexL) (T := T_string) (i := i) U_string (by rw [ofL_size]; exact hi16)
      have e : (bl (ofL hexL))[i]'(by rw [bl_ofL]; exact hi16) = hexd i := hat i hi16
      rw [e] at h
      exact h
    rw [hx, bin_eql, ifB_dec]
    refine ⟨fun c1 => ?_, fun c1 => ?_⟩
    · have e : hexd i = c := UInt8.toNat_inj.1 (by omega)
      have : digV c = i := by
        unfold digV
        have : hexL.findIdx? (· == c) = some i := by
          rw [List.findIdx?_eq_some_iff_getElem]
          refine ⟨hi16, beq_iff_eq.2 ((hat i hi16).trans e), fun j hj hb => ?_⟩
          exact hin j hj ((hat j (by omega)).symm.trans (beq_iff_eq.1 hb))
        rw [this]
      rw [conv_int U_int U_uint8, IntWalk.u8_in _ (by omega)]
      rw [this] at k
      exact k _ _ h
    · rw [bin_add, wrap_id (by omega) (by omega)]
      refine hnext _ _ ⟨i + 1, hi16, rfl, fun j hj => ?_, h⟩ (by simp only; omega)
      by_cases e : j = i
      · subst e; exact fun hh => c1 (by rw [hh])
      · exact hin j (by omega)
  · have : digV c = 0 := by
      unfold digV
      have : hexL.findIdx? (· == c) = none := List.findIdx?_eq_none_iff.2 fun x hx => by
        obtain ⟨j, hj, rfl⟩ := List.getElem_of_mem hx
        refine beq_eq_false_iff_ne.2 fun hh => ?_
        exact hin j (by have : j < 16 := hj; omega) ((hat j hj).symm.trans hh)
      rw [this]
    rw [this] at k
    exact k _ _ h
set_option maxHeartbeats 2000000 in
theorem unquote2_r {s : Bs} (hs : s.length ≤ 1099511627776) : Gives Tryz.prog B (sCall F_errataref02_Unquote #[.string (ofL s)]) (.tuple #[.string (ofL ((unquoteS s).getD [])), .bool (unquoteS s).isSome]) := by
  refine Gives.intro fun B' w K base h k => ?_
  refine errataref02_Unquote.up (errataref02_Unquote.call ?_)
  unfold errataref02_Unquote.pt
  have hlen : ∀ {K : Value → Prop} {w : World}, readK Tryz.prog (sBlt .len #[T_string] T_int #[false] #[.string (ofL s)]) w K = K (.int .i64 s.length) := fun {K w} => by rw [str_len U_string, bl_ofL]
  have hw1 : IntKind.i64.wrap ((s.length : Int) - 1) = (s.length : Int) - 1 := wrap_id (by omega) (by omega)
  refine LETJ_intro fun J1 hJ1 => ?_
  replace hJ1 : ∀ v w', Rel B' w' [rowD T_uint8 v (unq2 (bodyQ s))] → (unq2 (bodyQ s)).length ≤ s.length → J1 (v, ()) w' := fun v w' h hle => by
    refine hJ1 _ _ ?_
    refine h.toStr (Rd.at 0 rfl) U_s_uint8 U_uint8 U_string ?_
    refine h.ask (fun B2 own base2 => quote2_g (by omega)) fun w14 h => ?_
    rw [neq_str, ifB_not, ifB_dec]
    rw [unquote2] at k
    refine ⟨fun c => ?_, fun c => ?_⟩
    · have c : quoteS (unq2 (bodyQ s)) = s := by have := congrArg bl c; exact this
      rw [if_pos c] at k
      refine h.toStr (Rd.at 0 rfl) U_s_uint8 U_uint8 U_string ?_
      exact k _ _ h
    · rw [if_neg (fun hh => c (by rw [hh]))] at k
      exact k _ _ h
  have h := h.addNil UInt8 T_uint8
  refine LOOP_intro (fun x w' => ∃ (i : Nat) (out : Bs) (v : Value), 1 ≤ i ∧ i ≤ s.length + 1 ∧ x = (.int .i64 i, v, ()) ∧ out.length + 1 ≤ i ∧ out ++ unq2 (restQ s i) = unq2 (bodyQ s) ∧ Rel B' w' [rowD T_uint8 v out]) (fun x _ => s.length + 1 - (match x.1 with | .int _ n => n.toNat | _ => 0))
    ⟨1, [], .slice none 0 0, Nat.le_refl _, by omega, rfl, by simp, by unfold restQ bodyQ; rw [List.nil_append, Nat.sub_sub], h⟩ ?_
  clear h
  rintro x w2 ⟨i, out, v, hi1, hi, rfl, hol, hinv, h⟩ next hnext
  simp -zeta only [hlen, bin_sub]
  rw [hw1, bin_lss, ifB_dec]
  refine ⟨fun hlt => ?_, fun hge => ?_⟩
  case refine_2 =>
    rw [restQ_nil (by omega)] at hinv
    rw [show unq2 [] = [] from rfl, List.append_nil] at hinv
    subst hinv
    exact hJ1 _ _ h (by omega)
  have hil : i + 1 < s.length := by omega
  have hidx : ∀ {n : Nat} (hn : n < s.length) {Kp : Value → Prop}, pureK Tryz.prog (sIdx T_string (.string (ofL s)) (.int .i64 n)) Kp = Kp (.int .u8 s[n].toNat) := fun {n} hn {Kp} => str_idx (P := Tryz.prog) (Kp := Kp) U_string (show n < (ofL s).size by rw [ofL_size]; exact hn)
  have hrest := restQ_cons hil
  rw [hrest] at hinv
  have e1 : IntKind.i64.wrap ((i : Int) + 1) = ((i + 1 : Nat) : Int) := by rw [wrap_id (by omega) (by omega)]; omega
  rw [hidx (by omega), bin_add, e1]
  clear hJ1
  refine LETJ_intro fun J2 hJ2 => ?_
  have wr : ∀ (j : Nat) (c : UInt8), i ≤ j → j ≤ s.length → unq2 (s[i] :: restQ s (i + 1)) = c :: unq2 (restQ s (j + 1)) → ∀ w', Rel B' w' [rowD T_uint8 v out] → J2 (.int .u8 c.toNat, .int .i64 ((j + 1 : Nat) : Int), ()) w' := by
    intro j c hij hj he w' h
    refine hJ2 _ _ ?_
    refine h.push1 (α := UInt8) 0 rfl c sl_s_uint8 (by decide) (by omega) (by omega) fun v' w7 h => ?_
    refine hnext _ _ ⟨j + 1, out ++ [c], v', by omega, by omega, rfl, by rw [List.length_append, List.length_singleton]; omega, ?_, h⟩ (by simp only; omega)
    rw [List.append_assoc, List.singleton_append, ← he]
    exact hinv
  clear hnext hJ2 hinv
  have eq8 : ∀ (c : UInt8) (n : UInt8), ((c.toNat : Int) = (n.toNat : Int)) ↔ c = n := fun c n => ⟨fun h => UInt8.toNat_inj.1 (by omega), fun h => by rw [h]⟩
  rw [bin_eql, ifB_dec]
  refine ⟨fun c1 => ?_, fun c1 => wr i s[i] (Nat.le_refl _) (by omega) (unq2_plain (fun hh => c1 (by rw [hh]; rfl)) _) _ h⟩
  have hc1 : s[i] = 92 := (eq8 _ 92).1 c1
  rw [bin_lss, ifB_dec]
  refine ⟨fun c2 => ?_, fun c2 => ?_⟩
  case refine_2 =>
    refine wr i s[i] (Nat.le_refl _) (by omega) ?_ _ h
    rw [restQ_nil (i := i + 1) (by omega), hc1]
    rfl
  have hil2 : i + 2 < s.length := by omega
  rw [restQ_cons (i := i + 1) (by omega), hc1] at wr
  have e2 : IntKind.i64.wrap (((i + 1 : Nat) : Int) + 1) = ((i + 1 + 1 : Nat) : Int) := by rw [wrap_id (by omega) (by omega)]; omega
  rw [hidx (n := i + 1) (by omega), bin_add, e2, bin_eql, ifB_dec]
  refine ⟨fun c3 => ?_, fun c3 => ?_⟩
  · have hd : s[i + 1] = 110 := (eq8 _ 110).1 c3
    exact wr (i + 1) 10 (by omega) (by omega) (by rw [hd]; exact unq2_n _) _ h
  have hd3 : s[i + 1] ≠ 110 := fun hh => c3 (by rw [hh]; rfl)
  rw [bin_eql, ifB_dec]
  refine ⟨fun c4 => ?_, fun c4 => ?_⟩
  case refine_2 =>
    have hd4 : s[i + 1] ≠ 120 := fun hh => c4 (by rw [hh]; rfl)
    exact wr (i + 1) s[i + 1] (by omega) (by omega) (unq2_other hd3 hd4 _) _ h
  have hd : s[i + 1] = 120 := (eq8 _ 120).1 c4
  have e3 : IntKind.i64.wrap (((i + 1 + 1 : Nat) : Int) + 1) = ((i + 3 : Nat) : Int) := by rw [wrap_id (by omega) (by omega)]; omega
  have e4 : IntKind.i64.wrap (((i + 1 + 1 : Nat) : Int) + 2) = ((i + 3 + 1 : Nat) : Int) := by rw [wrap_id (by omega) (by omega)]; omega
  simp -zeta only [bin_add, e3, e4, bin_lss]
  rw [ifB_dec]
  refine ⟨fun c5 => ?_, fun c5 => ?_⟩
  case refine_2 =>
    have hr := restQ_len s (i + 1 + 1)
    refine wr (i + 1) s[i + 1] (by omega) (by omega) ?_ _ h
    rw [hd]
    exact unq2_x1 (by omega)
  have h := h.tick
  simp -zeta only [hidx (show i + 1 + 1 < s.length by omega), hidx (show i + 3 < s.length by omega)]
  refine h.ask (fun B2 own base2 => digit_g s[i + 1 + 1]) fun w7 h => ?_
  have hd1 := digV_lt s[i + 1 + 1]
  have hd2 := digV_lt s[i + 3]
  have e5 : IntKind.u8.wrap ((digV s[i + 1 + 1] : Int) * 16) = ((digV s[i + 1 + 1] * 16 : Nat) : Int) := by rw [IntWalk.u8_in _ (by omega)]; omega
  rw [bin_mul, e5]
  refine h.ask (fun B2 own base2 => digit_g s[i + 3]) fun w8 h => ?_
  have e6 : IntKind.u8.wrap (((digV s[i + 1 + 1] * 16 : Nat) : Int) + (digV s[i + 3] : Int)) = ((hexW s[i + 1 + 1] s[i + 3]).toNat : Int) := by
    rw [IntWalk.u8_in _ (by omega)]
    unfold hexW
    rw [UInt8.toNat_ofNat', Nat.mod_eq_of_lt (by omega)]; omega
  rw [bin_add, e6]
  exact wr (i + 3) (hexW s[i + 1 + 1] s[i + 3]) (by omega) (by omega) (by
    rw [hd, restQ_cons (i := i + 1 + 1) (by omega), restQ_cons (i := i + 1 + 1 + 1) (by omega)]
    exact unq2_x _ _ _) _ h
end
end Go.Proofs.YtifhbaphlmhoeaaGreatDoor
