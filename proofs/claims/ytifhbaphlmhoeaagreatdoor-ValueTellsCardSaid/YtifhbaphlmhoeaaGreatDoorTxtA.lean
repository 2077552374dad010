/-
  text: Quote. No condition.
-/
import Derived.Test.YtifhbaphlmhoeaaGreatDoorWireBld
import Derived.Test.YtifhbaphlmhoeaaGreatDoorWireB
--@auto
namespace Go.Proofs.YtifhbaphlmhoeaaGreatDoor
open Go.RowKit
set_option maxRecDepth 100000

def hexL : Bs := [48, 49, 50, 51, 52, 53, 54, 55, 56, 57, 97, 98, 99, 100, 101, 102]
def hexd (n : Nat) : UInt8 := hexL.getD n 0
def escB (c : UInt8) : Bs := if c.toNat = 34 ∨ c.toNat = 92 then [92, c] else if c.toNat = 10 then [92, 110] else if 32 ≤ c.toNat ∧ c.toNat ≤ 126 then [c] else [92, 120, hexd (c.toNat / 16), hexd (c.toNat % 16)]
def quoteS (s : Bs) : Bs := 34 :: (s.flatMap escB ++ [34])
theorem escB_len (c : UInt8) : (escB c).length ≤ 4 := by
  unfold escB
  split
  · simp
  · split
    · simp
    · split <;> simp
section
variable {B : Base} {w : World} {σ : List Dat}
theorem str_idxK {P : Program} {Kp : Value → Prop} {T : TypeId} {s : ByteArray} {k : IntKind} {i : Nat} (hT : P.underlying T = some .string) (hi : i < s.size) : pureK P (sIdx T (.string s) (.int k i)) Kp = Kp (.int .u8 ((bl s)[i]'(by rw [bl_length]; exact hi)).toNat) := pureK_eq fun w => by
  refine vN_run ?_
  have h0 : (0 : Int) ≤ i := by omega
  have hg : s[i]? = some ((bl s)[i]'(by rw [bl_length]; exact hi)) := by
    rw [getElem?_pos s i hi]
    congr 1
  simp [Instr.index, asIntOf, run_underlying hT, hg]
theorem hex_at {n : Nat} (hn : n < 16) {Kp : Value → Prop} : pureK Tryz.prog (sIdx T_string (.string ⟨#[48, 49, 50, 51, 52, 53, 54, 55, 56, 57, 97, 98, 99, 100, 101, 102]⟩) (.int .u8 n)) Kp = Kp (.int .u8 (hexd n).toNat) := by
  have h := str_idxK (P := Tryz.prog) (Kp := Kp) (s := ofL hexL) (T := T_string) (k := .u8) (i := n) U_string (by rw [ofL_size]; exact hn)
  have e : (bl (ofL hexL))[n]'(by rw [bl_ofL]; exact hn) = hexd n := by
    unfold hexd
    rw [List.getD_eq_getElem?_getD, List.getElem?_eq_getElem (show n < hexL.length from hn)]
    rfl
  rw [e] at h
  exact h
set_option maxHeartbeats 1000000 in
theorem quote_g {s : Bs} (hs : s.length ≤ 1099511627776) : Gives Tryz.prog B (sCall F_text_Quote #[.string (ofL s)]) (.string (ofL (quoteS s))) := by
  refine Gives.introB fun B' w K base h start k => ?_
  refine text_Quote.up (text_Quote.call ?_)
  unfold text_Quote.pt
  have hall := flat_len escB s 4 fun c _ => escB_len c
  refine h.alloc z_strings_Builder fun b w1 h => ?_
  have h := start w1 b h
  refine h.bldByte (c := 34) (Nat.le_refl _) (by rw [List.length_nil]; omega) fun w2 h => ?_
  have h : Rel B' w2 [bldD B'.W.heap.size b [34]] := h
  simp -zeta only [str_len U_string, bl_ofL]
  refine LOOP_intro (fun x w' => ∃ i : Nat, i ≤ s.length ∧ x = (.int .i64 i, ()) ∧ Rel B' w' [bldD B'.W.heap.size b (34 :: (s.take i).flatMap escB)]) (fun x _ => s.length - (match x.1 with | .int _ n => n.toNat | _ => 0))
    ⟨0, Nat.zero_le _, rfl, h⟩ ?_
  clear h
  rintro x w3 ⟨i, hi, rfl, h⟩ next hnext
  simp -zeta only [bin_lss, ifB_dec]
  refine ⟨fun hlt => ?_, fun hge => ?_⟩
  · have hil : i < s.length := by omega
    have hstep := flat_take_succ escB hil
    have hle := flat_take_le escB s (i + 1)
    rw [hstep, List.length_append] at hle
    have hel := escB_len s[i]
    refine LETJ_intro fun J1 hJ1 => ?_
    replace hJ1 : ∀ w', Rel B' w' [bldD B'.W.heap.size b (34 :: (s.take i).flatMap escB ++ escB s[i])] → J1 () w' := by
      intro w' h
      refine hJ1 _ _ ?_
      rw [bin_add, wrap_id (by omega) (by omega)]
      refine hnext _ _ ⟨i + 1, hil, rfl, ?_⟩ (by simp only; omega)
      rw [hstep]
      exact h
    clear hnext
    have hidx : ∀ {Kp : Value → Prop}, pureK Tryz.prog (sIdx T_string (.string (ofL s)) (.int .i64 i)) Kp = Kp (.int .u8 s[i].toNat) := fun {Kp} => str_idx (P := Tryz.prog) (Kp := Kp) U_string (show i < (ofL s).size by rw [ofL_size]; exact hil)
    rw [hidx]
    generalize hc : s[i] = c at *
    have hcl : c.toNat < 256 := c.toNat_lt
    have hsz : (34 :: (s.take i).flatMap escB).length ≤ 8796093022208 := by rw [List.length_cons]; omega
    generalize (34 :: (s.take i).flatMap escB) = pre at *
    have two : ∀ w', Rel B' w' [bldD B'.W.heap.size b pre] → (escB c = [92, c] → upK Tryz.prog (sCall F_strings_Builder_WriteByte #[.pointer (some ⟨b, 0, none⟩), .int .u8 92]) w' fun _ w5 => upK Tryz.prog (sCall F_strings_Builder_WriteByte #[.pointer (some ⟨b, 0, none⟩), .int .u8 c.toNat]) w5 fun _ w6 => J1 () w6) := by
      intro w' h he
      refine h.bldByte (c := 92) (Nat.le_refl _) (by omega) fun w5 h => ?_
      refine h.bldByte (c := c) (Nat.le_refl _) (by rw [List.length_append, List.length_singleton]; omega) fun w6 h => ?_
      refine hJ1 _ ?_
      rw [he]
      simpa using h
    simp -zeta only [bin_eql, bin_geq, bin_leq]
    rw [ifB_dec]
    refine ⟨fun c1 => two _ h (by unfold escB; rw [if_pos (.inl (by omega))]), fun c1 => ?_⟩
    rw [ifB_dec]
    refine ⟨fun c2 => two _ h (by unfold escB; rw [if_pos (.inr (by omega))]), fun c2 => ?_⟩
    clear two
    have h12 : ¬ (c.toNat = 34 ∨ c.toNat = 92) := by omega
    rw [ifB_dec]
    refine ⟨fun c3 => ?_, fun c3 => ?_⟩
    · refine h.bldWrite (s := ofL [92, 110]) (Nat.le_refl _) (by rw [ofL_size]; simp; omega) fun _ w9 h => ?_
      refine hJ1 _ ?_
      unfold escB
      rw [if_neg h12, if_pos (by omega)]
      exact h
    have h3 : ¬ c.toNat = 10 := by omega
    have hex : ∀ w', Rel B' w' [bldD B'.W.heap.size b pre] → ¬ (32 ≤ c.toNat ∧ c.toNat ≤ 126) →
        upK Tryz.prog (sCall F_strings_Builder_WriteString #[.pointer (some ⟨b, 0, none⟩), .string ⟨#[92, 120]⟩]) w' fun _ w11 =>
          pureK Tryz.prog (sBin .quo T_uint8 (.tmp 16) (.const (.int .u8 16)) (.int .u8 c.toNat) (.int .u8 16)) fun t17 =>
          pureK Tryz.prog (sIdx T_string (.string ⟨#[48, 49, 50, 51, 52, 53, 54, 55, 56, 57, 97, 98, 99, 100, 101, 102]⟩) t17) fun t18 =>
          upK Tryz.prog (sCall F_strings_Builder_WriteByte #[.pointer (some ⟨b, 0, none⟩), t18]) w11 fun _ w12 =>
          pureK Tryz.prog (sBin .rem T_uint8 (.tmp 20) (.const (.int .u8 16)) (.int .u8 c.toNat) (.int .u8 16)) fun t21 =>
          pureK Tryz.prog (sIdx T_string (.string ⟨#[48, 49, 50, 51, 52, 53, 54, 55, 56, 57, 97, 98, 99, 100, 101, 102]⟩) t21) fun t22 =>
          upK Tryz.prog (sCall F_strings_Builder_WriteByte #[.pointer (some ⟨b, 0, none⟩), t22]) w12 fun _ w13 => J1 () w13 := by
      intro w' h hn
      refine h.bldWrite (s := ofL [92, 120]) (Nat.le_refl _) (by rw [ofL_size]; simp; omega) fun _ w9 h => ?_
      have h : Rel B' w9 [bldD B'.W.heap.size b (pre ++ [92, 120])] := h
      have e1 : IntKind.u8.wrap ((c.toNat : Int).tdiv 16) = ((c.toNat / 16 : Nat) : Int) := by
        rw [Int.tdiv_eq_ediv_of_nonneg (by omega), IntWalk.u8_in _ (by omega)]
        omega
      have e2 : (c.toNat : Int).tmod 16 = ((c.toNat % 16 : Nat) : Int) := by
        rw [Int.tmod_eq_emod_of_nonneg (by omega)]
        omega
      rw [bin_quo (show (16 : Int) ≠ 0 by decide), e1, hex_at (by omega)]
      refine h.bldByte (c := hexd (c.toNat / 16)) (Nat.le_refl _) (by rw [List.length_append]; simp; omega) fun w12 h => ?_
      rw [bin_rem (show (16 : Int) ≠ 0 by decide), e2, hex_at (by omega)]
      refine h.bldByte (c := hexd (c.toNat % 16)) (Nat.le_refl _) (by simp only [List.length_append]; simp; omega) fun w13 h => ?_
      refine hJ1 _ ?_
      unfold escB
      rw [if_neg h12, if_neg h3, if_neg hn]
      simpa using h
    rw [ifB_dec]
    refine ⟨fun c4 => ?_, fun c4 => hex _ h (fun hh => c4 (by omega))⟩
    rw [ifB_dec]
    refine ⟨fun c5 => ?_, fun c5 => hex _ h (fun hh => c5 (by omega))⟩
    refine h.bldByte (c := c) (Nat.le_refl _) (by omega) fun w10 h => ?_
    refine hJ1 _ ?_
    unfold escB
    rw [if_neg h12, if_neg h3, if_pos ⟨by omega, by omega⟩]
    exact h
  · refine h.bldByte (c := 34) (Nat.le_refl _) (by rw [List.length_cons]; have := flat_take_le escB s i; omega) fun w7 h => ?_
    refine h.bldString (Nat.le_refl _) fun w8 h => ?_
    have hie : i = s.length := by omega
    subst hie
    rw [List.take_length]
    exact k _ _ h
end
end Go.Proofs.YtifhbaphlmhoeaaGreatDoor
