/-
  text: Unquote's walk. No condition.
-/
import Derived.Test.YtifhbaphlmhoeaaGreatDoorTxtB
import Derived.Test.YtifhbaphlmhoeaaGreatDoorWireC
--@auto
namespace Go.Proofs.YtifhbaphlmhoeaaGreatDoor
open Go.RowKit
set_option maxRecDepth 100000

theorem u8_byte (x : Int) : IntKind.u8.wrap x = ((UInt8.ofNat (IntKind.u8.wrap x).toNat).toNat : Int) := by
  have h : 0 ≤ IntKind.u8.wrap x ∧ IntKind.u8.wrap x < 256 := by
    unfold IntKind.wrap
    simp [IntKind.signed, IntKind.bits]
    omega
  rw [UInt8.toNat_ofNat']
  omega
def restQ (s : Bs) (i : Nat) : Bs := (s.drop i).take (s.length - 1 - i)
theorem restQ_cons {s : Bs} {i : Nat} (h : i + 1 < s.length) : restQ s i = s[i] :: restQ s (i + 1) := by
  unfold restQ
  rw [List.drop_eq_getElem_cons (by omega), show s.length - 1 - i = (s.length - 1 - (i + 1)) + 1 by omega, List.take_succ_cons]
theorem restQ_nil {s : Bs} {i : Nat} (h : s.length ≤ i + 1) : restQ s i = [] := by
  unfold restQ
  rw [show s.length - 1 - i = 0 by omega, List.take_zero]
theorem restQ_len (s : Bs) (i : Nat) : (restQ s i).length ≤ s.length - 1 - i := by
  unfold restQ
  rw [List.length_take]
  omega
theorem unq_x1 {r : Bs} (h : r.length < 2) : unq (92 :: 120 :: r) = 120 :: unq r := by
  match r with
  | [] => simp [unq]
  | [a] => simp [unq]
  | a :: b :: r => simp at h; omega
section
variable {B : Base} {w : World} {σ : List Dat}
set_option maxHeartbeats 2000000 in
theorem unquote_r {s : Bs} (hs : s.length ≤ 1099511627776) : Gives Tryz.prog B (sCall F_text_Unquote #[.string (ofL s)]) (.tuple #[.string (ofL ((unquoteS s).getD [])), .bool (unquoteS s).isSome]) := by
  refine Gives.introB fun B' w K base h start k => ?_
  refine text_Unquote.up (text_Unquote.call ?_)
  unfold text_Unquote.pt
  refine h.alloc z_strings_Builder fun b w1 h => ?_
  have h := start w1 b h
  have hlen : ∀ {K : Value → Prop} {w : World}, readK Tryz.prog (sBlt .len #[T_string] T_int #[false] #[.string (ofL s)]) w K = K (.int .i64 s.length) := fun {K w} => by rw [str_len U_string, bl_ofL]
  refine LOOP_intro (fun x w' => ∃ (i : Nat) (out : Bs), 1 ≤ i ∧ i ≤ s.length + 1 ∧ x = (.int .i64 i, ()) ∧ out.length + 1 ≤ i ∧ out ++ unq (restQ s i) = unq (bodyQ s) ∧ Rel B' w' [bldD B'.W.heap.size b out]) (fun x _ => s.length + 1 - (match x.1 with | .int _ n => n.toNat | _ => 0))
    ⟨1, [], Nat.le_refl _, by omega, rfl, by simp, by unfold restQ bodyQ; rw [List.nil_append, Nat.sub_sub], h⟩ ?_
  clear h
  rintro x w2 ⟨i, out, hi1, hi, rfl, hol, hinv, h⟩ next hnext
  simp -zeta only [hlen, bin_sub]
  have hw1 : IntKind.i64.wrap ((s.length : Int) - 1) = (s.length : Int) - 1 := wrap_id (by omega) (by omega)
  rw [hw1, bin_lss, ifB_dec]
  refine ⟨fun hlt => ?_, fun hge => ?_⟩
  case refine_2 =>
    rw [restQ_nil (by omega)] at hinv
    rw [show unq [] = [] from rfl, List.append_nil] at hinv
    subst hinv
    refine h.bldString (Nat.le_refl _) fun w13 h => ?_
    refine h.ask (fun B2 own base2 => quote_g (by omega)) fun w14 h => ?_
    rw [neq_str, ifB_not, ifB_dec]
    unfold unquoteS at k
    refine ⟨fun c => ?_, fun c => ?_⟩
    · have c : quoteS (unq (bodyQ s)) = s := by have := congrArg bl c; exact this
      rw [if_pos c] at k
      exact h.bldString (Nat.le_refl _) fun w15 h => k _ _ h
    · rw [if_neg (fun hh => c (by rw [hh]))] at k
      exact k _ _ h
  have hil : i + 1 < s.length := by omega
  have hidx : ∀ {n : Nat} (hn : n < s.length) {Kp : Value → Prop}, pureK Tryz.prog (sIdx T_string (.string (ofL s)) (.int .i64 n)) Kp = Kp (.int .u8 s[n].toNat) := fun {n} hn {Kp} => str_idx (P := Tryz.prog) (Kp := Kp) U_string (show n < (ofL s).size by rw [ofL_size]; exact hn)
  have hrest := restQ_cons hil
  rw [hrest] at hinv
  refine LETJ_intro fun J1 hJ1 => ?_
  replace hJ1 : ∀ (j : Nat) (c : UInt8), i ≤ j → j + 1 ≤ s.length + 1 → (out ++ [c]) ++ unq (restQ s (j + 1)) = unq (bodyQ s) → ∀ w', Rel B' w' [bldD B'.W.heap.size b (out ++ [c])] → J1 (.int .i64 j, ()) w' := by
    intro j c hij hj hu w' h
    refine hJ1 _ _ ?_
    rw [bin_add, wrap_id (by omega) (by omega)]
    exact hnext _ _ ⟨j + 1, out ++ [c], by omega, hj, rfl, by rw [List.length_append, List.length_singleton]; omega, hu, h⟩ (by simp only; omega)
  clear hnext
  have wr : ∀ (j : Nat) (c : UInt8), i ≤ j → j + 1 ≤ s.length + 1 → unq (s[i] :: restQ s (i + 1)) = c :: unq (restQ s (j + 1)) → ∀ w', Rel B' w' [bldD B'.W.heap.size b out] → upK Tryz.prog (sCall F_strings_Builder_WriteByte #[.pointer (some ⟨b, 0, none⟩), .int .u8 c.toNat]) w' fun _ w5 => J1 (.int .i64 j, ()) w5 := by
    intro j c hij hj he w' h
    refine h.bldByte (c := c) (Nat.le_refl _) (by omega) fun w5 h => ?_
    refine hJ1 j c hij hj ?_ _ h
    rw [List.append_assoc, List.singleton_append, ← he]
    exact hinv
  clear hJ1 hinv
  have eq8 : ∀ (c : UInt8) (n : UInt8), ((c.toNat : Int) = (n.toNat : Int)) ↔ c = n := fun c n => ⟨fun h => UInt8.toNat_inj.1 (by omega), fun h => by rw [h]⟩
  rw [hidx (by omega), bin_neq, ifB_not, ifB_dec]
  refine ⟨fun c1 => ?_, fun c1 => ?_⟩
  case refine_2 =>
    rw [hidx (by omega)]
    exact wr i s[i] (Nat.le_refl _) (by omega) (unq_plain (fun hh => c1 (by rw [hh]; rfl)) _) _ h
  have hc1 : s[i] = 92 := (eq8 _ 92).1 c1
  rw [bin_add, wrap_id (n := (i : Int) + 1) (by omega) (by omega), bin_geq, ifB_dec]
  refine ⟨fun c2 => ?_, fun c2 => ?_⟩
  · rw [hidx (by omega)]
    refine wr i s[i] (Nat.le_refl _) (by omega) ?_ _ h
    rw [restQ_nil (i := i + 1) (by omega), hc1]
    rfl
  have hil2 : i + 2 < s.length := by omega
  have e1 : ((i : Int) + 1) = ((i + 1 : Nat) : Int) := by omega
  rw [restQ_cons (i := i + 1) (by omega), hc1] at wr
  rw [bin_add, wrap_id (n := (i : Int) + 1) (by omega) (by omega), e1]
  simp -zeta only [hidx (show i + 1 < s.length by omega), bin_eql]
  rw [ifB_dec]
  refine ⟨fun c3 => ?_, fun c3 => ?_⟩
  · have hd : s[i + 1] = 110 := (eq8 _ 110).1 c3
    exact wr (i + 1) 10 (by omega) (by omega) (by rw [hd]; exact unq_n _) _ h
  have hd3 : s[i + 1] ≠ 110 := fun hh => c3 (by rw [hh]; rfl)
  rw [ifB_dec]
  refine ⟨fun c4 => ?_, fun c4 => ?_⟩
  case refine_2 =>
    have hd4 : s[i + 1] ≠ 120 := fun hh => c4 (by rw [hh]; rfl)
    exact wr (i + 1) s[i + 1] (by omega) (by omega) (unq_other hd3 hd4 _) _ h
  have hd : s[i + 1] = 120 := (eq8 _ 120).1 c4
  have e2 : IntKind.i64.wrap (((i + 1 : Nat) : Int) + 2) = ((i + 3 : Nat) : Int) := by rw [wrap_id (by omega) (by omega)]; omega
  have e3 : IntKind.i64.wrap (((i + 1 : Nat) : Int) + 1) = ((i + 2 : Nat) : Int) := by rw [wrap_id (by omega) (by omega)]; omega
  simp -zeta only [bin_add, e2, e3, bin_lss]
  rw [ifB_dec]
  refine ⟨fun c5 => ?_, fun c5 => ?_⟩
  case refine_2 =>
    have hr := restQ_len s (i + 1 + 1)
    refine wr (i + 1) s[i + 1] (by omega) (by omega) ?_ _ h
    rw [hd]
    exact unq_x1 (by omega)
  have h := h.tick
  simp -zeta only [hidx (show i + 2 < s.length by omega), hidx (show i + 3 < s.length by omega)]
  refine h.ask (v := .int .i64 (Go.Lib.indexByte hexL s[i + 2])) (fun B2 own base2 => ?_) fun w7 h => ?_
  · have := index_g (B := B2) (ofL hexL) (s[i + 2].toNat : Int)
    rw [toU8] at this
    exact this
  rw [bin_shl (show (0 : Int) ≤ 4 by decide)]
  refine h.ask (v := .int .i64 (Go.Lib.indexByte hexL s[i + 3])) (fun B2 own base2 => ?_) fun w8 h => ?_
  · have := index_g (B := B2) (ofL hexL) (s[i + 3].toNat : Int)
    rw [toU8] at this
    exact this
  rw [bin_or, conv_int U_int U_uint8]
  have hv : IntKind.u8.wrap (IntKind.i64.wrap ((BitVec.ofInt IntKind.i64.bits (IntKind.i64.wrap (Go.Lib.indexByte hexL s[i + 2] * 2 ^ min (4 : Int).toNat IntKind.i64.bits)) ||| BitVec.ofInt IntKind.i64.bits (Go.Lib.indexByte hexL s[i + 3])).toNat : Int)) = ((hexV s[i + 2] s[i + 3]).toNat : Int) := u8_byte _
  have := wr (i + 3) (hexV s[i + 2] s[i + 3]) (by omega) (by omega) (by
    rw [hd, restQ_cons (i := i + 1 + 1) (by omega), restQ_cons (i := i + 1 + 1 + 1) (by omega)]
    exact unq_x _ _ _) _ h
  rw [← hv] at this
  exact this
end
end Go.Proofs.YtifhbaphlmhoeaaGreatDoor
