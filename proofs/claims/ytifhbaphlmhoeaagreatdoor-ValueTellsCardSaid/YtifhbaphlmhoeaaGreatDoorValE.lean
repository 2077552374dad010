/-
  Where a value's text ends. No condition.
-/
import Derived.Test.YtifhbaphlmhoeaaGreatDoorValP
--@auto
namespace Go.Proofs.YtifhbaphlmhoeaaGreatDoor
open Go.RowKit
set_option maxRecDepth 100000

/-- Where a value's text ends. -/
def endS (s : Bs) : Int := if s.head? = some 34 then ((1 + endQ s.tail : Nat) : Int) else Go.Lib.indexByte (s ++ [44]) 44
theorem endQ_nil : endQ [] = 0 := by simp [endQ]
theorem endQ_esc (c : UInt8) (r : Bs) : endQ (92 :: c :: r) = endQ r + 2 := by simp [endQ]
theorem endQ_last : endQ [92] = 1 := by simp [endQ]
theorem endQ_quote (r : Bs) : endQ (34 :: r) = 1 := by
  conv => lhs; unfold endQ
  simp only [if_neg (show ¬ (34 : UInt8) = 92 by decide), if_true]
theorem endQ_other {c : UInt8} (h1 : c ≠ 92) (h2 : c ≠ 34) (r : Bs) : endQ (c :: r) = endQ r + 1 := by
  conv => lhs; unfold endQ
  simp only [if_neg h1, if_neg h2]
section
variable {B : Base} {w : World} {σ : List Dat}
theorem end_g {s : Bs} (hs : s.length ≤ 1099511627776) : Gives Tryz.prog B (sCall F_value_end #[.string (ofL s)]) (.int .i64 (endS s)) := by
  refine Gives.intro fun B' w K base h k => ?_
  refine value_end.up (value_end.call ?_)
  unfold value_end.pt
  have eq8 : ∀ (c : UInt8) (n : UInt8), ((c.toNat : Int) = (n.toNat : Int)) ↔ c = n := fun c n => ⟨fun h => UInt8.toNat_inj.1 (by omega), fun h => by rw [h]⟩
  have hix : ∀ {w : World}, Rel B' w [] → s.head? ≠ some 34 → upK Tryz.prog (sCall F_strings_IndexByte #[.string (ofL s ++ ofL [44]), .int .u8 44]) w K := fun {w} h hh => by
    refine h.ask (v := .int .i64 (endS s)) (fun B2 own base2 => ?_) fun w3 h => k _ _ h
    have := index_g (B := B2) (ofL s ++ ofL [44]) 44
    unfold endS
    rw [if_neg hh]
    rw [show bl (ofL s ++ ofL [44]) = s ++ [44] by rw [ofL_app, bl_ofL]] at this
    exact this
  rw [eql_str, ifB_dec]
  refine ⟨fun c0 => ?_, fun c0 => ?_⟩
  · rw [str_add (by rw [ofL_size]; have : (ByteArray.mk #[44]).size = 1 := rfl
                    omega)]
    exact hix h (by have : s = [] := by have := congrArg bl c0; exact this
                    rw [this]; simp)
  have hne : s ≠ [] := fun hh => c0 (by rw [hh])
  have hpos : 0 < s.length := List.length_pos_iff.2 hne
  have hidx : ∀ {n : Nat} (hn : n < s.length) {Kp : Value → Prop}, pureK Tryz.prog (sIdx T_string (.string (ofL s)) (.int .i64 n)) Kp = Kp (.int .u8 s[n].toNat) := fun {n} hn {Kp} => str_idx (P := Tryz.prog) (Kp := Kp) U_string (show n < (ofL s).size by rw [ofL_size]; exact hn)
  have hlen : ∀ {K : Value → Prop} {w : World}, readK Tryz.prog (sBlt .len #[T_string] T_int #[false] #[.string (ofL s)]) w K = K (.int .i64 s.length) := fun {K w} => by rw [str_len U_string, bl_ofL]
  have h0 : ∀ {Kp : Value → Prop}, pureK Tryz.prog (sIdx T_string (.string (ofL s)) (.int .i64 0)) Kp = Kp (.int .u8 s[0].toNat) := fun {Kp} => hidx (n := 0) hpos
  have hhead : s.head? = some s[0] := by rw [List.head?_eq_getElem?, List.getElem?_eq_getElem hpos]
  rw [h0, bin_neq, ifB_not, ifB_dec]
  refine ⟨fun c1 => ?_, fun c1 => ?_⟩
  case refine_2 =>
    rw [str_add (by rw [ofL_size]; have : (ByteArray.mk #[44]).size = 1 := rfl
                    omega)]
    exact hix h (by rw [hhead]; exact fun hh => c1 (by injection hh with hh; rw [hh]; rfl))
  have hq : s[0] = 34 := (eq8 _ 34).1 c1
  have hend : endS s = ((1 + endQ (s.drop 1) : Nat) : Int) := by
    unfold endS
    rw [if_pos (by rw [hhead, hq]), List.drop_one]
  rw [hend] at k
  clear hix h0
  refine LOOP_intro (fun x w' => ∃ i : Nat, 1 ≤ i ∧ x = (.int .i64 i, ()) ∧ ((i ≤ s.length ∧ i + endQ (s.drop i) = 1 + endQ (s.drop 1)) ∨ (i = s.length + 1 ∧ s.length = 1 + endQ (s.drop 1))) ∧ Rel B' w' []) (fun x _ => s.length + 1 - (match x.1 with | .int _ n => n.toNat | _ => 0))
    ⟨1, Nat.le_refl _, rfl, .inl ⟨hpos, rfl⟩, h⟩ ?_
  clear h
  rintro x w2 ⟨i, hi1, rfl, hinv, h⟩ next hnext
  simp -zeta only [hlen, bin_lss]
  rw [ifB_dec]
  refine ⟨fun hlt => ?_, fun hge => ?_⟩
  case refine_2 =>
    have : s.length = 1 + endQ (s.drop 1) := by
      rcases hinv with ⟨h1, h2⟩ | ⟨_, h2⟩
      · rw [List.drop_of_length_le (show s.length ≤ i by omega), endQ_nil] at h2
        omega
      · exact h2
    rw [← this] at k
    exact k _ _ h
  have hil : i < s.length := by omega
  replace hinv : i + endQ (s.drop i) = 1 + endQ (s.drop 1) := by
    rcases hinv with ⟨_, h2⟩ | ⟨h1, _⟩
    · exact h2
    · omega
  rw [List.drop_eq_getElem_cons hil] at hinv
  refine LETJ_intro fun J1 hJ1 => ?_
  replace hJ1 : ∀ (j : Nat), i ≤ j → ((j + 1 ≤ s.length ∧ j + 1 + endQ (s.drop (j + 1)) = 1 + endQ (s.drop 1)) ∨ (j + 1 = s.length + 1 ∧ s.length = 1 + endQ (s.drop 1))) → ∀ w', Rel B' w' [] → J1 (.int .i64 j, ()) w' := by
    intro j hij hu w' h
    refine hJ1 _ _ ?_
    have hj : j ≤ s.length := by omega
    rw [bin_add, wrap_id (by omega) (by omega)]
    exact hnext _ _ ⟨j + 1, by omega, rfl, hu, h⟩ (by simp only; omega)
  rw [hidx hil, bin_eql, ifB_dec]
  refine ⟨fun c2 => ?_, fun c2 => ?_⟩
  · have hc : s[i] = 92 := (eq8 _ 92).1 c2
    rw [hc] at hinv
    rw [bin_add, wrap_id (by omega) (by omega)]
    refine hJ1 (i + 1) (by omega) ?_ _ h
    by_cases hl : i + 1 < s.length
    · rw [List.drop_eq_getElem_cons hl, endQ_esc] at hinv
      exact .inl ⟨by omega, by omega⟩
    · rw [List.drop_of_length_le (show s.length ≤ i + 1 by omega), endQ_last] at hinv
      exact .inr ⟨by omega, by omega⟩
  rw [bin_eql, ifB_dec]
  refine ⟨fun c3 => ?_, fun c3 => ?_⟩
  · have hc : s[i] = 34 := (eq8 _ 34).1 c3
    rw [hc, endQ_quote] at hinv
    rw [bin_add, wrap_id (by omega) (by omega)]
    rw [← hinv] at k
    exact k _ _ h
  · rw [endQ_other (fun hh => c2 (by rw [hh]; rfl)) (fun hh => c3 (by rw [hh]; rfl))] at hinv
    exact hJ1 i (Nat.le_refl _) (.inl ⟨by omega, by omega⟩) _ h
end
end Go.Proofs.YtifhbaphlmhoeaaGreatDoor
