/-
  ValueMakes: what the law computes. No condition.
-/
import Derived.Test.YtifhbaphlmhoeaaDoorVaB
--@auto
namespace Go.Proofs.YtifhbaphlmhoeaaDoor
open Go.RowKit
set_option maxRecDepth 100000

theorem cmp_ints (a b : Int) : compareV (vInt a) (vInt b) = cmpI a b := by
  unfold compareV vInt
  simp only
  rw [if_neg (by simp [cmpI])]
  by_cases h : cmpI a b ≠ 0
  · rw [if_pos h]
  · rw [if_neg h, Classical.not_not.1 h]; rfl
theorem cmp_texts (s t : ByteArray) : compareV (vText s) (vText t) = Go.Lib.compareBytes (bl s) (bl t) := by
  unfold compareV vText
  simp only
  rw [if_neg (by simp [cmpI]), if_neg (by simp [cmpI])]
theorem str_less (s t : ByteArray) : Op.bytesLess s.toList t.toList = decide (Go.Lib.compareBytes (bl s) (bl t) < 0) := by
  rw [ByteArray.toList_eq, ByteArray.toList_eq]
  exact bytesLess_eq _ _
theorem lt_bool {p q : Prop} [Decidable p] [Decidable q] (h : p ↔ q) : (!(decide p == decide q)) = false := by
  simp [h]
section
variable {W : World} {w : World} {K : Value → World → Prop}
theorem valueMakes_pt {a b : Int} {s t : ByteArray} {r4 : Value} {l : List ValD} (hB : wireD (lawB W)) (ha : -9223372036854775808 ≤ a ∧ a ≤ 9223372036854775807) (hb : -9223372036854775808 ≤ b ∧ b ≤ 9223372036854775807) (ws : s.size ≤ maxLen) (wt : t.size ≤ maxLen) (r : rowR r4 l (lawB W)) (hl : l.length ≤ maxLen) (hok : ∀ v ∈ l, ok_api_Value W v)
    (fin : ∀ w' σ, Rel (lawB W) w' σ → K (.bool true) w') : erratalaw03_ValueMakes.pt (.int .i64 a) (.int .i64 b) (.string s) (.string t) r4 W K := by
  unfold erratalaw03_ValueMakes.pt
  have h := lawB.start W
  refine h.ask (fun B2 own base2 => small_g (base2 hB)) fun w1 h => ?_
  simp -zeta only [len_string U_string, bin_gtr, ifB_dec]
  refine ⟨fun _ => fin _ _ h, fun hs => ⟨fun _ => fin _ _ h, fun ht => ?_⟩⟩
  refine h.ask (fun B2 own base2 => short_g (base2 r) hl 15) fun w2 h => ?_
  rw [un_not, ifB_not, ifB_bool]
  refine ⟨fun hsh => ?_, fun _ => fin _ _ h⟩
  obtain ⟨hl1, hs1⟩ := bnd_law r hsh (by omega)
  refine h.ask (fun B2 own base2 => vInt_g a) fun w3 h => ?_
  refine h.allocAg (ds := (vInt a).cs.toArray) z_api_Value rfl ag_api_Value rfl (fun v hv => Enc.one (vInt a) v hv) fun x w5 h => ?_
  refine h.ask (fun B2 own base2 => vText_g s) fun w6 h => ?_
  refine h.allocAg (ds := (vText s).cs.toArray) z_api_Value rfl ag_api_Value rfl (fun v hv => Enc.one (vText s) v hv) fun y w8 h => ?_
  rw [show decide (b < a) = decide (b < a) from rfl]
  refine h.ask (fun B2 own base2 => vBool_g (decide (b < a))) fun w9 h => ?_
  refine h.allocAg (ds := (vBool (decide (b < a))).cs.toArray) z_api_Value rfl ag_api_Value rfl (fun v hv => Enc.one (vBool (decide (b < a))) v hv) fun z w11 h => ?_
  have h : Rel (lawB W) w11 [cellD x T_api_Value (vInt a).cs.toArray, cellD y T_api_Value (vText s).cs.toArray, cellD z T_api_Value (vBool (decide (b < a))).cs.toArray] := h
  simp -zeta only [field_addr f_api_Value_0, field_addr f_api_Value_1, field_addr f_api_Value_2, Nat.add_zero, Nat.zero_add]
  rw [h.ld 0 rfl sc_int (o := 0) rfl, bin_neq, decide_eq_true (by rfl), Bool.not_true, ifB_false]
  rw [h.ld 0 rfl sc_int (o := 1) rfl, bin_neq, decide_eq_true (by rfl), Bool.not_true, ifB_false, h.ldAg 0 rfl ag_api_Value rfl]
  refine h.ask (fun B2 own base2 => vRight_g (vInt a)) fun w12 h => ?_
  rw [right_int, un_not, Bool.not_true, ifB_false]
  rw [h.ld 1 rfl sc_int (o := 0) rfl, bin_neq, decide_eq_true (by rfl), Bool.not_true, ifB_false]
  rw [h.ld 1 rfl sc_string (o := 2) rfl, neq_str, decide_eq_true (by rfl), Bool.not_true, ifB_false, h.ldAg 1 rfl ag_api_Value rfl]
  refine h.ask (fun B2 own base2 => vRight_g (vText s)) fun w13 h => ?_
  have e1 : vRight (vText s) = decide ((s.size : Int) ≤ 200) := by unfold vRight vText; simp
  rw [e1, bin_leq, bin_neq_bool U_bool, lt_bool Iff.rfl, ifB_false]
  rw [h.ld 2 rfl sc_int (o := 0) rfl, bin_neq, decide_eq_true (by rfl), Bool.not_true, ifB_false]
  rw [h.ld 2 rfl sc_int (o := 1) rfl, bin_eql, bin_neq_bool U_bool]
  have e2 : (vBool (decide (b < a))).n = 1 ↔ b < a := by
    unfold vBool
    by_cases c : b < a
    · simp [c]
    · simp [c]
  rw [lt_bool e2, ifB_false, h.ldAg 2 rfl ag_api_Value rfl]
  refine h.ask (fun B2 own base2 => vRight_g (vBool (decide (b < a)))) fun w14 h => ?_
  rw [right_bool, un_not, Bool.not_true, ifB_false]
  have h := h.tick
  rw [h.ldAg 0 rfl ag_api_Value rfl, bin_lss]
  refine h.ask (fun B2 own base2 => vInt_g b) fun w15 h => ?_
  refine ⟨h.isAg 0 rfl ag_api_Value rfl, ?_⟩
  refine h.ask (fun B2 own base2 => compareV_g (vInt a) (vInt b)) fun w16 h => ?_
  have e3 : cmpI a b < 0 ↔ a < b := by
    unfold cmpI
    by_cases c : a < b
    · simp [c]
    · by_cases c2 : b < a
      · simp [c, c2]
      · simp [c, c2]
  rw [cmp_ints, bin_lss, bin_neq_bool U_bool, lt_bool e3, ifB_false]
  rw [h.ldAg 1 rfl ag_api_Value rfl, str_lss, str_less]
  refine h.ask (fun B2 own base2 => vText_g t) fun w17 h => ?_
  refine ⟨h.isAg 1 rfl ag_api_Value rfl, ?_⟩
  refine h.ask (fun B2 own base2 => compareV_g (vText s) (vText t)) fun w18 h => ?_
  rw [cmp_texts, bin_lss, bin_neq_bool U_bool, lt_bool Iff.rfl, ifB_false]
  refine h.ask (fun B2 own base2 => vBool_g false) fun w19 h => ?_
  refine h.ask (fun B2 own base2 => vBool_g true) fun w20 h => ?_
  refine h.ask (fun B2 own base2 => compareV_g (vBool false) (vBool true)) fun w21 h => ?_
  rw [bin_neq, decide_eq_true (by rfl), Bool.not_true, ifB_false]
  have h := h.tick
  refine h.ask (fun B2 own base2 => zero_g 1) fun w22 h => ?_
  refine h.ask (fun B2 own base2 => vText_g ⟨#[]⟩) fun w23 h => ?_
  rw [neq_api_Value, decide_eq_true (by rfl), Bool.not_true, ifB_false]
  refine h.ask (fun B2 own base2 => zero_g 2) fun w24 h => ?_
  refine h.ask (fun B2 own base2 => vBool_g false) fun w25 h => ?_
  rw [neq_api_Value, decide_eq_true (by rfl), Bool.not_true, ifB_false]
  refine h.ask (fun B2 own base2 => zero_g 0) fun w26 h => ?_
  refine h.ask (fun B2 own base2 => vInt_g 0) fun w27 h => ?_
  rw [neq_api_Value, decide_eq_true (by rfl), Bool.not_true, ifB_false]
  rw [h.ldAg 1 rfl ag_api_Value rfl]
  refine h.ask (fun B2 own base2 => zero_g 1) fun w28 h => ?_
  refine ⟨h.isAg 1 rfl ag_api_Value rfl, ?_⟩
  refine h.ask (fun B2 own base2 => compareV_g (vText ⟨#[]⟩) (vText s)) fun w29 h => ?_
  have e4 : Go.Lib.compareBytes (bl ⟨#[]⟩) (bl s) ≤ 0 := by
    rw [bytes_lex]; exact lex_nil _
  rw [cmp_texts, bin_gtr, decide_eq_false (by omega), ifB_false]
  simp -zeta only [rowR.len r sl_s_api_Value, bin_leq]
  have h := h.nil
  refine LOOP_intro (fun x w' => ∃ i : Nat, i ≤ l.length ∧ x = (.bool (decide ((l.length : Int) ≤ 12) && (l.take i).all vRight), .int .i64 i, ()) ∧ Rel (lawB W) w' []) (fun x _ => l.length - (match x.2.1 with | .int _ n => n.toNat | _ => 0))
    ⟨0, Nat.zero_le _, by simp, h⟩ ?_
  clear h
  rintro x w30 ⟨i, hi, rfl, h⟩ next hnext
  simp -zeta only [bin_lss, ifB_dec]
  refine ⟨fun hlt => ?_, fun hge => ?_⟩
  · have hil : i < l.length := by omega
    refine LETJ_intro fun J1 hJ1 => ?_
    replace hJ1 : ∀ w' σ, Rel (lawB W) w' σ → J1 (.bool (decide ((l.length : Int) ≤ 12) && (l.take (i + 1)).all vRight), ()) w' := fun w' σ h => by
      refine hJ1 _ _ ?_
      rw [bin_add, wrap_id (by omega) (by omega)]
      exact hnext _ _ ⟨i + 1, hil, rfl, h.nil⟩ (by simp only; omega)
    have e1 : (decide ((l.length : Int) ≤ 12) && (l.take (i + 1)).all vRight) = ((decide ((l.length : Int) ≤ 12) && (l.take i).all vRight) && vRight l[i]) := by
      rw [List.take_succ_eq_append_getElem hil, List.all_append, Bool.and_assoc]; simp
    rw [e1] at hJ1
    rw [ifB_bool]
    refine ⟨fun c => ?_, fun c => ?_⟩
    · obtain ⟨g, o, hx, hcl⟩ := rowR.idx r sl_s_api_Value (P := Tryd.prog) hil
      have hcl : cellsR g o l[i].cs (lawB W) := hcl
      rw [hx, cellsR.ldAg (h.hereB hcl) ag_api_Value rfl]
      refine h.ask (fun B2 own base2 => vRight_g l[i]) fun w32 h => ?_
      rw [c, Bool.true_and] at hJ1
      exact hJ1 _ _ h
    · rw [c, Bool.false_and] at hJ1
      exact hJ1 _ _ h
  · have hie : i = l.length := by omega
    subst hie
    rw [List.take_length, ifB_true]
    refine h.ask (fun B2 own base2 => rowRight_g (base2 r) (by omega)) fun w33 h => ?_
    rw [show rowRight l = (decide ((l.length : Int) ≤ 12) && l.all vRight) from rfl, bin_eql_bool U_bool, beq_self_eq_true, ifB_true, un_not, ifB_not, ifB_bool]
    refine ⟨fun c => ?_, fun _ => fin _ _ h⟩
    rw [Bool.and_eq_true] at c
    have c1 := of_decide_eq_true c.1
    have hg : ∀ v ∈ l, GoodVal v := fun v hv => goodVal (hok v hv) (by have := hs1 v hv; omega)
    refine h.ask (fun B2 own base2 => rowBytes_g (base2 hB) (base2 r) (by omega) fun v hv => ⟨hg v hv, by have := hs1 v hv; omega⟩) fun w34 h => ?_
    rw [str_len U_string, bl_ofL, bin_leq, decide_eq_true]
    · exact fin _ _ h
    · have := flat_len encV1 l 264 fun v hv => encV1_len (hg v hv) (by
        have := List.all_eq_true.1 c.2 v hv
        rcases right_kind this with ⟨_, e⟩ | ⟨_, _, e⟩ | e | e
        · rw [e]; show 0 ≤ 200; omega
        · exact e
        · rw [e]; show 0 ≤ 200; omega
        · rw [e]; show 0 ≤ 200; omega)
      have h2 := encI_len (n := (l.length : Int)) ⟨by omega, by omega⟩
      unfold encRow
      rw [List.length_append]
      have : 264 * l.length ≤ 264 * 12 := Nat.mul_le_mul_left _ (by omega)
      omega
end
end Go.Proofs.YtifhbaphlmhoeaaDoor
