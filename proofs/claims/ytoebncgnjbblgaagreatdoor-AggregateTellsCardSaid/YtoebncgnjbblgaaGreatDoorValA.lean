/-
  Values: makers, Right. No condition.
-/
import Derived.Test.YtoebncgnjbblgaaGreatDoorLib
import Derived.Test.YtoebncgnjbblgaaGreatDoorPlus
--@auto
namespace Go.Proofs.YtoebncgnjbblgaaGreatDoor
open Go.RowKit
set_option maxRecDepth 100000

abbrev ValD := D_api_Value
def vInt (n : Int) : ValD := ⟨0, n, ⟨#[]⟩⟩
def vText (s : ByteArray) : ValD := ⟨1, 0, s⟩
def vBool (b : Bool) : ValD := ⟨2, if b then 1 else 0, ⟨#[]⟩⟩
def vZero : ValD := ⟨0, 0, ⟨#[]⟩⟩
def vRight (v : ValD) : Bool := if v.kind = 0 then decide (v = vInt v.n) else if v.kind = 1 then decide (v = vText v.s) && decide ((v.s.size : Int) ≤ 200) else decide (v = vBool false) || decide (v = vBool true)
def rowRight (l : List ValD) : Bool := decide ((l.length : Int) ≤ 12) && l.all vRight
section
variable {B : Base} {w : World}
theorem vInt_g (n : Int) : Gives Tryz.prog B (sCall F_value_Int #[.int .i64 n]) (vInt n).v := by
  refine Gives.intro fun B' w K base h k => ?_
  refine value_Int.up (value_Int.call ?_)
  unfold value_Int.pt
  refine h.alloc z_api_Value fun o w1 h => ?_
  rw [bd_api_Value_0_1]
  refine h.stAll 0 (ds := (vInt n).cs.toArray) rfl ag_api_Value rfl rfl (fun v hv => Enc.one (vInt n) v hv) fun w2 h => ?_
  rw [rv_ag h 0 rfl ag_api_Value rfl]
  exact k _ _ h
theorem vText_g (s : ByteArray) : Gives Tryz.prog B (sCall F_value_Text #[.string s]) (vText s).v := by
  refine Gives.intro fun B' w K base h k => ?_
  refine value_Text.up (value_Text.call ?_)
  unfold value_Text.pt
  refine h.alloc z_api_Value fun o w1 h => ?_
  rw [bd_api_Value_0_2]
  refine h.stAll 0 (ds := (vText s).cs.toArray) rfl ag_api_Value rfl rfl (fun v hv => Enc.one (vText s) v hv) fun w2 h => ?_
  rw [rv_ag h 0 rfl ag_api_Value rfl]
  exact k _ _ h
theorem vBool_g (b : Bool) : Gives Tryz.prog B (sCall F_value_Bool #[.bool b]) (vBool b).v := by
  refine Gives.intro fun B' w K base h k => ?_
  refine value_Bool.up (value_Bool.call ?_)
  unfold value_Bool.pt
  refine h.alloc z_api_Value fun o w1 h => ?_
  rw [ifB_bool]
  refine ⟨fun e => ?_, fun e => ?_⟩ <;> subst e
  · rw [bd_api_Value_0_1]
    refine h.stAll 0 (ds := (vBool true).cs.toArray) rfl ag_api_Value rfl rfl (fun v hv => Enc.one (vBool true) v hv) fun w2 h => ?_
    rw [rv_ag h 0 rfl ag_api_Value rfl]
    exact k _ _ h
  · rw [bd_api_Value_0]
    refine h.stAll 0 (ds := (vBool false).cs.toArray) rfl ag_api_Value rfl rfl (fun v hv => Enc.one (vBool false) v hv) fun w2 h => ?_
    rw [rv_ag h 0 rfl ag_api_Value rfl]
    exact k _ _ h
theorem vRight_g (v : ValD) : Gives Tryz.prog B (sCall F_value_Right #[v.v]) (.bool (vRight v)) := by
  refine Gives.intro fun B' w K base h k => ?_
  refine value_Right.up (value_Right.call ?_)
  unfold value_Right.pt
  refine h.box fun o w1 h => ?_
  have h : Rel B' w1 [cellD o T_api_Value v.cs.toArray] := h
  have ht := h.tick
  unfold vRight at k
  simp -zeta only [field_addr f_api_Value_0, field_addr f_api_Value_1, field_addr f_api_Value_2, Nat.add_zero, Nat.zero_add, h.ld 0 rfl sc_int (o := 0) rfl, bin_eql, ifB_dec, ht.ldAg 0 rfl ag_api_Value rfl, ht.ld 0 rfl sc_int (o := 1) rfl, ht.ld 0 rfl sc_string (o := 2) rfl]
  refine ⟨fun c0 => ?_, fun c0 => ?_⟩
  · rw [if_pos c0] at k
    refine ht.ask (fun B2 own base2 => vInt_g v.n) fun w2 h => ?_
    refine ⟨h.isAg 0 rfl ag_api_Value rfl, ?_⟩
    rw [show (Value.agg v.cs.toArray) = v.v from rfl, eq_api_Value]
    exact k _ _ h
  rw [if_neg c0] at k
  refine ⟨fun c1 => ?_, fun c1 => ?_⟩
  · rw [if_pos c1] at k
    refine ht.ask (fun B2 own base2 => vText_g v.s) fun w2 h => ?_
    refine ⟨h.isAg 0 rfl ag_api_Value rfl, ?_⟩
    rw [show (Value.agg v.cs.toArray) = v.v from rfl, eq_api_Value, ifB_dec]
    refine ⟨fun c2 => ?_, fun c2 => ?_⟩
    · rw [decide_eq_true c2, Bool.true_and] at k
      simp -zeta only [h.ld 0 rfl sc_string (o := 2) rfl, len_string U_string, bin_leq]
      exact k _ _ h
    · rw [decide_eq_false c2, Bool.false_and] at k
      exact k _ _ h
  rw [if_neg c1] at k
  refine ht.ask (fun B2 own base2 => vBool_g false) fun w2 h => ?_
  refine ⟨h.isAg 0 rfl ag_api_Value rfl, ?_⟩
  rw [show (Value.agg v.cs.toArray) = v.v from rfl, eq_api_Value, ifB_dec]
  refine ⟨fun c2 => ?_, fun c2 => ?_⟩
  · rw [decide_eq_true c2, Bool.true_or] at k
    exact k _ _ h
  · rw [decide_eq_false c2, Bool.false_or] at k
    rw [h.ldAg 0 rfl ag_api_Value rfl]
    refine h.ask (fun B2 own base2 => vBool_g true) fun w3 h => ?_
    refine ⟨h.isAg 0 rfl ag_api_Value rfl, ?_⟩
    rw [show (Value.agg v.cs.toArray) = v.v from rfl, eq_api_Value]
    exact k _ _ h
end
end Go.Proofs.YtoebncgnjbblgaaGreatDoor
