/-
  Values as text: Show; where a value's text ends. No condition.
-/
import Derived.Test.YtifhbaphlmhoeaaGreatDoorValC
import Derived.Test.YtifhbaphlmhoeaaGreatDoorTxtC
--@auto
namespace Go.Proofs.YtifhbaphlmhoeaaGreatDoor
open Go.RowKit
set_option maxRecDepth 100000

def trueL : Bs := [116, 114, 117, 101]
def falseL : Bs := [102, 97, 108, 115, 101]
def showS (v : ValD) : Bs := if vRight v = false then [] else if v.kind = 0 then Go.Lib.itoa v.n else if v.kind = 1 then quoteS (bl v.s) else if v.n = 1 then trueL else falseL
/-- Where a quoted text ends. -/
def endQ : Bs → Nat
  | [] => 0
  | c :: r => if c = 92 then (match r with
      | [] => 1
      | _ :: r' => endQ r' + 2)
    else if c = 34 then 1 else endQ r + 1
section
variable {B : Base} {w : World} {σ : List Dat}
theorem decimal_g (hB : wireD B) {n : Int} (hn : inI n) : Gives Tryz.prog B (sCall F_text_Decimal #[.int .i64 n]) (.string (ofL (Go.Lib.itoa n))) := by
  refine Gives.intro fun B' w K base h k => ?_
  refine text_Decimal.up (text_Decimal.call ?_)
  unfold text_Decimal.pt
  exact h.ask (fun B2 own base2 => itoa_g (base2 (base hB)) hn) fun w1 h => k _ _ h
theorem show_g (hB : wireD B) {v : ValD} (hn : inI v.n) (hs : (bl v.s).length ≤ 1099511627776) : Gives Tryz.prog B (sCall F_value_Show #[.agg v.cs.toArray]) (.string (ofL (showS v))) := by
  refine Gives.intro fun B' w K base h k => ?_
  replace hB := base hB
  refine value_Show.up (value_Show.call ?_)
  unfold value_Show.pt
  have es : v.s = ofL (bl v.s) := (ofL_bl v.s).symm
  refine h.box fun o w1 h => ?_
  have h : Rel B' w1 [cellD o T_api_Value v.cs.toArray] := h
  rw [h.ldAg 0 rfl ag_api_Value rfl]
  refine h.ask (fun B2 own base2 => vRight_g v) fun w2 h => ?_
  unfold showS at k
  rw [un_not, ifB_not, ifB_bool]
  refine ⟨fun c0 => ?_, fun c0 => by rw [if_pos c0] at k; exact k _ _ h⟩
  rw [if_neg (by rw [c0]; decide)] at k
  simp -zeta only [field_addr f_api_Value_0, field_addr f_api_Value_1, field_addr f_api_Value_2, Nat.add_zero, Nat.zero_add, h.ld 0 rfl sc_int (o := 0) rfl, h.ld 0 rfl sc_int (o := 1) rfl, h.ld 0 rfl sc_string (o := 2) rfl, bin_eql]
  rw [ifB_dec]
  refine ⟨fun c1 => ?_, fun c1 => ?_⟩
  · rw [if_pos c1] at k
    exact h.ask (fun B2 own base2 => decimal_g (base2 hB) hn) fun w3 h => k _ _ h
  rw [if_neg c1] at k
  rw [ifB_dec]
  refine ⟨fun c2 => ?_, fun c2 => ?_⟩
  · rw [if_pos c2] at k
    refine h.ask (v := .string (ofL (quoteS (bl v.s)))) (fun B2 own base2 => by have := quote_g (B := B2) (s := bl v.s) hs; rw [← es] at this; exact this) fun w3 h => k _ _ h
  rw [if_neg c2] at k
  rw [ifB_dec]
  refine ⟨fun c3 => ?_, fun c3 => ?_⟩
  · rw [if_pos c3] at k; exact k _ _ h
  · rw [if_neg c3] at k; exact k _ _ h
end
end Go.Proofs.YtifhbaphlmhoeaaGreatDoor
