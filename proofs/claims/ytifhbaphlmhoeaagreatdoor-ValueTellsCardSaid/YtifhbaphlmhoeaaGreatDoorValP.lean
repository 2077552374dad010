/-
  Values out of text: Parse. No condition.
-/
import Derived.Test.YtifhbaphlmhoeaaGreatDoorValS
import Derived.Test.YtifhbaphlmhoeaaGreatDoorTxtD
--@auto
namespace Go.Proofs.YtifhbaphlmhoeaaGreatDoor
open Go.RowKit
set_option maxRecDepth 100000

/-- The value that a text shows. -/
noncomputable def parseV (s : Bs) : Option ValD := if s = trueL then some (vBool true) else if s = falseL then some (vBool false) else match intOf s with
  | some n => some (vInt n)
  | none => match unquoteS s with
    | some t => if t.length ≤ 200 then some (vText (ofL t)) else none
    | none => none
section
variable {B : Base} {w : World} {σ : List Dat}
theorem trueL_eq (s : Bs) : (ofL s = ⟨#[116, 114, 117, 101]⟩) ↔ s = trueL := by
  rw [show (⟨#[116, 114, 117, 101]⟩ : ByteArray) = ofL trueL from rfl]
  exact ⟨fun h => by have := congrArg bl h; exact this, fun h => by rw [h]⟩
theorem falseL_eq (s : Bs) : (ofL s = ⟨#[102, 97, 108, 115, 101]⟩) ↔ s = falseL := by
  rw [show (⟨#[102, 97, 108, 115, 101]⟩ : ByteArray) = ofL falseL from rfl]
  exact ⟨fun h => by have := congrArg bl h; exact this, fun h => by rw [h]⟩
theorem parse_g (hB : wireD B) {s : Bs} (hs : s.length ≤ 1099511627776) : Gives Tryz.prog B (sCall F_value_Parse #[.string (ofL s)]) (.tuple #[((parseV s).getD vZero).v, .bool (parseV s).isSome]) := by
  refine Gives.intro fun B' w K base h k => ?_
  replace hB := base hB
  refine value_Parse.up (value_Parse.call ?_)
  unfold value_Parse.pt
  unfold parseV at k
  refine h.alloc z_api_Value fun o w1 h => ?_
  rw [eql_str, ifB_dec]
  refine ⟨fun c0 => ?_, fun c0 => ?_⟩
  · rw [if_pos ((trueL_eq s).1 c0)] at k
    rw [eql_str, decide_eq_true c0]
    refine h.ask (fun B2 own base2 => vBool_g true) fun w2 h => ?_
    refine h.stAll 0 (ds := (vBool true).cs.toArray) rfl ag_api_Value rfl rfl (fun v hv => Enc.one (vBool true) v hv) fun w3 h => ?_
    rw [rv_ag h 0 rfl ag_api_Value rfl]
    exact k _ _ h
  rw [if_neg (fun hh => c0 ((trueL_eq s).2 hh))] at k
  rw [eql_str, ifB_dec]
  refine ⟨fun c1 => ?_, fun c1 => ?_⟩
  · rw [if_pos ((falseL_eq s).1 c1)] at k
    rw [eql_str, decide_eq_false c0]
    refine h.ask (fun B2 own base2 => vBool_g false) fun w2 h => ?_
    refine h.stAll 0 (ds := (vBool false).cs.toArray) rfl ag_api_Value rfl rfl (fun v hv => Enc.one (vBool false) v hv) fun w3 h => ?_
    rw [rv_ag h 0 rfl ag_api_Value rfl]
    exact k _ _ h
  rw [if_neg (fun hh => c1 ((falseL_eq s).2 hh))] at k
  refine h.ask (fun B2 own base2 => textInt_g (base2 hB) hs) fun w2 h => ?_
  simp -zeta only [ext_2_0, ext_2_1]
  cases hi : intOf s with
  | some n =>
    rw [hi] at k
    simp -zeta only [Option.isSome_some, ifB_true, Option.getD_some]
    refine h.ask (fun B2 own base2 => vInt_g n) fun w3 h => ?_
    refine h.stAll 0 (ds := (vInt n).cs.toArray) rfl ag_api_Value rfl rfl (fun v hv => Enc.one (vInt n) v hv) fun w4 h => ?_
    rw [rv_ag h 0 rfl ag_api_Value rfl]
    exact k _ _ h
  | none =>
    rw [hi] at k
    simp -zeta only [Option.isSome_none, ifB_false]
    refine LETJ_intro fun J1 hJ => ?_
    have hno : ∀ {w9 : World} {τ : List Dat} {cs : Array Value}, Rel B' w9 (cellD o T_api_Value cs :: τ) → cs.size = 3 → (∀ w' τ, Rel B' w' τ → K (.tuple #[vZero.v, .bool false]) w') → J1 () w9 := fun h hc k => by
      refine hJ _ _ ?_
      rw [bd_api_Value_]
      refine h.stAll 0 (ds := vZero.cs.toArray) rfl ag_api_Value rfl hc (fun v hv => Enc.one vZero v hv) fun w4 h => ?_
      rw [rv_ag h 0 rfl ag_api_Value rfl]
      exact k _ _ h
    refine h.ask (fun B2 own base2 => unquote_r hs) fun w3 h => ?_
    simp -zeta only [ext_2_0, ext_2_1]
    cases hu : unquoteS s with
    | none =>
      rw [hu] at k
      simp -zeta only [Option.isSome_none, ifB_false]
      exact hno h rfl k
    | some t =>
      rw [hu] at k
      simp -zeta only [Option.isSome_some, ifB_true, Option.getD_some]
      rw [str_len U_string, bl_ofL, bin_leq, ifB_dec]
      refine ⟨fun c2 => ?_, fun c2 => ?_⟩
      · simp only [if_pos (show t.length ≤ 200 by omega)] at k
        refine h.ask (fun B2 own base2 => vText_g (ofL t)) fun w4 h => ?_
        refine h.stAll 0 (ds := (vText (ofL t)).cs.toArray) rfl ag_api_Value rfl rfl (fun v hv => Enc.one (vText (ofL t)) v hv) fun w5 h => ?_
        rw [rv_ag h 0 rfl ag_api_Value rfl]
        exact k _ _ h
      · simp only [if_neg (show ¬ t.length ≤ 200 by omega)] at k
        exact hno h rfl k
end
end Go.Proofs.YtifhbaphlmhoeaaGreatDoor
