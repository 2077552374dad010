/-
  Contracts of what the laws ask of the lists: Right (of both), Side. No condition.
-/
import Derived.Test.YtdecfgbdppfmcaaGreatDoorRepF
namespace Go.Proofs.YtdecfgbdppfmcaaGreatDoor
open Go.RowKit
set_option maxRecDepth 100000
section
variable {B : Base}

theorem Side_g {vl vt : Value} {l : List Rpl} {t : List Seg} (rl : rowR vl l B) (rt : rowR vt t B) (hl : l.length ≤ 100000) (hs : Sorted t) (hne : t ≠ []) (htl : t.length ≤ 100000) (time bucket : Int) :
    Gives Tryz.prog B (sCall F_replace_Side #[vl, vt, .int .i64 time, .int .i64 bucket]) (.int .i64 (sideS l t time bucket)) := by
  refine Gives.intro fun B' w K base h k => ?_
  replace rl := base rl
  replace rt := base rt
  refine replace_Side.up (replace_Side.call ?_)
  unfold replace_Side.pt
  refine LETJ_intro fun J hJ => ?_
  replace hJ : ∀ w' τ, Rel B' w' τ → sideS l t time bucket = atS t time → J () w' := by
    intro w' τ h e
    refine hJ _ _ ?_
    rw [e] at k
    refine h.ask (fun B2 own base2 => At_g (base2 rt) hs hne (by omega) time) fun w2 h => ?_
    exact k _ _ h
  refine h.ask (fun B2 own base2 => first_g (base2 rl) (by omega)) fun w3 h => ?_
  simp -zeta only [ext_2_0, ext_2_1]
  refine h.allocAg (ds := (firstR l).1.cs.toArray) z_api_Replacement rfl ag_api_Replacement rfl (fun v hv => Enc.one (firstR l).1 v hv) fun b2 w4 h => ?_
  have h : Rel B' w4 [cellD b2 T_api_Replacement (firstR l).1.cs.toArray] := h
  simp -zeta only [field_addr f_api_Replacement_1, field_addr f_api_Replacement_2, field_addr f_api_Replacement_4, field_addr f_api_Replacement_5, Nat.zero_add, h.ld 0 rfl sc_int (o := 1) rfl, h.ld 0 rfl sc_int (o := 2) rfl, h.ld 0 rfl sc_int (o := 4) rfl, h.ld 0 rfl sc_int (o := 5) rfl,
    bin_eql, bin_geq, bin_lss, ifB_bool]
  have no : ¬ ((firstR l).2 = true ∧ (firstR l).1.state = 2 ∧ (firstR l).1.from_ ≤ time ∧ bucket < (firstR l).1.cut) → J () w4 := fun hh => hJ _ _ h (by unfold sideS; rw [if_neg hh])
  refine ⟨fun e1 => ⟨fun e2 => ⟨fun e3 => ⟨fun e4 => ?_, fun e4 => no fun hh => ?_⟩, fun e3 => no fun hh => ?_⟩, fun e2 => no fun hh => ?_⟩, fun e1 => no fun hh => ?_⟩
  · have e : sideS l t time bucket = (firstR l).1.version := by
      unfold sideS
      rw [if_pos ⟨e1, of_decide_eq_true e2, of_decide_eq_true e3, of_decide_eq_true e4⟩]
    rw [e] at k
    exact k _ _ h
  · exact of_decide_eq_false e4 hh.2.2.2
  · exact of_decide_eq_false e3 hh.2.2.1
  · exact of_decide_eq_false e2 hh.2.1
  · rw [hh.1] at e1; cases e1
end
end Go.Proofs.YtdecfgbdppfmcaaGreatDoor
