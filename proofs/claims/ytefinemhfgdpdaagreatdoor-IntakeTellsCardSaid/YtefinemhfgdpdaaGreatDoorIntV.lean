/-
  The reference of chapter 3: RightRow. No condition.
-/
import Derived.Test.YtefinemhfgdpdaaGreatDoorIntT
namespace Go.Proofs.YtefinemhfgdpdaaGreatDoor
open Go.RowKit
set_option maxRecDepth 100000

def vRight' (v : ValD) : Bool := if v.kind = 0 then decide (v.s = ⟨#[]⟩) else if v.kind = 1 then decide (v.n = 0) && decide ((v.s.size : Int) ≤ 200) else decide (v.kind = 2) && ((decide (v.n = 0) || decide (v.n = 1)) && decide (v.s = ⟨#[]⟩))
theorem vRight_eq (v : ValD) : vRight v = vRight' v := by
  obtain ⟨k, n, s⟩ := v
  unfold vRight vRight' vInt vText vBool
  simp only [D_api_Value.mk.injEq]
  by_cases h0 : k = 0
  · simp [h0]
  · by_cases h1 : k = 1
    · simp [h1]
    · simp only [h0, h1, if_false]
      by_cases h2 : k = 2
      · by_cases h3 : n = 0
        · simp [h2, h3]
        · simp [h2, h3]
      · simp [h2]
section
variable {B : Base} {w : World} {σ : List Dat}
theorem fRight_g (v : ValD) : Gives Tryz.prog B (sCall F_errataref03_Right #[.agg v.cs.toArray]) (.bool (vRight v)) := by
  refine Gives.intro fun B' w K base h k => ?_
  refine errataref03_Right.up (errataref03_Right.call ?_)
  unfold errataref03_Right.pt
  rw [vRight_eq] at k
  unfold vRight' at k
  refine h.box fun o w1 h => ?_
  have h : Rel B' w1 [cellD o T_api_Value v.cs.toArray] := h
  simp -zeta only [field_addr f_api_Value_0, field_addr f_api_Value_1, field_addr f_api_Value_2, Nat.add_zero, Nat.zero_add, h.ld 0 rfl sc_int (o := 0) rfl, h.ld 0 rfl sc_int (o := 1) rfl, h.ld 0 rfl sc_string (o := 2) rfl, bin_eql, eql_str, len_string U_string, bin_leq]
  rw [ifB_dec]
  refine ⟨fun c0 => by rw [if_pos c0] at k; exact k _ _ h, fun c0 => ?_⟩
  rw [if_neg c0] at k
  rw [ifB_dec]
  refine ⟨fun c1 => ?_, fun c1 => ?_⟩
  · rw [if_pos c1] at k
    rw [ifB_dec]
    refine ⟨fun c2 => by rw [decide_eq_true c2, Bool.true_and] at k; exact k _ _ h, fun c2 => by rw [decide_eq_false c2, Bool.false_and] at k; exact k _ _ h⟩
  rw [if_neg c1] at k
  rw [ifB_dec]
  refine ⟨fun c2 => ?_, fun c2 => by rw [decide_eq_false c2, Bool.false_and] at k; exact k _ _ h⟩
  rw [decide_eq_true c2, Bool.true_and] at k
  rw [ifB_dec]
  refine ⟨fun c3 => by rw [decide_eq_true c3, Bool.true_or, Bool.true_and] at k; exact k _ _ h, fun c3 => ?_⟩
  rw [decide_eq_false c3, Bool.false_or] at k
  rw [ifB_dec]
  refine ⟨fun c4 => by rw [decide_eq_true c4, Bool.true_and] at k; exact k _ _ h, fun c4 => by rw [decide_eq_false c4, Bool.false_and] at k; exact k _ _ h⟩
theorem fAll_g {u : Value} {l : List ValD} (r : rowR u l B) (hl : l.length ≤ 9223372036854775807) : Gives Tryz.prog B (sCall F_errataref03_All #[u]) (.bool (l.all vRight)) := by
  refine Gives.intro fun B' w K base h k => ?_
  replace r := base r
  refine errataref03_All.up (errataref03_All.call ?_)
  unfold errataref03_All.pt
  refine LOOP_intro (fun x w' => ∃ i : Nat, i ≤ l.length ∧ x = (.int .i64 i, ()) ∧ (∀ j (h1 : j < l.length), j < i → vRight l[j] = true) ∧ Rel B' w' []) (fun x _ => l.length - (match x.1 with | .int _ n => n.toNat | _ => 0))
    ⟨0, Nat.zero_le _, rfl, fun j _ hj => absurd hj (Nat.not_lt_zero j), h⟩ ?_
  clear h
  rintro x w1 ⟨i, hi, rfl, hin, h⟩ next hnext
  simp -zeta only [rowR.len r sl_s_api_Value, bin_lss, ifB_dec]
  refine ⟨fun hlt => ?_, fun hge => ?_⟩
  · have hil : i < l.length := by omega
    obtain ⟨g, o, hx, hcl⟩ := rowR.idx r sl_s_api_Value (P := Tryz.prog) hil
    have hcl : cellsR g o l[i].cs B' := hcl
    rw [hx, cellsR.ldAg (h.hereB hcl) ag_api_Value rfl]
    refine h.ask (fun B2 own base2 => fRight_g l[i]) fun w2 h => ?_
    rw [un_not, ifB_not, ifB_bool]
    refine ⟨fun c => ?_, fun c => ?_⟩
    · rw [bin_add, wrap_id (by omega) (by omega)]
      refine hnext _ _ ⟨i + 1, hil, rfl, fun j h1 hj => ?_, h⟩ (by simp only; omega)
      by_cases e : j = i
      · subst e; exact c
      · exact hin j h1 (by omega)
    · have : l.all vRight = false := by
        cases ha : l.all vRight
        · rfl
        · have := List.all_eq_true.1 ha l[i] (List.getElem_mem hil); rw [c] at this; cases this
      rw [this] at k
      exact k _ _ h
  · have : l.all vRight = true := List.all_eq_true.2 fun v hv => by
      obtain ⟨j, hj, rfl⟩ := List.getElem_of_mem hv
      exact hin j hj (by omega)
    rw [this] at k
    exact k _ _ h
theorem fRightRow_g {u : Value} {l : List ValD} (r : rowR u l B) (hl : l.length ≤ 9223372036854775807) : Gives Tryz.prog B (sCall F_errataref03_RightRow #[u]) (.bool (rowRight l)) := by
  refine Gives.intro fun B' w K base h k => ?_
  replace r := base r
  refine errataref03_RightRow.up (errataref03_RightRow.call ?_)
  unfold errataref03_RightRow.pt
  unfold rowRight at k
  simp -zeta only [rowR.len r sl_s_api_Value, bin_leq, ifB_dec]
  refine ⟨fun c => ?_, fun c => ?_⟩
  · rw [decide_eq_true c, Bool.true_and] at k
    exact h.ask (fun B2 own base2 => fAll_g (base2 r) hl) fun w1 h => k _ _ h
  · rw [decide_eq_false c, Bool.false_and] at k
    exact k _ _ h
end
end Go.Proofs.YtefinemhfgdpdaaGreatDoor
