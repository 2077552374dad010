/-
  Which aggregates are right. No condition.
-/
import Derived.Test.YtoebncgnjbblgaaGreatDoorAgA
--@auto
namespace Go.Proofs.YtoebncgnjbblgaaGreatDoor
open Go.RowKit
set_option maxRecDepth 100000

def gOk (g : AggD) : Prop := 0 ≤ g.kind ∧ g.kind < 4 ∧ 0 ≤ g.col
instance (g : AggD) : Decidable (gOk g) := by unfold gOk; exact inferInstance
def rightA (l : List AggD) : Bool := (l.all fun g => decide (gOk g)) && decide ((l.length : Int) ≤ 8)
section
variable {B : Base} {w : World} {σ : List Dat}
theorem right_g {v : Value} {l : List AggD} (r : rowR v l B) (hl : l.length ≤ 9223372036854775807) : Gives Tryz.prog B (sCall F_erratalaw30_right #[v]) (.bool (rightA l)) := by
  refine Gives.intro fun B' w K base h k => ?_
  replace r := base r
  refine erratalaw30_right.up (erratalaw30_right.call ?_)
  unfold erratalaw30_right.pt
  refine LOOP_intro (fun x w' => ∃ i : Nat, i ≤ l.length ∧ x = (.int .i64 i, ()) ∧ (∀ j (h1 : j < l.length), j < i → gOk l[j]) ∧ Rel B' w' []) (fun x _ => l.length - (match x.1 with | .int _ n => n.toNat | _ => 0))
    ⟨0, Nat.zero_le _, rfl, fun j _ hj => absurd hj (Nat.not_lt_zero j), h⟩ ?_
  clear h
  rintro x w1 ⟨i, hi, rfl, hin, h⟩ next hnext
  simp -zeta only [rowR.len r sl_s_api_Agg, bin_lss, ifB_dec]
  refine ⟨fun hlt => ?_, fun hge => ?_⟩
  · have hil : i < l.length := by omega
    obtain ⟨g, o, hx, hcl⟩ := rowR.idx r sl_s_api_Agg (P := Tryz.prog) hil
    have hcl : cellsR g o l[i].cs B' := hcl
    have no : ¬ gOk l[i] → K (.bool false) w1 := fun hno => by
      have : rightA l = false := by
        unfold rightA
        have : (l.all fun g => decide (gOk g)) = false := by
          cases ha : (l.all fun g => decide (gOk g))
          · rfl
          · exact absurd (of_decide_eq_true (List.all_eq_true.1 ha _ (List.getElem_mem hil))) hno
        rw [this, Bool.false_and]
      rw [this] at k
      exact k _ _ h
    simp -zeta only [hx, field_addr f_api_Agg_0, field_addr f_api_Agg_1]
    rw [cellsR.ld (h.hereB hcl) sc_int (j := 0) (v := .int .i64 l[i].kind) rfl, bin_lss, ifB_dec]
    refine ⟨fun c => no fun hh => by have := hh.1; omega, fun c1 => ?_⟩
    rw [cellsR.ld (h.hereB hcl) sc_int (j := 0) (v := .int .i64 l[i].kind) rfl, bin_geq, ifB_dec]
    refine ⟨fun c => no fun hh => by have := hh.2.1; omega, fun c2 => ?_⟩
    rw [cellsR.ld (h.hereB hcl) sc_int (j := 1) (v := .int .i64 l[i].col) rfl, bin_lss, ifB_dec]
    refine ⟨fun c => no fun hh => by have := hh.2.2; omega, fun c3 => ?_⟩
    rw [bin_add, wrap_id (by omega) (by omega)]
    refine hnext _ _ ⟨i + 1, hil, rfl, fun j h1 hj => ?_, h⟩ (by simp only; omega)
    by_cases e : j = i
    · subst e; exact ⟨by omega, by omega, by omega⟩
    · exact hin j h1 (by omega)
  · have : (l.all fun g => decide (gOk g)) = true := List.all_eq_true.2 fun v hv => by
      obtain ⟨j, hj, rfl⟩ := List.getElem_of_mem hv
      exact decide_eq_true (hin j hj (by omega))
    unfold rightA at k
    rw [this, Bool.true_and] at k
    rw [bin_leq]
    exact k _ _ h
end
theorem rightA_ok {l : List AggD} (h : rightA l = true) : (∀ g ∈ l, gOk g) ∧ l.length ≤ 8 := by
  unfold rightA at h
  rw [Bool.and_eq_true, decide_eq_true_eq, List.all_eq_true] at h
  exact ⟨fun g hg => of_decide_eq_true (h.1 g hg), by omega⟩
theorem right_kinds {l : List AggD} (h : ∀ g ∈ l, gOk g) : Kinds l := fun g hg => ⟨(h g hg).1, (h g hg).2.1⟩
end Go.Proofs.YtoebncgnjbblgaaGreatDoor
