/-
  Contracts of the library functions that this seat reaches, printed by program out of templates. No condition.
-/
import Derived.Test.YtefinemhfgdpdaaGreatDoorSpA
import Derived.Test.YtefinemhfgdpdaaGreatDoorTypes
import Derived.Test.YtefinemhfgdpdaaGreatDoorPt0
import Derived.Test.YtefinemhfgdpdaaGreatDoorPt1
import Derived.Test.YtefinemhfgdpdaaGreatDoorPt2
import Derived.Test.YtefinemhfgdpdaaGreatDoorPt3
namespace Go.Proofs.YtefinemhfgdpdaaGreatDoor
open Go.RowKit
set_option maxRecDepth 100000

theorem gslices_Clone_s_api_Col_api_Col {B : Base} {v : Value} {l : List D_api_Col} (r : rowR v l B) (hl : l.length * 40 ≤ 140737488355328) (hl2 : l.length ≤ 140737488355328) : Makes Tryz.prog B (sCall F_slices_Clone_s_api_Col_api_Col #[v]) fun v' τ => τ = [rowD T_api_Col v' l] := by
  refine Makes.intro fun B' w K base h k => ?_
  replace r := base r
  refine slices_Clone_s_api_Col_api_Col.up (slices_Clone_s_api_Col_api_Col.call ?_)
  unfold slices_Clone_s_api_Col_api_Col.pt
  obtain ⟨a, cap, rfl, _⟩ := rowR.form r
  simp -zeta only [bin_eql_slice_nil U_s_api_Col]
  rw [ifB_bool]
  refine ⟨fun e => ?_, fun e => ?_⟩
  · have : a = none := by cases a <;> simp_all
    subst this
    obtain ⟨_, _, he, _, h0⟩ := r
    have hl0 : l = [] := by
      rcases h0 with h0 | ⟨g, o, h0, _⟩
      · exact h0
      · cases he; cases h0
    subst hl0
    exact k _ _ _ rfl (h.addNil D_api_Col T_api_Col)
  · refine h.build0 (α := D_api_Col) sl_s_api_Col fun v1 w1 h nv => ?_
    refine h.append 0 rfl sl_s_api_Col (Rd.base r) (by simpa using hl) (by simpa using hl2) fun v2 w2 h => ?_
    exact k _ _ _ rfl h

theorem gslices_Clone_s_int_int {B : Base} {v : Value} {l : List Int} (r : rowR v l B) (hl : l.length * 8 ≤ 140737488355328) (hl2 : l.length ≤ 140737488355328) : Makes Tryz.prog B (sCall F_slices_Clone_s_int_int #[v]) fun v' τ => τ = [rowD T_int v' l] := by
  refine Makes.intro fun B' w K base h k => ?_
  replace r := base r
  refine slices_Clone_s_int_int.up (slices_Clone_s_int_int.call ?_)
  unfold slices_Clone_s_int_int.pt
  obtain ⟨a, cap, rfl, _⟩ := rowR.form r
  simp -zeta only [bin_eql_slice_nil U_s_int]
  rw [ifB_bool]
  refine ⟨fun e => ?_, fun e => ?_⟩
  · have : a = none := by cases a <;> simp_all
    subst this
    obtain ⟨_, _, he, _, h0⟩ := r
    have hl0 : l = [] := by
      rcases h0 with h0 | ⟨g, o, h0, _⟩
      · exact h0
      · cases he; cases h0
    subst hl0
    exact k _ _ _ rfl (h.addNil Int T_int)
  · refine h.build0 (α := Int) sl_s_int fun v1 w1 h nv => ?_
    refine h.append 0 rfl sl_s_int (Rd.base r) (by simpa using hl) (by simpa using hl2) fun v2 w2 h => ?_
    exact k _ _ _ rfl h

theorem gslices_IndexFunc_s_api_Known_api_Known {B : Base} {v f : Value} {l : List D_api_Known} (r : rowR v l B) (hl : l.length ≤ 4611686018427387904) (p : D_api_Known → Bool)
    (hf : ∀ B' : Base, (∀ {d : Dat}, d B → d B') → ∀ x ∈ l, Gives Tryz.prog B' (sCallV f #[Enc.val x]) (.bool (p x))) : Gives Tryz.prog B (sCall F_slices_IndexFunc_s_api_Known_api_Known #[v, f]) (.int .i64 (idxP p l)) := by
  refine Gives.intro fun B' w K base h k => ?_
  replace r := base r
  refine slices_IndexFunc_s_api_Known_api_Known.up (slices_IndexFunc_s_api_Known_api_Known.call ?_)
  unfold slices_IndexFunc_s_api_Known_api_Known.pt
  simp -zeta only [rowR.len r sl_s_api_Known]
  refine LOOP_intro (fun x w' => ∃ i : Nat, i ≤ l.length ∧ x = (.int .i64 i, ()) ∧ (∀ x ∈ l.take i, p x = false) ∧ Rel B' w' []) (fun x _ => l.length - (match x.1 with | .int _ n => n.toNat | _ => 0)) ⟨0, Nat.zero_le _, rfl, (fun x hx => by simp at hx), h⟩ ?_
  clear h
  rintro x w1 ⟨i, hi, rfl, hno, h⟩ next hnext
  simp -zeta only [bin_lss, ifB_dec]
  refine ⟨fun hlt => ?_, fun hge => ?_⟩
  · have hil : i < l.length := by omega
    obtain ⟨g, o, hx, hc⟩ := rowR.idx r sl_s_api_Known hil
    simp -zeta only [hx, cellsR.ldAg (h.hereB hc) ag_api_Known rfl]
    refine h.ask (fun B2 own base2 => hf B2 (fun hd => base2 (base hd)) l[i] (List.getElem_mem hil)) fun w2 h => ?_
    rw [ifB_bool]
    refine ⟨fun e => ?_, fun e => ?_⟩
    · rw [idxP_take hil hno e] at k
      exact k _ _ h
    · rw [bin_add, wrap_id (by omega) (by omega)]
      refine hnext _ _ ⟨i + 1, by omega, rfl, ?_, h⟩ (by simp only; omega)
      intro x hx
      rw [List.take_succ_eq_append_getElem hil] at hx
      rcases List.mem_append.1 hx with hx | hx
      · exact hno x hx
      · simp only [List.mem_cons, List.not_mem_nil, or_false] at hx
        subst hx; exact e
  · have : i = l.length := by omega
    subst this
    rw [List.take_length] at hno
    rw [idxP_none hno] at k
    exact k _ _ h

theorem gslices_IndexFunc_s_api_Producer_api_Producer {B : Base} {v f : Value} {l : List D_api_Producer} (r : rowR v l B) (hl : l.length ≤ 4611686018427387904) (p : D_api_Producer → Bool)
    (hf : ∀ B' : Base, (∀ {d : Dat}, d B → d B') → ∀ x ∈ l, Gives Tryz.prog B' (sCallV f #[Enc.val x]) (.bool (p x))) : Gives Tryz.prog B (sCall F_slices_IndexFunc_s_api_Producer_api_Producer #[v, f]) (.int .i64 (idxP p l)) := by
  refine Gives.intro fun B' w K base h k => ?_
  replace r := base r
  refine slices_IndexFunc_s_api_Producer_api_Producer.up (slices_IndexFunc_s_api_Producer_api_Producer.call ?_)
  unfold slices_IndexFunc_s_api_Producer_api_Producer.pt
  simp -zeta only [rowR.len r sl_s_api_Producer]
  refine LOOP_intro (fun x w' => ∃ i : Nat, i ≤ l.length ∧ x = (.int .i64 i, ()) ∧ (∀ x ∈ l.take i, p x = false) ∧ Rel B' w' []) (fun x _ => l.length - (match x.1 with | .int _ n => n.toNat | _ => 0)) ⟨0, Nat.zero_le _, rfl, (fun x hx => by simp at hx), h⟩ ?_
  clear h
  rintro x w1 ⟨i, hi, rfl, hno, h⟩ next hnext
  simp -zeta only [bin_lss, ifB_dec]
  refine ⟨fun hlt => ?_, fun hge => ?_⟩
  · have hil : i < l.length := by omega
    obtain ⟨g, o, hx, hc⟩ := rowR.idx r sl_s_api_Producer hil
    simp -zeta only [hx, cellsR.ldAg (h.hereB hc) ag_api_Producer rfl]
    refine h.ask (fun B2 own base2 => hf B2 (fun hd => base2 (base hd)) l[i] (List.getElem_mem hil)) fun w2 h => ?_
    rw [ifB_bool]
    refine ⟨fun e => ?_, fun e => ?_⟩
    · rw [idxP_take hil hno e] at k
      exact k _ _ h
    · rw [bin_add, wrap_id (by omega) (by omega)]
      refine hnext _ _ ⟨i + 1, by omega, rfl, ?_, h⟩ (by simp only; omega)
      intro x hx
      rw [List.take_succ_eq_append_getElem hil] at hx
      rcases List.mem_append.1 hx with hx | hx
      · exact hno x hx
      · simp only [List.mem_cons, List.not_mem_nil, or_false] at hx
        subst hx; exact e
  · have : i = l.length := by omega
    subst this
    rw [List.take_length] at hno
    rw [idxP_none hno] at k
    exact k _ _ h

theorem gslices_IndexFunc_s_api_Value_api_Value {B : Base} {v f : Value} {l : List D_api_Value} (r : rowR v l B) (hl : l.length ≤ 4611686018427387904) (p : D_api_Value → Bool)
    (hf : ∀ B' : Base, (∀ {d : Dat}, d B → d B') → ∀ x ∈ l, Gives Tryz.prog B' (sCallV f #[Enc.val x]) (.bool (p x))) : Gives Tryz.prog B (sCall F_slices_IndexFunc_s_api_Value_api_Value #[v, f]) (.int .i64 (idxP p l)) := by
  refine Gives.intro fun B' w K base h k => ?_
  replace r := base r
  refine slices_IndexFunc_s_api_Value_api_Value.up (slices_IndexFunc_s_api_Value_api_Value.call ?_)
  unfold slices_IndexFunc_s_api_Value_api_Value.pt
  simp -zeta only [rowR.len r sl_s_api_Value]
  refine LOOP_intro (fun x w' => ∃ i : Nat, i ≤ l.length ∧ x = (.int .i64 i, ()) ∧ (∀ x ∈ l.take i, p x = false) ∧ Rel B' w' []) (fun x _ => l.length - (match x.1 with | .int _ n => n.toNat | _ => 0)) ⟨0, Nat.zero_le _, rfl, (fun x hx => by simp at hx), h⟩ ?_
  clear h
  rintro x w1 ⟨i, hi, rfl, hno, h⟩ next hnext
  simp -zeta only [bin_lss, ifB_dec]
  refine ⟨fun hlt => ?_, fun hge => ?_⟩
  · have hil : i < l.length := by omega
    obtain ⟨g, o, hx, hc⟩ := rowR.idx r sl_s_api_Value hil
    simp -zeta only [hx, cellsR.ldAg (h.hereB hc) ag_api_Value rfl]
    refine h.ask (fun B2 own base2 => hf B2 (fun hd => base2 (base hd)) l[i] (List.getElem_mem hil)) fun w2 h => ?_
    rw [ifB_bool]
    refine ⟨fun e => ?_, fun e => ?_⟩
    · rw [idxP_take hil hno e] at k
      exact k _ _ h
    · rw [bin_add, wrap_id (by omega) (by omega)]
      refine hnext _ _ ⟨i + 1, by omega, rfl, ?_, h⟩ (by simp only; omega)
      intro x hx
      rw [List.take_succ_eq_append_getElem hil] at hx
      rcases List.mem_append.1 hx with hx | hx
      · exact hno x hx
      · simp only [List.mem_cons, List.not_mem_nil, or_false] at hx
        subst hx; exact e
  · have : i = l.length := by omega
    subst this
    rw [List.take_length] at hno
    rw [idxP_none hno] at k
    exact k _ _ h

theorem gslices_ContainsFunc_s_api_Value_api_Value {B : Base} {v f : Value} {l : List D_api_Value} (r : rowR v l B) (hl : l.length ≤ 4611686018427387904) (p : D_api_Value → Bool)
    (hf : ∀ B' : Base, (∀ {d : Dat}, d B → d B') → ∀ x ∈ l, Gives Tryz.prog B' (sCallV f #[Enc.val x]) (.bool (p x))) : Gives Tryz.prog B (sCall F_slices_ContainsFunc_s_api_Value_api_Value #[v, f]) (.bool (l.any p)) := by
  refine Gives.intro fun B' w K base h k => ?_
  replace r := base r
  refine slices_ContainsFunc_s_api_Value_api_Value.up (slices_ContainsFunc_s_api_Value_api_Value.call ?_)
  unfold slices_ContainsFunc_s_api_Value_api_Value.pt
  refine h.ask (fun B2 own base2 => gslices_IndexFunc_s_api_Value_api_Value (base2 r) hl p fun B3 base3 x hx => hf B3 (fun hd => base3 (base2 (base hd))) x hx) fun w1 h => ?_
  have e : decide (0 ≤ idxP p l) = l.any p := by
    rw [Bool.eq_iff_iff, decide_eq_true_eq, List.any_eq_true]
    constructor
    · intro h0
      have := (idxP_lt (p := p) (l := l)).1
      refine Classical.byContradiction fun hno => ?_
      have := this.2 fun x hx => by
        cases hp : p x with
        | false => rfl
        | true => exact absurd ⟨x, hx, hp⟩ hno
      omega
    · rintro ⟨x, hx, hp⟩
      have := (idxP_lt (p := p) (l := l)).1
      refine Int.not_lt.1 fun hlt => ?_
      rw [this.1 hlt x hx] at hp
      cases hp
  simp -zeta only [bin_geq, e]
  exact k _ _ h

end Go.Proofs.YtefinemhfgdpdaaGreatDoor
