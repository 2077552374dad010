/-
  Contracts of the library functions that this seat reaches, printed by program out of templates. No condition.
-/
import Derived.Test.YtoebncgnjbblgaaGreatDoorSpec
import Derived.Test.YtoebncgnjbblgaaGreatDoorTypes
import Derived.Test.YtoebncgnjbblgaaGreatDoorPt0
import Derived.Test.YtoebncgnjbblgaaGreatDoorPt1
import Derived.Test.YtoebncgnjbblgaaGreatDoorPt2
namespace Go.Proofs.YtoebncgnjbblgaaGreatDoor
open Go.RowKit
set_option maxRecDepth 100000

theorem gslices_Clone_s_api_Agg_api_Agg {B : Base} {v : Value} {l : List D_api_Agg} (r : rowR v l B) (hl : l.length * 32 ≤ 140737488355328) (hl2 : l.length ≤ 140737488355328) : Makes Tryz.prog B (sCall F_slices_Clone_s_api_Agg_api_Agg #[v]) fun v' τ => τ = [rowD T_api_Agg v' l] := by
  refine Makes.intro fun B' w K base h k => ?_
  replace r := base r
  refine slices_Clone_s_api_Agg_api_Agg.up (slices_Clone_s_api_Agg_api_Agg.call ?_)
  unfold slices_Clone_s_api_Agg_api_Agg.pt
  obtain ⟨a, cap, rfl, _⟩ := rowR.form r
  simp -zeta only [bin_eql_slice_nil U_s_api_Agg]
  rw [ifB_bool]
  refine ⟨fun e => ?_, fun e => ?_⟩
  · have : a = none := by cases a <;> simp_all
    subst this
    obtain ⟨_, _, he, _, h0⟩ := r
    have hl0 : l = [] := by
      rcases h0 with h0 | ⟨g, o, h0, _⟩
      · exact h0
      · cases he; cases h0
    subst hl0
    exact k _ _ _ rfl (h.addNil D_api_Agg T_api_Agg)
  · refine h.build0 (α := D_api_Agg) sl_s_api_Agg fun v1 w1 h nv => ?_
    refine h.append 0 rfl sl_s_api_Agg (Rd.base r) (by simpa using hl) (by simpa using hl2) fun v2 w2 h => ?_
    exact k _ _ _ rfl h

theorem gslices_Clone_s_int_int {B : Base} {v : Value} {l : List Int} (r : rowR v l B) (hl : l.length * 8 ≤ 140737488355328) (hl2 : l.length ≤ 140737488355328) : Makes Tryz.prog B (sCall F_slices_Clone_s_int_int #[v]) fun v' τ => τ = [rowD T_int v' l] := by
  refine Makes.intro fun B' w K base h k => ?_
  replace r := base r
  refine slices_Clone_s_int_int.up (slices_Clone_s_int_int.call ?_)
  unfold slices_Clone_s_int_int.pt
  obtain ⟨a, cap, rfl, _⟩ := rowR.form r
  simp -zeta only [bin_eql_slice_nil U_s_int]
  rw [ifB_bool]
  refine ⟨fun e => ?_, fun e => ?_⟩
  · have : a = none := by cases a <;> simp_all
    subst this
    obtain ⟨_, _, he, _, h0⟩ := r
    have hl0 : l = [] := by
      rcases h0 with h0 | ⟨g, o, h0, _⟩
      · exact h0
      · cases he; cases h0
    subst hl0
    exact k _ _ _ rfl (h.addNil Int T_int)
  · refine h.build0 (α := Int) sl_s_int fun v1 w1 h nv => ?_
    refine h.append 0 rfl sl_s_int (Rd.base r) (by simpa using hl) (by simpa using hl2) fun v2 w2 h => ?_
    exact k _ _ _ rfl h

theorem gslices_IndexFunc_s_map_api_Value_int_map_api_Value_int {B : Base} {v f : Value} {l : List SV} (r : rowR v l B) (hl : l.length ≤ 4611686018427387904) (p : SV → Bool)
    (hf : ∀ B' : Base, (∀ {d : Dat}, d B → d B') → ∀ x ∈ l, Gives Tryz.prog B' (sCallV f #[Enc.val x]) (.bool (p x))) : Gives Tryz.prog B (sCall F_slices_IndexFunc_s_map_api_Value_int_map_api_Value_int #[v, f]) (.int .i64 (idxP p l)) := by
  refine Gives.intro fun B' w K base h k => ?_
  replace r := base r
  refine slices_IndexFunc_s_map_api_Value_int_map_api_Value_int.up (slices_IndexFunc_s_map_api_Value_int_map_api_Value_int.call ?_)
  unfold slices_IndexFunc_s_map_api_Value_int_map_api_Value_int.pt
  simp -zeta only [rowR.len r sl_s_map_api_Value_int]
  refine LOOP_intro (fun x w' => ∃ i : Nat, i ≤ l.length ∧ x = (.int .i64 i, ()) ∧ (∀ x ∈ l.take i, p x = false) ∧ Rel B' w' []) (fun x _ => l.length - (match x.1 with | .int _ n => n.toNat | _ => 0)) ⟨0, Nat.zero_le _, rfl, (fun x hx => by simp at hx), h⟩ ?_
  clear h
  rintro x w1 ⟨i, hi, rfl, hno, h⟩ next hnext
  simp -zeta only [bin_lss, ifB_dec]
  refine ⟨fun hlt => ?_, fun hge => ?_⟩
  · have hil : i < l.length := by omega
    obtain ⟨g, o, hx, hc⟩ := rowR.idx r sl_s_map_api_Value_int hil
    simp -zeta only [hx, cellsR.ld0 (h.hereB hc) sc_map_api_Value_int rfl]
    refine h.ask (fun B2 own base2 => hf B2 (fun hd => base2 (base hd)) l[i] (List.getElem_mem hil)) fun w2 h => ?_
    rw [ifB_bool]
    refine ⟨fun e => ?_, fun e => ?_⟩
    · rw [idxP_take hil hno e] at k
      exact k _ _ h
    · rw [bin_add, wrap_id (by omega) (by omega)]
      refine hnext _ _ ⟨i + 1, by omega, rfl, ?_, h⟩ (by simp only; omega)
      intro x hx
      rw [List.take_succ_eq_append_getElem hil] at hx
      rcases List.mem_append.1 hx with hx | hx
      · exact hno x hx
      · simp only [List.mem_cons, List.not_mem_nil, or_false] at hx
        subst hx; exact e
  · have : i = l.length := by omega
    subst this
    rw [List.take_length] at hno
    rw [idxP_none hno] at k
    exact k _ _ h

theorem gslices_IndexFunc_s_int_int {B : Base} {v f : Value} {l : List Int} (r : rowR v l B) (hl : l.length ≤ 4611686018427387904) (p : Int → Bool)
    (hf : ∀ B' : Base, (∀ {d : Dat}, d B → d B') → ∀ x ∈ l, Gives Tryz.prog B' (sCallV f #[Enc.val x]) (.bool (p x))) : Gives Tryz.prog B (sCall F_slices_IndexFunc_s_int_int #[v, f]) (.int .i64 (idxP p l)) := by
  refine Gives.intro fun B' w K base h k => ?_
  replace r := base r
  refine slices_IndexFunc_s_int_int.up (slices_IndexFunc_s_int_int.call ?_)
  unfold slices_IndexFunc_s_int_int.pt
  simp -zeta only [rowR.len r sl_s_int]
  refine LOOP_intro (fun x w' => ∃ i : Nat, i ≤ l.length ∧ x = (.int .i64 i, ()) ∧ (∀ x ∈ l.take i, p x = false) ∧ Rel B' w' []) (fun x _ => l.length - (match x.1 with | .int _ n => n.toNat | _ => 0)) ⟨0, Nat.zero_le _, rfl, (fun x hx => by simp at hx), h⟩ ?_
  clear h
  rintro x w1 ⟨i, hi, rfl, hno, h⟩ next hnext
  simp -zeta only [bin_lss, ifB_dec]
  refine ⟨fun hlt => ?_, fun hge => ?_⟩
  · have hil : i < l.length := by omega
    obtain ⟨g, o, hx, hc⟩ := rowR.idx r sl_s_int hil
    simp -zeta only [hx, cellsR.ld0 (h.hereB hc) sc_int rfl]
    refine h.ask (fun B2 own base2 => hf B2 (fun hd => base2 (base hd)) l[i] (List.getElem_mem hil)) fun w2 h => ?_
    rw [ifB_bool]
    refine ⟨fun e => ?_, fun e => ?_⟩
    · rw [idxP_take hil hno e] at k
      exact k _ _ h
    · rw [bin_add, wrap_id (by omega) (by omega)]
      refine hnext _ _ ⟨i + 1, by omega, rfl, ?_, h⟩ (by simp only; omega)
      intro x hx
      rw [List.take_succ_eq_append_getElem hil] at hx
      rcases List.mem_append.1 hx with hx | hx
      · exact hno x hx
      · simp only [List.mem_cons, List.not_mem_nil, or_false] at hx
        subst hx; exact e
  · have : i = l.length := by omega
    subst this
    rw [List.take_length] at hno
    rw [idxP_none hno] at k
    exact k _ _ h

theorem gslices_IndexFunc_s_api_Value_api_Value {B : Base} {v f : Value} {l : List D_api_Value} (r : rowR v l B) (hl : l.length ≤ 4611686018427387904) (p : D_api_Value → Bool)
    (hf : ∀ B' : Base, (∀ {d : Dat}, d B → d B') → ∀ x ∈ l, Gives Tryz.prog B' (sCallV f #[Enc.val x]) (.bool (p x))) : Gives Tryz.prog B (sCall F_slices_IndexFunc_s_api_Value_api_Value #[v, f]) (.int .i64 (idxP p l)) := by
  refine Gives.intro fun B' w K base h k => ?_
  replace r := base r
  refine slices_IndexFunc_s_api_Value_api_Value.up (slices_IndexFunc_s_api_Value_api_Value.call ?_)
  unfold slices_IndexFunc_s_api_Value_api_Value.pt
  simp -zeta only [rowR.len r sl_s_api_Value]
  refine LOOP_intro (fun x w' => ∃ i : Nat, i ≤ l.length ∧ x = (.int .i64 i, ()) ∧ (∀ x ∈ l.take i, p x = false) ∧ Rel B' w' []) (fun x _ => l.length - (match x.1 with | .int _ n => n.toNat | _ => 0)) ⟨0, Nat.zero_le _, rfl, (fun x hx => by simp at hx), h⟩ ?_
  clear h
  rintro x w1 ⟨i, hi, rfl, hno, h⟩ next hnext
  simp -zeta only [bin_lss, ifB_dec]
  refine ⟨fun hlt => ?_, fun hge => ?_⟩
  · have hil : i < l.length := by omega
    obtain ⟨g, o, hx, hc⟩ := rowR.idx r sl_s_api_Value hil
    simp -zeta only [hx, cellsR.ldAg (h.hereB hc) ag_api_Value rfl]
    refine h.ask (fun B2 own base2 => hf B2 (fun hd => base2 (base hd)) l[i] (List.getElem_mem hil)) fun w2 h => ?_
    rw [ifB_bool]
    refine ⟨fun e => ?_, fun e => ?_⟩
    · rw [idxP_take hil hno e] at k
      exact k _ _ h
    · rw [bin_add, wrap_id (by omega) (by omega)]
      refine hnext _ _ ⟨i + 1, by omega, rfl, ?_, h⟩ (by simp only; omega)
      intro x hx
      rw [List.take_succ_eq_append_getElem hil] at hx
      rcases List.mem_append.1 hx with hx | hx
      · exact hno x hx
      · simp only [List.mem_cons, List.not_mem_nil, or_false] at hx
        subst hx; exact e
  · have : i = l.length := by omega
    subst this
    rw [List.take_length] at hno
    rw [idxP_none hno] at k
    exact k _ _ h

theorem gslices_ContainsFunc_s_map_api_Value_int_map_api_Value_int {B : Base} {v f : Value} {l : List SV} (r : rowR v l B) (hl : l.length ≤ 4611686018427387904) (p : SV → Bool)
    (hf : ∀ B' : Base, (∀ {d : Dat}, d B → d B') → ∀ x ∈ l, Gives Tryz.prog B' (sCallV f #[Enc.val x]) (.bool (p x))) : Gives Tryz.prog B (sCall F_slices_ContainsFunc_s_map_api_Value_int_map_api_Value_int #[v, f]) (.bool (l.any p)) := by
  refine Gives.intro fun B' w K base h k => ?_
  replace r := base r
  refine slices_ContainsFunc_s_map_api_Value_int_map_api_Value_int.up (slices_ContainsFunc_s_map_api_Value_int_map_api_Value_int.call ?_)
  unfold slices_ContainsFunc_s_map_api_Value_int_map_api_Value_int.pt
  refine h.ask (fun B2 own base2 => gslices_IndexFunc_s_map_api_Value_int_map_api_Value_int (base2 r) hl p fun B3 base3 x hx => hf B3 (fun hd => base3 (base2 (base hd))) x hx) fun w1 h => ?_
  have e : decide (0 ≤ idxP p l) = l.any p := by
    rw [Bool.eq_iff_iff, decide_eq_true_eq, List.any_eq_true]
    constructor
    · intro h0
      have := (idxP_lt (p := p) (l := l)).1
      refine Classical.byContradiction fun hno => ?_
      have := this.2 fun x hx => by
        cases hp : p x with
        | false => rfl
        | true => exact absurd ⟨x, hx, hp⟩ hno
      omega
    · rintro ⟨x, hx, hp⟩
      have := (idxP_lt (p := p) (l := l)).1
      refine Int.not_lt.1 fun hlt => ?_
      rw [this.1 hlt x hx] at hp
      cases hp
  simp -zeta only [bin_geq, e]
  exact k _ _ h

theorem gslices_ContainsFunc_s_int_int {B : Base} {v f : Value} {l : List Int} (r : rowR v l B) (hl : l.length ≤ 4611686018427387904) (p : Int → Bool)
    (hf : ∀ B' : Base, (∀ {d : Dat}, d B → d B') → ∀ x ∈ l, Gives Tryz.prog B' (sCallV f #[Enc.val x]) (.bool (p x))) : Gives Tryz.prog B (sCall F_slices_ContainsFunc_s_int_int #[v, f]) (.bool (l.any p)) := by
  refine Gives.intro fun B' w K base h k => ?_
  replace r := base r
  refine slices_ContainsFunc_s_int_int.up (slices_ContainsFunc_s_int_int.call ?_)
  unfold slices_ContainsFunc_s_int_int.pt
  refine h.ask (fun B2 own base2 => gslices_IndexFunc_s_int_int (base2 r) hl p fun B3 base3 x hx => hf B3 (fun hd => base3 (base2 (base hd))) x hx) fun w1 h => ?_
  have e : decide (0 ≤ idxP p l) = l.any p := by
    rw [Bool.eq_iff_iff, decide_eq_true_eq, List.any_eq_true]
    constructor
    · intro h0
      have := (idxP_lt (p := p) (l := l)).1
      refine Classical.byContradiction fun hno => ?_
      have := this.2 fun x hx => by
        cases hp : p x with
        | false => rfl
        | true => exact absurd ⟨x, hx, hp⟩ hno
      omega
    · rintro ⟨x, hx, hp⟩
      have := (idxP_lt (p := p) (l := l)).1
      refine Int.not_lt.1 fun hlt => ?_
      rw [this.1 hlt x hx] at hp
      cases hp
  simp -zeta only [bin_geq, e]
  exact k _ _ h

theorem dslices_DeleteFunc_s_api_Value_api_Value {B : Base} {v f : Value} {l : List D_api_Value} (hl : l.length ≤ 4611686018427387904) (p : D_api_Value → Bool)
    (hf : ∀ B' : Base, (∀ {d : Dat}, d B → d B') → ∀ x ∈ l, Gives Tryz.prog B' (sCallV f #[Enc.val x]) (.bool (p x))) : Does Tryz.prog B (rowD T_api_Value v l) (sCall F_slices_DeleteFunc_s_api_Value_api_Value #[v, f]) fun u e' τ => e' = rowD T_api_Value u (l.filter fun x => !p x) ∧ τ = [] := by
  refine Does.intro fun B' w K base h k => ?_
  refine slices_DeleteFunc_s_api_Value_api_Value.up (slices_DeleteFunc_s_api_Value_api_Value.call ?_)
  unfold slices_DeleteFunc_s_api_Value_api_Value.pt
  refine h.ask (fun B2 own base2 => gslices_IndexFunc_s_api_Value_api_Value (rowD.read (own (i := 0) rfl)) hl p fun B3 base3 x hx => hf B3 (fun hd => base3 (base2 (base hd))) x hx) fun w1 h => ?_
  simp -zeta only [bin_eql, ifB_dec]
  refine ⟨fun e => ?_, fun e => ?_⟩
  · have hno := (idxP_lt (p := p) (l := l)).1.1 (by omega)
    have hfl : (l.filter fun x => !p x) = l := List.filter_eq_self.2 fun x hx => by simp [hno x hx]
    rw [hfl] at k
    exact k _ _ _ _ ⟨rfl, rfl⟩ h
  · obtain ⟨m, hm, hml, hmp, hmno⟩ : ∃ m : Nat, idxP p l = m ∧ ∃ hm : m < l.length, p l[m] = true ∧ ∀ x ∈ l.take m, p x = false := by
      unfold idxP at e ⊢
      split at e
      · rename_i i hi
        obtain ⟨h1, h2, h3⟩ := List.findIdx?_eq_some_iff_getElem.1 hi
        refine ⟨i, rfl, h1, h2, fun x hx => ?_⟩
        obtain ⟨j, hj, rfl⟩ := List.getElem_of_mem hx
        have := h3 j (by simp at hj; omega)
        simp at this ⊢
        exact this
      · exact absurd rfl e
    rw [hm]
    obtain ⟨g, cap, rfl⟩ := h.open_ (i := 0) rfl (by omega)
    simp -zeta only [bin_add]
    rw [wrap_id (by omega) (by omega)]
    refine LOOP_intro (fun x w' => ∃ (i j : Nat) (l' : List D_api_Value), j ≤ l.length ∧ i < j ∧ x = (.int .i64 i, .int .i64 j, ()) ∧ l'.length = l.length ∧ l'.take i = (l.take j).filter (fun x => !p x) ∧ l'.drop j = l.drop j ∧ Rel B' w' [rowD T_api_Value (.slice (some ⟨g, 0, none⟩) l.length cap) l'])
      (fun x _ => l.length - (match x.2.1 with | .int _ n => n.toNat | _ => 0)) ⟨m, m + 1, l, by omega, by omega, by simp, rfl, ?_, rfl, h⟩ ?_
    · rw [List.take_succ_eq_append_getElem hml, List.filter_append, List.filter_eq_self.2 fun x hx => by simp [hmno x hx]]
      simp [hmp]
    clear h
    rintro x w2 ⟨i, j, l', hj, hij, rfl, hl', ht, hd, h⟩ next hnext
    have hrd := rowD.read (h.here (i := 0) rfl)
    simp -zeta only [rowR.len hrd sl_s_api_Value, hl', bin_lss, ifB_dec]
    refine ⟨fun hlt => ?_, fun hge => ?_⟩
    · have hjl : j < l.length := by omega
      have hjl' : j < l'.length := by omega
      have hel : l'[j] = l[j] := by
        have h1 : (l'.drop j)[0]? = (l.drop j)[0]? := by rw [hd]
        simpa [hjl, hjl'] using h1
      have hd1 : l'.drop (j + 1) = l.drop (j + 1) := by
        have := congrArg (List.drop 1) hd
        simpa using this
      have hs : (l.take (j + 1)).filter (fun x => !p x) = (l.take j).filter (fun x => !p x) ++ (if p l[j] = true then [] else [l[j]]) := by
        rw [List.take_succ_eq_append_getElem hjl, List.filter_append]
        congr 1
        cases hp : p l[j] <;> simp [hp]
      refine LETJ_intro fun J hJ => ?_
      replace hJ : ∀ w' (i : Nat) (l' : List D_api_Value), i < j + 1 → l'.length = l.length → l'.take i = (l.take (j + 1)).filter (fun x => !p x) → l'.drop (j + 1) = l.drop (j + 1) → Rel B' w' [rowD T_api_Value (.slice (some ⟨g, 0, none⟩) l.length cap) l'] → J (.int .i64 i, ()) w' := by
        intro w' i l' h1 h2 h3 h4 h5
        refine hJ _ _ ?_
        show pureK _ _ _
        rw [bin_add, wrap_id (by omega) (by omega)]
        exact hnext _ _ ⟨i, j + 1, l', by omega, h1, rfl, h2, h3, h4, h5⟩ (by simp only; omega)
      clear hnext
      have hc := h.elem (α := D_api_Value) (i := 0) (j := j) rfl hjl'
      rw [hel] at hc
      simp -zeta only [idx_own (α := D_api_Value) sl_s_api_Value hjl, cellsR.ldAg hc ag_api_Value rfl]
      refine h.allocAg (ds := (l[j] : D_api_Value).cs.toArray) z_api_Value rfl ag_api_Value rfl (fun v hv => Enc.one l[j] v hv) fun b w3 h => ?_
      simp -zeta only [h.ldAg 1 rfl ag_api_Value rfl]
      refine h.ask (fun B2 own base2 => hf B2 (fun hd => base2 (base hd)) l[j] (List.getElem_mem hjl)) fun w4 h => ?_
      simp -zeta only [un_not, ifB_not]
      rw [ifB_bool]
      refine ⟨fun hp => ?_, fun hp => ?_⟩
      · refine hJ w4 i l' (by omega) hl' ?_ hd1 (h.take 1)
        rw [hs, if_pos hp, ht, List.append_nil]
      · simp -zeta only [h.ldAg 1 rfl ag_api_Value rfl, idx_own (α := D_api_Value) sl_s_api_Value (show i < l.length by omega)]
        refine h.set_ag (α := D_api_Value) 0 rfl l[j] (j := i) (by omega) ag_api_Value rfl rfl fun w5 h => ?_
        simp -zeta only [bin_add]
        rw [wrap_id (by omega) (by omega)]
        refine hJ w5 (i + 1) (l'.set i l[j]) (by omega) (by simp [hl']) ?_ ?_ (h.take 1)
        · rw [hs, if_neg (by rw [hp]; decide), ← ht, List.take_succ_eq_append_getElem (by simp; omega), List.take_set_of_le (Nat.le_refl _)]
          simp
        · rw [List.drop_set_of_lt (by omega), hd1]
    · have : j = l.length := by omega
      subst this
      rw [List.take_length] at ht
      rw [rowR.cutE hrd sl_s_api_Value (lo := i) (hi := l'.length) Bnd.some Bnd.none (by omega) (Nat.le_refl _), hl']
      refine h.clearFront 0 rfl sl_s_api_Value (by omega) fun w3 h => ?_
      rw [ht] at h
      exact k _ _ _ _ ⟨rfl, rfl⟩ h

end Go.Proofs.YtoebncgnjbblgaaGreatDoor
