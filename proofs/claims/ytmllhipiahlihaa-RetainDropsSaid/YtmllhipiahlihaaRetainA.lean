/-
  Values, rows and events: what the functions of packages value, retain and the references do with them. No condition.
-/
import Derived.Test.YtmllhipiahlihaaLib
namespace Go.Proofs.Ytmllhipiahlihaa
open Go.RowKit

abbrev Val := D_api_Value
def rightV (x : Val) : Bool := if x.kind = 0 then decide (x.s = ⟨#[]⟩) else if x.kind = 1 then decide (x.n = 0) && decide (x.s.size ≤ 200) else decide (x.kind = 2) && (decide (x.n = 0) || decide (x.n = 1)) && decide (x.s = ⟨#[]⟩)
def rightRow (l : List Val) : Bool := decide (l.length ≤ 12) && l.all rightV

section
variable {B : Base}
theorem vInt_g (n : Int) : Gives Try.prog B (sCall F_value_Int #[.int .i64 n]) (⟨0, n, ⟨#[]⟩⟩ : Val).v := by
  refine Gives.intro fun B' w K base h k => ?_
  refine value_Int.up (value_Int.call ?_)
  unfold value_Int.pt
  refine h.alloc z_api_Value fun b w1 h => ?_
  simp -zeta only [bd_api_Value_0_1]
  refine h.stAg 0 rfl ag_api_Value rfl (by decide) (fun v hv => (Enc.one (⟨0, n, ⟨#[]⟩⟩ : Val) v hv)) fun w2 h => ?_
  rw [rv_ag h 0 rfl ag_api_Value rfl]
  exact k _ _ h
theorem vText_g (s : ByteArray) : Gives Try.prog B (sCall F_value_Text #[.string s]) (⟨1, 0, s⟩ : Val).v := by
  refine Gives.intro fun B' w K base h k => ?_
  refine value_Text.up (value_Text.call ?_)
  unfold value_Text.pt
  refine h.alloc z_api_Value fun b w1 h => ?_
  simp -zeta only [bd_api_Value_0_2]
  refine h.stAg 0 rfl ag_api_Value rfl (by decide) (fun v hv => (Enc.one (⟨1, 0, s⟩ : Val) v hv)) fun w2 h => ?_
  rw [rv_ag h 0 rfl ag_api_Value rfl]
  exact k _ _ h
theorem vBool_g (b : Bool) : Gives Try.prog B (sCall F_value_Bool #[.bool b]) (⟨2, if b then 1 else 0, ⟨#[]⟩⟩ : Val).v := by
  refine Gives.intro fun B' w K base h k => ?_
  refine value_Bool.up (value_Bool.call ?_)
  unfold value_Bool.pt
  refine h.alloc z_api_Value fun p w1 h => ?_
  simp -zeta only [bd_api_Value_0_1, bd_api_Value_0]
  rw [ifB_bool]
  refine ⟨fun e => ?_, fun e => ?_⟩ <;> subst e
  · refine h.stAg 0 rfl ag_api_Value rfl (by decide) (fun v hv => (Enc.one (⟨2, 1, ⟨#[]⟩⟩ : Val) v hv)) fun w2 h => ?_
    rw [rv_ag h 0 rfl ag_api_Value rfl]
    exact k _ _ h
  · refine h.stAg 0 rfl ag_api_Value rfl (by decide) (fun v hv => (Enc.one (⟨2, 0, ⟨#[]⟩⟩ : Val) v hv)) fun w2 h => ?_
    rw [rv_ag h 0 rfl ag_api_Value rfl]
    exact k _ _ h

theorem vRight_g (x : Val) (hs : x.s.size ≤ 9223372036854775807) : Gives Try.prog B (sCall F_value_Right #[x.v]) (.bool (rightV x)) := by
  refine Gives.intro fun B' w K base h k => ?_
  refine value_Right.up (value_Right.call ?_)
  unfold value_Right.pt
  refine h.box fun b w1 h => ?_
  replace h : Rel B' w1 [cellD b T_api_Value #[.int .i64 x.kind, .int .i64 x.n, .string x.s]] := h
  have h' := h.tick
  simp -zeta only [f_api_Value_0, f_api_Value_1, f_api_Value_2, field_addr f_api_Value_0, field_addr f_api_Value_1, field_addr f_api_Value_2, Nat.zero_add, h.ld 0 rfl sc_int (o := 0) rfl, h'.ld 0 rfl sc_int (o := 1) rfl, h'.ld 0 rfl sc_string (o := 2) rfl,
    h'.ldAg 0 rfl ag_api_Value rfl, bin_eql, ifB_dec]
  refine ⟨fun e => ?_, fun e => ⟨fun e1 => ?_, fun e1 => ?_⟩⟩
  · refine h'.ask (fun _ _ _ => vInt_g x.n) fun w2 h => ⟨h.isAg 0 rfl ag_api_Value rfl, ?_⟩
    rw [eq_api_Value x ⟨0, x.n, ⟨#[]⟩⟩]
    have : decide (x = ⟨0, x.n, ⟨#[]⟩⟩) = rightV x := by
      unfold rightV
      rw [if_pos e, Bool.eq_iff_iff, decide_eq_true_eq, decide_eq_true_eq]
      exact ⟨fun h => by rw [h], fun h => by cases x; simp_all⟩
    rw [this]
    exact k _ _ h
  · refine h'.ask (fun _ _ _ => vText_g x.s) fun w2 h => ⟨h.isAg 0 rfl ag_api_Value rfl, ?_⟩
    rw [eq_api_Value x ⟨1, 0, x.s⟩, ifB_dec]
    have hr : rightV x = (decide (x.n = 0) && decide (x.s.size ≤ 200)) := by unfold rightV; rw [if_neg e, if_pos e1]
    refine ⟨fun h2 => ?_, fun h2 => ?_⟩
    · simp -zeta only [h.ld 0 rfl sc_string (o := 2) rfl, len_string U_string, bin_leq]
      have h3 : x.n = 0 := by rw [h2]
      rw [hr, h3] at k
      have e4 : (decide ((0 : Int) = 0) && decide (x.s.size ≤ 200)) = decide ((x.s.size : Int) ≤ 200) := by simp; omega
      rw [e4] at k
      exact k _ _ h
    · have h3 : ¬ x.n = 0 := fun h3 => h2 (by cases x; simp_all)
      rw [hr] at k
      simp only [h3, decide_false, Bool.false_and] at k
      exact k _ _ h
  · have hr : rightV x = (decide (x.kind = 2) && (decide (x.n = 0) || decide (x.n = 1)) && decide (x.s = ⟨#[]⟩)) := by unfold rightV; rw [if_neg e, if_neg e1]
    refine h'.ask (fun _ _ _ => vBool_g false) fun w2 h => ⟨h.isAg 0 rfl ag_api_Value rfl, ?_⟩
    have q1 := eq_api_Value (K := fun t27 => ifB t27 (K (.bool true) w2) (readK Try.prog (sLoad T_api_Value (.pointer (some ⟨b, 0, none⟩))) w2 fun t29 => upK Try.prog (sCall F_value_Bool #[.bool true]) w2 fun t30 w5 => Is Try.prog (sLoad T_api_Value (.pointer (some ⟨b, 0, none⟩))) t29 w5 ∧ pureK Try.prog (sBin .eql T_api_Value (.tmp 29) (.tmp 30) t29 t30) fun t31 => K t31 w5)) (xo := .tmp 25) (yo := .tmp 26) x ⟨2, if false = true then 1 else 0, ⟨#[]⟩⟩
    refine q1.mpr ?_
    rw [ifB_dec]
    refine ⟨fun h2 => ?_, fun h2 => ?_⟩
    · have : rightV x = true := by rw [h2]; rfl
      rw [this] at k
      exact k _ _ h
    · rw [h.ldAg 0 rfl ag_api_Value rfl]
      refine h.ask (fun _ _ _ => vBool_g true) fun w3 h => ⟨h.isAg 0 rfl ag_api_Value rfl, ?_⟩
      refine (eq_api_Value (K := fun v => K v w3) x ⟨2, if true = true then 1 else 0, ⟨#[]⟩⟩).mpr ?_
      have : decide (x = ⟨2, if true = true then 1 else 0, ⟨#[]⟩⟩) = rightV x := by
        rw [hr, Bool.eq_iff_iff, decide_eq_true_eq]
        obtain ⟨a, n, s⟩ := x
        simp at h2 ⊢
        constructor
        · rintro ⟨rfl, rfl, rfl⟩; simp
        · rintro ⟨⟨rfl, h0 | h1⟩, rfl⟩
          · exact absurd rfl (h2 rfl h0)
          · exact ⟨rfl, h1, rfl⟩
      rw [this]
      exact k _ _ h

theorem vAll1_g (x : Val) (hs : x.s.size ≤ 9223372036854775807) : Gives Try.prog B (sCallV (.func (.func F_value_all_1) #[] #[]) #[x.v]) (.bool (!rightV x)) := by
  refine Gives.intro fun B' w K base h k => ?_
  refine call_v ?_
  refine value_all_1.up (value_all_1.call ?_)
  unfold value_all_1.pt
  refine h.box fun b w1 h => ?_
  replace h : Rel B' w1 [cellD b T_api_Value #[.int .i64 x.kind, .int .i64 x.n, .string x.s]] := h
  rw [h.ldAg 0 rfl ag_api_Value rfl]
  refine h.ask (fun _ _ _ => vRight_g x hs) fun w2 h => ?_
  rw [un_not]
  exact k _ _ h
theorem vAll_g {v : Value} {l : List Val} (r : rowR v l B) (hl : l.length ≤ 4611686018427387904) (hs : ∀ x ∈ l, x.s.size ≤ 9223372036854775807) : Gives Try.prog B (sCall F_value_all #[v]) (.bool (l.all rightV)) := by
  refine Gives.intro fun B' w K base h k => ?_
  refine value_all.up (value_all.call ?_)
  unfold value_all.pt
  refine h.ask (fun B2 own base2 => gslices_ContainsFunc_s_api_Value_api_Value (base2 (base r)) hl (fun x => !rightV x) fun B3 _ x hx => vAll1_g x (hs x hx)) fun w1 h => ?_
  rw [un_not]
  have : (!l.any fun x => !rightV x) = l.all rightV := by
    clear hl hs r k h
    induction l with
    | nil => rfl
    | cons a l ih => simp only [List.any_cons, List.all_cons, ← ih]; cases rightV a <;> simp
  rw [this]
  exact k _ _ h
theorem vRightRow_g {v : Value} {l : List Val} (r : rowR v l B) (hs : ∀ x ∈ l, x.s.size ≤ 9223372036854775807) : Gives Try.prog B (sCall F_value_RightRow #[v]) (.bool (rightRow l)) := by
  refine Gives.intro fun B' w K base h k => ?_
  refine value_RightRow.up (value_RightRow.call ?_)
  unfold value_RightRow.pt
  simp -zeta only [rowR.len r sl_s_api_Value, bin_leq, ifB_dec]
  refine ⟨fun e => ?_, fun e => ?_⟩
  · refine h.ask (fun B2 own base2 => vAll_g (base2 (base r)) (by omega) hs) fun w1 h => ?_
    have : l.all rightV = rightRow l := by unfold rightRow; rw [decide_eq_true (by omega)]; rfl
    rw [this]
    exact k _ _ h
  · have : rightRow l = false := by unfold rightRow; rw [decide_eq_false (by omega)]; rfl
    rw [this] at k
    exact k _ _ h
end
end Go.Proofs.Ytmllhipiahlihaa
