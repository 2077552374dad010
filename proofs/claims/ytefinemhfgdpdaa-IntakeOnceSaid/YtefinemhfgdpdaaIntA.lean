/-
  Intake: its parts in memory; what fits. No condition.
-/
import Derived.Test.YtefinemhfgdpdaaProdH
import Derived.Test.YtefinemhfgdpdaaMaps
namespace Go.Proofs.Ytefinemhfgdpdaa
open Go.RowKit

abbrev ValD := D_api_Value
abbrev ColD := D_api_Col
abbrev KnD := D_api_Known
abbrev EnD := D_api_Entry
def vInt (n : Int) : ValD := ⟨0, n, ⟨#[]⟩⟩
def vText (s : ByteArray) : ValD := ⟨1, 0, s⟩
def vBool (b : Bool) : ValD := ⟨2, if b then 1 else 0, ⟨#[]⟩⟩
def vRight (v : ValD) : Bool := if v.kind = 0 then decide (v = vInt v.n) else if v.kind = 1 then decide (v = vText v.s) && decide ((v.s.size : Int) ≤ 200) else decide (v = vBool false) || decide (v = vBool true)
def rowRight (l : List ValD) : Bool := decide ((l.length : Int) ≤ 12) && l.all vRight
/-- Known columns. -/
structure Kn where
  source : ByteArray
  schema : Int
  cols : List ColD
abbrev KnL := List (Kn × SV)
abbrev Kn.raw (k : Kn) (v : SV) : KnD := ⟨k.source, k.schema, v⟩
def kraws (L : KnL) : List KnD := L.map fun k => k.1.raw k.2
def kcols (L : KnL) : Dat := Dat.all L fun k => rowR k.2.1 k.1.cols
def knownD (u : Value) (s : List Kn) : Dat := ⟨fun B => ∃ L : KnL, L.map (·.1) = s ∧ rowR u (kraws L) B ∧ kcols L B, fun hl ⟨L, h1, h2, h3⟩ => ⟨L, h1, Dat.mono _ hl h2, Dat.mono _ hl h3⟩⟩
def knOf (src : ByteArray) (schema : Int) (k : Kn) : Bool := decide (k.source = src) && decide (k.schema = schema)
def kindsFit (r : List ValD) (cs : List ColD) : Bool := decide (r.map (·.kind) = cs.map (·.type_))
def fitsS (s : List Kn) (src : ByteArray) (schema : Int) (r : List ValD) : Int := match s.find? (knOf src schema) with
  | none => 17
  | some k => if kindsFit r k.cols = true ∧ rowRight r = true then 0 else 16

section
variable {B : Base} {w : World}
theorem vInt_g (n : Int) : Gives Try.prog B (sCall F_value_Int #[.int .i64 n]) (vInt n).v := by
  refine Gives.intro fun B' w K base h k => ?_
  refine value_Int.up (value_Int.call ?_)
  unfold value_Int.pt
  refine h.alloc z_api_Value fun o w1 h => ?_
  rw [bd_api_Value_0_1]
  refine h.stAll 0 (ds := (vInt n).cs.toArray) rfl ag_api_Value rfl rfl (fun v hv => Enc.one (vInt n) v hv) fun w2 h => ?_
  rw [rv_ag h 0 rfl ag_api_Value rfl]
  exact k _ _ h
theorem vText_g (s : ByteArray) : Gives Try.prog B (sCall F_value_Text #[.string s]) (vText s).v := by
  refine Gives.intro fun B' w K base h k => ?_
  refine value_Text.up (value_Text.call ?_)
  unfold value_Text.pt
  refine h.alloc z_api_Value fun o w1 h => ?_
  rw [bd_api_Value_0_2]
  refine h.stAll 0 (ds := (vText s).cs.toArray) rfl ag_api_Value rfl rfl (fun v hv => Enc.one (vText s) v hv) fun w2 h => ?_
  rw [rv_ag h 0 rfl ag_api_Value rfl]
  exact k _ _ h
theorem vBool_g (b : Bool) : Gives Try.prog B (sCall F_value_Bool #[.bool b]) (vBool b).v := by
  refine Gives.intro fun B' w K base h k => ?_
  refine value_Bool.up (value_Bool.call ?_)
  unfold value_Bool.pt
  refine h.alloc z_api_Value fun o w1 h => ?_
  rw [ifB_bool]
  refine ⟨fun e => ?_, fun e => ?_⟩ <;> subst e
  · rw [bd_api_Value_0_1]
    refine h.stAll 0 (ds := (vBool true).cs.toArray) rfl ag_api_Value rfl rfl (fun v hv => Enc.one (vBool true) v hv) fun w2 h => ?_
    rw [rv_ag h 0 rfl ag_api_Value rfl]
    exact k _ _ h
  · rw [bd_api_Value_0]
    refine h.stAll 0 (ds := (vBool false).cs.toArray) rfl ag_api_Value rfl rfl (fun v hv => Enc.one (vBool false) v hv) fun w2 h => ?_
    rw [rv_ag h 0 rfl ag_api_Value rfl]
    exact k _ _ h
theorem vRight_g (v : ValD) : Gives Try.prog B (sCall F_value_Right #[v.v]) (.bool (vRight v)) := by
  refine Gives.intro fun B' w K base h k => ?_
  refine value_Right.up (value_Right.call ?_)
  unfold value_Right.pt
  refine h.box fun o w1 h => ?_
  have h : Rel B' w1 [cellD o T_api_Value v.cs.toArray] := h
  have ht := h.tick
  unfold vRight at k
  simp -zeta only [field_addr f_api_Value_0, field_addr f_api_Value_1, field_addr f_api_Value_2, Nat.add_zero, Nat.zero_add, h.ld 0 rfl sc_int (o := 0) rfl, bin_eql, ifB_dec, ht.ldAg 0 rfl ag_api_Value rfl, ht.ld 0 rfl sc_int (o := 1) rfl, ht.ld 0 rfl sc_string (o := 2) rfl]
  refine ⟨fun c0 => ?_, fun c0 => ?_⟩
  · rw [if_pos c0] at k
    refine ht.ask (fun B2 own base2 => vInt_g v.n) fun w2 h => ?_
    refine ⟨h.isAg 0 rfl ag_api_Value rfl, ?_⟩
    rw [show (Value.agg v.cs.toArray) = v.v from rfl, eq_api_Value]
    exact k _ _ h
  rw [if_neg c0] at k
  refine ⟨fun c1 => ?_, fun c1 => ?_⟩
  · rw [if_pos c1] at k
    refine ht.ask (fun B2 own base2 => vText_g v.s) fun w2 h => ?_
    refine ⟨h.isAg 0 rfl ag_api_Value rfl, ?_⟩
    rw [show (Value.agg v.cs.toArray) = v.v from rfl, eq_api_Value, ifB_dec]
    refine ⟨fun c2 => ?_, fun c2 => ?_⟩
    · rw [decide_eq_true c2, Bool.true_and] at k
      simp -zeta only [h.ld 0 rfl sc_string (o := 2) rfl, len_string U_string, bin_leq]
      exact k _ _ h
    · rw [decide_eq_false c2, Bool.false_and] at k
      exact k _ _ h
  rw [if_neg c1] at k
  refine ht.ask (fun B2 own base2 => vBool_g false) fun w2 h => ?_
  refine ⟨h.isAg 0 rfl ag_api_Value rfl, ?_⟩
  rw [show (Value.agg v.cs.toArray) = v.v from rfl, eq_api_Value, ifB_dec]
  refine ⟨fun c2 => ?_, fun c2 => ?_⟩
  · rw [decide_eq_true c2, Bool.true_or] at k
    exact k _ _ h
  · rw [decide_eq_false c2, Bool.false_or] at k
    rw [h.ldAg 0 rfl ag_api_Value rfl]
    refine h.ask (fun B2 own base2 => vBool_g true) fun w3 h => ?_
    refine ⟨h.isAg 0 rfl ag_api_Value rfl, ?_⟩
    rw [show (Value.agg v.cs.toArray) = v.v from rfl, eq_api_Value]
    exact k _ _ h
theorem all1_g (v : ValD) : Gives Try.prog B (sCallV (.func (.func F_value_all_1) #[] #[]) #[Enc.val v]) (.bool (!vRight v)) := by
  refine Gives.intro fun B' w K base h k => ?_
  refine call_v ?_
  refine value_all_1.up (v0 := v.v) (value_all_1.call ?_)
  unfold value_all_1.pt
  refine h.box fun o w1 h => ?_
  have h : Rel B' w1 [cellD o T_api_Value v.cs.toArray] := h
  rw [h.ldAg 0 rfl ag_api_Value rfl]
  refine h.ask (fun B2 own base2 => vRight_g v) fun w2 h => ?_
  rw [un_not]
  exact k _ _ h
theorem rowRight_g {u : Value} {l : List ValD} (r : rowR u l B) (hl : l.length ≤ 4611686018427387904) : Gives Try.prog B (sCall F_value_RightRow #[u]) (.bool (rowRight l)) := by
  refine Gives.intro fun B' w K base h k => ?_
  replace r := base r
  refine value_RightRow.up (value_RightRow.call ?_)
  unfold value_RightRow.pt
  unfold rowRight at k
  simp -zeta only [rowR.len r sl_s_api_Value, bin_leq, ifB_dec]
  refine ⟨fun c => ?_, fun c => ?_⟩
  · rw [decide_eq_true c, Bool.true_and] at k
    refine h.ask (v := .bool (l.all vRight)) (fun B2 own base2 => ?_) fun w1 h => k _ _ h
    refine Gives.intro fun B3 w K base3 h k => ?_
    refine value_all.up (value_all.call ?_)
    unfold value_all.pt
    refine h.ask (fun B4 own base4 => gslices_ContainsFunc_s_api_Value_api_Value (base4 (base3 (base2 r))) hl (fun v => !vRight v) fun B5 base5 x _ => all1_g x) fun w1 h => ?_
    rw [un_not]
    have e : (!l.any fun v => !vRight v) = l.all vRight := by
      rw [List.not_any_eq_all_not]
      simp
    rw [e]
    exact k _ _ h
  · rw [decide_eq_false c, Bool.false_and] at k
    exact k _ _ h
theorem fits1_g {b : Nat} {en : EnD} (hc : cellD b T_api_Entry en.cs.toArray B) (x : KnD) : Gives Try.prog B (sCallV (.func (.func F_intake_Intake_fits_1) #[] #[.pointer (some ⟨b, 0, none⟩)]) #[Enc.val x]) (.bool (decide (x.source = en.source) && decide (x.schema = en.schema))) := by
  refine Gives.intro fun B' w K base h k => ?_
  replace hc := base hc
  refine call_v ?_
  refine intake_Intake_fits_1.up (k0 := x.v) (t1 := .pointer (some ⟨b, 0, none⟩)) (intake_Intake_fits_1.call ?_)
  unfold intake_Intake_fits_1.pt
  refine h.box fun o w1 h => ?_
  have h : Rel B' w1 [cellD o T_api_Known x.cs.toArray] := h
  simp -zeta only [field_addr f_api_Known_0, field_addr f_api_Known_1, field_addr f_api_Entry_4, field_addr f_api_Entry_5, Nat.add_zero, Nat.zero_add, h.ld 0 rfl sc_string (o := 0) rfl, h.ld 0 rfl sc_int (o := 1) rfl, cellD.ld (h.hereB hc) sc_string (o := 4) rfl, cellD.ld (h.hereB hc) sc_int (o := 5) rfl, eql_str, ifB_dec]
  refine ⟨fun c => ?_, fun c => ?_⟩
  · rw [decide_eq_true c, Bool.true_and] at k
    rw [bin_eql]
    exact k _ _ h
  · rw [decide_eq_false c, Bool.false_and] at k
    exact k _ _ h
theorem fits2_g (v : ValD) (c : ColD) : Gives Try.prog B (sCallV (.func (.func F_intake_Intake_fits_2) #[] #[]) #[Enc.val v, Enc.val c]) (.bool (decide (v.kind = c.type_))) := by
  refine Gives.intro fun B' w K base h k => ?_
  refine call_v ?_
  refine intake_Intake_fits_2.up (v0 := v.v) (c1 := c.v) (intake_Intake_fits_2.call ?_)
  unfold intake_Intake_fits_2.pt
  refine h.box fun o w1 h => ?_
  refine h.box fun o2 w2 h => ?_
  have h : Rel B' w2 [cellD o T_api_Value v.cs.toArray, cellD o2 T_api_Col c.cs.toArray] := h
  simp -zeta only [field_addr f_api_Value_0, field_addr f_api_Col_1, Nat.add_zero, Nat.zero_add, h.ld 0 rfl sc_int (o := 0) rfl, h.ld 1 rfl sc_int (o := 1) rfl, bin_eql]
  exact k _ _ h
theorem equalKinds_g {u v : Value} {l : List ValD} {m : List ColD} (r : rowR u l B) (q : rowR v m B) (hl : l.length ≤ 4611686018427387904) : Gives Try.prog B (sCall F_slices_EqualFunc_s_api_Value_s_api_Col_api_Value_api_Col #[u, v, .func (.func F_intake_Intake_fits_2) #[] #[]]) (.bool (kindsFit l m)) := by
  refine Gives.intro fun B' w K base h k => ?_
  replace r := base r
  replace q := base q
  refine slices_EqualFunc_s_api_Value_s_api_Col_api_Value_api_Col.up (slices_EqualFunc_s_api_Value_s_api_Col_api_Value_api_Col.call ?_)
  unfold slices_EqualFunc_s_api_Value_s_api_Col_api_Value_api_Col.pt
  have no : ∀ w' τ, Rel B' w' τ → l.map (·.kind) ≠ m.map (·.type_) → K (.bool false) w' := fun w' τ h hn => by
    rw [show kindsFit l m = false from decide_eq_false hn] at k
    exact k _ _ h
  simp -zeta only [rowR.len r sl_s_api_Value, rowR.len q sl_s_api_Col, bin_neq, ifB_not, ifB_dec]
  refine ⟨fun he => ?_, fun hne => no _ _ h fun hh => hne (by have := congrArg List.length hh; rw [List.length_map, List.length_map] at this; rw [this])⟩
  refine LOOP_intro (fun x w' => ∃ i : Nat, i ≤ l.length ∧ x = (.int .i64 i, ()) ∧ (∀ j (h1 : j < l.length) (h2 : j < m.length), j < i → l[j].kind = m[j].type_) ∧ Rel B' w' []) (fun x _ => l.length - (match x.1 with | .int _ n => n.toNat | _ => 0))
    ⟨0, Nat.zero_le _, rfl, fun j _ _ hj => absurd hj (Nat.not_lt_zero j), h⟩ ?_
  clear h
  rintro x w1 ⟨i, hi, rfl, hin, h⟩ next hnext
  simp -zeta only [bin_lss, ifB_dec]
  refine ⟨fun hlt => ?_, fun hge => ?_⟩
  · have hil : i < l.length := by omega
    have him : i < m.length := by omega
    obtain ⟨g, o, hx, hc⟩ := rowR.idx r sl_s_api_Value (P := Try.prog) hil
    obtain ⟨g2, o2, hx2, hc2⟩ := rowR.idx q sl_s_api_Col (P := Try.prog) him
    have hc : cellsR g o l[i].cs B' := hc
    have hc2 : cellsR g2 o2 m[i].cs B' := hc2
    rw [hx, cellsR.ldAg (h.hereB hc) ag_api_Value rfl]
    refine h.allocAg (ds := l[i].cs.toArray) z_api_Value rfl ag_api_Value rfl (fun v hv => Enc.one l[i] v hv) fun a w3 h => ?_
    rw [hx2, cellsR.ldAg (h.hereB hc2) ag_api_Col rfl]
    refine h.allocAg (ds := m[i].cs.toArray) z_api_Col rfl ag_api_Col rfl (fun v hv => Enc.one m[i] v hv) fun a2 w5 h => ?_
    have h : Rel B' w5 [cellD a T_api_Value l[i].cs.toArray, cellD a2 T_api_Col m[i].cs.toArray] := h
    rw [h.ldAg 0 rfl ag_api_Value rfl, h.ldAg 1 rfl ag_api_Col rfl]
    refine h.ask (fun B2 own base2 => fits2_g l[i] m[i]) fun w6 h => ?_
    rw [un_not, ifB_not, ifB_dec]
    refine ⟨fun c => ?_, fun c => no _ _ h fun hh => c ?_⟩
    · rw [bin_add, wrap_id (by omega) (by omega)]
      refine hnext _ _ ⟨i + 1, hil, rfl, fun j h1 h2 hj => ?_, h.nil⟩ (by simp only; omega)
      by_cases e : j = i
      · subst e; exact c
      · exact hin j h1 h2 (by omega)
    · have h1 : (l.map (·.kind))[i]'(by rw [List.length_map]; exact hil) = (m.map (·.type_))[i]'(by rw [List.length_map]; exact him) := by simp only [hh]
      simpa using h1
  · have : l.map (·.kind) = m.map (·.type_) := List.ext_getElem (by rw [List.length_map, List.length_map]; omega) fun j h1 h2 => by
      rw [List.length_map] at h1 h2
      simp only [List.getElem_map]
      exact hin j h1 h2 (by omega)
    rw [show kindsFit l m = true from decide_eq_true this] at k
    exact k _ _ h
end
end Go.Proofs.Ytefinemhfgdpdaa
