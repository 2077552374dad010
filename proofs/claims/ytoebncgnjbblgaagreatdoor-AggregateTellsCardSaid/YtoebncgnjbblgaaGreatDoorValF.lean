/-
  The reference of layer 3: Right, Compare, Same. No condition.
-/
import Derived.Test.YtoebncgnjbblgaaGreatDoorVaP
import Derived.Test.YtoebncgnjbblgaaGreatDoorValA
--@auto
namespace Go.Proofs.YtoebncgnjbblgaaGreatDoor
open Go.RowKit
set_option maxRecDepth 100000

def vRight' (v : ValD) : Bool := if v.kind = 0 then decide (v.s = ⟨#[]⟩) else if v.kind = 1 then decide (v.n = 0) && decide ((v.s.size : Int) ≤ 200) else decide (v.kind = 2) && ((decide (v.n = 0) || decide (v.n = 1)) && decide (v.s = ⟨#[]⟩))
theorem vRight_eq (v : ValD) : vRight v = vRight' v := by
  obtain ⟨k, n, s⟩ := v
  unfold vRight vRight' vInt vText vBool
  simp only [D_api_Value.mk.injEq]
  by_cases h0 : k = 0
  · simp [h0]
  · by_cases h1 : k = 1
    · simp [h1]
    · simp only [h0, h1, if_false]
      by_cases h2 : k = 2
      · by_cases h3 : n = 0
        · simp [h2, h3]
        · simp [h2, h3]
      · simp [h2]
section
variable {B : Base} {w : World} {σ : List Dat}
theorem fRight_g (v : ValD) : Gives Tryz.prog B (sCall F_errataref03_Right #[.agg v.cs.toArray]) (.bool (vRight v)) := by
  refine Gives.intro fun B' w K base h k => ?_
  refine errataref03_Right.up (errataref03_Right.call ?_)
  unfold errataref03_Right.pt
  rw [vRight_eq] at k
  unfold vRight' at k
  refine h.box fun o w1 h => ?_
  have h : Rel B' w1 [cellD o T_api_Value v.cs.toArray] := h
  simp -zeta only [field_addr f_api_Value_0, field_addr f_api_Value_1, field_addr f_api_Value_2, Nat.add_zero, Nat.zero_add, h.ld 0 rfl sc_int (o := 0) rfl, h.ld 0 rfl sc_int (o := 1) rfl, h.ld 0 rfl sc_string (o := 2) rfl, bin_eql, eql_str, len_string U_string, bin_leq]
  rw [ifB_dec]
  refine ⟨fun c0 => by rw [if_pos c0] at k; exact k _ _ h, fun c0 => ?_⟩
  rw [if_neg c0] at k
  rw [ifB_dec]
  refine ⟨fun c1 => ?_, fun c1 => ?_⟩
  · rw [if_pos c1] at k
    rw [ifB_dec]
    refine ⟨fun c2 => by rw [decide_eq_true c2, Bool.true_and] at k; exact k _ _ h, fun c2 => by rw [decide_eq_false c2, Bool.false_and] at k; exact k _ _ h⟩
  rw [if_neg c1] at k
  rw [ifB_dec]
  refine ⟨fun c2 => ?_, fun c2 => by rw [decide_eq_false c2, Bool.false_and] at k; exact k _ _ h⟩
  rw [decide_eq_true c2, Bool.true_and] at k
  rw [ifB_dec]
  refine ⟨fun c3 => by rw [decide_eq_true c3, Bool.true_or, Bool.true_and] at k; exact k _ _ h, fun c3 => ?_⟩
  rw [decide_eq_false c3, Bool.false_or] at k
  rw [ifB_dec]
  refine ⟨fun c4 => by rw [decide_eq_true c4, Bool.true_and] at k; exact k _ _ h, fun c4 => by rw [decide_eq_false c4, Bool.false_and] at k; exact k _ _ h⟩
theorem fAll_g {u : Value} {l : List ValD} (r : rowR u l B) (hl : l.length ≤ 9223372036854775807) : Gives Tryz.prog B (sCall F_errataref03_All #[u]) (.bool (l.all vRight)) := by
  refine Gives.intro fun B' w K base h k => ?_
  replace r := base r
  refine errataref03_All.up (errataref03_All.call ?_)
  unfold errataref03_All.pt
  refine LOOP_intro (fun x w' => ∃ i : Nat, i ≤ l.length ∧ x = (.int .i64 i, ()) ∧ (∀ j (h1 : j < l.length), j < i → vRight l[j] = true) ∧ Rel B' w' []) (fun x _ => l.length - (match x.1 with | .int _ n => n.toNat | _ => 0))
    ⟨0, Nat.zero_le _, rfl, fun j _ hj => absurd hj (Nat.not_lt_zero j), h⟩ ?_
  clear h
  rintro x w1 ⟨i, hi, rfl, hin, h⟩ next hnext
  simp -zeta only [rowR.len r sl_s_api_Value, bin_lss, ifB_dec]
  refine ⟨fun hlt => ?_, fun hge => ?_⟩
  · have hil : i < l.length := by omega
    obtain ⟨g, o, hx, hcl⟩ := rowR.idx r sl_s_api_Value (P := Tryz.prog) hil
    have hcl : cellsR g o l[i].cs B' := hcl
    rw [hx, cellsR.ldAg (h.hereB hcl) ag_api_Value rfl]
    refine h.ask (fun B2 own base2 => fRight_g l[i]) fun w2 h => ?_
    rw [un_not, ifB_not, ifB_bool]
    refine ⟨fun c => ?_, fun c => ?_⟩
    · rw [bin_add, wrap_id (by omega) (by omega)]
      refine hnext _ _ ⟨i + 1, hil, rfl, fun j h1 hj => ?_, h⟩ (by simp only; omega)
      by_cases e : j = i
      · subst e; exact c
      · exact hin j h1 (by omega)
    · have : l.all vRight = false := by
        cases ha : l.all vRight
        · rfl
        · have := List.all_eq_true.1 ha l[i] (List.getElem_mem hil); rw [c] at this; cases this
      rw [this] at k
      exact k _ _ h
  · have : l.all vRight = true := List.all_eq_true.2 fun v hv => by
      obtain ⟨j, hj, rfl⟩ := List.getElem_of_mem hv
      exact hin j hj (by omega)
    rw [this] at k
    exact k _ _ h
theorem fCompare_g (a b : ValD) : Gives Tryz.prog B (sCall F_errataref03_Compare #[.agg a.cs.toArray, .agg b.cs.toArray]) (.int .i64 (compareV a b)) := by
  refine Gives.intro fun B' w K base h k => ?_
  refine errataref03_Compare.up (errataref03_Compare.call ?_)
  unfold errataref03_Compare.pt
  refine h.box fun o w1 h => ?_
  refine h.box fun p w2 h => ?_
  have h : Rel B' w2 [cellD o T_api_Value a.cs.toArray, cellD p T_api_Value b.cs.toArray] := h
  have hl : ∀ s t : ByteArray, Op.bytesLess s.toList t.toList = decide (Go.Lib.compareBytes (bl s) (bl t) < 0) := fun s t => by
    rw [ByteArray.toList_eq, ByteArray.toList_eq]; exact bytesLess_eq _ _
  simp -zeta only [field_addr f_api_Value_0, field_addr f_api_Value_1, field_addr f_api_Value_2, Nat.add_zero, Nat.zero_add, h.ld 0 rfl sc_int (o := 0) rfl, h.ld 0 rfl sc_int (o := 1) rfl, h.ld 0 rfl sc_string (o := 2) rfl,
    h.ld 1 rfl sc_int (o := 0) rfl, h.ld 1 rfl sc_int (o := 1) rfl, h.ld 1 rfl sc_string (o := 2) rfl, bin_lss, bin_gtr, str_lss, str_gtr, hl, toList_beq]
  unfold compareV at k
  rw [ifB_dec]
  refine ⟨fun c => ?_, fun c1 => ?_⟩
  · have : cmpI a.kind b.kind = -1 := by unfold cmpI; rw [if_pos c]
    rw [this, if_pos (by decide)] at k; exact k _ _ h
  rw [ifB_dec]
  refine ⟨fun c => ?_, fun c2 => ?_⟩
  · have : cmpI a.kind b.kind = 1 := by unfold cmpI; rw [if_neg c1, if_pos c]
    rw [this, if_pos (by decide)] at k; exact k _ _ h
  have e : cmpI a.kind b.kind = 0 := by unfold cmpI; rw [if_neg c1, if_neg c2]
  rw [e, if_neg (by decide)] at k
  rw [ifB_dec]
  refine ⟨fun c => ?_, fun c3 => ?_⟩
  · have : cmpI a.n b.n = -1 := by unfold cmpI; rw [if_pos c]
    rw [this, if_pos (by decide)] at k; exact k _ _ h
  rw [ifB_dec]
  refine ⟨fun c => ?_, fun c4 => ?_⟩
  · have : cmpI a.n b.n = 1 := by unfold cmpI; rw [if_neg c3, if_pos c]
    rw [this, if_pos (by decide)] at k; exact k _ _ h
  have e : cmpI a.n b.n = 0 := by unfold cmpI; rw [if_neg c3, if_neg c4]
  rw [e, if_neg (by decide)] at k
  have hr := bytes_ord.range (bl a.s) (bl b.s)
  have he := bytes_ord.eq (bl a.s) (bl b.s)
  rw [ifB_dec]
  refine ⟨fun c => ?_, fun c5 => ?_⟩
  · rw [show Go.Lib.compareBytes (bl a.s) (bl b.s) = -1 by omega] at k; exact k _ _ h
  rw [ifB_not, ifB_bool]
  refine ⟨fun c => ?_, fun c => ?_⟩
  · have : Go.Lib.compareBytes (bl a.s) (bl b.s) = 0 := by
      rcases Bool.or_eq_true _ _ ▸ c with c | c
      · exact absurd (of_decide_eq_true c) c5
      · exact he.2 (by rw [of_decide_eq_true c])
    rw [this] at k; exact k _ _ h
  · rw [Bool.or_eq_false_iff] at c
    have c6 : ¬ Go.Lib.compareBytes (bl a.s) (bl b.s) = 0 := fun hh => of_decide_eq_false c.2 (bl_inj (he.1 hh))
    rw [show Go.Lib.compareBytes (bl a.s) (bl b.s) = 1 by omega] at k; exact k _ _ h
theorem fCompareRows_g {u v : Value} {l m : List ValD} (r : rowR u l B) (q : rowR v m B) (hl : l.length ≤ 9223372036854775807) : Gives Tryz.prog B (sCall F_errataref03_CompareRows #[u, v]) (.int .i64 (compareRows l m)) := by
  refine Gives.intro fun B' w K base h k => ?_
  replace r := base r
  replace q := base q
  refine errataref03_CompareRows.up (errataref03_CompareRows.call ?_)
  unfold errataref03_CompareRows.pt
  rw [rows_lex] at k
  refine LETJ_intro fun J1 hJ1 => ?_
  replace hJ1 : ∀ (i : Nat) w', i ≤ l.length → i ≤ m.length → (l.length ≤ i ∨ m.length ≤ i) → (∀ j (h1 : j < l.length) (h2 : j < m.length), j < i → compareV l[j] m[j] = 0) → Rel B' w' [] → J1 () w' := fun i w' h1 h2 h3 hin h => by
    refine hJ1 _ _ ?_
    rw [lex_same i hin h1 h2] at k
    simp -zeta only [rowR.len r sl_s_api_Value, rowR.len q sl_s_api_Value, bin_lss, bin_gtr]
    rw [ifB_dec]
    refine ⟨fun c => ?_, fun c => ?_⟩
    · rw [List.drop_of_length_le (show l.length ≤ i by omega), List.drop_eq_getElem_cons (show i < m.length by omega)] at k
      exact k _ _ h
    rw [ifB_dec]
    refine ⟨fun c2 => ?_, fun c2 => ?_⟩
    · rw [List.drop_of_length_le (show m.length ≤ i by omega), List.drop_eq_getElem_cons (show i < l.length by omega)] at k
      exact k _ _ h
    · rw [List.drop_of_length_le (show m.length ≤ i by omega), List.drop_of_length_le (show l.length ≤ i by omega)] at k
      exact k _ _ h
  refine LOOP_intro (fun x w' => ∃ i : Nat, i ≤ l.length ∧ i ≤ m.length ∧ x = (.int .i64 i, ()) ∧ (∀ j (h1 : j < l.length) (h2 : j < m.length), j < i → compareV l[j] m[j] = 0) ∧ Rel B' w' []) (fun x _ => l.length - (match x.1 with | .int _ n => n.toNat | _ => 0))
    ⟨0, Nat.zero_le _, Nat.zero_le _, rfl, fun j _ _ hj => absurd hj (Nat.not_lt_zero j), h⟩ ?_
  clear h
  rintro x w1 ⟨i, hi, hi2, rfl, hin, h⟩ next hnext
  simp -zeta only [rowR.len r sl_s_api_Value, rowR.len q sl_s_api_Value, bin_lss, ifB_dec]
  refine ⟨fun hlt => ⟨fun hlt2 => ?_, fun hge => hJ1 i _ hi hi2 (.inr (by omega)) hin h⟩, fun hge => hJ1 i _ hi hi2 (.inl (by omega)) hin h⟩
  have hil : i < l.length := by omega
  have him : i < m.length := by omega
  obtain ⟨g, o, hx, hcl⟩ := rowR.idx r sl_s_api_Value (P := Tryz.prog) hil
  obtain ⟨g2, o2, hx2, hcl2⟩ := rowR.idx q sl_s_api_Value (P := Tryz.prog) him
  have hcl : cellsR g o l[i].cs B' := hcl
  have hcl2 : cellsR g2 o2 m[i].cs B' := hcl2
  have h := h.tick
  rw [hx, cellsR.ldAg (h.hereB hcl) ag_api_Value rfl, hx2, cellsR.ldAg (h.hereB hcl2) ag_api_Value rfl]
  refine h.ask (fun B2 own base2 => fCompare_g l[i] m[i]) fun w2 h => ?_
  rw [bin_neq, ifB_not, ifB_dec]
  refine ⟨fun c => ?_, fun c => ?_⟩
  · rw [bin_add, wrap_id (by omega) (by omega)]
    refine hnext _ _ ⟨i + 1, hil, him, rfl, fun j h1 h2 hj => ?_, h⟩ (by simp only; omega)
    by_cases e : j = i
    · subst e; exact c
    · exact hin j h1 h2 (by omega)
  · rw [lex_first i hil him hin c] at k
    exact k _ _ h
theorem fSame_g {u v : Value} {l m : List ValD} (r : rowR u l B) (q : rowR v m B) (hl : l.length ≤ 9223372036854775807) : Gives Tryz.prog B (sCall F_errataref03_Same #[u, v]) (.bool (decide (l = m))) := by
  refine Gives.intro fun B' w K base h k => ?_
  refine errataref03_Same.up (errataref03_Same.call ?_)
  unfold errataref03_Same.pt
  refine h.ask (fun B2 own base2 => fCompareRows_g (base2 (base r)) (base2 (base q)) hl) fun w1 h => ?_
  rw [bin_eql]
  have : decide (compareRows l m = 0) = decide (l = m) := by
    have := rows_ord.eq l m
    by_cases c : l = m
    · rw [decide_eq_true c, decide_eq_true (this.2 c)]
    · rw [decide_eq_false c, decide_eq_false fun hh => c (this.1 hh)]
  rw [this]
  exact k _ _ h
end
end Go.Proofs.YtoebncgnjbblgaaGreatDoor
