/-
  ValueOrder: what the law computes. No condition.
-/
import Derived.Test.YtifhbaphlmhoeaaDoorVaB
--@auto
namespace Go.Proofs.YtifhbaphlmhoeaaDoor
open Go.RowKit
set_option maxRecDepth 100000

section
variable {W : World} {w : World} {K : Value → World → Prop}
set_option maxHeartbeats 1000000 in
theorem valueOrder_pt {u0 u1 u2 u3 : Value} {a b c e : List ValD} (hB : wireD (lawB W)) (ra : rowR u0 a (lawB W)) (ha : a.length ≤ maxLen) (oa : ∀ v ∈ a, ok_api_Value W v) (rb : rowR u1 b (lawB W)) (hb : b.length ≤ maxLen) (ob : ∀ v ∈ b, ok_api_Value W v)
    (rc : rowR u2 c (lawB W)) (hc : c.length ≤ maxLen) (_ : ∀ v ∈ c, ok_api_Value W v) (re : rowR u3 e (lawB W)) (he : e.length ≤ maxLen) (_ : ∀ v ∈ e, ok_api_Value W v)
    (fin : ∀ w' σ, Rel (lawB W) w' σ → K (.bool true) w') : erratalaw03_ValueOrder.pt u0 u1 u2 u3 W K := by
  unfold erratalaw03_ValueOrder.pt
  have h := lawB.start W
  refine h.ask (fun B2 own base2 => small_g (base2 hB)) fun w1 h => ?_
  refine h.ask (fun B2 own base2 => short_g (base2 ra) ha 15) fun w2 h => ?_
  rw [un_not, ifB_not, ifB_bool]
  refine ⟨fun hs => ?_, fun _ => fin _ _ h⟩
  obtain ⟨la, sa⟩ := bnd_law ra hs (by omega)
  refine h.ask (fun B2 own base2 => short_g (base2 rb) hb 15) fun w2 h => ?_
  rw [un_not, ifB_not, ifB_bool]
  refine ⟨fun hs => ?_, fun _ => fin _ _ h⟩
  obtain ⟨lb, sb⟩ := bnd_law rb hs (by omega)
  refine h.ask (fun B2 own base2 => short_g (base2 rc) hc 15) fun w2 h => ?_
  rw [un_not, ifB_not, ifB_bool]
  refine ⟨fun hs => ?_, fun _ => fin _ _ h⟩
  obtain ⟨lc, _⟩ := bnd_law rc hs (by omega)
  refine h.ask (fun B2 own base2 => short_g (base2 re) he 5) fun w2 h => ?_
  rw [un_not, ifB_not, ifB_bool]
  refine ⟨fun hs => ?_, fun _ => fin _ _ h⟩
  obtain ⟨le, _⟩ := bnd_law re hs (by omega)
  refine h.ask (fun B2 own base2 => compareRows_g (base2 ra) (base2 rb) (by omega)) fun w2 h => ?_
  refine h.ask (fun B2 own base2 => compareRows_g (base2 rb) (base2 rc) (by omega)) fun w2 h => ?_
  refine h.ask (fun B2 own base2 => compareRows_g (base2 ra) (base2 rc) (by omega)) fun w8 h => ?_
  have O := rows_ord
  have ga : ∀ v ∈ a, GoodVal v ∧ (bl v.s).length ≤ 1000000 := fun v hv => ⟨goodVal (oa v hv) (by have := sa v hv; omega), by have := sa v hv; omega⟩
  have gb : ∀ v ∈ b, GoodVal v ∧ (bl v.s).length ≤ 1000000 := fun v hv => ⟨goodVal (ob v hv) (by have := sb v hv; omega), by have := sb v hv; omega⟩
  have heq : compareRows a b = 0 ↔ encRow a = encRow b := (O.eq a b).trans ⟨fun h => by rw [h], fun h => encRow_inj (by omega) (by omega) (fun v hv => (ga v hv).1) (fun v hv => (gb v hv).1) h⟩
  have hofl : ∀ {x y : Bs}, ofL x = ofL y ↔ x = y := fun {x y} => ⟨fun h => by have := congrArg bl h; exact this, fun h => by rw [h]⟩
  have lt_bool : ∀ {p q : Prop} [Decidable p] [Decidable q], (p ↔ q) → (!(decide p == decide q)) = false := fun h => by simp [h]
  refine LETJ_intro fun J1 hJ1 => ?_
  replace hJ1 : ∀ w' σ, Rel (lawB W) w' σ → J1 () w' := fun w' σ h => by
    refine hJ1 _ _ ?_
    replace h := h.nil
    rw [bin_eql]
    refine h.ask (fun B2 own base2 => rowBytes_g (base2 hB) (base2 ra) (by omega) ga) fun w10 h => ?_
    refine h.ask (fun B2 own base2 => rowBytes_g (base2 hB) (base2 rb) (by omega) gb) fun w11 h => ?_
    rw [eql_str, bin_neq_bool U_bool, lt_bool (heq.trans hofl.symm), ifB_false]
    refine h.ask (fun B2 own base2 => sameRows_g (base2 ra) (base2 rb) (by omega)) fun w12 h => ?_
    rw [bin_eql, bin_neq_bool U_bool, lt_bool (O.eq a b).symm, ifB_false]
    refine h.ask (fun B2 own base2 => compareRows_g (base2 ra) (base2 ra) (by omega)) fun w13 h => ?_
    rw [bin_neq, decide_eq_true ((O.eq a a).2 rfl), Bool.not_true, ifB_false]
    refine LETJ_intro fun J2 hJ2 => ?_
    replace hJ2 : ∀ (d : Bool) w' σ, Rel (lawB W) w' σ → (d = true → ∃ j, ∃ (h1 : j < a.length) (h2 : j < b.length), compareV a[j] b[j] ≠ 0) → J2 (.bool d, ()) w' := fun d w' σ h hd => by
      refine hJ2 _ _ ?_
      replace h := h.nil
      refine h.build0 (α := ValD) sl_s_api_Value fun t180 w15 h _ => ?_
      refine h.append (α := ValD) 0 rfl sl_s_api_Value (l2 := a) (Rd.base ra) (by simp only [List.length_nil]; omega) (by simp only [List.length_nil]; omega) fun t182 w16 h => ?_
      refine h.append (α := ValD) 0 rfl sl_s_api_Value (l2 := e) (Rd.base re) (by rw [List.nil_append]; omega) (by rw [List.nil_append]; omega) fun t184 w17 h => ?_
      have h : Rel (lawB W) w17 [rowD T_api_Value t184 (a ++ e)] := h
      refine LETJ_intro fun J3 hJ3 => ?_
      replace hJ3 : ∀ w', Rel (lawB W) w' [rowD T_api_Value t184 (a ++ e)] → J3 () w' := fun w' h => by
        refine hJ3 _ _ ?_
        rw [ifB_true]
        simp -zeta only [rowR.len re sl_s_api_Value, bin_eql]
        rw [ifB_dec]
        refine ⟨fun _ => fin _ _ h, fun hne => ?_⟩
        refine h.ask (fun B2 own base2 => compareRows_g (base2 ra) (rowD.read (own (i := 0) rfl)) (by omega)) fun w19 h => ?_
        rw [bin_eql, decide_eq_true]
        · exact fin _ _ h
        · rw [rows_lex]
          exact lex_behind compareV_ord (fun hh => hne (by rw [hh]; rfl)) a
      rw [ifB_bool]
      refine ⟨fun hd1 => ?_, fun _ => hJ3 _ h⟩
      refine h.ask (fun B2 own base2 => compareRows_g (rowD.read (own (i := 0) rfl)) (base2 rb) (by rw [List.length_append]; omega)) fun w20 h => ?_
      rw [bin_neq, decide_eq_true, Bool.not_true, ifB_false]
      · exact hJ3 _ h
      · rw [rows_lex, rows_lex]; exact lex_longer (hd hd1)
    refine LOOP_intro (fun x w' => ∃ (i : Nat) (d : Bool), i ≤ a.length ∧ i ≤ b.length ∧ x = (.bool d, .int .i64 i, ()) ∧ (d = false → ∀ j (h1 : j < a.length) (h2 : j < b.length), j < i → compareV a[j] b[j] = 0) ∧
        (d = true → ∃ j, ∃ (h1 : j < a.length) (h2 : j < b.length), compareV a[j] b[j] ≠ 0) ∧ Rel (lawB W) w' []) (fun x _ => a.length - (match x.2.1 with | .int _ n => n.toNat | _ => 0))
      ⟨0, false, Nat.zero_le _, Nat.zero_le _, rfl, fun _ j _ _ hj => absurd hj (Nat.not_lt_zero j), (fun hh => absurd hh (by decide)), h⟩ ?_
    clear h
    rintro x w21 ⟨i, d, hia, hib, rfl, hd0, hd1, h⟩ next hnext
    simp -zeta only [rowR.len ra sl_s_api_Value, rowR.len rb sl_s_api_Value, bin_lss, ifB_dec]
    refine ⟨fun hlt => ⟨fun hlt2 => ?_, fun _ => hJ2 d _ _ h hd1⟩, fun _ => hJ2 d _ _ h hd1⟩
    have hi1 : i < a.length := by omega
    have hi2 : i < b.length := by omega
    refine LETJ_intro fun J4 hJ4 => ?_
    replace hJ4 : ∀ (d' : Bool) w' σ, Rel (lawB W) w' σ → (d' = false → d = false ∧ compareV a[i] b[i] = 0) → (d' = true → d = true ∨ compareV a[i] b[i] ≠ 0) → J4 (.bool d', ()) w' := fun d' w' σ h h0 h1 => by
      refine hJ4 _ _ ?_
      rw [bin_add, wrap_id (by omega) (by omega)]
      refine hnext _ _ ⟨i + 1, d', hi1, hi2, rfl, fun hd j h1 h2 hj => ?_, fun hd => ?_, h.nil⟩ (by simp only; omega)
      · obtain ⟨k1, k2⟩ := h0 hd
        by_cases ej : j = i
        · subst ej; exact k2
        · exact hd0 k1 j h1 h2 (by omega)
      · rcases h1 hd with k | k
        · exact hd1 k
        · exact ⟨i, hi1, hi2, k⟩
    clear hnext
    obtain ⟨g, o, hx, hcl⟩ := rowR.idx ra sl_s_api_Value (P := Tryd.prog) hi1
    obtain ⟨g2, o2, hx2, hcl2⟩ := rowR.idx rb sl_s_api_Value (P := Tryd.prog) hi2
    have hcl : cellsR g o a[i].cs (lawB W) := hcl
    have hcl2 : cellsR g2 o2 b[i].cs (lawB W) := hcl2
    have h := h.tick
    rw [hx, cellsR.ldAg (h.hereB hcl) ag_api_Value rfl, hx2, cellsR.ldAg (h.hereB hcl2) ag_api_Value rfl]
    refine h.ask (fun B2 own base2 => compareV_g a[i] b[i]) fun w23 h => ?_
    have e1 : ((i : Int) + 1) = ((i + 1 : Nat) : Int) := by omega
    simp -zeta only [bin_add, e1, wrap_id (n := ((i + 1 : Nat) : Int)) (by omega) (by omega)]
    rw [rowR.cutE (α := ValD) ra sl_s_api_Value (lo := i) (hi := i + 1) Bnd.some Bnd.some (by omega) (by omega), rowR.cutE (α := ValD) rb sl_s_api_Value (lo := i) (hi := i + 1) Bnd.some Bnd.some (by omega) (by omega)]
    have h := h.tick
    refine h.ask (fun B2 own base2 => compareRows_g (rowR.cutR (base2 ra) (lo := i) (hi := i + 1) (by omega) (by omega)) (rowR.cutR (base2 rb) (lo := i) (hi := i + 1) (by omega) (by omega)) (by simp only [List.length_drop, List.length_take]; omega)) fun w24 h => ?_
    have one : ∀ {l : List ValD} (hl : i < l.length), (l.take (i + 1)).drop i = [l[i]] := fun {l} hl => by
      rw [List.take_succ_eq_append_getElem hl, List.drop_append_of_le_length (by rw [List.length_take]; omega), List.drop_of_length_le (by rw [List.length_take]; omega), List.nil_append]
    have e2 : compareRows [a[i]] [b[i]] = compareV a[i] b[i] := by
      rw [compareRows]
      by_cases k : compareV a[i] b[i] ≠ 0
      · rw [if_pos k]
      · rw [if_neg k, Classical.not_not.1 k]; rfl
    rw [one hi1, one hi2, e2, bin_neq, decide_eq_true rfl, Bool.not_true, ifB_false, bin_eql]
    rw [hx, cellsR.ldAg (h.hereB hcl) ag_api_Value rfl, hx2, cellsR.ldAg (h.hereB hcl2) ag_api_Value rfl]
    have g1 := ga a[i] (List.getElem_mem hi1)
    have g2' := gb b[i] (List.getElem_mem hi2)
    refine h.ask (fun B2 own base2 => vBytes_g (base2 hB) g1.1 (by omega)) fun w25 h => ?_
    refine ⟨cellsR.isAg (h.hereB hcl2) ag_api_Value rfl, ?_⟩
    refine h.ask (fun B2 own base2 => vBytes_g (base2 hB) g2'.1 (by omega)) fun w26 h => ?_
    have e3 : compareV a[i] b[i] = 0 ↔ ofL (encV1 a[i]) = ofL (encV1 b[i]) := (compareV_ord.eq _ _).trans ⟨fun hh => by rw [hh], fun hh => encV1_inj g1.1 g2'.1 (hofl.1 hh)⟩
    rw [eql_str, bin_neq_bool U_bool, lt_bool e3, ifB_false]
    refine LETJ_intro fun J5 hJ5 => ?_
    replace hJ5 : ∀ w' σ, Rel (lawB W) w' σ → J5 () w' := fun w' σ h => by
      refine hJ5 _ _ ?_
      rw [ifB_bool]
      refine ⟨fun hd => hJ4 true _ _ h (fun hh => by cases hh) fun _ => .inl hd, fun hd => ?_⟩
      rw [bin_neq]
      refine hJ4 _ _ _ h (fun hh => ⟨hd, by simpa using hh⟩) fun hh => .inr (by simpa using hh)
    rw [un_not, ifB_not, ifB_bool]
    refine ⟨fun _ => hJ5 _ _ h, fun hd => ?_⟩
    rw [bin_neq, ifB_not, ifB_dec]
    refine ⟨fun _ => hJ5 _ _ h, fun hne => ?_⟩
    rw [bin_neq, decide_eq_true, Bool.not_true, ifB_false]
    · exact hJ5 _ _ h
    · rw [rows_lex]; exact (lex_first i hi1 hi2 (hd0 hd) hne).symm
  have q1 := O.range a b
  have q2 := O.anti a b
  have q3 := O.trans a b c
  have q4 : compareRows a b ≤ 0 → compareRows b c ≤ 0 → (compareRows a b < 0 ∨ compareRows b c < 0) → compareRows a c < 0 := fun h1 h2 h3 => O.strict h1 h2 h3
  rw [bin_lss, decide_eq_false (by omega), ifB_false, bin_gtr, decide_eq_false (by omega), ifB_false]
  refine h.ask (fun B2 own base2 => compareRows_g (base2 rb) (base2 ra) (by omega)) fun w28 h => ?_
  generalize compareRows a b = x at *
  generalize compareRows b c = y at *
  generalize compareRows a c = z at *
  rw [un_neg, wrap_id (by omega) (by omega), q2, bin_neq, decide_eq_true (by omega), Bool.not_true, ifB_false]
  simp -zeta only [bin_leq, bin_gtr, bin_lss, bin_eql, ifB_dec]
  have yes := hJ1 _ _ h
  generalize J1 () w28 = Y at *
  generalize K (.bool false) w28 = N at *
  clear fin hJ1 O heq
  repeat' first | exact yes | apply And.intro | intro _
  all_goals exfalso
  all_goals first | omega | (have := q3 (by omega) (by omega); omega) | (have := q4 (by omega) (by omega) (by omega); omega)
end
end Go.Proofs.YtifhbaphlmhoeaaDoor
