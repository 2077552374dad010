/-
  A tracker of marks: Read. No condition.
-/
import Derived.Test.YtncgdihcplhcoaaDoorMkB
namespace Go.Proofs.YtncgdihcplhcoaaDoor
open Go.RowKit
set_option maxRecDepth 100000

section
variable {B : Base} {w : World} {σ : List Dat} {p : Nat} {s : MarkS}
set_option maxHeartbeats 1000000 in
theorem read_m (hB : wireD B) {t : Bs} (ht : t.length ≤ 1099511627776) : Makes Tryd.prog B (sCall F_marks_Read #[.string (ofL t)]) fun u τ => (∃ s p, readM t = some s ∧ u = .tuple #[ptr1 p, .bool true] ∧ τ = [marksD p s]) ∨ (readM t = none ∧ u = .tuple #[.pointer none, .bool false] ∧ τ = []) := by
  refine Makes.intro fun B' w K base h k => ?_
  replace hB := base hB
  refine marks_Read.up (marks_Read.call ?_)
  unfold marks_Read.pt
  refine h.make (fun B2 own base2 => open_m) fun u τ w1 hp h => ?_
  obtain ⟨q, rfl, rfl⟩ := hp
  have h : Rel B' w1 [rdD q ⟨t, false⟩] := h
  have no : readM t = none → ∀ w' τ, Rel B' w' τ → K (.tuple #[.pointer none, .bool false]) w' := fun hn w' τ h => k _ _ _ (.inr ⟨hn, rfl, rfl⟩) h.nil
  have yes : ∀ s p, readM t = some s → ∀ w', Rel B' w' [marksD p s] → K (.tuple #[ptr1 p, .bool true]) w' := fun s p hs w' h => k _ _ _ (.inl ⟨s, p, hs, rfl, rfl⟩) h
  clear k
  refine h.rd_ 0 rfl (fun B2 own base2 => rInt_d (base2 hB) (by show t.length ≤ _; omega)) fun w2 h => ?_
  have l1 : (intR ⟨t, false⟩).2.rest.length ≤ t.length := (numR_le (.inl rfl) _ ⟨t, false⟩).1
  unfold readM at no yes
  simp only at no yes
  generalize intR ⟨t, false⟩ = c at h no yes l1
  obtain ⟨c, r1⟩ := c
  simp only at no yes l1
  rw [bd_marks_Marks_1]
  refine h.box fun p w3 h => ?_
  have h : Rel B' w3 [rdD q r1, cellD p T_marks_Marks #[.slice none 0 0, .int .i64 c]] := h
  refine h.rd_ 0 rfl (fun B2 own base2 => rNum_d (base2 hB) (by omega)) fun w4 h => ?_
  have l2 : (natR r1).2.rest.length ≤ r1.rest.length := (numR_le (.inl rfl) _ r1).1
  have n0 : 0 ≤ (natR r1).1 := (numR_le (.inl rfl) 0 r1).2.2 (Int.le_refl 0)
  generalize natR r1 = n at h no yes l2 n0
  obtain ⟨n, r2⟩ := n
  simp only at no yes l2 n0
  rw [bin_gtr, ifB_dec]
  refine ⟨fun c1 => no (if_neg (fun hh => by have := hh.1; omega)) _ _ h, fun c1 => ?_⟩
  obtain ⟨m, rfl⟩ : ∃ m : Nat, n = m := ⟨n.toNat, by omega⟩
  rw [Int.toNat_natCast] at no yes
  have h : Rel B' w4 [rdD q r2, cellD p T_marks_Marks #[.slice none 0 0, .int .i64 c]] := h
  refine LETJ_intro fun J1 hJ1 => ?_
  replace hJ1 : J1 (.bool (decide (inM c)), ()) w4 := by
    refine hJ1 _ _ ?_
    clear hJ1
    have h := h.addNil MkD T_marks_input
    refine LOOP_intro (fun x w' => ∃ (i : Nat) (acc : List (Int × Int)) (u : SV) (r : RS), i ≤ m ∧ acc.length = i ∧ x = (.bool (decide (inM c) && acc.all goodP), .int .i64 i, ()) ∧ timesR pairR (m - i) acc r = timesR pairR m [] r2 ∧ r.rest.length ≤ t.length ∧
        Rel B' w' [rdD q r, cellD p T_marks_Marks #[u.1, .int .i64 c], rowD T_marks_input u.1 (acc.map ofP)]) (fun x _ => m - (match x.2.1 with | .int _ n => n.toNat | _ => 0))
      ⟨0, [], ⟨.slice none 0 0, rfl⟩, r2, Nat.zero_le _, rfl, by simp, rfl, by omega, h⟩ ?_
    clear h
    rintro x w6 ⟨i, acc, u, r, hi, hai, rfl, htm, hrl, h⟩ next hnext
    simp -zeta only [bin_lss, ifB_dec]
    refine ⟨fun hlt => ?_, fun hge => ?_⟩
    · have hmi : m - i = (m - (i + 1)) + 1 := by omega
      rw [hmi, timesR] at htm
      have a1 : (intR r).2.rest.length ≤ r.rest.length := (numR_le (.inl rfl) _ r).1
      have a2 : (intR (intR r).2).2.rest.length ≤ (intR r).2.rest.length := (numR_le (.inl rfl) _ (intR r).2).1
      have hpair : pairR r = (((intR r).1, (intR (intR r).2).1), (intR (intR r).2).2) := rfl
      rw [hpair] at htm
      refine h.rd_ 0 rfl (fun B2 own base2 => rInt_d (base2 hB) (by omega)) fun w7 h => ?_
      generalize intR r = y at h htm a1 a2
      obtain ⟨a, ra⟩ := y
      simp only at htm a1 a2
      have h : Rel B' w7 [rdD q ra, cellD p T_marks_Marks #[u.1, .int .i64 c], rowD T_marks_input u.1 (acc.map ofP)] := h
      rw [bd_marks_input_0]
      refine h.allocAg (ds := (⟨a, false⟩ : MkD).cs.toArray) z_marks_input rfl ag_marks_input rfl (fun v hv => Enc.one (⟨a, false⟩ : MkD) v hv) fun x8 w9 h => ?_
      refine h.rd_ 0 rfl (fun B2 own base2 => rInt_d (base2 hB) (by omega)) fun w10 h => ?_
      generalize intR ra = y at h htm a2
      obtain ⟨b, rb⟩ := y
      simp only at htm a2
      have h : Rel B' w10 [rdD q rb, cellD p T_marks_Marks #[u.1, .int .i64 c], rowD T_marks_input u.1 (acc.map ofP), cellD x8 T_marks_input (⟨a, false⟩ : MkD).cs.toArray] := h
      simp -zeta only [bin_eql, field_addr f_marks_input_1, Nat.zero_add]
      refine h.st 3 rfl sc_bool (show 1 < 2 by omega) rfl fun w11 h => ?_
      have h : Rel B' w11 [rdD q rb, cellD p T_marks_Marks #[u.1, .int .i64 c], rowD T_marks_input u.1 (acc.map ofP), cellD x8 T_marks_input (ofP (a, b)).cs.toArray] := h
      refine LETJ_intro fun J2 hJ2 => ?_
      replace hJ2 : J2 (.bool ((decide (inM c) && acc.all goodP) && goodP (a, b)), ()) w11 := by
        refine hJ2 _ _ ?_
        clear hJ2
        have h := h.tick
        simp -zeta only [nil_ptr, field_addr f_marks_Marks_0, Nat.add_zero, h.ld 1 rfl sc_s_marks_input (o := 0) rfl, h.ldAg 3 rfl ag_marks_input rfl]
        refine h.build1 (ofP (a, b)) sl_s_marks_input (by decide) fun u2 w12 h => ?_
        refine ⟨h.is 1 rfl sc_s_marks_input (o := 0) rfl, ?_⟩
        refine h.append 2 rfl sl_s_marks_input (Rd.at (l := [ofP (a, b)]) 4 rfl) (by rw [List.length_singleton, List.length_map]; omega) (by rw [List.length_singleton, List.length_map]; omega) fun u3 w13 h => ?_
        have h3 : u3.oneCell' = true := h.oneCell (i := 2) rfl
        refine h.st 1 rfl sc_s_marks_input (show 0 < 2 by omega) h3 fun w14 h => ?_
        have h := h.take 3
        have h : Rel B' w14 [rdD q rb, cellD p T_marks_Marks #[u3, .int .i64 c], rowD T_marks_input u3 (acc.map ofP ++ [ofP (a, b)])] := h
        rw [show acc.map ofP ++ [ofP (a, b)] = (acc ++ [(a, b)]).map ofP by simp] at h
        rw [bin_add, wrap_id (by omega) (by omega)]
        refine hnext _ _ ⟨i + 1, acc ++ [(a, b)], ⟨u3, h3⟩, rb, by omega, by simp [hai], ?_, htm, by omega, h⟩ (by simp only; omega)
        rw [List.all_append, ← Bool.and_assoc]
        simp
      simp -zeta only [field_addr f_marks_input_0, Nat.add_zero, h.ld 3 rfl sc_int (o := 0) (v := .int .i64 a) rfl, bin_geq, bin_leq, bin_eql]
      rw [ifB_bool]
      refine ⟨fun cg => ?_, fun cg => ?_⟩
      case refine_2 => rw [cg] at hJ2; exact hJ2
      rw [cg, Bool.true_and] at hJ2
      unfold goodP inM at hJ2
      simp only at hJ2
      rw [ifB_dec]
      refine ⟨fun d1 => ?_, fun d1 => by rw [decide_eq_false (p := -1 ≤ a ∧ a ≤ 1099511627776) (fun hh => d1 hh.1), Bool.false_and] at hJ2; exact hJ2⟩
      rw [ifB_dec]
      refine ⟨fun d2 => ?_, fun d2 => by rw [decide_eq_false (p := -1 ≤ a ∧ a ≤ 1099511627776) (fun hh => d2 hh.2), Bool.false_and] at hJ2; exact hJ2⟩
      rw [decide_eq_true (show -1 ≤ a ∧ a ≤ 1099511627776 from ⟨d1, d2⟩), Bool.true_and] at hJ2
      rw [ifB_dec]
      refine ⟨fun d3 => by rw [decide_eq_true d3, Bool.true_or] at hJ2; exact hJ2, fun d3 => by rw [decide_eq_false d3, Bool.false_or] at hJ2; exact hJ2⟩
    · have hie : m = i := by omega
      subst hie
      rw [Nat.sub_self, timesR] at htm
      rw [← htm] at no yes
      simp only at no yes
      have h := h.tick
      refine LETJ_intro fun J3 hJ3 => ?_
      have bad : (¬ ((m : Int) ≤ 200 ∧ inM c ∧ acc.all goodP = true ∧ doneR r = true ∧ settled ⟨acc.map ofP, c⟩ = c)) → ∀ w' τ, Rel B' w' τ → J3 (.bool true, ()) w' := fun hn w' τ h => by
        refine hJ3 _ _ ?_
        rw [ifB_true]
        exact no (if_neg hn) _ _ h
      rw [un_not, ifB_not, ifB_bool]
      refine ⟨fun cg => ?_, fun cg => bad (fun hh => by rw [decide_eq_true hh.2.1, hh.2.2.1] at cg; cases cg) _ _ h⟩
      rw [Bool.and_eq_true, decide_eq_true_eq] at cg
      refine h.ask (fun B2 own base2 => rDone_g (own (i := 0) rfl)) fun w17 h => ?_
      rw [un_not, ifB_not, ifB_bool]
      refine ⟨fun cd => ?_, fun cd => bad (fun hh => by rw [hh.2.2.2.1] at cd; cases cd) _ _ h⟩
      simp -zeta only [nil_ptr, field_addr f_marks_Marks_1, Nat.zero_add, h.ld 1 rfl sc_int (o := 1) rfl]
      refine h.ask (fun B2 own base2 => settled_c (s := ⟨acc.map ofP, c⟩) (v := u) (own (i := 1) rfl) (rowD.read (own (i := 2) rfl)) (by show (acc.map ofP).length ≤ 200; rw [List.length_map]; omega)) fun w18 h => ?_
      refine ⟨h.is 1 rfl sc_int (o := 1) rfl, ?_⟩
      rw [bin_neq]
      by_cases cs : settled ⟨acc.map ofP, c⟩ = c
      · rw [decide_eq_true cs]
        refine hJ3 _ _ ?_
        rw [Bool.not_true, ifB_false]
        have h := h.pick [1, 2] (by decide)
        exact yes _ p (if_pos ⟨by omega, cg.1, cg.2, cd, cs⟩) _ (marksD.close (s := ⟨acc.map ofP, c⟩) (v := u) h)
      · rw [decide_eq_false cs]
        exact bad (fun hh => cs hh.2.2.2.2) _ _ h
  simp -zeta only [nil_ptr, field_addr f_marks_Marks_1, Nat.zero_add, h.ld 1 rfl sc_int (o := 1) rfl, bin_geq, bin_leq, ifB_dec]
  refine ⟨fun d1 => ?_, fun d1 => by rw [decide_eq_false (p := inM c) (fun hh => d1 hh.1)] at hJ1; exact hJ1⟩
  have e : decide (inM c) = decide (c ≤ 1099511627776) := decide_eq_decide.2 ⟨fun hh => hh.2, fun hh => ⟨d1, hh⟩⟩
  rw [e] at hJ1
  exact hJ1
end
end Go.Proofs.YtncgdihcplhcoaaDoor
