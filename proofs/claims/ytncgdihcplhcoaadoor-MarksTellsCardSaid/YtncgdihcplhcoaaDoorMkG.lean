/-
  Chapter 35's reference: Copy, Bytes, Read, Cut. No condition.
-/
import Derived.Test.YtncgdihcplhcoaaDoorMkF
namespace Go.Proofs.YtncgdihcplhcoaaDoor
open Go.RowKit
set_option maxRecDepth 100000

section
variable {B : Base} {w : World} {σ : List Dat} {p : Nat} {s : MarkS}
theorem rcopy_m (hM : refMD p s B) (hl : s.l.length ≤ 200) : Makes Tryd.prog B (sCall F_errataref35_Marks_Copy #[ptr1 p]) fun u τ => ∃ q, u = ptr1 q ∧ τ = [refMD q s] := by
  refine Makes.intro fun B' w K base h k => ?_
  obtain ⟨u, v, hc, hu, hv⟩ := refMD.peek (base hM)
  refine errataref35_Marks_Copy.up (errataref35_Marks_Copy.call ?_)
  unfold errataref35_Marks_Copy.pt
  have e1 : (lM s).length = s.l.length := lM_len
  have e2 : (lO s).length = s.l.length := lO_len
  have h := h.tick
  simp -zeta only [nil_ptr, field_addr f_errataref35_Marks_0, field_addr f_errataref35_Marks_1, field_addr f_errataref35_Marks_2, Nat.add_zero, Nat.zero_add, cellD.ld (h.hereB hc) sc_s_int (o := 0) rfl, cellD.ld (h.hereB hc) sc_s_bool (o := 1) rfl, cellD.ld (h.hereB hc) sc_int (o := 2) rfl]
  have is0 : ∀ {w' : World} {τ : List Dat}, Rel B' w' τ → Is Tryd.prog (sLoad T_s_int (.pointer (some ⟨p, 0, none⟩))) u.1 w' := fun h => cellD.is (h.hereB hc) sc_s_int (o := 0) rfl
  have is1 : ∀ {w' : World} {τ : List Dat}, Rel B' w' τ → Is Tryd.prog (sLoad T_s_bool (.pointer (some ⟨p, 1, none⟩))) v.1 w' := fun h => cellD.is (h.hereB hc) sc_s_bool (o := 1) rfl
  have is2 : ∀ {w' : World} {τ : List Dat}, Rel B' w' τ → Is Tryd.prog (sLoad T_int (.pointer (some ⟨p, 2, none⟩))) (.int .i64 s.common) w' := fun h => cellD.is (h.hereB hc) sc_int (o := 2) rfl
  have fin : ∀ (a b : Value) (w' : World), Rel B' w' [rowD T_int a (lM s), rowD T_bool b (lO s)] → pureK Tryd.prog (sBuild T_errataref35_Marks #[(0, a), (1, b), (2, .int .i64 s.common)]) fun t19 => upK Tryd.prog (sBox T_errataref35_Marks t19) w' fun t20 w5 => K t20 w5 := by
    intro a b w' h
    obtain ⟨x, c1, rfl, _⟩ := rowR.form (rowD.read (h.here (i := 0) rfl))
    obtain ⟨y, c2, rfl, _⟩ := rowR.form (rowD.read (h.here (i := 1) rfl))
    rw [bd_errataref35_Marks_0_1_2]
    refine h.box fun q w5 h => ?_
    have h := h.pick [2, 0, 1] (by decide)
    exact k _ _ _ ⟨q, rfl, rfl⟩ (refMD.close (s := s) (u := ⟨.slice x (lM s).length c1, rfl⟩) (v := ⟨.slice y (lO s).length c2, rfl⟩) h)
  have b1 : (([] : List Int).length + (lM s).length) * 8 ≤ 140737488355328 := by rw [List.length_nil]; omega
  have b2 : ([] : List Int).length + (lM s).length ≤ 140737488355328 := by rw [List.length_nil]; omega
  have b3 : (([] : List Bool).length + (lO s).length) * 1 ≤ 140737488355328 := by rw [List.length_nil]; omega
  have b4 : ([] : List Bool).length + (lO s).length ≤ 140737488355328 := by rw [List.length_nil]; omega
  refine ⟨h.build0 (α := Int) sl_s_int fun a w3 h _ => ⟨is2 h, is1 h, is0 h, ?_, ?_⟩, ?_⟩
  · refine h.append 0 rfl sl_s_int (Rd.base hu) b1 b2 fun a2 w4 h => ⟨is2 h, is1 h, ?_⟩
    refine h.build0 (α := Bool) nil_bool fun b w5 h _ => ⟨is2 h, is1 h, is0 h, ?_⟩
    refine h.append 1 rfl nil_bool (Rd.base hv) b3 b4 fun b2 w6 h => ⟨is2 h, ?_⟩
    exact fin _ _ _ h
  · refine h.build0 (α := Bool) nil_bool fun b w5 h _ => ⟨is2 h, is1 h, is0 h, ?_⟩
    refine h.append 0 rfl sl_s_int (Rd.base hu) b1 b2 fun a2 w4 h => ⟨is2 h, is1 h, ?_⟩
    refine h.append 1 rfl nil_bool (Rd.base hv) b3 b4 fun b2 w6 h => ⟨is2 h, ?_⟩
    exact fin _ _ _ h
  · refine h.build0 (α := Bool) nil_bool fun b w5 h _ => ⟨is2 h, is1 h, is0 h, ?_⟩
    refine h.build0 (α := Int) sl_s_int fun a w3 h _ => ⟨is2 h, is1 h, is0 h, ?_⟩
    refine h.append 1 rfl sl_s_int (Rd.base hu) b1 b2 fun a2 w4 h => ⟨is2 h, is1 h, ?_⟩
    refine h.append 0 rfl nil_bool (Rd.base hv) b3 b4 fun b2 w6 h => ⟨is2 h, ?_⟩
    have h := h.pick [1, 0] (by decide)
    exact fin _ _ _ h
theorem rbytes_g (hM : refMD p s B) (hf : FineM s) : Gives Tryd.prog B (sCall F_errataref35_Marks_Bytes #[ptr1 p]) (.string (ofL (encM s))) := by
  refine Gives.intro fun B' w K base h k => ?_
  obtain ⟨u, v, hc, hu, hv⟩ := refMD.peek (base hM)
  refine errataref35_Marks_Bytes.up (errataref35_Marks_Bytes.call ?_)
  unfold errataref35_Marks_Bytes.pt
  have e1 : (lM s).length = s.l.length := lM_len
  have e2 : (lO s).length = s.l.length := lO_len
  have hl := hf.len
  have hall := encM_len hf
  have h := h.tick
  simp -zeta only [nil_ptr, field_addr f_errataref35_Marks_0, field_addr f_errataref35_Marks_2, Nat.add_zero, Nat.zero_add, cellD.ld (h.hereB hc) sc_s_int (o := 0) rfl, cellD.ld (h.hereB hc) sc_int (o := 2) rfl, rowR.len hu sl_s_int]
  refine h.ask (fun B2 own base2 => fInt_g (inM_in hf.common)) fun w2 h => ?_
  refine ⟨is_of (fun {K} => rowR.len hu sl_s_int), cellD.is (h.hereB hc) sc_s_int (o := 0) rfl, ?_⟩
  have hin : inI ((lM s).length : Int) := ⟨by omega, by omega⟩
  refine h.ask (fun B2 own base2 => fNum_g hin) fun w3 h => ?_
  have en : encN ((lM s).length : Int) = encI s.l.length := by rw [e1]; unfold encN; rw [if_neg (by omega)]
  rw [en]
  have h1 := encI_len (inM_in hf.common)
  have h2 := encI_len hin
  rw [e1] at h2
  rw [strL_add (by omega)]
  have hmap : (s.l.map toP).length = s.l.length := List.length_map ..
  unfold encM at hall k
  refine LOOP_intro (fun x w' => ∃ i : Nat, i ≤ s.l.length ∧ x = (.string (ofL (encI s.common ++ encI s.l.length ++ ((s.l.map toP).take i).flatMap encP)), .int .i64 i, ()) ∧ Rel B' w' []) (fun x _ => s.l.length - (match x.2.1 with | .int _ n => n.toNat | _ => 0))
    ⟨0, Nat.zero_le _, by simp, h⟩ ?_
  clear h
  rintro x w5 ⟨i, hi, rfl, h⟩ next hnext
  simp -zeta only [nil_ptr, field_addr f_errataref35_Marks_0, Nat.add_zero, cellD.ld (h.hereB hc) sc_s_int (o := 0) rfl, rowR.len hu sl_s_int, bin_lss, ifB_dec]
  rw [e1]
  refine ⟨fun hlt => ?_, fun hge => ?_⟩
  · have hil : i < s.l.length := by omega
    obtain ⟨a, q1, q2⟩ := rowR.at_sc hu h sl_s_int (i := i) (by omega) sc_int (x := .int .i64 s.l[i].mark) (by simp [lM, Enc.cells])
    have hgood := inP_toP (hf.marks s.l[i] (List.getElem_mem hil))
    have l1 : (encI s.l[i].mark).length ≤ 21 := encI_len hgood.1
    have l2 := encI_len hgood.2
    have hstep := flat_take_succ encP (l := s.l.map toP) (i := i) (by omega)
    rw [List.getElem_map] at hstep
    have hle := flat_take_le encP (s.l.map toP) (i + 1)
    rw [hstep, List.length_append] at hle
    have hpe : (encP (toP s.l[i])).length = (encI s.l[i].mark).length + (encI (b01 s.l[i].idle)).length := List.length_append ..
    simp only [List.length_append] at hall
    refine LETJ_intro fun J1 hJ1 => ?_
    replace hJ1 : ∀ w', Rel B' w' [] → J1 (.string (ofL (encI s.common ++ encI s.l.length ++ ((s.l.map toP).take i).flatMap encP ++ encI s.l[i].mark ++ encI (b01 s.l[i].idle))), ()) w' := by
      intro w' h
      refine hJ1 _ _ ?_
      rw [bin_add, wrap_id (by omega) (by omega)]
      refine hnext _ _ ⟨i + 1, hil, ?_, h⟩ (by simp only; omega)
      rw [hstep, ← List.append_assoc, List.append_assoc _ (encI s.l[i].mark)]
      rfl
    simp -zeta only [q1, q2]
    refine h.ask (fun B2 own base2 => fInt_g hgood.1) fun w7 h => ?_
    rw [strL_add (by simp only [List.length_append]; omega)]
    obtain ⟨b, q3, q4⟩ := rowR.at_sc hv h nil_bool (i := i) (by omega) sc_bool (x := .bool s.l[i].idle) (by simp [lO, Enc.cells])
    simp -zeta only [field_addr f_errataref35_Marks_1, Nat.zero_add, cellD.ld (h.hereB hc) sc_s_bool (o := 1) rfl, q3, q4]
    rw [ifB_bool]
    refine ⟨fun e => ?_, fun e => ?_⟩
    · rw [e] at hJ1 hpe
      refine h.ask (fun B2 own base2 => fInt_g (n := 1) ⟨by decide, by decide⟩) fun w8 h => ?_
      have hpe : (encP (toP s.l[i])).length = (encI s.l[i].mark).length + (encI 1).length := hpe
      rw [strL_add (by simp only [List.length_append]; omega)]
      exact hJ1 _ h
    · rw [e] at hJ1 hpe
      refine h.ask (fun B2 own base2 => fInt_g (n := 0) ⟨by decide, by decide⟩) fun w8 h => ?_
      have hpe : (encP (toP s.l[i])).length = (encI s.l[i].mark).length + (encI 0).length := hpe
      rw [strL_add (by simp only [List.length_append]; omega)]
      exact hJ1 _ h
  · have hie : i = s.l.length := by omega
    subst hie
    have e : (s.l.map toP).take s.l.length = s.l.map toP := List.take_of_length_le (by omega)
    rw [e]
    exact k _ _ h
set_option maxHeartbeats 1000000 in
theorem rread_m {t : Bs} (ht : t.length ≤ 1099511627776) : Makes Tryd.prog B (sCall F_errataref35_Read #[.string (ofL t)]) fun u τ => (∃ s p, readM t = some s ∧ u = .tuple #[ptr1 p, .bool true] ∧ τ = [refMD p s]) ∨ (readM t = none ∧ u = .tuple #[.pointer none, .bool false] ∧ τ = []) := by
  refine Makes.intro fun B' w K base h k => ?_
  refine errataref35_Read.up (errataref35_Read.call ?_)
  unfold errataref35_Read.pt
  refine h.make (fun B2 own base2 => fopen_m) fun u τ w1 hp h => ?_
  obtain ⟨q, rfl, rfl⟩ := hp
  have h : Rel B' w1 [rfD q ⟨t, false⟩] := h
  have no : readM t = none → ∀ w' τ, Rel B' w' τ → K (.tuple #[.pointer none, .bool false]) w' := fun hn w' τ h => k _ _ _ (.inr ⟨hn, rfl, rfl⟩) h.nil
  have yes : ∀ s p, readM t = some s → ∀ w', Rel B' w' [refMD p s] → K (.tuple #[ptr1 p, .bool true]) w' := fun s p hs w' h => k _ _ _ (.inl ⟨s, p, hs, rfl, rfl⟩) h
  clear k
  refine h.rf_ 0 rfl (fun B2 own base2 => fIntR_d (by show t.length ≤ _; omega)) fun w2 h => ?_
  have l1 : (intR ⟨t, false⟩).2.rest.length ≤ t.length := (numR_le (.inl rfl) _ ⟨t, false⟩).1
  unfold readM at no yes
  simp only at no yes
  generalize intR ⟨t, false⟩ = c at h no yes l1
  obtain ⟨c, r1⟩ := c
  simp only at no yes l1
  rw [bd_errataref35_Marks_2]
  refine h.box fun p w3 h => ?_
  have h : Rel B' w3 [rfD q r1, cellD p T_errataref35_Marks #[.slice none 0 0, .slice none 0 0, .int .i64 c]] := h
  refine h.rf_ 0 rfl (fun B2 own base2 => fNumR_d (by omega)) fun w4 h => ?_
  have l2 : (natR r1).2.rest.length ≤ r1.rest.length := (numR_le (.inl rfl) _ r1).1
  obtain ⟨_, hin, n0⟩ := numR_le (.inl rfl : isEnd 59) 0 r1
  have n0 : 0 ≤ (natR r1).1 := n0 (Int.le_refl 0)
  have n1 : (natR r1).1 ≤ 9223372036854775807 := hin.2
  clear hin
  generalize natR r1 = n at h no yes l2 n0 n1
  obtain ⟨n, r2⟩ := n
  simp only at no yes l2 n0 n1
  obtain ⟨N, rfl⟩ : ∃ m : Nat, n = m := ⟨n.toNat, by omega⟩
  rw [Int.toNat_natCast] at no yes
  have h : Rel B' w4 [rfD q r2, cellD p T_errataref35_Marks #[.slice none 0 0, .slice none 0 0, .int .i64 c]] := h
  obtain ⟨m, hm⟩ : ∃ m : Nat, m = min N 200 := ⟨_, rfl⟩
  refine LETJ_intro fun J1 hJ1 => ?_
  replace hJ1 : J1 (.bool (decide ((N : Int) ≤ 200 ∧ inM c)), ()) w4 := by
    refine hJ1 _ _ ?_
    clear hJ1
    have h := (h.addNil Int T_int).addNil Bool T_bool
    have h : Rel B' w4 [rfD q r2, cellD p T_errataref35_Marks #[.slice none 0 0, .slice none 0 0, .int .i64 c], rowD T_int (.slice none 0 0) ([] : List Int), rowD T_bool (.slice none 0 0) ([] : List Bool)] := h
    refine LOOP_intro (fun x w' => ∃ (i : Nat) (acc : List (Int × Int)) (u v : SV) (r : RS), i ≤ m ∧ acc.length = i ∧ x = (.bool (decide ((N : Int) ≤ 200 ∧ inM c) && acc.all goodP), .int .i64 i, ()) ∧ timesR pairR (m - i) acc r = timesR pairR m [] r2 ∧ r.rest.length ≤ t.length ∧
        Rel B' w' [rfD q r, cellD p T_errataref35_Marks #[u.1, v.1, .int .i64 c], rowD T_int u.1 (acc.map (·.1)), rowD T_bool v.1 (acc.map fun x => decide (x.2 = 1))]) (fun x _ => m - (match x.2.1 with | .int _ n => n.toNat | _ => 0))
      ⟨0, [], ⟨.slice none 0 0, rfl⟩, ⟨.slice none 0 0, rfl⟩, r2, Nat.zero_le _, rfl, by simp, rfl, by omega, h⟩ ?_
    clear h
    rintro x w6 ⟨i, acc, u, v, r, hi, hai, rfl, htm, hrl, h⟩ next hnext
    refine LETJ_intro fun J2 hJ2 => ?_
    replace hJ2 : J2 (.bool (decide ((i : Int) < N ∧ (i : Int) < 200)), ()) w6 := by
      refine hJ2 _ _ ?_
      clear hJ2
      rw [ifB_dec]
      refine ⟨fun hlt => ?_, fun hge => ?_⟩
      · have hmi : m - i = (m - (i + 1)) + 1 := by omega
        rw [hmi, timesR] at htm
        have a1 : (intR r).2.rest.length ≤ r.rest.length := (numR_le (.inl rfl) _ r).1
        have a2 : (intR (intR r).2).2.rest.length ≤ (intR r).2.rest.length := (numR_le (.inl rfl) _ (intR r).2).1
        have hpair : pairR r = (((intR r).1, (intR (intR r).2).1), (intR (intR r).2).2) := rfl
        rw [hpair] at htm
        refine h.rf_ 0 rfl (fun B2 own base2 => fIntR_d (by omega)) fun w7 h => ?_
        generalize intR r = y at h htm a1 a2
        obtain ⟨a, ra⟩ := y
        simp only at htm a1 a2
        have h : Rel B' w7 [rfD q ra, cellD p T_errataref35_Marks #[u.1, v.1, .int .i64 c], rowD T_int u.1 (acc.map (·.1)), rowD T_bool v.1 (acc.map fun x => decide (x.2 = 1))] := h
        refine h.rf_ 0 rfl (fun B2 own base2 => fIntR_d (by omega)) fun w9 h => ?_
        generalize intR ra = y at h htm a2
        obtain ⟨b, rb⟩ := y
        simp only at htm a2
        have h : Rel B' w9 [rfD q rb, cellD p T_errataref35_Marks #[u.1, v.1, .int .i64 c], rowD T_int u.1 (acc.map (·.1)), rowD T_bool v.1 (acc.map fun x => decide (x.2 = 1))] := h
        refine LETJ_intro fun J3 hJ3 => ?_
        replace hJ3 : J3 (.bool ((decide ((N : Int) ≤ 200 ∧ inM c) && acc.all goodP) && goodP (a, b)), ()) w9 := by
          refine hJ3 _ _ ?_
          clear hJ3
          simp -zeta only [nil_ptr, field_addr f_errataref35_Marks_0, Nat.add_zero, h.ld 1 rfl sc_s_int (o := 0) rfl]
          refine h.push1 (α := Int) 2 rfl a sl_s_int (by decide) (by rw [List.length_map]; omega) (by rw [List.length_map]; omega) fun u2 w11 h => ?_
          have h1 : u2.oneCell' = true := h.oneCell (i := 2) rfl
          refine h.st 1 rfl sc_s_int (show 0 < 3 by omega) h1 fun w12 h => ?_
          have h : Rel B' w12 [rfD q rb, cellD p T_errataref35_Marks #[u2, v.1, .int .i64 c], rowD T_int u2 (acc.map (·.1) ++ [a]), rowD T_bool v.1 (acc.map fun x => decide (x.2 = 1))] := h
          simp -zeta only [field_addr f_errataref35_Marks_1, Nat.zero_add, h.ld 1 rfl sc_s_bool (o := 1) rfl, bin_eql]
          refine h.push1 (α := Bool) 3 rfl (decide (b = 1)) nil_bool (by decide) (by rw [List.length_map]; omega) (by rw [List.length_map]; omega) fun v2 w14 h => ?_
          have h2 : v2.oneCell' = true := h.oneCell (i := 3) rfl
          refine h.st 1 rfl sc_s_bool (show 1 < 3 by omega) h2 fun w15 h => ?_
          have h : Rel B' w15 [rfD q rb, cellD p T_errataref35_Marks #[u2, v2, .int .i64 c], rowD T_int u2 (acc.map (·.1) ++ [a]), rowD T_bool v2 ((acc.map fun x => decide (x.2 = 1)) ++ [decide (b = 1)])] := h
          rw [show acc.map (·.1) ++ [a] = (acc ++ [(a, b)]).map (·.1) by simp, show (acc.map fun x => decide (x.2 = 1)) ++ [decide (b = 1)] = (acc ++ [(a, b)]).map fun x => decide (x.2 = 1) by simp] at h
          rw [bin_add, wrap_id (by omega) (by omega)]
          refine hnext _ _ ⟨i + 1, acc ++ [(a, b)], ⟨u2, h1⟩, ⟨v2, h2⟩, rb, by omega, by simp [hai], ?_, htm, by omega, h⟩ (by simp only; omega)
          rw [List.all_append, ← Bool.and_assoc]
          simp
        simp -zeta only [bin_geq, bin_leq, bin_eql]
        rw [ifB_bool]
        refine ⟨fun cg => ?_, fun cg => ?_⟩
        case refine_2 => rw [cg] at hJ3; exact hJ3
        rw [cg, Bool.true_and] at hJ3
        unfold goodP inM at hJ3
        simp only at hJ3
        rw [ifB_dec]
        refine ⟨fun d1 => ?_, fun d1 => by rw [decide_eq_false (p := -1 ≤ a ∧ a ≤ 1099511627776) (fun hh => d1 hh.1), Bool.false_and] at hJ3; exact hJ3⟩
        rw [ifB_dec]
        refine ⟨fun d2 => ?_, fun d2 => by rw [decide_eq_false (p := -1 ≤ a ∧ a ≤ 1099511627776) (fun hh => d2 hh.2), Bool.false_and] at hJ3; exact hJ3⟩
        rw [decide_eq_true (show -1 ≤ a ∧ a ≤ 1099511627776 from ⟨d1, d2⟩), Bool.true_and] at hJ3
        rw [ifB_dec]
        refine ⟨fun d3 => by rw [decide_eq_true d3, Bool.true_or] at hJ3; exact hJ3, fun d3 => by rw [decide_eq_false d3, Bool.false_or] at hJ3; exact hJ3⟩
      · have hie : m = i := by omega
        rw [hie, Nat.sub_self, timesR] at htm
        have h := h.tick
        refine LETJ_intro fun J4 hJ4 => ?_
        have hN : (N : Int) ≤ 200 → timesR pairR N [] r2 = (acc, r) := fun hh => by
          rw [htm]
          congr 1
          omega
        have bad : (¬ ((N : Int) ≤ 200 ∧ inM c ∧ acc.all goodP = true ∧ doneR r = true ∧ settled ⟨acc.map ofP, c⟩ = c)) → ∀ w' τ, Rel B' w' τ → J4 (.bool true, ()) w' := fun hn w' τ h => by
          refine hJ4 _ _ ?_
          rw [ifB_true]
          refine no (if_neg fun hh => hn ?_) _ _ h
          have h1 := hh.1
          rw [hN h1] at hh
          exact hh
        rw [un_not, ifB_not, ifB_bool]
        refine ⟨fun cg => ?_, fun cg => bad (fun hh => by rw [decide_eq_true (show (N : Int) ≤ 200 ∧ inM c from ⟨hh.1, hh.2.1⟩), hh.2.2.1] at cg; cases cg) _ _ h⟩
        rw [Bool.and_eq_true, decide_eq_true_eq] at cg
        refine h.ask (fun B2 own base2 => fDone_g (own (i := 0) rfl)) fun w17 h => ?_
        rw [un_not, ifB_not, ifB_bool]
        refine ⟨fun cd => ?_, fun cd => bad (fun hh => by rw [hh.2.2.2.1] at cd; cases cd) _ _ h⟩
        have eM : acc.map (·.1) = lM ⟨acc.map ofP, c⟩ := by simp [lM, ofP]
        have eO : (acc.map fun x => decide (x.2 = 1)) = lO ⟨acc.map ofP, c⟩ := by simp [lO, ofP]
        rw [eM, eO] at h
        have h : Rel B' w17 [rfD q r, cellD p T_errataref35_Marks (rcs u v ⟨acc.map ofP, c⟩), rowD T_int u.1 (lM ⟨acc.map ofP, c⟩), rowD T_bool v.1 (lO ⟨acc.map ofP, c⟩)] := h
        simp -zeta only [nil_ptr, field_addr f_errataref35_Marks_2, Nat.zero_add, h.ld 1 rfl sc_int (o := 2) rfl]
        refine h.ask (fun B2 own base2 => rsettled_c (s := ⟨acc.map ofP, c⟩) (u := u) (v := v) (own (i := 1) rfl) (rowD.read (own (i := 2) rfl)) (rowD.read (own (i := 3) rfl)) (by show (acc.map ofP).length ≤ 200; rw [List.length_map]; omega)) fun w18 h => ?_
        refine ⟨h.is 1 rfl sc_int (o := 2) rfl, ?_⟩
        rw [bin_neq]
        by_cases cs : settled ⟨acc.map ofP, c⟩ = c
        · rw [decide_eq_true cs]
          refine hJ4 _ _ ?_
          rw [Bool.not_true, ifB_false]
          have h := h.pick [1, 2, 3] (by decide)
          refine yes ⟨acc.map ofP, c⟩ p ?_ _ (refMD.close (s := ⟨acc.map ofP, c⟩) (u := u) (v := v) h)
          rw [hN cg.1.1]
          exact if_pos ⟨cg.1.1, cg.1.2, cg.2, cd, cs⟩
        · rw [decide_eq_false cs]
          exact bad (fun hh => cs hh.2.2.2.2) _ _ h
    clear hnext
    rw [bin_lss, ifB_dec]
    refine ⟨fun d1 => ?_, fun d1 => by rw [decide_eq_false (p := (i : Int) < N ∧ (i : Int) < 200) (fun hh => d1 hh.1)] at hJ2; exact hJ2⟩
    rw [bin_lss]
    have e : decide ((i : Int) < N ∧ (i : Int) < 200) = decide ((i : Int) < 200) := decide_eq_decide.2 ⟨fun hh => hh.2, fun hh => ⟨d1, hh⟩⟩
    rw [e] at hJ2
    exact hJ2
  rw [bin_leq, ifB_dec]
  refine ⟨fun d0 => ?_, fun d0 => by rw [decide_eq_false (p := (N : Int) ≤ 200 ∧ inM c) (fun hh => d0 hh.1)] at hJ1; exact hJ1⟩
  simp -zeta only [nil_ptr, field_addr f_errataref35_Marks_2, Nat.zero_add, h.ld 1 rfl sc_int (o := 2) rfl, bin_geq, bin_leq, ifB_dec]
  refine ⟨fun d1 => ?_, fun d1 => by rw [decide_eq_false (p := (N : Int) ≤ 200 ∧ inM c) (fun hh => d1 hh.2.1)] at hJ1; exact hJ1⟩
  have e : decide ((N : Int) ≤ 200 ∧ inM c) = decide (c ≤ 1099511627776) := decide_eq_decide.2 ⟨fun hh => hh.2.2, fun hh => ⟨d0, d1, hh⟩⟩
  rw [e] at hJ1
  exact hJ1
theorem rcut_g {time now ahead : Int} (ht : inI time) (hn : inI now) (ha : inI ahead) : Gives Tryd.prog B (sCall F_errataref35_Cut #[.int .i64 time, .int .i64 now, .int .i64 ahead]) (.int .i64 (cutS time now ahead)) := by
  refine Gives.intro fun B' w K base h k => ?_
  replace k := k _ _ h
  have t1 := ht.1
  have t2 := ht.2
  have n1 := hn.1
  have n2 := hn.2
  have a1 := ha.1
  have a2 := ha.2
  refine errataref35_Cut.up (errataref35_Cut.call ?_)
  unfold errataref35_Cut.pt
  refine LETJ_intro fun J1 hJ1 => ?_
  replace hJ1 : ¬ (0 < now ∧ 9223372036854775807 - now < ahead) → J1 () w := by
    intro c1
    refine hJ1 _ _ ?_
    clear hJ1
    refine LETJ_intro fun J2 hJ2 => ?_
    replace hJ2 : ¬ (now < 0 ∧ ahead < -9223372036854775808 - now) → J2 () w := by
      intro c2
      refine hJ2 _ _ ?_
      clear hJ2
      have hw : IntKind.i64.wrap (now + ahead) = now + ahead := wrap_id (by omega) (by omega)
      have e : cutS time now ahead = min time (now + ahead) := by
        unfold cutS
        rw [hw, if_neg (by omega), if_neg (by omega)]
      rw [e] at k
      simp -zeta only [bin_add, hw, bin_lss, ifB_dec]
      refine ⟨fun c => ?_, fun c => ?_⟩
      · rw [show min time (now + ahead) = now + ahead by omega] at k
        exact k
      · rw [show min time (now + ahead) = time by omega] at k
        exact k
    rw [bin_lss, ifB_dec]
    refine ⟨fun c => ?_, fun c => hJ2 (by omega)⟩
    rw [bin_sub, wrap_id (by omega) (by omega), bin_lss, ifB_dec]
    refine ⟨fun c3 => ?_, fun c3 => hJ2 (by omega)⟩
    have hw : IntKind.i64.wrap (now + ahead) = now + ahead + 18446744073709551616 := by rw [IntKind.wrap_i64]; omega
    have e : cutS time now ahead = -9223372036854775808 := by
      unfold cutS
      rw [hw, if_neg (by omega), if_pos (by omega)]
      omega
    rw [e] at k
    exact k
  rw [bin_gtr, ifB_dec]
  refine ⟨fun c => ?_, fun c => hJ1 (by omega)⟩
  rw [bin_sub, wrap_id (by omega) (by omega), bin_gtr, ifB_dec]
  refine ⟨fun c3 => ?_, fun c3 => hJ1 (by omega)⟩
  have hw : IntKind.i64.wrap (now + ahead) = now + ahead - 18446744073709551616 := by rw [IntKind.wrap_i64]; omega
  have e : cutS time now ahead = time := by
    unfold cutS
    rw [hw, if_pos (by omega)]
    omega
  rw [e] at k
  exact k
end
end Go.Proofs.YtncgdihcplhcoaaDoor
