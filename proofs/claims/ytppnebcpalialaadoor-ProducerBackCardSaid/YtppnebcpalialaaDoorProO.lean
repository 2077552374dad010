/-
  A table of producers: Bytes, Same, Read. No condition.
-/
import Derived.Test.YtppnebcpalialaaDoorProN
import Derived.Test.YtppnebcpalialaaDoorProdI
namespace Go.Proofs.YtppnebcpalialaaDoor
open Go.RowKit
set_option maxRecDepth 100000

theorem own_of {d : Dat} {τ σ : List Dat} {B : Base} {w : World} (h : ∀ B, (stars τ) B → d B) (hr : Rel B w (σ ++ τ)) : Rel B w (σ ++ [d]) := by
  have h1 := (Rel.restars hr).imp (i := σ.length) (e := d) get_last h
  rw [List.set_append_right _ _ (Nat.le_refl _), Nat.sub_self, List.set_cons_zero] at h1
  exact h1
section
variable {B : Base} {w : World} {σ : List Dat}
theorem tabBytes_g (hB : wireD B) {v : Value} {L : PrL} (r : rowR v (praws L) B) (q : prows L B) (hR : RightT (prs L)) : Gives Tryd.prog B (sCall F_producer_Bytes #[v]) (.string (ofL (encTab (prs L)))) := by
  refine Gives.introB fun B' w K base h start k => ?_
  replace hB := base hB
  replace r := base r
  replace q := base q
  refine producer_Bytes.up (producer_Bytes.call ?_)
  unfold producer_Bytes.pt
  have hal : (praws L).length = L.length := List.length_map ..
  have hpl : (prs L).length = L.length := List.length_map ..
  have hl := hR.len
  have hall := encTab_len hR
  refine h.alloc z_strings_Builder fun b w1 h => ?_
  have h := start w1 b h
  simp -zeta only [rowR.len r sl_s_api_Producer]
  rw [hal]
  have hin : inI (L.length : Int) := ⟨by omega, by omega⟩
  refine h.ask (fun B2 own base2 => wNum_g (base2 hB) hin) fun w2 h => ?_
  have en : encN (L.length : Int) = encI (prs L).length := by rw [hpl]; unfold encN; rw [if_neg (by omega)]
  rw [en]
  have h2 := encI_len hin
  rw [← hpl] at h2
  refine h.bldWrite (Nat.le_refl _) (by rw [ofL_size, List.length_nil]; omega) fun _ w4 h => ?_
  have h : Rel B' w4 [bldD B'.W.heap.size b (encI (prs L).length)] := h
  unfold encTab at hall k
  refine LOOP_intro (fun x w' => ∃ i : Nat, i ≤ L.length ∧ x = (.int .i64 i, ()) ∧ Rel B' w' [bldD B'.W.heap.size b (encI (prs L).length ++ ((prs L).take i).flatMap encPr)]) (fun x _ => L.length - (match x.1 with | .int _ n => n.toNat | _ => 0))
    ⟨0, Nat.zero_le _, rfl, by simpa using h⟩ ?_
  clear h
  rintro x w5 ⟨i, hi, rfl, h⟩ next hnext
  simp -zeta only [bin_lss, ifB_dec]
  refine ⟨fun hlt => ?_, fun hge => ?_⟩
  · have hil : i < L.length := by omega
    obtain ⟨g, o, hx, hcl⟩ := rowR.idx r sl_s_api_Producer (P := Tryd.prog) (i := i) (by omega)
    have hel : (praws L)[i]'(by omega) = L[i].1.raw L[i].2 := by simp [praws]
    rw [hel] at hcl
    have hcl : cellsR g o (L[i].1.raw L[i].2).cs B' := hcl
    have hrow := q L[i] (List.getElem_mem hil)
    have hfine := hR.fine L[i].1 (List.mem_map_of_mem (List.getElem_mem hil))
    have hgood := hfine.good
    have hnx := hfine.next
    have hll := hfine.len
    have hstep := flat_take_succ encPr (l := prs L) (i := i) (by omega)
    rw [show (prs L)[i]'(by omega) = L[i].1 by simp] at hstep
    have hle := flat_take_le encPr (prs L) (i + 1)
    rw [hstep, List.length_append] at hle
    rw [hx, cellsR.ldAg (h.hereB hcl) ag_api_Producer rfl]
    refine h.allocAg (ds := (L[i].1.raw L[i].2).cs.toArray) z_api_Producer rfl ag_api_Producer rfl (fun v hv => Enc.one (L[i].1.raw L[i].2) v hv) fun a w6 h => ?_
    have h : Rel B' w6 [bldD B'.W.heap.size b (encI (prs L).length ++ ((prs L).take i).flatMap encPr), cellD a T_api_Producer (L[i].1.raw L[i].2).cs.toArray] := h
    have h := h.tick
    simp -zeta only [field_addr f_api_Producer_0, field_addr f_api_Producer_1, field_addr f_api_Producer_2, field_addr f_api_Producer_3, Nat.add_zero, Nat.zero_add, h.ld 1 rfl sc_int (o := 0) rfl, h.ld 1 rfl sc_int (o := 1) rfl, h.ld 1 rfl sc_int (o := 2) rfl, h.ld 1 rfl sc_s_int (o := 3) rfl]
    refine h.ask (fun B2 own base2 => wInt_g (base2 hB) hgood.id) fun w7 h => ?_
    refine ⟨h.is 1 rfl sc_s_int (o := 3) rfl, h.is 1 rfl sc_int (o := 2) rfl, h.is 1 rfl sc_int (o := 1) rfl, ?_⟩
    refine h.ask (fun B2 own base2 => wInt_g (base2 hB) hgood.epoch) fun w8 h => ?_
    refine ⟨h.is 1 rfl sc_s_int (o := 3) rfl, h.is 1 rfl sc_int (o := 2) rfl, ?_⟩
    have l1 := encI_len hgood.id
    have l2 := encI_len hgood.epoch
    have l3 := encI_len hgood.next
    have l4 := (encL_len encI L[i].1.last (by omega)).2
    have l5 := flat_len encI L[i].1.last 21 fun y hy => encI_len (hgood.last y hy)
    rw [strL_add (by omega)]
    refine h.ask (fun B2 own base2 => wInt_g (base2 hB) hgood.next) fun w9 h => ?_
    refine ⟨h.is 1 rfl sc_s_int (o := 3) rfl, ?_⟩
    rw [strL_add (by rw [List.length_append]; omega)]
    refine h.ask (fun B2 own base2 => wNums_g (base2 hB) (base2 hrow) hgood.last (by omega)) fun w10 h => ?_
    rw [strL_add (by simp only [List.length_append]; omega)]
    simp only [List.length_append] at hall
    have hpe : encI L[i].1.id ++ encI L[i].1.epoch ++ encI L[i].1.next ++ encL encI L[i].1.last = encPr L[i].1 := rfl
    rw [hpe]
    refine (h.take 1).bldWrite (Nat.le_refl _) (by rw [ofL_size]; simp only [List.length_append]; omega) fun _ w11 h => ?_
    rw [bin_add, wrap_id (by omega) (by omega)]
    refine hnext _ _ ⟨i + 1, hil, rfl, ?_⟩ (by simp only; omega)
    rw [hstep, ← List.append_assoc]
    exact h
  · refine h.bldString (Nat.le_refl _) fun w7 h => ?_
    have hie : i = L.length := by omega
    subst hie
    have e : (prs L).take L.length = prs L := List.take_of_length_le (by omega)
    rw [e]
    exact k _ _ h
theorem equalInts_g {a b : Value} {l : List Int} (ra : rowR a l B) (rb : rowR b l B) (hl : l.length ≤ 4611686018427387904) : Gives Tryd.prog B (sCall F_slices_Equal_s_int_int #[a, b]) (.bool true) := by
  refine Gives.intro fun B' w K base h k => ?_
  replace ra := base ra
  replace rb := base rb
  refine slices_Equal_s_int_int.up (slices_Equal_s_int_int.call ?_)
  unfold slices_Equal_s_int_int.pt
  simp -zeta only [rowR.len ra sl_s_int, rowR.len rb sl_s_int, bin_neq, decide_true, Bool.not_true, ifB_false]
  refine LOOP_intro (fun x w' => ∃ i : Nat, i ≤ l.length ∧ x = (.int .i64 i, ()) ∧ Rel B' w' []) (fun x _ => l.length - (match x.1 with | .int _ n => n.toNat | _ => 0))
    ⟨0, Nat.zero_le _, rfl, h⟩ ?_
  clear h
  rintro x w1 ⟨i, hi, rfl, h⟩ next hnext
  simp -zeta only [bin_lss, ifB_dec]
  refine ⟨fun hlt => ?_, fun hge => k _ _ h⟩
  have hil : i < l.length := by omega
  have h := h.tick
  obtain ⟨q, q1, q2⟩ := rowR.at_sc ra h sl_s_int hil sc_int (x := .int .i64 l[i]) rfl
  obtain ⟨q', q3, q4⟩ := rowR.at_sc rb h sl_s_int hil sc_int (x := .int .i64 l[i]) rfl
  simp -zeta only [q1, q2, q3, q4, bin_neq, decide_true, Bool.not_true, ifB_false]
  rw [bin_add, wrap_id (by omega) (by omega)]
  exact hnext _ _ ⟨i + 1, hil, rfl, h⟩ (by simp only; omega)
theorem same1_g {p : Pr} {u v : SV} (ru : rowR u.1 p.last B) (rv : rowR v.1 p.last B) (hl : p.last.length ≤ 4611686018427387904) : Gives Tryd.prog B (sCallV (.func (.func F_producer_same) #[] #[]) #[Enc.val (p.raw u), Enc.val (p.raw v)]) (.bool true) := by
  refine Gives.intro fun B' w K base h k => ?_
  replace ru := base ru
  replace rv := base rv
  refine call_v ?_
  refine producer_same.up (a0 := (p.raw u).v) (b1 := (p.raw v).v) (producer_same.call ?_)
  unfold producer_same.pt
  refine h.box fun o w1 h => ?_
  refine h.box fun o2 w2 h => ?_
  have h : Rel B' w2 [cellD o T_api_Producer (p.raw u).cs.toArray, cellD o2 T_api_Producer (p.raw v).cs.toArray] := h
  simp -zeta only [field_addr f_api_Producer_0, field_addr f_api_Producer_1, field_addr f_api_Producer_2, field_addr f_api_Producer_3, Nat.add_zero, Nat.zero_add, h.ld 0 rfl sc_int (o := 0) rfl, h.ld 1 rfl sc_int (o := 0) rfl, h.ld 0 rfl sc_int (o := 1) rfl, h.ld 1 rfl sc_int (o := 1) rfl, h.ld 0 rfl sc_int (o := 2) rfl, h.ld 1 rfl sc_int (o := 2) rfl, h.ld 0 rfl sc_s_int (o := 3) rfl, h.ld 1 rfl sc_s_int (o := 3) rfl, bin_eql, decide_true, ifB_true]
  refine h.ask (fun B2 own base2 => equalInts_g (base2 ru) (base2 rv) hl) fun w3 h => ?_
  exact k _ _ h
theorem Same_g {a b : Value} {L M : PrL} (ra : rowR a (praws L) B) (qa : prows L B) (rb : rowR b (praws M) B) (qb : prows M B) (he : prs L = prs M) (hR : RightT (prs L)) : Gives Tryd.prog B (sCall F_producer_Same #[a, b]) (.bool true) := by
  refine Gives.intro fun B' w K base h k => ?_
  replace ra := base ra
  replace qa := base qa
  replace rb := base rb
  replace qb := base qb
  have hal : ∀ L : PrL, (praws L).length = L.length := fun L => List.length_map ..
  have hlm : L.length = M.length := by have := congrArg List.length he; rw [List.length_map, List.length_map] at this; exact this
  have hlen := hR.len
  rw [List.length_map] at hlen
  refine producer_Same.up (producer_Same.call ?_)
  unfold producer_Same.pt
  refine slices_EqualFunc_s_api_Producer_s_api_Producer_api_Producer_api_Producer.up (slices_EqualFunc_s_api_Producer_s_api_Producer_api_Producer_api_Producer.call ?_)
  unfold slices_EqualFunc_s_api_Producer_s_api_Producer_api_Producer_api_Producer.pt
  simp -zeta only [rowR.len ra sl_s_api_Producer, rowR.len rb sl_s_api_Producer]
  rw [hal, hal, hlm, bin_neq, decide_eq_true rfl, Bool.not_true, ifB_false]
  refine LOOP_intro (fun x w' => ∃ i : Nat, i ≤ M.length ∧ x = (.int .i64 i, ()) ∧ Rel B' w' []) (fun x _ => M.length - (match x.1 with | .int _ n => n.toNat | _ => 0))
    ⟨0, Nat.zero_le _, rfl, h⟩ ?_
  clear h
  rintro x w1 ⟨i, hi, rfl, h⟩ next hnext
  simp -zeta only [bin_lss, ifB_dec]
  refine ⟨fun hlt => ?_, fun hge => k _ _ h⟩
  have him : i < M.length := by omega
  have hil : i < L.length := by omega
  obtain ⟨g, o, hx, hc⟩ := rowR.idx ra sl_s_api_Producer (P := Tryd.prog) (i := i) (by rw [hal]; exact hil)
  obtain ⟨g2, o2, hx2, hc2⟩ := rowR.idx rb sl_s_api_Producer (P := Tryd.prog) (i := i) (by rw [hal]; exact him)
  have e0 : M[i].1 = L[i].1 := by
    have h1 : (prs L)[i]'(by rw [List.length_map]; exact hil) = (prs M)[i]'(by rw [List.length_map]; exact him) := by simp only [he]
    simpa using h1.symm
  rw [show (praws L)[i]'(by rw [hal]; exact hil) = L[i].1.raw L[i].2 by simp [praws]] at hc
  rw [show (praws M)[i]'(by rw [hal]; exact him) = L[i].1.raw M[i].2 by rw [← e0]; simp [praws]] at hc2
  have hc : cellsR g o (L[i].1.raw L[i].2).cs B' := hc
  have hc2 : cellsR g2 o2 (L[i].1.raw M[i].2).cs B' := hc2
  have r1 := qa L[i] (List.getElem_mem hil)
  have r2 : rowR M[i].2.1 L[i].1.last B' := by have := qb M[i] (List.getElem_mem him); rw [← e0]; exact this
  have hfl := (hR.fine L[i].1 (List.mem_map_of_mem (List.getElem_mem hil))).len
  rw [hx, cellsR.ldAg (h.hereB hc) ag_api_Producer rfl]
  refine h.allocAg (ds := (L[i].1.raw L[i].2).cs.toArray) z_api_Producer rfl ag_api_Producer rfl (fun v hv => Enc.one (L[i].1.raw L[i].2) v hv) fun a w3 h => ?_
  rw [hx2, cellsR.ldAg (h.hereB hc2) ag_api_Producer rfl]
  refine h.allocAg (ds := (L[i].1.raw M[i].2).cs.toArray) z_api_Producer rfl ag_api_Producer rfl (fun v hv => Enc.one (L[i].1.raw M[i].2) v hv) fun a2 w5 h => ?_
  have h : Rel B' w5 [cellD a T_api_Producer (L[i].1.raw L[i].2).cs.toArray, cellD a2 T_api_Producer (L[i].1.raw M[i].2).cs.toArray] := h
  rw [h.ldAg 0 rfl ag_api_Producer rfl, h.ldAg 1 rfl ag_api_Producer rfl]
  refine h.ask (fun B2 own base2 => same1_g (p := L[i].1) (u := L[i].2) (v := M[i].2) (base2 r1) (base2 r2) (by omega)) fun w6 h => ?_
  rw [un_not, Bool.not_true, ifB_false, bin_add, wrap_id (by omega) (by omega)]
  exact hnext _ _ ⟨i + 1, him, rfl, h.nil⟩ (by simp only; omega)
set_option maxHeartbeats 1000000 in
theorem tabRead_m (hB : wireD B) {t : Bs} (ht : t.length ≤ 1000000) : Makes Tryd.prog B (sCall F_producer_Read #[.string (ofL t)]) fun u τ => (∃ s tv, TabOk t s ∧ u = .tuple #[tv, .bool true] ∧ OwnTab tv s τ) ∨ ((∀ s, ¬ TabOk t s) ∧ u = .tuple #[.slice none 0 0, .bool false] ∧ τ = []) := by
  refine Makes.intro fun B' w K base h k => ?_
  replace hB := base hB
  refine producer_Read.up (producer_Read.call ?_)
  unfold producer_Read.pt
  refine h.make (fun B2 own base2 => open_m) fun u τ w1 hp h => ?_
  obtain ⟨p, rfl, rfl⟩ := hp
  have h : Rel B' w1 [rdD p ⟨t, false⟩] := h
  have hal : ∀ L : PrL, (praws L).length = L.length := fun L => List.length_map ..
  have hsn : Sane ⟨t, false⟩ := fun hb => by cases hb
  have l1 : (natR ⟨t, false⟩).2.rest.length ≤ t.length := (numR_le (.inl rfl : isEnd 59) 0 ⟨t, false⟩).1
  have hin := (numR_le (.inl rfl : isEnd 59) 0 ⟨t, false⟩).2.1
  have n0 : 0 ≤ (natR ⟨t, false⟩).1 := (numR_le (.inl rfl : isEnd 59) 0 ⟨t, false⟩).2.2 (Int.le_refl 0)
  have n1 : (natR ⟨t, false⟩).1 ≤ 9223372036854775807 := hin.2
  have hs1 : Sane (natR ⟨t, false⟩).2 := natR_sane hsn
  have no : (∀ s, ¬ TabOk t s) → ∀ w' τ, Rel B' w' τ → K (.tuple #[.slice none 0 0, .bool false]) w' := fun hn w' τ h => k _ _ _ (.inr ⟨hn, rfl, rfl⟩) h.nil
  have yes : ∀ s tv τ, TabOk t s → OwnTab tv s τ → ∀ w', Rel B' w' τ → K (.tuple #[tv, .bool true]) w' := fun s tv τ h1 h2 w' h => k _ _ _ (.inl ⟨s, tv, h1, rfl, h2⟩) h
  clear k
  unfold TabOk at no yes
  refine LETJ_intro fun J1 hJ1 => ?_
  replace hJ1 : ∀ (tv : Value) (L : PrL) (s' : RS), tabR (natR ⟨t, false⟩).1.toNat [] (natR ⟨t, false⟩).2 = (prs L, s') → L.length ≤ t.length → (∀ x ∈ L, x.1.last.length ≤ 4611686018427387904) → ∀ w', Rel B' w' [rdD p s', rowD T_api_Producer tv (praws L), prows L] → J1 (tv, ()) w' := by
    intro tv L s' htab hLl hq w' h
    refine hJ1 _ _ ?_
    clear hJ1
    rw [htab] at no yes
    simp only at no yes
    refine h.ask (fun B2 own base2 => rDone_g (own (i := 0) rfl)) fun w3 h => ?_
    rw [un_not, ifB_not, ifB_bool]
    refine ⟨fun cd => ?_, fun cd => no (fun s hh => by rw [hh.2.2.1] at cd; cases cd) _ _ h⟩
    refine h.ask (fun B2 own base2 => Right_g (rowD.read (own (i := 1) rfl)) (own (i := 2) rfl) (by omega) hq) fun w4 h => ?_
    rw [un_not, ifB_not, ifB_bool]
    refine ⟨fun cr => ?_, fun cr => no (fun s hh => by rw [hh.2.2.2, rightB_true.2 hh.1] at cr; cases cr) _ _ h⟩
    have hR := rightB_true.1 cr
    refine h.ask (fun B2 own base2 => tabBytes_g (base2 hB) (rowD.read (own (i := 1) rfl)) (own (i := 2) rfl) hR) fun w5 h => ?_
    rw [neq_str, ifB_not, ifB_dec]
    refine ⟨fun ce => ?_, fun ce => no (fun s hh => ce ?_) _ _ h⟩
    · have ce : encTab (prs L) = t := by have := congrArg bl ce; exact this
      have h := h.pick [1, 2] (by decide)
      exact yes (prs L) tv [rowD T_api_Producer tv (praws L), prows L] ⟨hR, ce, cd, rfl⟩ (own_stars fun B hB => ⟨L, rfl, rowD.read (Dat.star.left hB), Dat.star.left (Dat.star.right hB)⟩) _ h
    · rw [hh.2.2.2, hh.2.1]
  refine h.rd_ 0 rfl (fun B2 own base2 => rNum_d (base2 hB) (by show t.length ≤ _; omega)) fun w6 h => ?_
  generalize natR ⟨t, false⟩ = n at *
  obtain ⟨n, r1⟩ := n
  simp only at l1 n0 n1 hs1 hJ1
  obtain ⟨m, rfl⟩ : ∃ m : Nat, n = m := ⟨n.toNat, by omega⟩
  rw [Int.toNat_natCast] at hJ1
  have h : Rel B' w6 [rdD p r1] := h
  have h := h.addNil PrD T_api_Producer
  have h : Rel B' w6 [rdD p r1, rowD T_api_Producer (.slice none 0 0) (praws [])] := h
  have h := own_of (d := prows []) (τ := []) (σ := [rdD p r1, rowD T_api_Producer (.slice none 0 0) (praws [])]) (fun B _ x hx => by cases hx) (by simpa using h)
  refine LOOP_intro (fun x w' => ∃ (j : Nat) (L : PrL) (tv : Value) (s' : RS), j ≤ m ∧ x = (tv, .int .i64 j, ()) ∧ tabR j (prs L) s' = tabR m [] r1 ∧ Sane s' ∧ L.length + s'.rest.length ≤ t.length ∧ (∀ x ∈ L, x.1.last.length ≤ 4611686018427387904) ∧
      Rel B' w' [rdD p s', rowD T_api_Producer tv (praws L), prows L]) (fun x _ => match x.2.1 with | .int _ n => n.toNat | _ => 0)
    ⟨m, [], .slice none 0 0, r1, Nat.le_refl _, rfl, rfl, hs1, by simpa using l1, fun x hx => (by cases hx), h⟩ ?_
  clear h
  rintro x w7 ⟨j, L, tv, s', hj, rfl, htab, hsa, hlen, hq, h⟩ next hnext
  simp -zeta only [bin_gtr, ifB_dec]
  refine ⟨fun hpos => ?_, fun hz => ?_⟩
  case refine_2 =>
    obtain rfl : j = 0 := by omega
    rw [tabR] at htab
    exact hJ1 tv L s' htab.symm (by omega) hq _ h
  obtain ⟨i, rfl⟩ : ∃ i, j = i + 1 := ⟨j - 1, by omega⟩
  rw [tabR] at htab
  refine h.ask (fun B2 own base2 => rLeft_g (own (i := 0) rfl)) fun w8 h => ?_
  rw [bin_gtr, ifB_dec]
  refine ⟨fun hp => ?_, fun hp => ?_⟩
  case refine_2 =>
    have : s'.rest = [] := List.eq_nil_of_length_eq_zero (by omega)
    rw [if_pos this] at htab
    exact hJ1 tv L s' htab.symm (by omega) hq _ h
  have hne : ¬ s'.rest = [] := fun hh => by rw [hh] at hp; exact absurd hp (by simp)
  rw [if_neg hne] at htab
  obtain ⟨hsa2, hshr⟩ := prodR_rest hsa hne
  have a1 := (numR_le (.inl rfl : isEnd 59) (-9223372036854775808) s').1
  have a2 := (numR_le (.inl rfl : isEnd 59) (-9223372036854775808) (intR s').2).1
  have a3 := (numR_le (.inl rfl : isEnd 59) (-9223372036854775808) (intR (intR s').2).2).1
  have a1 : (intR s').2.rest.length ≤ s'.rest.length := a1
  have a2 : (intR (intR s').2).2.rest.length ≤ (intR s').2.rest.length := a2
  have a3 : (intR (intR (intR s').2).2).2.rest.length ≤ (intR (intR s').2).2.rest.length := a3
  have a4 : (intsR (intR (intR (intR s').2).2).2).1.length ≤ (intR (intR (intR s').2).2).2.rest.length + 1 := itemsR_len intR_ok encI_pos _
  refine h.rd_ 0 rfl (fun B2 own base2 => rInt_d (base2 hB) (by omega)) fun w9 h => ?_
  have h : Rel B' w9 [rdD p (intR s').2, rowD T_api_Producer tv (praws L), prows L] := h
  refine h.rd_ 0 rfl (fun B2 own base2 => rInt_d (base2 hB) (by omega)) fun w10 h => ?_
  have h : Rel B' w10 [rdD p (intR (intR s').2).2, rowD T_api_Producer tv (praws L), prows L] := h
  refine h.rd_ 0 rfl (fun B2 own base2 => rInt_d (base2 hB) (by omega)) fun w11 h => ?_
  have h : Rel B' w11 [rdD p (intR (intR (intR s').2).2).2, rowD T_api_Producer tv (praws L), prows L] := h
  refine h.act 0 rfl (fun B2 own base2 => rNums_d (base2 hB) (by omega)) fun u e' τ w12 hp h => ?_
  obtain ⟨rfl, rfl⟩ := hp
  have hpr : (prodR s').1 = ⟨(intR s').1, (intR (intR s').2).1, (intR (intR (intR s').2).2).1, (intsR (intR (intR (intR s').2).2).2).1⟩ := rfl
  have h : Rel B' w12 [rdD p (prodR s').2, rowD T_api_Producer tv (praws L), prows L, rowD T_int u (prodR s').1.last] := h
  have a4 : (prodR s').1.last.length ≤ t.length + 1 := by rw [hpr]; show (intsR _).1.length ≤ _; omega
  have e1 : (intR s').1 = (prodR s').1.id := rfl
  have e2 : (intR (intR s').2).1 = (prodR s').1.epoch := rfl
  have e3 : (intR (intR (intR s').2).2).1 = (prodR s').1.next := rfl
  rw [e1, e2, e3]
  clear hpr e1 e2 e3 a1 a2 a3
  generalize prodR s' = y at *
  obtain ⟨pr, s2⟩ := y
  simp only at *
  have h1 : u.oneCell' = true := h.oneCell (i := 3) rfl
  obtain ⟨sv, rfl⟩ : ∃ sv : SV, sv.1 = u := ⟨⟨u, h1⟩, rfl⟩
  obtain ⟨a, c, hform, _⟩ := rowR.form (rowD.read (h.here (i := 3) rfl))
  have hbd : ∀ {Kp : Value → Prop}, pureK Tryd.prog (sBuild T_api_Producer #[(0, .int .i64 pr.id), (1, .int .i64 pr.epoch), (2, .int .i64 pr.next), (3, sv.1)]) Kp = Kp (pr.raw sv).v := fun {Kp} => by
    have e : (pr.raw sv).v = .agg #[.int .i64 pr.id, .int .i64 pr.epoch, .int .i64 pr.next, sv.1] := rfl
    rw [e, hform]
    exact bd_api_Producer_0_1_2_3
  rw [hbd]
  refine h.push1 (α := PrD) 1 rfl (pr.raw sv) sl_s_api_Producer (by decide) (by rw [hal]; omega) (by rw [hal]; omega) fun v2 w14 h => ?_
  have h : Rel B' w14 ([rdD p s2, rowD T_api_Producer v2 (praws L ++ [pr.raw sv])] ++ [prows L, rowD T_int sv.1 pr.last]) := h
  have h := own_of (d := prows (L ++ [(pr, sv)])) (τ := [prows L, rowD T_int sv.1 pr.last]) (σ := [rdD p s2, rowD T_api_Producer v2 (praws L ++ [pr.raw sv])]) (fun B hB => Dat.all_append (Dat.star.left hB) fun x hx => by
    rw [List.mem_singleton] at hx
    subst hx
    exact rowD.read (Dat.star.left (Dat.star.right hB))) h
  rw [show praws L ++ [pr.raw sv] = praws (L ++ [(pr, sv)]) by simp [praws]] at h
  rw [bin_sub, wrap_id (by omega) (by omega)]
  have e4 : (((i + 1 : Nat) : Int) - 1) = (i : Int) := by omega
  rw [e4]
  refine hnext _ _ ⟨i, L ++ [(pr, sv)], v2, s2, by omega, rfl, ?_, hsa2, by rw [List.length_append, List.length_singleton]; omega, fun x hx => ?_, h⟩ (by simp only; omega)
  · rw [← htab]
    simp
  · rcases List.mem_append.1 hx with hx | hx
    · exact hq x hx
    · rw [List.mem_singleton.1 hx]
      show pr.last.length ≤ _
      omega
end
end Go.Proofs.YtppnebcpalialaaDoor
