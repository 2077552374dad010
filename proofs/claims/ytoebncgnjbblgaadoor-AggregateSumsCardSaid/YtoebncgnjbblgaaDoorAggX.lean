/-
  The laws' own functions: few, net, first, often. No condition.
-/
import Derived.Test.YtoebncgnjbblgaaDoorAggV
import Derived.Test.YtoebncgnjbblgaaDoorValF
import Derived.Test.YtoebncgnjbblgaaDoorArgs
--@auto
namespace Go.Proofs.YtoebncgnjbblgaaDoor
open Go.RowKit
set_option maxRecDepth 100000

abbrev ChD := D_erratalaw30_Change
abbrev ChL := List (ChD × List ValD)
def raws (L : ChL) : List ChD := L.map (·.1)
def chs (L : ChL) : List Chg := L.map fun p => (p.2, p.1.n)
def chR (L : ChL) : Dat := Dat.all L fun p => rowR p.1.row.1 p.2
theorem raws_len (L : ChL) : (raws L).length = L.length := by simp [raws]
theorem chs_len (L : ChL) : (chs L).length = L.length := by simp [chs]
theorem raws_get {L : ChL} {i : Nat} (h : i < L.length) : (raws L)[i]'(by rw [raws_len]; exact h) = L[i].1 := by simp [raws]
theorem chs_take_succ {L : ChL} {i : Nat} (h : i < L.length) : chs (L.take (i + 1)) = chs (L.take i) ++ [(L[i].2, L[i].1.n)] := by
  unfold chs
  rw [List.take_succ_eq_append_getElem h, List.map_append]
  rfl
def fewS (C : List Chg) : Bool := (C.all fun p => decide ((p.1.length : Int) ≤ 5) && p.1.all vRight) && decide ((C.length : Int) ≤ 40)
def fRow (row : List ValD) (r : List ValD) : Int := if r = row then 1 else 0
section
variable {B : Base} {w : World} {σ : List Dat} {v : Value} {L : ChL}
theorem chR.at (q : chR L B) {i : Nat} (h : i < L.length) : rowR L[i].1.row.1 L[i].2 B := q _ (List.getElem_mem h)
theorem ch_idx (r : rowR v (raws L) B) {i : Nat} (h : i < L.length) : ∃ g o, (∀ {Kp : Value → Prop}, pureK Tryd.prog (sIdxAddr T_s_erratalaw30_Change v (.int .i64 i)) Kp = Kp (.pointer (some ⟨g, o, none⟩))) ∧ cellsR g o L[i].1.cs B := by
  have hr : i < (raws L).length := by rw [raws_len]; exact h
  obtain ⟨g, o, h1, h2⟩ := rowR.idx (P := Tryd.prog) r sl_s_erratalaw30_Change hr
  rw [raws_get h] at h2
  exact ⟨g, o, h1, h2⟩
theorem few_g (r : rowR v (raws L) B) (q : chR L B) (hl : L.length ≤ 9223372036854775807) (hq : ∀ p ∈ L, p.2.length ≤ 9223372036854775807) : Gives Tryd.prog B (sCall F_erratalaw30_few #[v]) (.bool (fewS (chs L))) := by
  refine Gives.intro fun B' w K base h k => ?_
  replace r := base r
  replace q := base q
  refine erratalaw30_few.up (erratalaw30_few.call ?_)
  unfold erratalaw30_few.pt
  refine LOOP_intro (fun x w' => ∃ i : Nat, i ≤ L.length ∧ x = (.int .i64 i, ()) ∧ (∀ j (h1 : j < L.length), j < i → (L[j].2.length : Int) ≤ 5 ∧ L[j].2.all vRight = true) ∧ Rel B' w' []) (fun x _ => L.length - (match x.1 with | .int _ n => n.toNat | _ => 0))
    ⟨0, Nat.zero_le _, rfl, fun j _ hj => absurd hj (Nat.not_lt_zero j), h⟩ ?_
  clear h
  rintro x w1 ⟨i, hi, rfl, hin, h⟩ next hnext
  simp -zeta only [rowR.len r sl_s_erratalaw30_Change, raws_len, bin_lss, ifB_dec]
  refine ⟨fun hlt => ?_, fun hge => ?_⟩
  · have hil : i < L.length := by omega
    obtain ⟨g, o, hx, hcl⟩ := ch_idx r hil
    have qi := chR.at q hil
    have no : ¬ ((L[i].2.length : Int) ≤ 5 ∧ L[i].2.all vRight = true) → ∀ w', Rel B' w' [] → K (.bool false) w' := fun hno w' h => by
      have : fewS (chs L) = false := by
        unfold fewS
        have : ((chs L).all fun p => decide ((p.1.length : Int) ≤ 5) && p.1.all vRight) = false := by
          cases ha : ((chs L).all fun p => decide ((p.1.length : Int) ≤ 5) && p.1.all vRight)
          · rfl
          · have := List.all_eq_true.1 ha (L[i].2, L[i].1.n) (List.mem_map.2 ⟨L[i], List.getElem_mem hil, rfl⟩)
            rw [Bool.and_eq_true, decide_eq_true_eq] at this
            exact absurd this hno
        rw [this, Bool.false_and]
      rw [this] at k
      exact k _ _ h
    rw [hx, field_addr f_erratalaw30_Change_0, cellsR.ld (h.hereB hcl) sc_s_api_Value (j := 0) (v := L[i].1.row.1) rfl, rowR.len qi sl_s_api_Value, bin_gtr, ifB_dec]
    refine ⟨fun c => no (fun hh => by have := hh.1; omega) _ h, fun c1 => ?_⟩
    rw [hx, field_addr f_erratalaw30_Change_0, cellsR.ld (h.hereB hcl) sc_s_api_Value (j := 0) (v := L[i].1.row.1) rfl]
    refine h.ask (fun B2 own base2 => fAll_g (base2 qi) (hq _ (List.getElem_mem hil))) fun w2 h => ?_
    rw [un_not, ifB_not, ifB_bool]
    refine ⟨fun c2 => ?_, fun c2 => no (fun hh => by rw [hh.2] at c2; cases c2) _ h⟩
    rw [bin_add, wrap_id (by omega) (by omega)]
    refine hnext _ _ ⟨i + 1, hil, rfl, fun j h1 hj => ?_, h⟩ (by simp only; omega)
    by_cases e : j = i
    · subst e; exact ⟨by omega, c2⟩
    · exact hin j h1 (by omega)
  · have : ((chs L).all fun p => decide ((p.1.length : Int) ≤ 5) && p.1.all vRight) = true := List.all_eq_true.2 fun p hp => by
      obtain ⟨p2, hp2, rfl⟩ := List.mem_map.1 hp
      obtain ⟨j, hj, rfl⟩ := List.getElem_of_mem hp2
      have := hin j hj (by omega)
      rw [Bool.and_eq_true, decide_eq_true_eq]
      exact this
    unfold fewS at k
    rw [this, Bool.true_and, chs_len] at k
    rw [bin_leq]
    exact k _ _ h
theorem refAt_g {l : List ValD} (r : rowR v l B) (col : Int) : Gives Tryd.prog B (sCall F_errataref30_At #[v, .int .i64 col]) (atS l col).v := by
  refine Gives.intro fun B' w K base h k => ?_
  replace r := base r
  refine errataref30_At.up (errataref30_At.call ?_)
  unfold errataref30_At.pt
  unfold atS at k
  refine h.alloc z_api_Value fun o w1 h => ?_
  rw [bin_lss, ifB_dec]
  refine ⟨fun c => ?_, fun c => ?_⟩
  · rw [if_pos c] at k
    rw [bd_api_Value_]
    refine h.stAll 0 (ds := vZero.cs.toArray) rfl ag_api_Value rfl rfl (fun v hv => Enc.one vZero v hv) fun w2 h => ?_
    rw [rv_ag h 0 rfl ag_api_Value rfl]
    exact k _ _ h
  rw [if_neg c] at k
  simp -zeta only [rowR.len r sl_s_api_Value]
  rw [bin_geq, ifB_dec]
  refine ⟨fun c2 => ?_, fun c2 => ?_⟩
  · rw [List.getElem?_eq_none (by omega)] at k
    rw [bd_api_Value_]
    refine h.stAll 0 (ds := vZero.cs.toArray) rfl ag_api_Value rfl rfl (fun v hv => Enc.one vZero v hv) fun w2 h => ?_
    rw [rv_ag h 0 rfl ag_api_Value rfl]
    exact k _ _ h
  · obtain ⟨i, rfl⟩ : ∃ i : Nat, col = i := ⟨col.toNat, by omega⟩
    have hi : i < l.length := by omega
    rw [Int.toNat_natCast, List.getElem?_eq_getElem hi] at k
    obtain ⟨g, o2, hx, hc⟩ := rowR.idx r sl_s_api_Value (P := Tryd.prog) hi
    have hc : cellsR g o2 l[i].cs B' := hc
    rw [hx, cellsR.ldAg (h.hereB hc) ag_api_Value rfl]
    refine h.stAll 0 (ds := l[i].cs.toArray) rfl ag_api_Value rfl rfl (fun v hv => Enc.one l[i] v hv) fun w2 h => ?_
    rw [rv_ag h 0 rfl ag_api_Value rfl]
    exact k _ _ h
theorem often_g (r : rowR v (raws L) B) (q : chR L B) (hl : L.length ≤ 9223372036854775807) {j : Nat} (hj : j < L.length) (col : Int) :
    Gives Tryd.prog B (sCall F_erratalaw30_often #[v, .int .i64 j, .int .i64 col]) (.int .i64 (W64 (tot (chs L) (fCnt col (atS L[j].2 col))))) := by
  refine Gives.intro fun B' w K base h k => ?_
  replace r := base r
  replace q := base q
  refine erratalaw30_often.up (erratalaw30_often.call ?_)
  unfold erratalaw30_often.pt
  generalize hf : fCnt col (atS L[j].2 col) = f at *
  refine LOOP_intro (fun x w' => ∃ i : Nat, i ≤ L.length ∧ x = (.int .i64 (W64 (tot (chs (L.take i)) f)), .int .i64 i, ()) ∧ Rel B' w' []) (fun x _ => L.length - (match x.2.1 with | .int _ n => n.toNat | _ => 0))
    ⟨0, Nat.zero_le _, by rw [List.take_zero]; rfl, h⟩ ?_
  clear h
  rintro x w1 ⟨i, hi, rfl, h⟩ next hnext
  simp -zeta only [rowR.len r sl_s_erratalaw30_Change, raws_len, bin_lss, ifB_dec]
  refine ⟨fun hlt => ?_, fun hge => ?_⟩
  case refine_2 =>
    have : i = L.length := by omega
    subst this
    rw [List.take_length]
    exact k _ _ h
  have hil : i < L.length := by omega
  refine LETJ_intro fun J hJ => ?_
  replace hJ : ∀ w', Rel B' w' [] → J (.int .i64 (W64 (tot (chs (L.take (i + 1))) f)), ()) w' := by
    intro w' h
    refine hJ _ _ ?_
    show pureK _ _ _
    rw [bin_add, wrap_id (by omega) (by omega)]
    exact hnext _ _ ⟨i + 1, hil, rfl, h⟩ (by simp only; omega)
  clear hnext
  rw [chs_take_succ hil, tot_append, tot_one] at hJ
  obtain ⟨g1, o1, hx1, hc1⟩ := ch_idx r hil
  obtain ⟨g2, o2, hx2, hc2⟩ := ch_idx r hj
  have h := h.tick
  generalize tick w1 = w1 at *
  rw [hx1, field_addr f_erratalaw30_Change_0, cellsR.ld (h.hereB hc1) sc_s_api_Value (j := 0) (v := L[i].1.row.1) rfl, hx2, field_addr f_erratalaw30_Change_0, cellsR.ld (h.hereB hc2) sc_s_api_Value (j := 0) (v := L[j].1.row.1) rfl]
  refine h.ask (fun B2 own base2 => refAt_g (base2 (chR.at q hil)) col) fun w3 h => ?_
  refine ⟨cellsR.is (h.hereB hc2) sc_s_api_Value (j := 0) (v := L[j].1.row.1) rfl, ?_⟩
  refine h.ask (fun B2 own base2 => refAt_g (base2 (chR.at q hj)) col) fun w4 h => ?_
  refine h.ask (fun B2 own base2 => fCompare_g _ _) fun w5 h => ?_
  have he := compareV_ord.eq (atS L[i].2 col) (atS L[j].2 col)
  rw [bin_eql, ifB_dec]
  refine ⟨fun c => ?_, fun c => ?_⟩
  · rw [hx1, field_addr f_erratalaw30_Change_1, cellsR.ld (h.hereB hc1) sc_int (j := 1) (v := .int .i64 L[i].1.n) rfl, bin_add]
    have e1 : f L[i].2 = 1 := by rw [← hf]; unfold fCnt; rw [if_pos (he.1 c)]
    rw [e1, Int.mul_one, ← W_addl] at hJ
    exact hJ _ h
  · have e1 : f L[i].2 = 0 := by rw [← hf]; unfold fCnt; rw [if_neg (fun hh => c (he.2 hh))]
    rw [e1, Int.mul_zero, Int.add_zero] at hJ
    exact hJ _ h
theorem net_g {u : Value} {row : List ValD} (r : rowR v (raws L) B) (q : chR L B) (s : rowR u row B) (hl : L.length ≤ 9223372036854775807) (hq : ∀ p ∈ L, p.2.length ≤ 9223372036854775807) :
    Gives Tryd.prog B (sCall F_erratalaw30_net #[v, u]) (.int .i64 (W64 (tot (chs L) (fRow row)))) := by
  refine Gives.intro fun B' w K base h k => ?_
  replace r := base r
  replace q := base q
  replace s := base s
  refine erratalaw30_net.up (erratalaw30_net.call ?_)
  unfold erratalaw30_net.pt
  refine LOOP_intro (fun x w' => ∃ i : Nat, i ≤ L.length ∧ x = (.int .i64 (W64 (tot (chs (L.take i)) (fRow row))), .int .i64 i, ()) ∧ Rel B' w' []) (fun x _ => L.length - (match x.2.1 with | .int _ n => n.toNat | _ => 0))
    ⟨0, Nat.zero_le _, by rw [List.take_zero]; rfl, h⟩ ?_
  clear h
  rintro x w1 ⟨i, hi, rfl, h⟩ next hnext
  simp -zeta only [rowR.len r sl_s_erratalaw30_Change, raws_len, bin_lss, ifB_dec]
  refine ⟨fun hlt => ?_, fun hge => ?_⟩
  case refine_2 =>
    have : i = L.length := by omega
    subst this
    rw [List.take_length]
    exact k _ _ h
  have hil : i < L.length := by omega
  refine LETJ_intro fun J hJ => ?_
  replace hJ : ∀ w', Rel B' w' [] → J (.int .i64 (W64 (tot (chs (L.take (i + 1))) (fRow row))), ()) w' := by
    intro w' h
    refine hJ _ _ ?_
    show pureK _ _ _
    rw [bin_add, wrap_id (by omega) (by omega)]
    exact hnext _ _ ⟨i + 1, hil, rfl, h⟩ (by simp only; omega)
  clear hnext
  rw [chs_take_succ hil, tot_append, tot_one] at hJ
  obtain ⟨g1, o1, hx1, hc1⟩ := ch_idx r hil
  rw [hx1, field_addr f_erratalaw30_Change_0, cellsR.ld (h.hereB hc1) sc_s_api_Value (j := 0) (v := L[i].1.row.1) rfl]
  refine h.ask (fun B2 own base2 => fSame_g (base2 (chR.at q hil)) (base2 s) (hq _ (List.getElem_mem hil))) fun w3 h => ?_
  rw [ifB_dec]
  refine ⟨fun c => ?_, fun c => ?_⟩
  · rw [hx1, field_addr f_erratalaw30_Change_1, cellsR.ld (h.hereB hc1) sc_int (j := 1) (v := .int .i64 L[i].1.n) rfl, bin_add]
    have e1 : fRow row L[i].2 = 1 := by unfold fRow; rw [if_pos c]
    rw [e1, Int.mul_one, ← W_addl] at hJ
    exact hJ _ h
  · have e1 : fRow row L[i].2 = 0 := by unfold fRow; rw [if_neg c]
    rw [e1, Int.mul_zero, Int.add_zero] at hJ
    exact hJ _ h
def isFirst (C : List Chg) (j : Nat) : Bool := decide (∀ i : Nat, i < j → (C[i]?).map (·.1) ≠ (C[j]?).map (·.1))
theorem first_g (r : rowR v (raws L) B) (q : chR L B) (hl : L.length ≤ 9223372036854775807) (hq : ∀ p ∈ L, p.2.length ≤ 9223372036854775807) {j : Nat} (hj : j < L.length) : Gives Tryd.prog B (sCall F_erratalaw30_first #[v, .int .i64 j]) (.bool (isFirst (chs L) j)) := by
  refine Gives.intro fun B' w K base h k => ?_
  replace r := base r
  replace q := base q
  refine erratalaw30_first.up (erratalaw30_first.call ?_)
  unfold erratalaw30_first.pt
  have hc : ∀ (i : Nat) (h : i < L.length), ((chs L)[i]?).map (·.1) = some L[i].2 := fun i h => by unfold chs; rw [List.getElem?_map, List.getElem?_eq_getElem h]; rfl
  refine LOOP_intro (fun x w' => ∃ i : Nat, i ≤ j ∧ x = (.int .i64 i, ()) ∧ (∀ m : Nat, m < i → ((chs L)[m]?).map (·.1) ≠ ((chs L)[j]?).map (·.1)) ∧ Rel B' w' []) (fun x _ => j - (match x.1 with | .int _ n => n.toNat | _ => 0))
    ⟨0, Nat.zero_le _, rfl, fun m hm => absurd hm (Nat.not_lt_zero m), h⟩ ?_
  clear h
  rintro x w1 ⟨i, hi, rfl, hin, h⟩ next hnext
  simp -zeta only [bin_lss, ifB_dec]
  unfold isFirst at k
  refine ⟨fun hlt => ?_, fun hge => ?_⟩
  case refine_2 =>
    rw [decide_eq_true (fun m hm => hin m (by omega))] at k
    exact k _ _ h
  have hij : i < j := by omega
  have hil : i < L.length := by omega
  obtain ⟨g1, o1, hx1, hc1⟩ := ch_idx r hil
  obtain ⟨g2, o2, hx2, hc2⟩ := ch_idx r hj
  have h := h.tick
  generalize tick w1 = w1 at *
  rw [hx1, field_addr f_erratalaw30_Change_0, cellsR.ld (h.hereB hc1) sc_s_api_Value (j := 0) (v := L[i].1.row.1) rfl, hx2, field_addr f_erratalaw30_Change_0, cellsR.ld (h.hereB hc2) sc_s_api_Value (j := 0) (v := L[j].1.row.1) rfl]
  refine h.ask (fun B2 own base2 => fSame_g (base2 (chR.at q hil)) (base2 (chR.at q hj)) (hq _ (List.getElem_mem hil))) fun w3 h => ?_
  rw [ifB_dec]
  refine ⟨fun c => ?_, fun c => ?_⟩
  · rw [decide_eq_false (fun hh => hh i hij (by rw [hc i hil, hc j hj, c]))] at k
    exact k _ _ h
  · rw [bin_add, wrap_id (by omega) (by omega)]
    refine hnext _ _ ⟨i + 1, hij, rfl, fun m hm => ?_, h⟩ (by simp only; omega)
    by_cases e : m = i
    · subst e
      rw [hc m hil, hc j hj]
      exact fun hh => c (Option.some.inj hh)
    · exact hin m (by omega)
end
end Go.Proofs.YtoebncgnjbblgaaDoor
