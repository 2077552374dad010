/-
  The reference's functions of chapter 45: Right, Same, At, end, Spans, Pick, Versions, Replace. No condition.
-/
import Derived.Test.YtdecfgbdppfmcaaGreatDoorTimeD
import Derived.Test.YtdecfgbdppfmcaaGreatDoorTimeH
import Derived.Test.YtdecfgbdppfmcaaGreatDoorPlus
namespace Go.Proofs.YtdecfgbdppfmcaaGreatDoor
open Go.RowKit
set_option maxRecDepth 100000

def prevS (t : List Seg) : Nat → Seg
  | 0 => ⟨-1, 0⟩
  | i + 1 => t.getD i ⟨0, 0⟩
theorem getD_at {t : List Seg} {i : Nat} (hi : i < t.length) : t.getD i ⟨0, 0⟩ = t[i] := by rw [List.getD_eq_getElem?_getD, List.getElem?_eq_getElem hi]; rfl
def LinkR (t : List Seg) (q : Nat) (hq : q < t.length) : Prop := (prevS t q).from_ < t[q].from_ ∧ t[q].from_ ≤ 1099511627776 ∧ 1 ≤ t[q].version ∧ t[q].version ≤ 50 ∧ t[q].version ≠ (prevS t q).version
theorem TInv.linkR {t : List Seg} (h : TInv t) (q : Nat) (hq : q < t.length) : LinkR t q hq := by
  obtain ⟨h1, h2⟩ := h.link q hq
  cases q with
  | zero =>
    have := h.zero hq
    exact ⟨by show (-1 : Int) < _; omega, h1.1, h1.2.1, h1.2.2, by show _ ≠ (0 : Int); omega⟩
  | succ q =>
    obtain ⟨h3, h4⟩ := h2 (by omega)
    refine ⟨?_, h1.1, h1.2.1, h1.2.2, ?_⟩
    · show (t.getD q ⟨0, 0⟩).from_ < _
      rw [getD_at (by omega)]; exact h3
    · show _ ≠ (t.getD q ⟨0, 0⟩).version
      rw [getD_at (by omega)]; exact h4
theorem TInv.ofR {t : List Seg} (hne : t ≠ []) (h0 : ∀ h : 0 < t.length, t[0].from_ = 0) (hp : ∀ q (hq : q < t.length), LinkR t q hq) : TInv t := by
  refine TInv.of hne h0 fun q hq => ?_
  obtain ⟨h1, h2, h3, h4, h5⟩ := hp q hq
  refine ⟨⟨h2, h3, h4⟩, fun hq0 => ?_⟩
  cases q with
  | zero => omega
  | succ q =>
    have e : prevS t (q + 1) = t[q]'(by omega) := getD_at (by omega)
    rw [e] at h1 h5
    exact ⟨h1, h5⟩

section
variable {B : Base}
theorem RSame_g {va vb : Value} {a b : List Seg} (ra : rowR va a B) (rb : rowR vb b B) (hl : a.length ≤ 1000000000) : Gives Tryz.prog B (sCall F_errataref45_Same #[va, vb]) (.bool (decide (a = b))) := by
  refine Gives.intro fun B' w K base h k => ?_
  replace ra := base ra
  replace rb := base rb
  refine errataref45_Same.up (errataref45_Same.call ?_)
  unfold errataref45_Same.pt
  have no : ∀ w', Rel B' w' [] → a ≠ b → K (.bool false) w' := fun w' h hn => by
    rw [decide_eq_false hn] at k
    exact k _ _ h
  simp -zeta only [rowR.len ra sl_s_api_Seg, rowR.len rb sl_s_api_Seg, bin_neq, ifB_not, ifB_dec]
  refine ⟨fun hlen => ?_, fun hlen => no _ h fun e => hlen (by rw [e])⟩
  have hlen : a.length = b.length := by omega
  refine LOOP_intro (fun x w' => ∃ i : Nat, i ≤ a.length ∧ x = (.int .i64 i, ()) ∧ (∀ q (h1 : q < a.length) (h2 : q < b.length), q < i → a[q] = b[q]) ∧ Rel B' w' []) (fun x _ => a.length - (match x.1 with | .int _ n => n.toNat | _ => 0))
    ⟨0, Nat.zero_le _, rfl, fun q _ _ hq => absurd hq (Nat.not_lt_zero q), h⟩ ?_
  clear h
  rintro x w1 ⟨i, hil, rfl, hin, h⟩ next hnext
  simp -zeta only [bin_lss, ifB_dec]
  refine ⟨fun hlt => ?_, fun hge => ?_⟩
  · have h1 : i < a.length := by omega
    have h2 : i < b.length := by omega
    have h := h.tick
    obtain ⟨g, o, hx, hc⟩ := rowR.idx ra sl_s_api_Seg h1
    obtain ⟨g2, o2, hx2, hc2⟩ := rowR.idx rb sl_s_api_Seg h2
    have hc : cellsR g o a[i].cs B' := hc
    have hc2 : cellsR g2 o2 b[i].cs B' := hc2
    simp -zeta only [hx, hx2, cellsR.ldAg (h.hereB hc) ag_api_Seg rfl, cellsR.ldAg (h.hereB hc2) ag_api_Seg rfl]
    rw [neq_api_Seg a[i] b[i], ifB_not, ifB_dec]
    refine ⟨fun e => ?_, fun e => no _ h fun hab => e (by subst hab; rfl)⟩
    rw [bin_add, wrap_id (by omega) (by omega)]
    refine hnext _ _ ⟨i + 1, by omega, rfl, fun q q1 q2 q3 => ?_, h⟩ (by simp only; omega)
    by_cases eq : q = i
    · subst eq; exact e
    · exact hin q q1 q2 (by omega)
  · have : a = b := List.ext_getElem hlen fun q q1 q2 => hin q q1 q2 (by omega)
    rw [decide_eq_true this] at k
    exact k _ _ h

theorem RAt_g {v : Value} {t : List Seg} (r : rowR v t B) (ht : TInv t) (hl : t.length ≤ 1000000) (time : Int) : Gives Tryz.prog B (sCall F_errataref45_At #[v, .int .i64 time]) (.int .i64 (atS t time)) := by
  refine Gives.intro fun B' w K base h k => ?_
  replace r := base r
  refine errataref45_At.up (errataref45_At.call ?_)
  unfold errataref45_At.pt
  have hlen : 0 < t.length := List.length_pos_iff.2 ht.some_
  have hb := behindS_le t time
  obtain ⟨g, o, hx, hc⟩ := rowR.idx r sl_s_api_Seg (P := Tryz.prog) hlen
  have hx : ∀ {Kp : Value → Prop}, pureK Tryz.prog (sIdxAddr T_s_api_Seg v (.int .i64 0)) Kp = Kp _ := hx
  have hc : cellsR g o t[0].cs B' := hc
  simp -zeta only [hx, field_addr f_api_Seg_1, cellsR.ld (h.hereB hc) sc_int (j := 1) rfl]
  clear hx
  refine LOOP_intro (fun x w' => ∃ i : Nat, i ≤ t.length ∧ x = (.int .i64 (t.getD (max (min (behindS t time) i) 1 - 1) ⟨0, 0⟩).version, .int .i64 i, ()) ∧ Rel B' w' []) (fun x _ => t.length - (match x.2.1 with | .int _ n => n.toNat | _ => 0))
    ⟨0, Nat.zero_le _, by
      have e : max (min (behindS t time) 0) 1 - 1 = 0 := by omega
      rw [e, getD_at hlen]; rfl, h⟩ ?_
  clear h
  rintro x w1 ⟨i, hil, rfl, h⟩ next hnext
  simp -zeta only [rowR.len r sl_s_api_Seg, bin_lss, ifB_dec]
  refine ⟨fun hlt => ?_, fun hge => ?_⟩
  · have hi' : i < t.length := by omega
    refine LETJ_intro fun J hJ => ?_
    replace hJ : J (.int .i64 (t.getD (max (min (behindS t time) (i + 1)) 1 - 1) ⟨0, 0⟩).version, ()) w1 := by
      refine hJ _ _ ?_
      rw [bin_add, wrap_id (by omega) (by omega)]
      exact hnext _ _ ⟨i + 1, by omega, rfl, h⟩ (by simp only; omega)
    clear hnext
    obtain ⟨g, o, hx, hc⟩ := rowR.idx r sl_s_api_Seg (P := Tryz.prog) hi'
    have hc : cellsR g o t[i].cs B' := hc
    simp -zeta only [hx, field_addr f_api_Seg_0, field_addr f_api_Seg_1, Nat.add_zero, cellsR.ld0 (h.hereB hc) sc_int rfl, cellsR.ld (h.hereB hc) sc_int (j := 1) rfl, bin_leq, ifB_dec]
    refine ⟨fun hle => ?_, fun hgt => ?_⟩
    · have hib : i < behindS t time := by
        rcases Nat.lt_or_ge i (behindS t time) with h | h
        · exact h
        · have := behindS_ge ht.sorted h hi'; omega
      have e : max (min (behindS t time) (i + 1)) 1 - 1 = i := by omega
      rw [e, getD_at hi'] at hJ
      exact hJ
    · have hib : behindS t time ≤ i := by
        rcases Nat.lt_or_ge i (behindS t time) with h | h
        · obtain ⟨_, h⟩ := behindS_lt h; omega
        · exact h
      have e : max (min (behindS t time) (i + 1)) 1 - 1 = max (min (behindS t time) i) 1 - 1 := by omega
      rw [e] at hJ
      exact hJ
  · have e : max (min (behindS t time) i) 1 - 1 = max (behindS t time) 1 - 1 := by omega
    rw [e]
    exact k _ _ h

theorem Rend_g {v : Value} {t : List Seg} (r : rowR v t B) (hl : t.length ≤ 1000000) {i : Nat} (hi : i < t.length) : Gives Tryz.prog B (sCall F_errataref45_end #[v, .int .i64 i]) (.int .i64 (spanEnd t i)) := by
  refine Gives.intro fun B' w K base h k => ?_
  replace r := base r
  refine errataref45_end.up (errataref45_end.call ?_)
  unfold errataref45_end.pt
  have hw : IntKind.i64.wrap ((i : Int) + 1) = ((i + 1 : Nat) : Int) := by rw [wrap_id (by omega) (by omega)]; omega
  simp -zeta only [bin_add, hw, rowR.len r sl_s_api_Seg, bin_lss, ifB_dec]
  refine ⟨fun hh => ?_, fun hh => ?_⟩
  · have hh' : i + 1 < t.length := by omega
    obtain ⟨g, o, hx, hc⟩ := rowR.idx r sl_s_api_Seg (P := Tryz.prog) hh'
    simp -zeta only [hx, field_addr f_api_Seg_0, Nat.add_zero, cellsR.ld0 (h.hereB hc) sc_int rfl]
    unfold spanEnd at k
    rw [dif_pos hh'] at k
    exact k _ _ h
  · unfold spanEnd at k
    rw [dif_neg (by omega)] at k
    exact k _ _ h

/-! ### Versions -/
def hasTo (t : List Seg) (closed v : Int) (i : Nat) : Bool := (List.range i).any fun q => decide ((t.getD q ⟨0, 0⟩).version = v) && (decide (q + 1 = t.length) || decide (closed < spanEnd t q - 1))
theorem hasTo_succ {t : List Seg} {closed v : Int} {i : Nat} (hi : i < t.length) : hasTo t closed v (i + 1) = (hasTo t closed v i || (decide (t[i].version = v) && (decide (i + 1 = t.length) || decide (closed < spanEnd t i - 1)))) := by
  unfold hasTo
  rw [List.range_succ, List.any_append]
  simp only [List.any_cons, List.any_nil, Bool.or_false, getD_at hi]
def refTo (t : List Seg) (closed : Int) (n : Nat) : List Int := ((List.range n).map fun k : Nat => (k : Int) + 1).filter fun v => hasTo t closed v t.length
theorem refTo_succ (t : List Seg) (closed : Int) (n : Nat) : refTo t closed (n + 1) = if hasTo t closed (n + 1) t.length = true then refTo t closed n ++ [(n : Int) + 1] else refTo t closed n := by
  unfold refTo
  rw [List.range_succ, List.map_append, List.filter_append, List.map_cons, List.map_nil, List.filter_cons]
  by_cases h : hasTo t closed (n + 1) t.length = true
  · rw [if_pos h, if_pos h, List.filter_nil]
  · rw [if_neg h, if_neg h, List.filter_nil, List.append_nil]
theorem refTo_le (t : List Seg) (closed : Int) (n : Nat) : (refTo t closed n).length ≤ n := by
  refine Nat.le_trans (List.length_filter_le _ _) ?_
  simp
abbrev refVers (t : List Seg) (closed : Int) : List Int := refTo t closed 50
theorem refVers_strict (t : List Seg) (closed : Int) : (refVers t closed).Pairwise (· < ·) := by
  refine List.Pairwise.filter _ ?_
  rw [List.pairwise_map]
  refine List.pairwise_lt_range.imp fun h => ?_
  omega
theorem refVers_mem {t : List Seg} {closed v : Int} : v ∈ refVers t closed ↔ (1 ≤ v ∧ v ≤ 50) ∧ ∃ q, ∃ hq : q < t.length, t[q].version = v ∧ (q + 1 = t.length ∨ closed < spanEnd t q - 1) := by
  unfold refVers refTo
  rw [List.mem_filter]
  refine and_congr ?_ ?_
  · rw [List.mem_map]
    constructor
    · rintro ⟨k, hk, rfl⟩
      have := List.mem_range.1 hk
      omega
    · intro h
      exact ⟨(v - 1).toNat, List.mem_range.2 (by omega), by omega⟩
  · unfold hasTo
    rw [List.any_eq_true]
    constructor
    · rintro ⟨q, hq, hb⟩
      have hq := List.mem_range.1 hq
      rw [getD_at hq] at hb
      simp only [Bool.and_eq_true, Bool.or_eq_true, decide_eq_true_eq] at hb
      exact ⟨q, hq, hb⟩
    · rintro ⟨q, hq, hb⟩
      refine ⟨q, List.mem_range.2 hq, ?_⟩
      rw [getD_at hq]
      simp only [Bool.and_eq_true, Bool.or_eq_true, decide_eq_true_eq]
      exact hb
theorem openS_ref {t : List Seg} (h : TInv t) (closed : Int) : openS t closed = refVers t closed := by
  refine strict_ext (versS_strict _) (refVers_strict _ _) fun v => ?_
  unfold openS
  rw [versS_mem, refVers_mem]
  have hb := behindS_le t (min closed 1099511627776 + 1)
  have key : ∀ q (hq : q < t.length), max (behindS t (min closed 1099511627776 + 1)) 1 - 1 ≤ q ↔ (q + 1 = t.length ∨ closed < spanEnd t q - 1) := by
    intro q hq
    by_cases e : q + 1 = t.length
    · exact ⟨fun _ => .inl e, fun _ => by omega⟩
    · have h1 : q + 1 < t.length := by omega
      have he : spanEnd t q = t[q + 1].from_ := by unfold spanEnd; rw [dif_pos h1]
      have hx := (h.each _ (List.getElem_mem h1)).1
      rw [he]
      constructor
      · intro hle
        have := behindS_ge h.sorted (time := min closed 1099511627776 + 1) (i := q + 1) (by omega) h1
        exact .inr (by omega)
      · rintro (h2 | h2)
        · exact absurd h2 e
        · rcases Nat.lt_or_ge (q + 1) (behindS t (min closed 1099511627776 + 1)) with h3 | h3
          · obtain ⟨_, h4⟩ := behindS_lt h3
            omega
          · omega
  constructor
  · rintro ⟨s, hs, rfl⟩
    obtain ⟨j, hj, rfl⟩ := List.getElem_of_mem hs
    rw [List.length_drop] at hj
    rw [List.getElem_drop]
    refine ⟨(h.each _ (List.getElem_mem _)).2, _, _, rfl, (key _ (by omega)).1 (by omega)⟩
  · rintro ⟨_, q, hq, rfl, hc⟩
    have := (key q hq).2 hc
    refine ⟨t[q], ?_, rfl⟩
    rw [List.mem_iff_getElem]
    refine ⟨q - (max (behindS t (min closed 1099511627776 + 1)) 1 - 1), by rw [List.length_drop]; omega, ?_⟩
    rw [List.getElem_drop]
    congr 1
    omega
theorem versS_ref {t : List Seg} (h : TInv t) : versS t = refVers t (-1) := by
  refine strict_ext (versS_strict _) (refVers_strict _ _) fun v => ?_
  rw [versS_mem, refVers_mem]
  constructor
  · rintro ⟨s, hs, rfl⟩
    obtain ⟨q, hq, rfl⟩ := List.getElem_of_mem hs
    refine ⟨(h.each _ (List.getElem_mem _)).2, q, hq, rfl, ?_⟩
    by_cases e : q + 1 = t.length
    · exact .inl e
    · right
      have h1 : q + 1 < t.length := by omega
      have he : spanEnd t q = t[q + 1].from_ := by unfold spanEnd; rw [dif_pos h1]
      have := List.pairwise_iff_getElem.1 h.sorted 0 (q + 1) (by omega) h1 (by omega)
      have := h.zero (by omega)
      omega
  · rintro ⟨_, q, hq, rfl, _⟩
    exact ⟨_, List.getElem_mem hq, rfl⟩

theorem RVersions_m {v : Value} {t : List Seg} (r : rowR v t B) (ht : TInv t) (hl : t.length ≤ 1000000) (closed : Int) : Makes Tryz.prog B (sCall F_errataref45_Versions #[v, .int .i64 closed]) fun u τ => τ = [rowD T_int u (refVers t closed)] := by
  refine Makes.intro fun B' w K base h k => ?_
  replace r := base r
  refine errataref45_Versions.up (errataref45_Versions.call ?_)
  unfold errataref45_Versions.pt
  have hspan : ∀ i (hi : i < t.length), 0 ≤ spanEnd t i ∧ spanEnd t i ≤ 1099511627777 := by
    intro i hi
    unfold spanEnd
    split
    · rename_i h1
      have := List.pairwise_iff_getElem.1 ht.sorted 0 (i + 1) (by omega) h1 (by omega)
      have := ht.zero (by omega)
      have := (ht.each _ (List.getElem_mem h1)).1
      omega
    · omega
  refine LOOP_intro (fun x w' => ∃ (n : Nat) (u : Value), n ≤ 50 ∧ x = (u, .int .i64 ((n : Int) + 1), ()) ∧ Rel B' w' [rowD T_int u (refTo t closed n)]) (fun x _ => 51 - (match x.2.1 with | .int _ n => n.toNat | _ => 0))
    ⟨0, _, Nat.zero_le _, rfl, h.addNil Int T_int⟩ ?_
  clear h
  rintro x w1 ⟨n, u, hn, rfl, h⟩ next hnext
  have hrl := refTo_le t closed n
  simp -zeta only [bin_leq, ifB_dec]
  refine ⟨fun hle => ?_, fun hgt => ?_⟩
  · refine LETJ_intro fun J hJ => ?_
    replace hJ : ∀ u' w', Rel B' w' [rowD T_int u' (refTo t closed (n + 1))] → J (u', ()) w' := by
      intro u' w' h
      refine hJ _ _ ?_
      rw [bin_add, wrap_id (by omega) (by omega)]
      exact hnext _ _ ⟨n + 1, u', by omega, by rw [show (((n + 1 : Nat) : Int) + 1) = (n : Int) + 1 + 1 by omega], h⟩ (by simp only; omega)
    clear hnext
    refine LOOP_intro (fun x w' => ∃ i : Nat, i ≤ t.length ∧ x = (.bool (hasTo t closed ((n : Int) + 1) i), .int .i64 i, ()) ∧ Rel B' w' [rowD T_int u (refTo t closed n)]) (fun x _ => t.length - (match x.2.1 with | .int _ n => n.toNat | _ => 0))
      ⟨0, Nat.zero_le _, rfl, h⟩ ?_
    clear h
    rintro x w2 ⟨i, hil, rfl, h⟩ next hnext
    have hw : IntKind.i64.wrap ((t.length : Int) - 1) = (t.length : Int) - 1 := wrap_id (by omega) (by omega)
    simp -zeta only [rowR.len r sl_s_api_Seg, bin_lss, bin_sub, hw, bin_eql, ifB_dec]
    refine ⟨fun hlt => ?_, fun hge => ?_⟩
    · have hi' : i < t.length := by omega
      have e := hasTo_succ (closed := closed) (v := (n : Int) + 1) hi'
      refine LETJ_intro fun J2 hJ2 => ?_
      replace hJ2 : ∀ b w', b = hasTo t closed ((n : Int) + 1) (i + 1) → Rel B' w' [rowD T_int u (refTo t closed n)] → J2 (.bool b, ()) w' := by
        rintro b w' rfl h
        refine hJ2 _ _ ?_
        rw [bin_add, wrap_id (by omega) (by omega)]
        exact hnext _ _ ⟨i + 1, by omega, rfl, h⟩ (by simp only; omega)
      clear hnext
      rw [ifB_bool]
      refine ⟨fun hb => hJ2 _ _ (by rw [e, hb]; rfl) h, fun hb => ?_⟩
      obtain ⟨g, o, hx, hc⟩ := rowR.idx r sl_s_api_Seg (P := Tryz.prog) hi'
      have hc : cellsR g o t[i].cs B' := hc
      simp -zeta only [hx, field_addr f_api_Seg_1, cellsR.ld (h.hereB hc) sc_int (j := 1) rfl, bin_eql, ifB_dec]
      rw [hb, Bool.false_or] at e
      refine ⟨fun hv => ⟨fun hlast => hJ2 _ _ (by rw [e, decide_eq_true hv, decide_eq_true (by omega)]; rfl) h, fun hnl => ?_⟩, fun hv => hJ2 _ _ (by rw [e, decide_eq_false hv]; rfl) h⟩
      refine h.ask (fun B2 own base2 => Rend_g (base2 r) hl hi') fun w3 h => ?_
      have := hspan i hi'
      rw [bin_sub, wrap_id (by omega) (by omega), bin_gtr]
      refine hJ2 _ _ ?_ h
      rw [e, decide_eq_true hv, decide_eq_false (show ¬ i + 1 = t.length by omega), Bool.true_and, Bool.false_or]
    · have hie : i = t.length := by omega
      subst hie
      have e := refTo_succ t closed n
      rw [ifB_bool]
      refine ⟨fun hb => ?_, fun hb => hJ _ _ (by rw [e, if_neg (by rw [hb]; decide)]; exact h)⟩
      refine h.push1 (α := Int) 0 rfl ((n : Int) + 1) sl_s_int (by decide) (by omega) (by omega) fun v2 w3 h => ?_
      refine hJ _ _ ?_
      rw [e, if_pos hb]
      exact h
  · have : n = 50 := by omega
    subst this
    exact k _ _ _ rfl h

theorem RReplace_m {v : Value} {t : List Seg} (r : rowR v t B) (hs : Sorted t) (hl : t.length ≤ 1000000) (fr ver : Int) : Makes Tryz.prog B (sCall F_errataref45_Replace #[v, .int .i64 fr, .int .i64 ver])
    fun u τ => ∃ v', u = .tuple #[v', .int .i64 (replT t fr ver).2] ∧ τ = [rowD T_api_Seg v' (replT t fr ver).1] := by
  refine Makes.intro fun B' w K base h k => ?_
  replace r := base r
  refine errataref45_Replace.up (errataref45_Replace.call ?_)
  unfold errataref45_Replace.pt
  have bad : replT t fr ver = ([], 3) → K (.tuple #[.slice none 0 0, .int .i64 3]) w := fun e => by
    rw [e] at k
    exact k _ _ _ ⟨_, rfl, rfl⟩ (h.addNil Seg T_api_Seg)
  simp -zeta only [bin_lss, bin_gtr, ifB_dec]
  refine ⟨fun e1 => bad (by unfold replT; rw [if_pos e1]), fun e1 => ⟨fun e2 => bad (by unfold replT; rw [if_neg e1, if_pos e2]), fun e2 => ⟨fun e3 => bad (by unfold replT; rw [if_neg e1, if_neg e2, if_pos e3]), fun e3 => ⟨fun e4 => bad (by unfold replT; rw [if_neg e1, if_neg e2, if_neg e3, if_pos e4]), fun e4 => ?_⟩⟩⟩⟩
  clear bad
  have hok : replT t fr ver = (if t.take (behindS t (fr - 1)) = [] ∨ ((t.take (behindS t (fr - 1))).getLast?.map (·.version)) ≠ some ver then t.take (behindS t (fr - 1)) ++ [⟨fr, ver⟩] else t.take (behindS t (fr - 1)), 0) := by
    unfold replT; rw [if_neg e1, if_neg e2, if_neg e3, if_neg e4]
  rw [hok] at k
  have hb := behindS_le t (fr - 1)
  refine LOOP_intro (fun x w' => ∃ (i : Nat) (u : Value), i ≤ t.length ∧ x = (u, .int .i64 (((t.take (min (behindS t (fr - 1)) i)).getLast?.map (·.version)).getD 0), .int .i64 i, ()) ∧ Rel B' w' [rowD T_api_Seg u (t.take (min (behindS t (fr - 1)) i))]) (fun x _ => t.length - (match x.2.2.1 with | .int _ n => n.toNat | _ => 0))
    ⟨0, _, Nat.zero_le _, by rw [show min (behindS t (fr - 1)) 0 = 0 by omega]; rfl, by rw [show min (behindS t (fr - 1)) 0 = 0 by omega]; exact h.addNil Seg T_api_Seg⟩ ?_
  clear h
  rintro x w1 ⟨i, u, hil, rfl, h⟩ next hnext
  have hlen : (t.take (min (behindS t (fr - 1)) i)).length ≤ i := by rw [List.length_take]; omega
  simp -zeta only [rowR.len r sl_s_api_Seg, bin_lss, ifB_dec]
  refine ⟨fun hlt => ?_, fun hge => ?_⟩
  · have hi' : i < t.length := by omega
    refine LETJ_intro fun J hJ => ?_
    replace hJ : ∀ u' w', Rel B' w' [rowD T_api_Seg u' (t.take (min (behindS t (fr - 1)) (i + 1)))] → J (u', .int .i64 (((t.take (min (behindS t (fr - 1)) (i + 1))).getLast?.map (·.version)).getD 0), ()) w' := by
      intro u' w' h
      refine hJ _ _ ?_
      rw [bin_add, wrap_id (by omega) (by omega)]
      exact hnext _ _ ⟨i + 1, u', by omega, rfl, h⟩ (by simp only; omega)
    clear hnext
    obtain ⟨g, o, hx, hc⟩ := rowR.idx r sl_s_api_Seg (P := Tryz.prog) hi'
    have hc : cellsR g o t[i].cs B' := hc
    simp -zeta only [hx, field_addr f_api_Seg_0, field_addr f_api_Seg_1, Nat.add_zero, cellsR.ld0 (h.hereB hc) sc_int rfl, cellsR.ldAg (h.hereB hc) ag_api_Seg rfl, bin_lss, ifB_dec]
    refine ⟨fun hf => ?_, fun hf => ?_⟩
    · have hib : i < behindS t (fr - 1) := by
        rcases Nat.lt_or_ge i (behindS t (fr - 1)) with h | h
        · exact h
        · have := behindS_ge hs h hi'; omega
      have m1 : min (behindS t (fr - 1)) i = i := by omega
      have m2 : min (behindS t (fr - 1)) (i + 1) = i + 1 := by omega
      have et : t.take (i + 1) = t.take i ++ [t[i]] := List.take_succ_eq_append_getElem hi'
      rw [m1] at h hlen
      rw [m2, et] at hJ
      refine h.push1 (α := Seg) 0 rfl t[i] sl_s_api_Seg (by decide) (by omega) (by omega) fun u2 w2 h => ?_
      simp -zeta only [cellsR.ld (h.hereB hc) sc_int (j := 1) rfl]
      have e2 : ((t.take i ++ [t[i]]).getLast?.map (·.version)).getD 0 = t[i].version := by rw [List.getLast?_append]; rfl
      have := hJ u2 w2 h
      rw [e2] at this
      exact this
    · have hib : behindS t (fr - 1) ≤ i := by
        rcases Nat.lt_or_ge i (behindS t (fr - 1)) with h | h
        · obtain ⟨_, h⟩ := behindS_lt h; omega
        · exact h
      have m : min (behindS t (fr - 1)) (i + 1) = min (behindS t (fr - 1)) i := by omega
      rw [m] at hJ
      exact hJ _ _ h
  · clear hnext
    have m : min (behindS t (fr - 1)) i = behindS t (fr - 1) := by omega
    rw [m] at h hlen ⊢
    generalize t.take (behindS t (fr - 1)) = T at h hlen k ⊢
    refine LETJ_intro fun J hJ => ?_
    replace hJ : ∀ v' w', Rel B' w' [rowD T_api_Seg v' (if T = [] ∨ (T.getLast?.map (·.version)) ≠ some ver then T ++ [⟨fr, ver⟩] else T)] → J (v', ()) w' := fun v' w' h => hJ _ _ (k _ _ _ ⟨v', rfl, rfl⟩ h)
    have hcond : (T = [] ∨ (T.getLast?.map (·.version)) ≠ some ver) ↔ ¬ (T.getLast?.map (·.version)).getD 0 = ver := by
      rcases List.eq_nil_or_concat T with rfl | ⟨T', s, rfl⟩
      · simp; omega
      · simp
    simp -zeta only [bin_neq, ifB_not, ifB_dec, bd_api_Seg_0_1]
    refine ⟨fun e => hJ _ _ (by rw [if_neg fun hc => hcond.1 hc e]; exact h), fun e => ?_⟩
    refine h.push1 (α := Seg) 0 rfl ⟨fr, ver⟩ sl_s_api_Seg (by decide) (by omega) (by omega) fun v' w3 h => hJ v' w3 ?_
    rw [if_pos (hcond.2 e)]
    exact h
end

end Go.Proofs.YtdecfgbdppfmcaaGreatDoor
