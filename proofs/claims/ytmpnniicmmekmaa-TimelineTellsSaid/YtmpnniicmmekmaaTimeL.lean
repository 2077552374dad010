/-
  Chapter 45's few, and TimelinePicks. No condition.
-/
import Derived.Test.YtmpnniicmmekmaaTimeK
namespace Go.Proofs.Ytmpnniicmmekmaa
open Go.RowKit

def fewS (t : List Seg) (L : DelL) : Bool := L.all (fun p => decide (p.1.row.length ≤ 15)) && (decide (t.length ≤ 60) && decide (L.length ≤ 60))
theorem fewS_true {t : List Seg} {L : DelL} : fewS t L = true ↔ (∀ p ∈ L, p.1.row.length ≤ 15) ∧ t.length ≤ 60 ∧ L.length ≤ 60 := by
  simp [fewS, List.all_eq_true]

/-- Deltas of an argument, with their rows. -/
theorem dels_of {W : World} (l : List Dlt) (h : ∀ x ∈ l, ∃ r : List Val, rowR x.row.1 r (lawB W)) : ∃ L : DelL, raws L = l ∧ rowsR L (lawB W) := by
  induction l with
  | nil => exact ⟨[], rfl, fun p hp => by cases hp⟩
  | cons x l ih =>
    obtain ⟨L, h1, h2⟩ := ih fun y hy => h y (List.mem_cons_of_mem _ hy)
    obtain ⟨r, hr⟩ := h x List.mem_cons_self
    refine ⟨(⟨x.time, r, x.n⟩, x.row) :: L, ?_, fun p hp => ?_⟩
    · show _ :: raws L = _
      rw [h1]
      rfl
    · rcases List.mem_cons.1 hp with rfl | hp
      · exact hr
      · exact h2 p hp

section
variable {B : Base}
theorem raws_get {L : DelL} {i : Nat} (hi : i < L.length) : (raws L)[i]'(by rw [raws_length]; exact hi) = L[i].1.raw L[i].2 := by simp [raws]

theorem few_g {vt vd : Value} {t : List Seg} {L : DelL} (rt : rowR vt t B) (rd : rowR vd (raws L) B) (qd : rowsR L B) (hl : L.length ≤ 9223372036854775807) : Gives Try.prog B (sCall F_erratalaw45_few #[vt, vd]) (.bool (fewS t L)) := by
  refine Gives.intro fun B' w K base h k => ?_
  replace rt := base rt
  replace rd := base rd
  replace qd := base qd
  refine erratalaw45_few.up (erratalaw45_few.call ?_)
  unfold erratalaw45_few.pt
  have no : ∀ w', Rel B' w' [] → fewS t L ≠ true → K (.bool false) w' := fun w' h hn => by
    rw [Bool.eq_false_iff.2 hn] at k
    exact k _ _ h
  refine LOOP_intro (fun x w' => ∃ i : Nat, i ≤ L.length ∧ x = (.int .i64 i, ()) ∧ (∀ q (hq : q < L.length), q < i → L[q].1.row.length ≤ 15) ∧ Rel B' w' []) (fun x _ => L.length - (match x.1 with | .int _ n => n.toNat | _ => 0))
    ⟨0, Nat.zero_le _, rfl, fun q _ hq => absurd hq (Nat.not_lt_zero q), h⟩ ?_
  clear h
  rintro x w1 ⟨i, hil, rfl, hin, h⟩ next hnext
  simp -zeta only [rowR.len rd sl_s_api_Delta, bin_lss, ifB_dec]
  rw [raws_length]
  refine ⟨fun hlt => ?_, fun hge => ?_⟩
  · have hi : i < L.length := by omega
    obtain ⟨g, o, hx, hc⟩ := rowR.idx rd sl_s_api_Delta (P := Try.prog) (i := i) (by rw [raws_length]; exact hi)
    rw [raws_get hi] at hc
    have hc : cellsR g o [.int .i64 L[i].1.time, L[i].2.1, .int .i64 L[i].1.n] B' := hc
    have q1 : rowR L[i].2.1 L[i].1.row B' := qd L[i] (List.getElem_mem hi)
    simp -zeta only [hx, field_addr f_api_Delta_1, cellsR.ld (h.hereB hc) sc_s_api_Value (j := 1) rfl, rowR.len q1 sl_s_api_Value, bin_gtr, ifB_dec]
    refine ⟨fun hb => no _ h fun e => ?_, fun hb => ?_⟩
    · have := (fewS_true.1 e).1 L[i] (List.getElem_mem hi)
      omega
    · rw [bin_add, wrap_id (by omega) (by omega)]
      refine hnext _ _ ⟨i + 1, by omega, rfl, fun q hq hqi => ?_, h⟩ (by simp only; omega)
      by_cases e : q = i
      · subst e; omega
      · exact hin q hq (by omega)
  · simp -zeta only [rowR.len rt sl_s_api_Seg, bin_leq, ifB_dec]
    have hall : ∀ p ∈ L, p.1.row.length ≤ 15 := fun p hp => by
      obtain ⟨q, hq, rfl⟩ := List.getElem_of_mem hp
      exact hin q hq (by omega)
    refine ⟨fun h1 => ?_, fun h1 => no _ h fun e => ?_⟩
    · have : fewS t L = decide ((L.length : Int) ≤ 60) := by
        rw [Bool.eq_iff_iff, fewS_true, decide_eq_true_iff]
        constructor
        · rintro ⟨_, _, h⟩; omega
        · intro h; exact ⟨hall, by omega, by omega⟩
      rw [this] at k
      exact k _ _ h
    · have := (fewS_true.1 e).2.1
      omega
end

def pickL (t : List Seg) (ver : Int) (L : DelL) : DelL := L.filter fun p => decide (atS t p.1.time = ver)
theorem pickL_dels (t : List Seg) (ver : Int) (L : DelL) : dels (pickL t ver L) = (dels L).filter fun e => decide (atS t e.time = ver) := by
  unfold dels pickL
  rw [List.filter_map]
  rfl
theorem pickL_succ {t : List Seg} {ver : Int} {L : DelL} {k : Nat} (hk : k < L.length) : pickL t ver (L.take (k + 1)) = if atS t L[k].1.time = ver then pickL t ver (L.take k) ++ [L[k]] else pickL t ver (L.take k) := by
  unfold pickL
  rw [List.take_succ_eq_append_getElem hk, List.filter_append, List.filter_cons]
  by_cases h : atS t L[k].1.time = ver
  · rw [if_pos (decide_eq_true h), if_pos h, List.filter_nil]
  · rw [if_neg (by rw [decide_eq_false h]; decide), if_neg h, List.filter_nil, List.append_nil]
theorem raws_append (L M : DelL) : raws (L ++ M) = raws L ++ raws M := by simp [raws]

def totS (t : List Seg) (L : DelL) (i : Nat) : Nat := ((dels L).filter fun e => decide (atS t e.time ∈ (versS t).take i)).length
def insS (t : List Seg) (time : Int) (i : Nat) : Nat := if (0 ≤ time ∧ time ≤ 1099511627776) ∧ atS t time ∈ (versS t).take i then 1 else 0
theorem totS_succ {t : List Seg} {L : DelL} {i : Nat} (hi : i < (versS t).length) : totS t L (i + 1) = totS t L i + ((dels L).filter fun e => decide (atS t e.time = (versS t)[i])).length :=
  count_step (fun e : Del => atS t e.time) (dels L) (versS_strict t) hi
theorem mem_of_filter {α : Type} {p : α → Bool} {l : List α} {x : α} (h : x ∈ l.filter p) : x ∈ l := (List.mem_filter.1 h).1
theorem totS_zero (t : List Seg) (L : DelL) : totS t L 0 = 0 := by
  unfold totS
  rw [List.filter_eq_nil_iff.2 fun e _ => by simp]
  rfl
theorem insS_zero (t : List Seg) (time : Int) : insS t time 0 = 0 := by simp [insS]
theorem totS_le (t : List Seg) (L : DelL) (i : Nat) : totS t L i ≤ L.length := by
  refine Nat.le_trans (List.length_filter_le _ _) ?_
  simp [dels]
theorem totS_all {t : List Seg} (h : TInv t) (L : DelL) : totS t L (versS t).length = L.length := by
  unfold totS
  rw [List.filter_eq_self.2 fun e _ => by rw [List.take_length]; exact decide_eq_true (atS_mem h e.time)]
  simp [dels]
theorem insS_succ {t : List Seg} {time : Int} {i : Nat} (hi : i < (versS t).length) : insS t time (i + 1) = insS t time i + if (0 ≤ time ∧ time ≤ 1099511627776) ∧ atS t time = (versS t)[i] then 1 else 0 := by
  unfold insS
  have hf := fresh_of (versS_strict t) hi
  have key : atS t time ∈ (versS t).take (i + 1) ↔ atS t time ∈ (versS t).take i ∨ atS t time = (versS t)[i] := by
    rw [List.take_succ_eq_append_getElem hi, List.mem_append, List.mem_singleton]
  by_cases hr : 0 ≤ time ∧ time ≤ 1099511627776
  · by_cases h1 : atS t time ∈ (versS t).take i
    · have h2 : ¬ atS t time = (versS t)[i] := fun e => hf (e ▸ h1)
      rw [if_pos ⟨hr, key.2 (.inl h1)⟩, if_pos ⟨hr, h1⟩, if_neg fun h => h2 h.2]
    · by_cases h2 : atS t time = (versS t)[i]
      · rw [if_pos ⟨hr, key.2 (.inr h2)⟩, if_neg fun h => h1 h.2, if_pos ⟨hr, h2⟩]
      · rw [if_neg fun h => (key.1 h.2).elim h1 h2, if_neg fun h => h1 h.2, if_neg fun h => h2 h.2]
  · rw [if_neg fun h => hr h.1, if_neg fun h => hr h.1, if_neg fun h => hr h.1]
theorem insS_le (t : List Seg) (time : Int) (i : Nat) : insS t time i ≤ 1 := by unfold insS; split <;> omega
theorem insS_all {t : List Seg} (h : TInv t) (time : Int) : insS t time (versS t).length = 1 ↔ (0 ≤ time ∧ time ≤ 1099511627776) := by
  unfold insS
  rw [List.take_length]
  by_cases hr : 0 ≤ time ∧ time ≤ 1099511627776
  · rw [if_pos ⟨hr, atS_mem h time⟩]; simp [hr]
  · rw [if_neg fun h => hr h.1]; simp [hr]
theorem insideS_take {l : List Seg} {time : Int} {k : Nat} (hk : k < l.length) : insideS (l.take (k + 1)) time = insideS (l.take k) time + if l[k].from_ ≤ time ∧ time < l[k].version then 1 else 0 := by
  unfold insideS
  rw [List.take_succ_eq_append_getElem hk, List.filter_append, List.length_append, List.filter_cons]
  by_cases h : l[k].from_ ≤ time ∧ time < l[k].version
  · rw [if_pos (by simp [h]), if_pos h]; rfl
  · rw [if_neg (by simp; intro h1; have := fun h2 => h ⟨h1, h2⟩; omega), if_neg h]; rfl
theorem versS_length (t : List Seg) : (versS t).length ≤ t.length := by
  unfold versS
  refine Nat.le_trans (Lib.compact_length_le _) ?_
  rw [sortI_length, List.length_map]
  exact Nat.le_refl _
theorem spansS_len (t : List Seg) (ver : Int) : (spansS t ver).length ≤ t.length := by rw [← spansTo_all]; exact spansTo_le t ver t.length

set_option maxHeartbeats 1000000 in
theorem timelinePicks_pt {W : World} {v0 v1 : Value} {t : List Seg} {l : List Dlt} {time : Int} (r : rowR v0 t (lawB W)) (rd0 : rowR v1 l (lawB W)) (hm : l.length ≤ maxLen) (hq : ∀ x ∈ l, okInt W x.time ∧ (∃ r : List Val, rowR x.row.1 r (lawB W) ∧ r.length ≤ maxLen ∧ ∀ y ∈ r, okInt W y.kind ∧ okInt W y.n ∧ okStr W y.s) ∧ okInt W x.n) {K : Value → World → Prop}
    (fin : ∀ w' σ, Rel (lawB W) w' σ → K (.bool true) w') : erratalaw45_TimelinePicks.pt v0 v1 (.int .i64 time) W K := by
  obtain ⟨L, rfl, qd⟩ := dels_of l fun x hx => (hq x hx).2.1.imp fun _ h => h.1
  have rd := rd0
  clear rd0 hq
  rw [raws_length] at hm
  unfold maxLen at hm
  unfold erratalaw45_TimelinePicks.pt
  refine small_r (lawB.start W) fun w1 h => ?_
  refine h.ask (fun B2 own base2 => few_g (base2 r) (base2 rd) (base2 qd) (by omega)) fun w2 h => ?_
  rw [un_not, ifB_not, ifB_bool]
  refine ⟨fun hf => ?_, fun _ => fin _ _ h⟩
  obtain ⟨hrow, hl1, hl2⟩ := fewS_true.1 hf
  refine h.ask (fun B2 own base2 => Right_g (base2 r) (by omega)) fun w3 h => ?_
  rw [un_not, ifB_not, ifB_bool]
  refine ⟨fun hra => ?_, fun _ => fin _ _ h⟩
  have ht := rightT_true.1 hra
  refine h.make (fun B2 own base2 => Versions_m (base2 r) (by omega)) fun va τ w4 hp h => ?_
  subst hp
  have h : Rel (lawB W) w4 [rowD T_int va (versS t)] := h
  have hvl := versS_length t
  refine LOOP_intro (fun x w' => ∃ i : Nat, i ≤ (versS t).length ∧ x = (.int .i64 (totS t L i), .int .i64 (insS t time i), .int .i64 i, ()) ∧ Rel (lawB W) w' [rowD T_int va (versS t)]) (fun x _ => (versS t).length - (match x.2.2.1 with | .int _ n => n.toNat | _ => 0))
    ⟨0, Nat.zero_le _, by rw [totS_zero, insS_zero]; rfl, h⟩ ?_
  clear h
  rintro x w5 ⟨i, hi, rfl, h⟩ next hnext
  have hva : (rowR va (versS t)).here w5 := rowD.read (h.here (i := 0) rfl)
  have htl := totS_le t L i
  have hin := insS_le t time i
  obtain ⟨a0, c0, rfl, _⟩ := rowR.form (B := ⟨w5, fun _ => True⟩) hva
  simp -zeta only [len_slice U_s_int, bin_lss, ifB_dec]
  refine ⟨fun hlt => ?_, fun hge => ?_⟩
  · have hil : i < (versS t).length := by omega
    obtain ⟨g0, c1, e0⟩ := h.open_ (i := 0) rfl (by omega)
    injection e0 with e0 _ e1
    subst e0 e1
    refine LETJ_intro fun J hJ => ?_
    replace hJ : ∀ w', Rel (lawB W) w' [rowD T_int (.slice (some ⟨g0, 0, none⟩) (versS t).length c0) (versS t)] → J (.int .i64 (totS t L (i + 1)), .int .i64 (insS t time (i + 1)), ()) w' := by
      intro w' h
      refine hJ _ _ ?_
      rw [bin_add, wrap_id (by omega) (by omega)]
      exact hnext _ _ ⟨i + 1, by omega, rfl, h⟩ (by simp only; omega)
    clear hnext
    refine LETJ_intro fun J2 hJ2 => ?_
    have rdv : ∀ {w' : World} {σ : List Dat} (h : Rel (lawB W) w' (rowD T_int (.slice (some ⟨g0, 0, none⟩) (versS t).length c0) (versS t) :: σ)) (j : Nat) (hj : j < (versS t).length) {Kp : Value → Prop}, readK Try.prog (sLoad T_int (.pointer (some ⟨g0, j * Enc.sz Int, none⟩))) w' Kp = Kp (.int .i64 (versS t)[j]) :=
      fun {w'} {σ} h j hj {Kp} => cellsR.ld0 (Rel.elem h (i := 0) rfl hj) sc_int rfl
    have hx := fun {Kp} (j : Nat) (hj : j < (versS t).length) => idx_own (α := Int) (P := Try.prog) (Kp := Kp) (g := g0) (cap := c0) sl_s_int hj
    replace hJ2 : ∀ w', Rel (lawB W) w' [rowD T_int (.slice (some ⟨g0, 0, none⟩) (versS t).length c0) (versS t)] → J2 () w' := by
      intro w6 h
      refine hJ2 _ _ ?_
      clear hJ2
      simp -zeta only [hx i hil, rdv h i hil]
      refine h.make (fun B2 own base2 => Pick_m (base2 r) ht.sorted ht.some_ (by omega) (base2 rd) (base2 qd) (by omega) (fun p hp => Nat.le_trans (hrow p hp) (by omega)) (versS t)[i]) fun u τ w7 hp h => ?_
      obtain ⟨M, hM, rfl⟩ := hp
      have h := Rel.gather (σ := [rowD T_int (.slice (some ⟨g0, 0, none⟩) (versS t).length c0) (versS t), rowD T_api_Delta u (raws M)]) (f := rowEnt) (g := fun p : Del × SV => rowR p.2.1 p.1.row) (by exact h) (fun x _ B hx => rowD.read hx)
      have h : Rel (lawB W) w7 [rowD T_int (.slice (some ⟨g0, 0, none⟩) (versS t).length c0) (versS t), rowD T_api_Delta u (raws M), rowsR M] := h
      have hML : M.length = ((dels L).filter fun e => decide (atS t e.time = (versS t)[i])).length := by rw [← hM]; simp [dels]
      refine LOOP_intro (fun x w' => ∃ (k : Nat) (v : Value), k ≤ L.length ∧ x = (v, .int .i64 k, ()) ∧ Rel (lawB W) w' [rowD T_int (.slice (some ⟨g0, 0, none⟩) (versS t).length c0) (versS t), rowD T_api_Delta u (raws M), rowsR M, rowD T_api_Delta v (raws (pickL t (versS t)[i] (L.take k)))]) (fun x _ => L.length - (match x.2.1 with | .int _ n => n.toNat | _ => 0))
        ⟨0, _, Nat.zero_le _, rfl, h.addNil Dlt T_api_Delta⟩ ?_
      clear h
      rintro x w8 ⟨k, v, hk, rfl, h⟩ next hnext
      simp -zeta only [rowR.len rd sl_s_api_Delta, bin_lss, ifB_dec]
      rw [raws_length]
      refine ⟨fun hlt => ?_, fun hge => ?_⟩
      · have hkl : k < L.length := by omega
        refine LETJ_intro fun J3 hJ3 => ?_
        replace hJ3 : ∀ v' w', Rel (lawB W) w' [rowD T_int (.slice (some ⟨g0, 0, none⟩) (versS t).length c0) (versS t), rowD T_api_Delta u (raws M), rowsR M, rowD T_api_Delta v' (raws (pickL t (versS t)[i] (L.take (k + 1))))] → J3 (v', ()) w' := by
          intro v' w' h
          refine hJ3 _ _ ?_
          rw [bin_add, wrap_id (by omega) (by omega)]
          exact hnext _ _ ⟨k + 1, v', by omega, rfl, h⟩ (by simp only; omega)
        clear hnext
        have h := h.tick
        obtain ⟨g, o, hx2, hc⟩ := rowR.idx rd sl_s_api_Delta (P := Try.prog) (i := k) (by rw [raws_length]; exact hkl)
        rw [raws_get hkl] at hc
        have hc : cellsR g o [.int .i64 L[k].1.time, L[k].2.1, .int .i64 L[k].1.n] (lawB W) := hc
        simp -zeta only [hx2, field_addr f_api_Delta_0, Nat.add_zero, cellsR.ld0 (h.hereB hc) sc_int rfl, rdv h i hil]
        refine h.ask (fun B2 own base2 => At_g (base2 r) ht.sorted ht.some_ (by omega) L[k].1.time) fun w9 h => ?_
        refine ⟨is_of (rdv h i hil), ?_⟩
        simp -zeta only [bin_eql, ifB_dec]
        have e := pickL_succ (t := t) (ver := (versS t)[i]) hkl
        have hple : (pickL t (versS t)[i] (L.take k)).length ≤ k := by
          refine Nat.le_trans (List.length_filter_le _ _) ?_
          rw [List.length_take]; omega
        refine ⟨fun hv => ?_, fun hv => ?_⟩
        · simp -zeta only [cellsR.ldAg (h.hereB hc) ag_api_Delta rfl]
          refine h.push1 (α := Dlt) 3 rfl (L[k].1.raw L[k].2) sl_s_api_Delta (by decide) (by rw [raws_length]; omega) (by rw [raws_length]; omega) fun v2 w10 h => ?_
          refine hJ3 _ _ ?_
          rw [e, if_pos hv, raws_append]
          exact h
        · refine hJ3 _ _ ?_
          rw [e, if_neg hv]
          exact h
      · clear hnext
        rw [List.take_of_length_le (by omega)] at h
        refine h.ask (fun B2 own base2 => SameDeltas_g (rowD.read (own (i := 1) rfl)) (own (i := 2) rfl) (rowD.read (own (i := 3) rfl)) (fun p hp => base2 qd p (mem_of_filter hp)) (by rw [hM, pickL_dels]) (by rw [hML]; exact Nat.le_trans (List.length_filter_le _ _) (by simp [dels]; omega)) (fun p hp => by
          have hm : p.1 ∈ dels M := List.mem_map_of_mem hp
          rw [hM] at hm
          obtain ⟨q, hq, e⟩ := List.mem_map.1 (mem_of_filter hm)
          rw [← e]
          exact Nat.le_trans (hrow q hq) (by omega))) fun w9 h => ?_
        have hts := totS_succ (L := L) hil
        have htl2 := totS_le t L (i + 1)
        have hgot := rowD.read (h.here (i := 1) rfl)
        simp -zeta only [un_not, Bool.not_true, ifB_false, rowR.len hgot sl_s_api_Delta, bin_add, rdv h i hil]
        rw [raws_length, hML, wrap_id (by omega) (by omega), show ((totS t L i : Int) + (((dels L).filter fun e => decide (atS t e.time = (versS t)[i])).length : Nat)) = ((totS t L (i + 1) : Nat) : Int) by omega]
        refine h.make (fun B2 own base2 => Spans_m (base2 r) (by omega) (versS t)[i]) fun s τ w10 hp h => ?_
        subst hp
        have h := h.pick [0, 4] (by decide)
        have h : Rel (lawB W) w10 [rowD T_int (.slice (some ⟨g0, 0, none⟩) (versS t).length c0) (versS t), rowD T_api_Seg s (spansS t (versS t)[i])] := h
        have hsl := spansS_len t (versS t)[i]
        have hsr := rowD.read (h.here (i := 1) rfl)
        obtain ⟨sa, sc, rfl, _⟩ := rowR.form (B := ⟨w10, fun _ => True⟩) hsr
        clear hsr
        have hio : ∀ q, insideS ((spansS t (versS t)[i]).take q) time ≤ (spansS t (versS t)[i]).length := fun q => by
          refine Nat.le_trans (List.length_filter_le _ _) ?_
          rw [List.length_take]; omega
        have hic := inside_count ht (versS t)[i] time
        have hins := insS_succ (time := time) hil
        refine LOOP_intro (fun x w' => ∃ q : Nat, q ≤ (spansS t (versS t)[i]).length ∧ x = (.int .i64 ((insS t time i + insideS ((spansS t (versS t)[i]).take q) time : Nat) : Int), .int .i64 q, ()) ∧ Rel (lawB W) w' [rowD T_int (.slice (some ⟨g0, 0, none⟩) (versS t).length c0) (versS t), rowD T_api_Seg (.slice sa (spansS t (versS t)[i]).length sc) (spansS t (versS t)[i])]) (fun x _ => (spansS t (versS t)[i]).length - (match x.2.1 with | .int _ n => n.toNat | _ => 0))
          ⟨0, Nat.zero_le _, by simp [insideS], h⟩ ?_
        clear h
        rintro x w11 ⟨q, hq, rfl, h⟩ next hnext
        have hioq := hio q
        simp -zeta only [len_slice U_s_api_Seg, bin_lss, ifB_dec]
        refine ⟨fun hlt => ?_, fun hge => ?_⟩
        · have hql : q < (spansS t (versS t)[i]).length := by omega
          have hit := insideS_take (time := time) hql
          refine LETJ_intro fun J4 hJ4 => ?_
          replace hJ4 : ∀ w', Rel (lawB W) w' [rowD T_int (.slice (some ⟨g0, 0, none⟩) (versS t).length c0) (versS t), rowD T_api_Seg (.slice sa (spansS t (versS t)[i]).length sc) (spansS t (versS t)[i])] → J4 (.int .i64 ((insS t time i + insideS ((spansS t (versS t)[i]).take (q + 1)) time : Nat) : Int), ()) w' := by
            intro w' h
            refine hJ4 _ _ ?_
            rw [bin_add, wrap_id (by omega) (by omega)]
            exact hnext _ _ ⟨q + 1, by omega, rfl, h⟩ (by simp only; omega)
          clear hnext
          obtain ⟨g, o, hx3, hc⟩ := rowR.idx (P := Try.prog) (rowD.read (h.here (i := 1) rfl)) sl_s_api_Seg hql
          have hc : (cellsR g o [.int .i64 (spansS t (versS t)[i])[q].from_, .int .i64 (spansS t (versS t)[i])[q].version]).here w11 := hc
          simp -zeta only [hx3, field_addr f_api_Seg_0, field_addr f_api_Seg_1, Nat.add_zero, cellsR.ld0 hc sc_int rfl, cellsR.ld hc sc_int (j := 1) rfl, bin_leq, bin_lss, ifB_dec]
          refine ⟨fun h1 => ⟨fun h2 => ?_, fun h2 => ?_⟩, fun h1 => ?_⟩
          · rw [if_pos ⟨h1, h2⟩] at hit
            have hpos : 0 < insideS (spansS t (versS t)[i]) time := by
              unfold insideS
              refine List.length_pos_iff.2 fun e => ?_
              have := List.filter_eq_nil_iff.1 e _ (List.getElem_mem hql)
              simp [h1, h2] at this
            rw [hic] at hpos
            have hat : atS t time = (versS t)[i] := by
              split at hpos
              · rename_i hh; exact hh.2
              · omega
            have h := h.tick
            rw [bin_add, wrap_id (by omega) (by omega)]
            simp -zeta only [rdv h i hil]
            refine h.ask (fun B2 own base2 => At_g (base2 r) ht.sorted ht.some_ (by omega) time) fun w12 h => ?_
            refine ⟨is_of (rdv h i hil), ?_⟩
            simp -zeta only [bin_neq, hat, decide_true, Bool.not_true, ifB_false]
            rw [show ((insS t time i + insideS ((spansS t (versS t)[i]).take q) time : Nat) : Int) + 1 = ((insS t time i + insideS ((spansS t (versS t)[i]).take (q + 1)) time : Nat) : Int) by omega]
            exact hJ4 _ h
          · rw [if_neg fun hh => h2 hh.2] at hit
            rw [← show insideS ((spansS t (versS t)[i]).take (q + 1)) time = insideS ((spansS t (versS t)[i]).take q) time from hit]
            exact hJ4 _ h
          · rw [if_neg fun hh => h1 hh.1] at hit
            rw [← show insideS ((spansS t (versS t)[i]).take (q + 1)) time = insideS ((spansS t (versS t)[i]).take q) time from hit]
            exact hJ4 _ h
        · clear hnext
          rw [List.take_of_length_le (by omega), hic, ← hins]
          exact hJ _ (h.take 1)
    clear hJ
    simp -zeta only [bin_gtr, ifB_dec]
    refine ⟨fun h0 => ?_, fun h0 => hJ2 _ h.tick⟩
    have h := h.tick
    have e1 : IntKind.i64.wrap ((i : Int) - 1) = ((i - 1 : Nat) : Int) := by rw [wrap_id (by omega) (by omega)]; omega
    have e2 : max ((i - 1 : Nat) : Int) 0 = ((i - 1 : Nat) : Int) := by omega
    have hlt2 := List.pairwise_iff_getElem.1 (versS_strict t) (i - 1) i (by omega) hil (by omega)
    simp -zeta only [hx i hil, rdv h i hil, bin_sub, e1, blt_max, e2, hx (i - 1) (by omega), rdv h (i - 1) (by omega), bin_leq, ifB_dec]
    exact ⟨fun hh => absurd hh (by omega), fun _ => hJ2 _ h⟩
  · have hie : i = (versS t).length := by omega
    subst hie
    rw [totS_all ht]
    simp -zeta only [ifB_true, rowR.len rd sl_s_api_Delta, bin_eql, raws_length, decide_true]
    have hia := insS_all ht time
    have hcast : decide (((insS t time (versS t).length : Nat) : Int) = 1) = decide (0 ≤ time ∧ time ≤ 1099511627776) := by
      rw [Bool.eq_iff_iff, decide_eq_true_iff, decide_eq_true_iff, ← hia]
      omega
    simp -zeta only [hcast, bin_geq, bin_leq, ifB_dec, bin_eql_bool U_bool]
    refine ⟨fun h1 => ?_, fun h1 => ?_⟩
    · have : (decide (0 ≤ time ∧ time ≤ 1099511627776) == decide (time ≤ 1099511627776)) = true := by simp [h1]
      rw [this]
      exact fin _ _ h
    · have : (decide (0 ≤ time ∧ time ≤ 1099511627776) == false) = true := by simp [h1]
      rw [this]
      exact fin _ _ h
end Go.Proofs.Ytmpnniicmmekmaa
