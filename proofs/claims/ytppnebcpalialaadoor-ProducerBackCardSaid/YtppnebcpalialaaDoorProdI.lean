/-
  The reference's Right; few. No condition.
-/
import Derived.Test.YtppnebcpalialaaDoorProdH
namespace Go.Proofs.YtppnebcpalialaaDoor
open Go.RowKit
set_option maxRecDepth 100000

section
variable {B : Base} {w : World}
structure FewT (L : PrL) : Prop where
  each : ∀ p ∈ L, p.1.last.length ≤ 30
  len : L.length ≤ 60
theorem few_r {v : Value} {L : PrL} {K : Value → World → Prop} {σ : List Dat} (r : rowR v (praws L) B) (q : prows L B) (h : Rel B w σ) (yes : ∀ w', FewT L → Rel B w' σ → K (.bool true) w') (no : ∀ w', Rel B w' σ → K (.bool false) w') :
    upK Tryd.prog (sCall F_erratalaw10_few #[v]) w K := by
  obtain ⟨B', h', back, _, base⟩ := h.frz
  replace r := base r
  replace q := base q
  replace yes : ∀ w', FewT L → Rel B' w' [] → K (.bool true) w' := fun w' hf h => yes w' hf (by have := back w' _ h; simpa using this)
  replace no : ∀ w', Rel B' w' [] → K (.bool false) w' := fun w' h => no w' (by have := back w' _ h; simpa using this)
  clear back h
  have h := h'
  clear h'
  have hal : (praws L).length = L.length := List.length_map ..
  refine erratalaw10_few.up (erratalaw10_few.call ?_)
  unfold erratalaw10_few.pt
  refine LETJ_intro fun J hJ => ?_
  replace hJ : (∀ j (hj : j < L.length), j < 100 → L[j].1.last.length ≤ 30) → ∀ w', Rel B' w' [] → J () w' := by
    intro hall w1 h
    refine hJ _ _ ?_
    simp -zeta only [rowR.len r sl_s_api_Producer, bin_leq]
    rw [hal]
    by_cases c : (L.length : Int) ≤ 60
    · rw [decide_eq_true c]
      exact yes _ ⟨fun p hp => by
        obtain ⟨j, hj, rfl⟩ := List.getElem_of_mem hp
        exact hall j hj (by omega), by omega⟩ h
    · rw [decide_eq_false c]
      exact no _ h
  refine LOOP_intro (fun x w' => ∃ i : Nat, i ≤ L.length ∧ x = (.int .i64 i, ()) ∧ (∀ j (hj : j < L.length), j < i → L[j].1.last.length ≤ 30) ∧ Rel B' w' []) (fun x _ => L.length - (match x.1 with | .int _ n => n.toNat | _ => 0))
    ⟨0, Nat.zero_le _, rfl, fun j _ hj => absurd hj (Nat.not_lt_zero j), h⟩ ?_
  clear h
  rintro x w1 ⟨i, hi, rfl, hin, h⟩ next hnext
  simp -zeta only [rowR.len r sl_s_api_Producer, bin_lss, ifB_dec]
  rw [hal]
  refine ⟨fun hlt => ⟨fun h100 => ?_, fun h100 => hJ (fun j hj h1 => hin j hj (by omega)) _ h⟩, fun hge => hJ (fun j hj h1 => hin j hj (by omega)) _ h⟩
  have hil : i < L.length := by omega
  obtain ⟨g, o, hx, hc⟩ := rowR.idx r sl_s_api_Producer (P := Tryd.prog) (i := i) (by omega)
  have hel : (praws L)[i]'(by omega) = L[i].1.raw L[i].2 := by simp [praws]
  rw [hel] at hc
  have hc : cellsR g o (L[i].1.raw L[i].2).cs B' := hc
  have hrow := q L[i] (List.getElem_mem hil)
  simp -zeta only [hx, field_addr f_api_Producer_3, cellsR.ld (h.hereB hc) sc_s_int (j := 3) rfl, rowR.len hrow sl_s_int, bin_gtr, ifB_dec]
  refine ⟨fun _ => no _ h, fun c => ?_⟩
  rw [bin_add, wrap_id (by omega) (by omega)]
  refine hnext _ _ ⟨i + 1, hil, rfl, fun j hj hji => ?_, h⟩ (by simp only; omega)
  by_cases e : j = i
  · subst e; omega
  · exact hin j hj (by omega)

theorem RRight_g {v : Value} {L : PrL} (r : rowR v (praws L) B) (q : prows L B) (hl : L.length ≤ 4611686018427387904) (hq : ∀ p ∈ L, p.1.last.length ≤ 4611686018427387904) : Gives Tryd.prog B (sCall F_errataref10_Right #[v]) (.bool (rightB (prs L))) := by
  refine Gives.intro fun B' w K base h k => ?_
  replace r := base r
  replace q := base q
  refine errataref10_Right.up (errataref10_Right.call ?_)
  unfold errataref10_Right.pt
  have hal : (praws L).length = L.length := List.length_map ..
  have hpl : (prs L).length = L.length := List.length_map ..
  have hget : ∀ i (h : i < L.length), (prs L)[i]'(by omega) = L[i].1 := fun i h => by simp
  have no : ∀ w' τ, Rel B' w' τ → ¬ RightT (prs L) → K (.bool false) w' := fun w' τ h hn => by rw [rightB_false hn] at k; exact k _ _ h
  have inT : ∀ i (h : i < L.length), L[i].1 ∈ prs L := fun i h => List.mem_map_of_mem (List.getElem_mem h)
  simp -zeta only [rowR.len r sl_s_api_Producer, bin_gtr, ifB_dec]
  rw [hal]
  refine ⟨fun c0 => no _ _ h fun hh => by have := hh.len; omega, fun c0 => ?_⟩
  refine LOOP_intro (fun x w' => ∃ (i : Nat) (pv : Int), i ≤ L.length ∧ x = (.int .i64 pv, .int .i64 i, ()) ∧ (i = 0 → pv = -1) ∧ (∀ h0 : 0 < i, ∃ hi : i - 1 < L.length, pv = L[i - 1].1.id) ∧ (∀ j (hj : j < L.length), j < i → FineP L[j].1 ∧ (0 < j → (L[j - 1]'(by omega)).1.id < L[j].1.id)) ∧ Rel B' w' []) (fun x _ => L.length - (match x.2.1 with | .int _ n => n.toNat | _ => 0))
    ⟨0, -1, Nat.zero_le _, rfl, fun _ => rfl, fun h0 => absurd h0 (Nat.lt_irrefl 0), fun j _ hj => absurd hj (Nat.not_lt_zero j), h⟩ ?_
  clear h
  rintro x w1 ⟨i, pv, hi, rfl, hp0, hp1, hin, h⟩ next hnext
  simp -zeta only [bin_lss, ifB_dec]
  refine ⟨fun hlt => ?_, fun hge => ?_⟩
  · have hil : i < L.length := by omega
    refine LETJ_intro fun J hJ => ?_
    replace hJ : FineP L[i].1 → (0 < i → (L[i - 1]'(by omega)).1.id < L[i].1.id) → ∀ w' τ, Rel B' w' τ → J (.int .i64 L[i].1.id, ()) w' := by
      intro h1 h2 w' τ h
      refine hJ _ _ ?_
      rw [bin_add, wrap_id (by omega) (by omega)]
      refine hnext _ _ ⟨i + 1, L[i].1.id, hil, rfl, fun e => absurd e (by omega), fun _ => ⟨hil, rfl⟩, fun j hj hji => ?_, h.nil⟩ (by simp only; omega)
      by_cases e : j = i
      · subst e; exact ⟨h1, h2⟩
      · exact hin j hj (by omega)
    clear hnext
    obtain ⟨g, o, hx, hc⟩ := rowR.idx r sl_s_api_Producer (P := Tryd.prog) (i := i) (by omega)
    have hel : (praws L)[i]'(by omega) = L[i].1.raw L[i].2 := by simp [praws]
    rw [hel] at hc
    have hc : cellsR g o (L[i].1.raw L[i].2).cs B' := hc
    have hrow : rowR L[i].2.1 L[i].1.last B' := q L[i] (List.getElem_mem hil)
    have hql := hq L[i] (List.getElem_mem hil)
    have hmem := inT i hil
    have hasc : RightT (prs L) → 0 < i → (L[i - 1]'(by omega)).1.id < L[i].1.id := fun hh h0 => by
      have := hh.asc i (by omega) h0
      rw [hget _ hil, hget (i - 1) (by omega)] at this
      exact this
    simp -zeta only [hx, cellsR.ldAg (h.hereB hc) ag_api_Producer rfl]
    refine h.allocAg (ds := (L[i].1.raw L[i].2).cs.toArray) z_api_Producer rfl ag_api_Producer rfl (fun v hv => Enc.one (L[i].1.raw L[i].2) v hv) fun b w4 h => ?_
    have h : Rel B' w4 [cellD b T_api_Producer (L[i].1.raw L[i].2).cs.toArray] := h
    have hprev : 0 < i → pv = (L[i - 1]'(by omega)).1.id := fun h0 => (hp1 h0).2
    generalize hsv : L[i].2 = sv at h hrow
    generalize L[i].1 = p at *
    simp -zeta only [field_addr f_api_Producer_0, field_addr f_api_Producer_1, field_addr f_api_Producer_2, field_addr f_api_Producer_3, Nat.add_zero, Nat.zero_add, h.ld 0 rfl sc_int (o := 0) rfl, bin_leq, ifB_dec]
    refine ⟨fun c1 => no _ _ h fun hh => ?_, fun c1 => ?_⟩
    · have h1 := (hh.fine p hmem).id
      unfold inP at h1
      rcases Nat.eq_zero_or_pos i with e | e
      · have := hp0 e; omega
      · have := hasc hh e
        have := hprev e
        omega
    have hb : 0 < i → (L[i - 1]'(by omega)).1.id < p.id := fun h0 => by have := hprev h0; omega
    refine h.ask (fun B2 own base2 => rin_g p.id) fun w5 h => ?_
    rw [un_not, ifB_not, ifB_dec]
    refine ⟨fun c2 => ?_, fun c2 => no _ _ h fun hh => c2 (hh.fine p hmem).id⟩
    simp -zeta only [h.ld 0 rfl sc_int (o := 1) rfl]
    refine h.ask (fun B2 own base2 => rin_g p.epoch) fun w6 h => ?_
    rw [un_not, ifB_not, ifB_dec]
    refine ⟨fun c3 => ?_, fun c3 => no _ _ h fun hh => c3 (hh.fine p hmem).epoch⟩
    simp -zeta only [h.ld 0 rfl sc_int (o := 2) rfl]
    refine h.ask (fun B2 own base2 => rin_g p.next) fun w7 h => ?_
    rw [un_not, ifB_not, ifB_dec]
    refine ⟨fun c4 => ?_, fun c4 => no _ _ h fun hh => c4 (hh.fine p hmem).next⟩
    simp -zeta only [h.ld 0 rfl sc_int (o := 0) rfl, h.ld 0 rfl sc_int (o := 2) rfl, h.ld 0 rfl sc_s_int (o := 3) rfl, rowR.len hrow sl_s_int, blt_min, bin_neq, ifB_not, ifB_dec]
    refine ⟨fun c5 => ?_, fun c5 => no _ _ h fun hh => c5 (hh.fine p hmem).len⟩
    refine LOOP_intro (fun x w' => ∃ (m : Nat) (lv : Int), m ≤ p.last.length ∧ x = (.int .i64 lv, .int .i64 m, ()) ∧ (m = 0 → lv = -1) ∧ (∀ h0 : 0 < m, ∃ hm : m - 1 < p.last.length, lv = p.last[m - 1]) ∧ (∀ j (hj : j < p.last.length), j < m → inP p.last[j] ∧ (0 < j → p.last[j - 1] < p.last[j])) ∧ Rel B' w' [cellD b T_api_Producer (p.raw sv).cs.toArray]) (fun x _ => p.last.length - (match x.2.1 with | .int _ n => n.toNat | _ => 0))
      ⟨0, -1, Nat.zero_le _, rfl, fun _ => rfl, fun h0 => absurd h0 (Nat.lt_irrefl 0), fun j _ hj => absurd hj (Nat.not_lt_zero j), h⟩ ?_
    clear h
    rintro x w8 ⟨m, lv, hm, rfl, hl0, hl1, hinm, h⟩ next hnext
    simp -zeta only [h.ld 0 rfl sc_s_int (o := 3) rfl, rowR.len hrow sl_s_int, bin_lss, ifB_dec]
    refine ⟨fun hltm => ?_, fun hgem => hJ ⟨c2, c3, c4, c5, fun j hj => (hinm j hj (by omega)).1, fun j hj => (hinm j hj (by omega)).2⟩ hb _ _ h⟩
    have hml : m < p.last.length := by omega
    obtain ⟨a, q1, q2⟩ := rowR.at_sc hrow h sl_s_int hml sc_int (x := .int .i64 p.last[m]) rfl
    simp -zeta only [q1, q2, bin_leq, ifB_dec]
    have hlast : 0 < m → lv = p.last[m - 1]'(by omega) := fun h0 => (hl1 h0).2
    refine ⟨fun c6 => no _ _ h fun hh => ?_, fun c6 => ?_⟩
    · have hf := hh.fine p hmem
      have h1 := hf.each m hml
      unfold inP at h1
      rcases Nat.eq_zero_or_pos m with e | e
      · have := hl0 e; omega
      · have := hf.asc m hml e
        have := hlast e
        omega
    refine h.ask (fun B2 own base2 => rin_g p.last[m]) fun w9 h => ?_
    rw [un_not, ifB_not, ifB_dec]
    refine ⟨fun c7 => ?_, fun c7 => no _ _ h fun hh => c7 ((hh.fine p hmem).each m hml)⟩
    obtain ⟨a2, q3, q4⟩ := rowR.at_sc hrow h sl_s_int hml sc_int (x := .int .i64 p.last[m]) rfl
    simp -zeta only [h.ld 0 rfl sc_s_int (o := 3) rfl, q3, q4, bin_add]
    rw [wrap_id (by omega) (by omega)]
    refine hnext _ _ ⟨m + 1, p.last[m], hml, rfl, fun e => absurd e (by omega), fun _ => ⟨hml, rfl⟩, fun j hj hjm => ?_, h⟩ (by simp only; omega)
    by_cases e : j = m
    · subst e
      exact ⟨c7, fun h0 => by have := hlast h0; omega⟩
    · exact hinm j hj (by omega)
  · have : RightT (prs L) := by
      refine ⟨fun p hp => ?_, fun j hj h0 => ?_, by omega⟩
      · obtain ⟨x, hx, rfl⟩ := List.mem_map.1 hp
        obtain ⟨j, hj, rfl⟩ := List.getElem_of_mem hx
        exact (hin j hj (by omega)).1
      · rw [hget j (by omega), hget (j - 1) (by omega)]
        exact (hin j (by omega) (by omega)).2 h0
    rw [rightB_true.2 this] at k
    exact k _ _ h
end
end Go.Proofs.YtppnebcpalialaaDoor
