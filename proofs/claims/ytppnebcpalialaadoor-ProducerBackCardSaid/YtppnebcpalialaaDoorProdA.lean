/-
  Tables of producers: their form in memory; in, fine, Right, find, Look, record, the reference's Right. No condition.
-/
import Derived.Test.YtppnebcpalialaaDoorPlus
import Derived.Test.YtppnebcpalialaaDoorLib
namespace Go.Proofs.YtppnebcpalialaaDoor
open Go.RowKit
set_option maxRecDepth 100000
abbrev PrD := D_api_Producer
structure Pr where
  id : Int
  epoch : Int
  next : Int
  last : List Int
abbrev Pr.raw (p : Pr) (v : SV) : PrD := ⟨p.id, p.epoch, p.next, v⟩
abbrev PrL := List (Pr × SV)
def praws (L : PrL) : List PrD := L.map fun p => p.1.raw p.2
def prows (L : PrL) : Dat := Dat.all L fun p => rowR p.2.1 p.1.last
abbrev prs (L : PrL) : List Pr := L.map (·.1)
def inP (n : Int) : Prop := 0 ≤ n ∧ n ≤ 1099511627776
instance (n : Int) : Decidable (inP n) := by unfold inP; infer_instance
structure FineP (p : Pr) : Prop where
  id : inP p.id
  epoch : inP p.epoch
  next : inP p.next
  len : (p.last.length : Int) = min p.next 20
  each : ∀ i (h : i < p.last.length), inP p.last[i]
  asc : ∀ i (h : i < p.last.length), 0 < i → p.last[i - 1] < p.last[i]
structure RightT (s : List Pr) : Prop where
  fine : ∀ p ∈ s, FineP p
  asc : ∀ i (h : i < s.length), 0 < i → s[i - 1].id < s[i].id
  len : s.length ≤ 50
open Classical in
noncomputable def fineB (p : Pr) : Bool := decide (FineP p)
open Classical in
noncomputable def rightB (s : List Pr) : Bool := decide (RightT s)
theorem fineB_true {p : Pr} : fineB p = true ↔ FineP p := by simp [fineB]
theorem fineB_false {p : Pr} (h : ¬ FineP p) : fineB p = false := by simp [fineB, h]
theorem rightB_true {s : List Pr} : rightB s = true ↔ RightT s := by simp [rightB]
theorem rightB_false {s : List Pr} (h : ¬ RightT s) : rightB s = false := by simp [rightB, h]

section
variable {B : Base} {w : World}
theorem in_g (n : Int) : Gives Tryd.prog B (sCall F_producer_in #[.int .i64 n]) (.bool (decide (inP n))) := by
  refine Gives.intro fun B' w K base h k => ?_
  refine producer_in.up (producer_in.call ?_)
  unfold producer_in.pt
  simp -zeta only [bin_geq, bin_leq, ifB_dec]
  refine ⟨fun h1 => ?_, fun h1 => ?_⟩
  · have : decide (inP n) = decide (n ≤ 1099511627776) := decide_eq_decide.2 ⟨fun h => h.2, fun h => ⟨h1, h⟩⟩
    rw [this] at k
    exact k _ _ h
  · rw [decide_eq_false (fun hh : inP n => h1 hh.1)] at k
    exact k _ _ h
theorem rin_g (n : Int) : Gives Tryd.prog B (sCall F_errataref10_in #[.int .i64 n]) (.bool (decide (inP n))) := by
  refine Gives.intro fun B' w K base h k => ?_
  refine errataref10_in.up (errataref10_in.call ?_)
  unfold errataref10_in.pt
  simp -zeta only [bin_geq, bin_leq, ifB_dec]
  refine ⟨fun h1 => ?_, fun h1 => ?_⟩
  · have : decide (inP n) = decide (n ≤ 1099511627776) := decide_eq_decide.2 ⟨fun h => h.2, fun h => ⟨h1, h⟩⟩
    rw [this] at k
    exact k _ _ h
  · rw [decide_eq_false (fun hh : inP n => h1 hh.1)] at k
    exact k _ _ h

theorem fine_g {p : Pr} {sv : SV} (r : rowR sv.1 p.last B) (hl : p.last.length ≤ 4611686018427387904) : Gives Tryd.prog B (sCall F_producer_fine #[(p.raw sv).v]) (.bool (fineB p)) := by
  refine Gives.intro fun B' w K base h k => ?_
  replace r := base r
  refine producer_fine.up (producer_fine.call ?_)
  unfold producer_fine.pt
  have no : ∀ w' τ, Rel B' w' τ → ¬ FineP p → K (.bool false) w' := fun w' τ h hn => by rw [fineB_false hn] at k; exact k _ _ h
  refine h.box fun b w1 h => ?_
  have h : Rel B' w1 [cellD b T_api_Producer (p.raw sv).cs.toArray] := h
  simp -zeta only [field_addr f_api_Producer_0, field_addr f_api_Producer_1, field_addr f_api_Producer_2, field_addr f_api_Producer_3, Nat.add_zero, Nat.zero_add, h.ld 0 rfl sc_int (o := 0) rfl]
  refine h.ask (fun B2 own base2 => in_g p.id) fun w2 h => ?_
  rw [un_not, ifB_not, ifB_dec]
  refine ⟨fun c1 => ?_, fun c1 => no _ _ h fun hh => c1 hh.id⟩
  simp -zeta only [h.ld 0 rfl sc_int (o := 1) rfl]
  refine h.ask (fun B2 own base2 => in_g p.epoch) fun w3 h => ?_
  rw [un_not, ifB_not, ifB_dec]
  refine ⟨fun c2 => ?_, fun c2 => no _ _ h fun hh => c2 hh.epoch⟩
  simp -zeta only [h.ld 0 rfl sc_int (o := 2) rfl]
  refine h.ask (fun B2 own base2 => in_g p.next) fun w4 h => ?_
  rw [un_not, ifB_not, ifB_dec]
  refine ⟨fun c3 => ?_, fun c3 => no _ _ h fun hh => c3 hh.next⟩
  simp -zeta only [h.ld 0 rfl sc_int (o := 2) rfl, h.ld 0 rfl sc_s_int (o := 3) rfl, rowR.len r sl_s_int, blt_min, bin_neq, ifB_not, ifB_dec]
  refine ⟨fun c4 => ?_, fun c4 => no _ _ h fun hh => c4 hh.len⟩
  refine LOOP_intro (fun x w' => ∃ i : Nat, i ≤ p.last.length ∧ x = (.int .i64 i, ()) ∧ (∀ j (hj : j < p.last.length), j < i → inP p.last[j] ∧ (0 < j → p.last[j - 1] < p.last[j])) ∧ Rel B' w' [cellD b T_api_Producer (p.raw sv).cs.toArray]) (fun x _ => p.last.length - (match x.1 with | .int _ n => n.toNat | _ => 0))
    ⟨0, Nat.zero_le _, rfl, fun j _ hj => absurd hj (Nat.not_lt_zero j), h⟩ ?_
  clear h
  rintro x w5 ⟨i, hi, rfl, hin, h⟩ next hnext
  simp -zeta only [bin_lss, ifB_dec]
  refine ⟨fun hlt => ?_, fun hge => ?_⟩
  · have hil : i < p.last.length := by omega
    refine LETJ_intro fun J hJ => ?_
    replace hJ : inP p.last[i] → (0 < i → p.last[i - 1] < p.last[i]) → ∀ w', Rel B' w' [cellD b T_api_Producer (p.raw sv).cs.toArray] → J () w' := by
      intro h1 h2 w' h
      refine hJ _ _ ?_
      rw [bin_add, wrap_id (by omega) (by omega)]
      refine hnext _ _ ⟨i + 1, hil, rfl, fun j hj hji => ?_, h⟩ (by simp only; omega)
      by_cases e : j = i
      · subst e; exact ⟨h1, h2⟩
      · exact hin j hj (by omega)
    clear hnext
    obtain ⟨q, q1, q2⟩ := rowR.at_sc r h sl_s_int hil sc_int (x := .int .i64 p.last[i]) rfl
    rw [q1, q2]
    refine h.ask (fun B2 own base2 => in_g p.last[i]) fun w6 h => ?_
    rw [un_not, ifB_not, ifB_dec]
    refine ⟨fun c5 => ?_, fun c5 => no _ _ h fun hh => c5 (hh.each i hil)⟩
    simp -zeta only [bin_gtr, ifB_dec]
    refine ⟨fun c6 => ?_, fun c6 => hJ c5 (fun z => absurd z (by omega)) _ h⟩
    have hw : IntKind.i64.wrap ((i : Int) - 1) = ((i - 1 : Nat) : Int) := by rw [wrap_id (by omega) (by omega)]; omega
    obtain ⟨q', q3, q4⟩ := rowR.at_sc r h sl_s_int (i := i - 1) (by omega) sc_int (x := .int .i64 (p.last[i - 1]'(by omega))) rfl
    simp -zeta only [h.ld 0 rfl sc_s_int (o := 3) rfl, bin_sub, hw, q3, q4, bin_leq, ifB_dec]
    exact ⟨fun c7 => no _ _ h fun hh => by have := hh.asc i hil (by omega); omega, fun c7 => hJ c5 (fun _ => by omega) _ h⟩
  · have : FineP p := ⟨c1, c2, c3, c4, fun j hj => (hin j hj (by omega)).1, fun j hj => (hin j hj (by omega)).2⟩
    rw [fineB_true.2 this] at k
    exact k _ _ h

theorem Right_g {v : Value} {L : PrL} (r : rowR v (praws L) B) (q : prows L B) (hl : L.length ≤ 4611686018427387904) (hq : ∀ p ∈ L, p.1.last.length ≤ 4611686018427387904) : Gives Tryd.prog B (sCall F_producer_Right #[v]) (.bool (rightB (prs L))) := by
  refine Gives.intro fun B' w K base h k => ?_
  replace r := base r
  replace q := base q
  refine producer_Right.up (producer_Right.call ?_)
  unfold producer_Right.pt
  have hal : (praws L).length = L.length := List.length_map ..
  have hpl : (prs L).length = L.length := List.length_map ..
  have hget : ∀ i (h : i < L.length), (prs L)[i]'(by omega) = L[i].1 := fun i h => by simp
  have no : ∀ w' τ, Rel B' w' τ → ¬ RightT (prs L) → K (.bool false) w' := fun w' τ h hn => by rw [rightB_false hn] at k; exact k _ _ h
  simp -zeta only [rowR.len r sl_s_api_Producer]
  rw [hal]
  refine LOOP_intro (fun x w' => ∃ i : Nat, i ≤ L.length ∧ x = (.int .i64 i, ()) ∧ (∀ j (hj : j < L.length), j < i → FineP L[j].1 ∧ (0 < j → (L[j - 1]'(by omega)).1.id < L[j].1.id)) ∧ Rel B' w' []) (fun x _ => L.length - (match x.1 with | .int _ n => n.toNat | _ => 0))
    ⟨0, Nat.zero_le _, rfl, fun j _ hj => absurd hj (Nat.not_lt_zero j), h⟩ ?_
  clear h
  rintro x w1 ⟨i, hi, rfl, hin, h⟩ next hnext
  simp -zeta only [bin_lss, ifB_dec]
  refine ⟨fun hlt => ?_, fun hge => ?_⟩
  · have hil : i < L.length := by omega
    refine LETJ_intro fun J hJ => ?_
    replace hJ : FineP L[i].1 → (0 < i → (L[i - 1]'(by omega)).1.id < L[i].1.id) → ∀ w' τ, Rel B' w' τ → J () w' := by
      intro h1 h2 w' τ h
      refine hJ _ _ ?_
      rw [bin_add, wrap_id (by omega) (by omega)]
      refine hnext _ _ ⟨i + 1, hil, rfl, fun j hj hji => ?_, h.nil⟩ (by simp only; omega)
      by_cases e : j = i
      · subst e; exact ⟨h1, h2⟩
      · exact hin j hj (by omega)
    clear hnext
    obtain ⟨g, o, hx, hc⟩ := rowR.idx r sl_s_api_Producer (P := Tryd.prog) (i := i) (by omega)
    have hel : (praws L)[i]'(by omega) = L[i].1.raw L[i].2 := by simp [praws]
    rw [hel] at hc
    have hc : cellsR g o (L[i].1.raw L[i].2).cs B' := hc
    have hrow := q L[i] (List.getElem_mem hil)
    have hql := hq L[i] (List.getElem_mem hil)
    simp -zeta only [hx, cellsR.ldAg (h.hereB hc) ag_api_Producer rfl]
    refine h.allocAg (ds := (L[i].1.raw L[i].2).cs.toArray) z_api_Producer rfl ag_api_Producer rfl (fun v hv => Enc.one (L[i].1.raw L[i].2) v hv) fun b w4 h => ?_
    have h := h.tick
    have h : Rel B' (tick w4) [cellD b T_api_Producer (L[i].1.raw L[i].2).cs.toArray] := h
    rw [h.ldAg 0 rfl ag_api_Producer rfl]
    refine h.ask (fun B2 own base2 => fine_g (p := L[i].1) (sv := L[i].2) (base2 hrow) hql) fun w5 h => ?_
    rw [un_not, ifB_not, ifB_bool]
    refine ⟨fun c1 => ?_, fun c1 => no _ _ h fun hh => by
      have := fineB_true.2 (hh.fine L[i].1 (List.mem_map_of_mem (List.getElem_mem hil)))
      rw [this] at c1; cases c1⟩
    have c1 := fineB_true.1 c1
    simp -zeta only [bin_gtr, ifB_dec]
    refine ⟨fun c2 => ?_, fun c2 => hJ c1 (fun z => absurd z (by omega)) _ _ h⟩
    have hw : IntKind.i64.wrap ((i : Int) - 1) = ((i - 1 : Nat) : Int) := by rw [wrap_id (by omega) (by omega)]; omega
    obtain ⟨g2, o2, hx2, hc2⟩ := rowR.idx r sl_s_api_Producer (P := Tryd.prog) (i := i - 1) (by omega)
    have hel2 : (praws L)[i - 1]'(by omega) = (L[i - 1]'(by omega)).1.raw (L[i - 1]'(by omega)).2 := by simp [praws]
    rw [hel2] at hc2
    have hc2 : cellsR g2 o2 ((L[i - 1]'(by omega)).1.raw (L[i - 1]'(by omega)).2).cs B' := hc2
    simp -zeta only [field_addr f_api_Producer_0, Nat.add_zero, h.ld 0 rfl sc_int (o := 0) rfl, bin_sub, hw, hx2, cellsR.ld0 (h.hereB hc2) sc_int rfl, bin_leq, ifB_dec]
    refine ⟨fun c3 => no _ _ h fun hh => ?_, fun c3 => hJ c1 (fun _ => by omega) _ _ h⟩
    have := hh.asc i (by omega) (by omega)
    rw [hget _ hil, hget (i - 1) (by omega)] at this
    omega
  · rw [bin_leq]
    have e : rightB (prs L) = decide ((L.length : Int) ≤ 50) := by
      rw [Bool.eq_iff_iff, rightB_true, decide_eq_true_iff]
      refine ⟨fun hh => by have := hh.len; omega, fun hh => ⟨fun p hp => ?_, fun j hj h0 => ?_, by omega⟩⟩
      · obtain ⟨x, hx, rfl⟩ := List.mem_map.1 hp
        obtain ⟨j, hj, rfl⟩ := List.getElem_of_mem hx
        exact (hin j hj (by omega)).1
      · rw [hget j (by omega), hget (j - 1) (by omega)]
        exact (hin j (by omega) (by omega)).2 h0
    rw [e] at k
    exact k _ _ h
theorem record_g (a b c : Int) : Gives Tryd.prog B (sCall F_erratalaw10_record #[.int .i64 a, .int .i64 b, .int .i64 c]) (.agg #[.int .i64 0, .int .i64 a, .int .i64 b, .int .i64 c, .string ⟨#[]⟩, .int .i64 0, .int .i64 0, .slice none 0 0]) := by
  refine Gives.intro fun B' w K base h k => ?_
  refine erratalaw10_record.up (erratalaw10_record.call ?_)
  unfold erratalaw10_record.pt
  simp -zeta only [bd_api_Entry_0_1_2_3]
  refine h.allocAg (ds := (⟨0, a, b, c, ⟨#[]⟩, 0, 0, ⟨.slice none 0 0, rfl⟩⟩ : D_api_Entry).cs.toArray) z_api_Entry rfl ag_api_Entry rfl (fun v hv => Enc.one (⟨0, a, b, c, ⟨#[]⟩, 0, 0, ⟨.slice none 0 0, rfl⟩⟩ : D_api_Entry) v hv) fun o w1 h => ?_
  rw [rv_ag h 0 rfl ag_api_Entry rfl]
  exact k _ _ h
end
end Go.Proofs.YtppnebcpalialaaDoor
