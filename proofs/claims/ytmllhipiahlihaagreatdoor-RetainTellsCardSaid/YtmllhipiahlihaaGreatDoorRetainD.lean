/-
  The references' comparing of events, and the laws' small functions. No condition.
-/
import Derived.Test.YtmllhipiahlihaaGreatDoorRetainC
import Derived.Test.YtmllhipiahlihaaGreatDoorValR
namespace Go.Proofs.YtmllhipiahlihaaGreatDoor
open Go.RowKit
set_option maxRecDepth 100000

section
variable {B : Base}

theorem sameRow_g {va vb : Value} {l m : List Val} (ra : rowR va l B) (rb : rowR vb m B) (hl : l.length ≤ 4611686018427387904) : Gives Tryz.prog B (sCall F_errataref03_Same #[va, vb]) (.bool (decide (l = m))) := fSame_g ra rb (by omega)
theorem Ev.ext_ {a b : Ev} (h0 : a.part = b.part) (h1 : a.pos = b.pos) (h2 : a.source = b.source) (h3 : a.schema = b.schema) (h4 : a.time = b.time) (h5 : a.row = b.row) : a = b := by
  cases a; cases b; simp_all
theorem sameEv_g {va vb : Value} {L M : EvL} (ra : evsR va L B) (rb : evsR vb M B) (hl : L.length ≤ 4611686018427387904) (hrl : ∀ p ∈ L, p.1.row.length ≤ 4611686018427387904) : Gives Tryz.prog B (sCall F_errataref12_Same #[va, vb]) (.bool (decide (evs L = evs M))) := by
  refine Gives.intro fun B' w K base h k => ?_
  have ra1 := base ra.1
  have rb1 := base rb.1
  have ra2 := base ra.2
  have rb2 := base rb.2
  refine errataref12_Same.up (errataref12_Same.call ?_)
  unfold errataref12_Same.pt
  have hL : (raws L).length = L.length := by simp [raws]
  have hM : (raws M).length = M.length := by simp [raws]
  simp -zeta only [rowR.len ra1 sl_s_api_Event, rowR.len rb1 sl_s_api_Event, hL, hM, bin_neq, ifB_not, ifB_dec]
  have no : ∀ w', Rel B' w' [] → evs L ≠ evs M → K (.bool false) w' := fun w' h hne => by
    rw [decide_eq_false hne] at k
    exact k _ _ h
  refine ⟨fun e => ?_, fun e => no _ h fun he => e (by have := congrArg List.length he; simp [evs] at this; omega)⟩
  have hlm : L.length = M.length := by omega
  refine LOOP_intro (fun x w' => ∃ i : Nat, i ≤ L.length ∧ x = (.int .i64 i, ()) ∧ (evs L).take i = (evs M).take i ∧ Rel B' w' []) (fun x _ => L.length - (match x.1 with | .int _ n => n.toNat | _ => 0)) ⟨0, Nat.zero_le _, rfl, rfl, h⟩ ?_
  clear h
  rintro x w1 ⟨i, hi, rfl, he, h⟩ next hnext
  simp -zeta only [bin_lss, ifB_dec]
  refine ⟨fun h1 => ?_, fun h1 => ?_⟩
  · have hil : i < L.length := by omega
    have him : i < M.length := by omega
    obtain ⟨g, o, hx, hc⟩ := rowR.idx ra1 sl_s_api_Event (i := i) (by omega)
    obtain ⟨g', o', hx', hc'⟩ := rowR.idx rb1 sl_s_api_Event (i := i) (by omega)
    have hel : (raws L)[i]'(by omega) = L[i].1.raw L[i].2 := by simp [raws]
    have hem : (raws M)[i]'(by omega) = M[i].1.raw M[i].2 := by simp [raws]
    rw [hel] at hc
    rw [hem] at hc'
    have rr1 : rowR L[i].2.1 L[i].1.row B' := ra2 L[i] (List.getElem_mem hil)
    have rr2 : rowR M[i].2.1 M[i].1.row B' := rb2 M[i] (List.getElem_mem him)
    simp -zeta only [hx, cellsR.ldAg (h.hereB hc) ag_api_Event rfl]
    refine h.allocAg (ds := (L[i].1.raw L[i].2).cs.toArray) z_api_Event rfl ag_api_Event rfl (fun v hv => Enc.one (L[i].1.raw L[i].2) v hv) fun bx w2 h => ?_
    simp -zeta only [hx', cellsR.ldAg (h.hereB hc') ag_api_Event rfl]
    refine h.allocAg (ds := (M[i].1.raw M[i].2).cs.toArray) z_api_Event rfl ag_api_Event rfl (fun v hv => Enc.one (M[i].1.raw M[i].2) v hv) fun by' w3 h => ?_
    have q : ∀ (h' : (evs L).take (i + 1) ≠ (evs M).take (i + 1)), evs L ≠ evs M := fun h' e => h' (by rw [e])
    have s1 : (evs L).take (i + 1) = (evs L).take i ++ [L[i].1] := by rw [List.take_succ_eq_append_getElem (by simpa [evs] using hil)]; simp [evs]
    have s2 : (evs M).take (i + 1) = (evs M).take i ++ [M[i].1] := by rw [List.take_succ_eq_append_getElem (by simpa [evs] using him)]; simp [evs]
    have ne : L[i].1 ≠ M[i].1 → evs L ≠ evs M := fun hne => q (by rw [s1, s2, he]; simpa using hne)
    simp -zeta only [field_addr f_api_Event_0, field_addr f_api_Event_1, field_addr f_api_Event_2, field_addr f_api_Event_3, field_addr f_api_Event_4, field_addr f_api_Event_5, Nat.zero_add,
      h.ld 0 rfl sc_int (o := 0) rfl, h.ld 0 rfl sc_int (o := 1) rfl, h.ld 0 rfl sc_string (o := 2) rfl, h.ld 0 rfl sc_int (o := 3) rfl, h.ld 0 rfl sc_int (o := 4) rfl, h.ld 0 rfl sc_s_api_Value (o := 5) rfl,
      h.ld 1 rfl sc_int (o := 0) rfl, h.ld 1 rfl sc_int (o := 1) rfl, h.ld 1 rfl sc_string (o := 2) rfl, h.ld 1 rfl sc_int (o := 3) rfl, h.ld 1 rfl sc_int (o := 4) rfl, h.ld 1 rfl sc_s_api_Value (o := 5) rfl, bin_neq, neq_str, ifB_not, ifB_dec]
    have no' : L[i].1 ≠ M[i].1 → K (.bool false) w3 := fun hne => no _ h.nil (ne hne)
    refine ⟨fun (p0 : L[i].1.part = M[i].1.part) => ⟨fun (p1 : L[i].1.pos = M[i].1.pos) => ⟨fun (p2 : L[i].1.source = M[i].1.source) => ⟨fun (p3 : L[i].1.schema = M[i].1.schema) => ⟨fun (p4 : L[i].1.time = M[i].1.time) => ?_, fun (p : ¬ L[i].1.time = M[i].1.time) => no' fun e => p (by rw [e])⟩, fun (p : ¬ L[i].1.schema = M[i].1.schema) => no' fun e => p (by rw [e])⟩,
      fun (p : ¬ L[i].1.source = M[i].1.source) => no' fun e => p (by rw [e])⟩, fun (p : ¬ L[i].1.pos = M[i].1.pos) => no' fun e => p (by rw [e])⟩, fun (p : ¬ L[i].1.part = M[i].1.part) => no' fun e => p (by rw [e])⟩
    refine h.ask (fun _ _ base2 => sameRow_g (base2 rr1) (base2 rr2) (hrl _ (List.getElem_mem hil))) fun w4 h => ?_
    simp -zeta only [un_not, ifB_not, ifB_dec]
    refine ⟨fun p5 => ?_, fun p => no _ h.nil (ne fun e => p (by rw [e]))⟩
    rw [bin_add, wrap_id (by omega) (by omega)]
    refine hnext _ _ ⟨i + 1, by omega, rfl, ?_, h.nil⟩ (by simp only; omega)
    rw [s1, s2, he]
    rw [Ev.ext_ p0 p1 p2 p3 p4 p5]
  · have : i = L.length := by omega
    subst this
    rw [List.take_of_length_le (by simp [evs]), List.take_of_length_le (by simp [evs]; omega)] at he
    rw [decide_eq_true he] at k
    exact k _ _ h
end
end Go.Proofs.YtmllhipiahlihaaGreatDoor
