/-
  Contracts: Versions, Spans, few; comparing rows with the same content. No condition.
-/
import Derived.Test.YtmpnniicmmekmaaTimeG
import Derived.Test.YtmpnniicmmekmaaTimeH
namespace Go.Proofs.Ytmpnniicmmekmaa
open Go.RowKit
abbrev Dlt := D_api_Delta
abbrev Val := D_api_Value
section
variable {B : Base}

theorem Versions_m {v : Value} {t : List Seg} (r : rowR v t B) (hl : t.length ≤ 1000000) : Makes Try.prog B (sCall F_timeline_Versions #[v]) fun u τ => τ = [rowD T_int u (versS t)] := by
  refine Makes.intro fun B' w K base h k => ?_
  replace r := base r
  refine timeline_Versions.up (timeline_Versions.call ?_)
  unfold timeline_Versions.pt
  refine h.make (fun B2 own base2 => versions_m (base2 r) hl) fun u τ w1 hp h => ?_
  exact k _ _ _ hp h

def spansTo (t : List Seg) (ver : Int) (n : Nat) : List Seg := ((List.range n).filter fun i => decide ((t.getD i ⟨0, 0⟩).version = ver)).map fun i => ⟨(t.getD i ⟨0, 0⟩).from_, spanEnd t i⟩
theorem spansTo_all (t : List Seg) (ver : Int) : spansTo t ver t.length = spansS t ver := rfl
theorem spansTo_succ {t : List Seg} {ver : Int} {n : Nat} (hn : n < t.length) : spansTo t ver (n + 1) = if t[n].version = ver then spansTo t ver n ++ [⟨t[n].from_, spanEnd t n⟩] else spansTo t ver n := by
  have e : t.getD n ⟨0, 0⟩ = t[n] := by rw [List.getD_eq_getElem?_getD, List.getElem?_eq_getElem hn]; rfl
  unfold spansTo
  rw [List.range_succ, List.filter_append, List.map_append, List.filter_cons, e]
  by_cases h : t[n].version = ver
  · rw [if_pos (decide_eq_true h), if_pos h, List.filter_nil, List.map_cons, List.map_nil, e]
  · rw [if_neg (by rw [decide_eq_false h]; decide), if_neg h]
    simp
theorem spansTo_le (t : List Seg) (ver : Int) (n : Nat) : (spansTo t ver n).length ≤ n := by
  unfold spansTo
  rw [List.length_map]
  refine Nat.le_trans (List.length_filter_le _ _) ?_
  rw [List.length_range]
  exact Nat.le_refl _

theorem Spans_m {v : Value} {t : List Seg} (r : rowR v t B) (hl : t.length ≤ 1000000) (ver : Int) : Makes Try.prog B (sCall F_timeline_Spans #[v, .int .i64 ver]) fun u τ => τ = [rowD T_api_Seg u (spansS t ver)] := by
  refine Makes.intro fun B' w K base h k => ?_
  replace r := base r
  refine timeline_Spans.up (timeline_Spans.call ?_)
  unfold timeline_Spans.pt
  simp -zeta only [rowR.len r sl_s_api_Seg]
  refine LOOP_intro (fun x w' => ∃ (i : Nat) (v : Value), i ≤ t.length ∧ x = (v, .int .i64 i, ()) ∧ Rel B' w' [rowD T_api_Seg v (spansTo t ver i)]) (fun x _ => t.length - (match x.2.1 with | .int _ n => n.toNat | _ => 0))
    ⟨0, _, Nat.zero_le _, rfl, h.addNil Seg T_api_Seg⟩ ?_
  clear h
  rintro x w1 ⟨i, vv, hil, rfl, h⟩ next hnext
  have hsl := spansTo_le t ver i
  simp -zeta only [bin_lss, ifB_dec]
  refine ⟨fun hlt => ?_, fun hge => ?_⟩
  · have hi' : i < t.length := by omega
    refine LETJ_intro fun J hJ => ?_
    replace hJ : ∀ v' w', Rel B' w' [rowD T_api_Seg v' (spansTo t ver (i + 1))] → J (v', ()) w' := by
      intro v' w' h
      refine hJ _ _ ?_
      rw [bin_add, wrap_id (by omega) (by omega)]
      exact hnext _ _ ⟨i + 1, v', by omega, rfl, h⟩ (by simp only; omega)
    clear hnext
    obtain ⟨g, o, hx, hc⟩ := rowR.idx r sl_s_api_Seg (P := Try.prog) hi'
    simp -zeta only [hx, cellsR.ldAg (h.hereB hc) ag_api_Seg rfl]
    refine h.allocAg (ds := t[i].cs.toArray) z_api_Seg rfl ag_api_Seg rfl (fun v hv => Enc.one t[i] v hv) fun b w2 h => ?_
    refine LETJ_intro fun J2 hJ2 => ?_
    replace hJ2 : J2 (.int .i64 (spanEnd t i), ()) w2 := by
      refine hJ2 _ _ ?_
      simp -zeta only [field_addr f_api_Seg_0, field_addr f_api_Seg_1, Nat.add_zero, Nat.zero_add, h.ld 1 rfl sc_int (o := 0) rfl, h.ld 1 rfl sc_int (o := 1) rfl, bin_eql, ifB_dec, bd_api_Seg_0_1]
      have e := spansTo_succ (ver := ver) hi'
      refine ⟨fun hv => ?_, fun hv => ?_⟩
      · have hv : t[i].version = ver := hv
        refine h.push1 (α := Seg) 0 rfl ⟨t[i].from_, spanEnd t i⟩ sl_s_api_Seg (by decide) (by omega) (by omega) fun v2 w3 h => ?_
        refine hJ _ _ ?_
        rw [e, if_pos hv]
        exact h.take 1
      · have hv : ¬ t[i].version = ver := hv
        refine hJ _ _ ?_
        rw [e, if_neg hv]
        exact h.take 1
    have hw : IntKind.i64.wrap ((i : Int) + 1) = ((i + 1 : Nat) : Int) := by rw [wrap_id (by omega) (by omega)]; omega
    simp -zeta only [bin_add, hw, rowR.len r sl_s_api_Seg, bin_lss, ifB_dec]
    refine ⟨fun hh => ?_, fun hh => ?_⟩
    · have hh' : i + 1 < t.length := by omega
      obtain ⟨g2, o2, hx2, hc2⟩ := rowR.idx r sl_s_api_Seg (P := Try.prog) hh'
      simp -zeta only [hx2, field_addr f_api_Seg_0, Nat.add_zero, cellsR.ld0 (h.hereB hc2) sc_int rfl]
      unfold spanEnd at hJ2
      rw [dif_pos hh'] at hJ2
      exact hJ2
    · unfold spanEnd at hJ2
      rw [dif_neg (by omega)] at hJ2
      exact hJ2
  · have : i = t.length := by omega
    subst this
    exact k _ _ _ rfl h
end
end Go.Proofs.Ytmpnniicmmekmaa
