/-
  Contracts: timeline.Pick, few. No condition.
-/
import Derived.Test.YtmpnniicmmekmaaTimeJ
namespace Go.Proofs.Ytmpnniicmmekmaa
open Go.RowKit
section
variable {B : Base}

theorem Pick_m {vt vd : Value} {t : List Seg} {L : DelL} (rt : rowR vt t B) (hs : Sorted t) (hne : t ≠ []) (htl : t.length ≤ 1000000) (rd : rowR vd (raws L) B) (qd : rowsR L B) (hl : L.length ≤ 1000000) (hr : ∀ p ∈ L, p.1.row.length ≤ 1000000) (ver : Int) :
    Makes Try.prog B (sCall F_timeline_Pick #[vt, .int .i64 ver, vd]) fun u τ => ∃ M : DelL, dels M = (dels L).filter (fun e => decide (atS t e.time = ver)) ∧ τ = rowD T_api_Delta u (raws M) :: M.map rowEnt := by
  refine Makes.intro fun B' w K base h k => ?_
  replace rt := base rt
  replace rd := base rd
  replace qd := base qd
  refine timeline_Pick.up (timeline_Pick.call ?_)
  unfold timeline_Pick.pt
  simp -zeta only [rowR.len rd sl_s_api_Delta]
  rw [raws_length]
  refine LOOP_intro (fun x w' => ∃ (i : Nat) (u : Value) (M : DelL), i ≤ L.length ∧ x = (u, .int .i64 i, ()) ∧ M.length ≤ i ∧ dels M = ((dels L).take i).filter (fun e => decide (atS t e.time = ver)) ∧ Rel B' w' (rowD T_api_Delta u (raws M) :: M.map rowEnt)) (fun x _ => L.length - (match x.2.1 with | .int _ n => n.toNat | _ => 0))
    ⟨0, _, [], Nat.zero_le _, rfl, Nat.le_refl _, rfl, h.addNil Dlt T_api_Delta⟩ ?_
  clear h
  rintro x w1 ⟨i, u, M, hil, rfl, hML, hM, h⟩ next hnext
  simp -zeta only [bin_lss, ifB_dec]
  refine ⟨fun hlt => ?_, fun hge => ?_⟩
  · have hi : i < L.length := by omega
    have hrow := hr L[i] (List.getElem_mem hi)
    have htake : (dels L).take (i + 1) = (dels L).take i ++ [L[i].1] := by
      rw [List.take_succ_eq_append_getElem (by simpa [dels] using hi)]
      simp [dels]
    refine LETJ_intro fun J hJ => ?_
    replace hJ : ∀ (u' : Value) (M' : DelL) w', M'.length ≤ i + 1 → dels M' = ((dels L).take (i + 1)).filter (fun e => decide (atS t e.time = ver)) → Rel B' w' (rowD T_api_Delta u' (raws M') :: M'.map rowEnt) → J (u', ()) w' := by
      intro u' M' w' h1 h2 h
      refine hJ _ _ ?_
      rw [bin_add, wrap_id (by omega) (by omega)]
      exact hnext _ _ ⟨i + 1, u', M', by omega, rfl, h1, h2, h⟩ (by simp only; omega)
    clear hnext
    obtain ⟨g, o, hx, hc⟩ := rowR.idx rd sl_s_api_Delta (P := Try.prog) (i := i) (by rw [raws_length]; exact hi)
    have e1 : (raws L)[i]'(by rw [raws_length]; exact hi) = L[i].1.raw L[i].2 := by simp [raws]
    rw [e1] at hc
    have hc : cellsR g o (L[i].1.raw L[i].2).cs B' := hc
    have q1 : rowR L[i].2.1 L[i].1.row B' := qd L[i] (List.getElem_mem hi)
    simp -zeta only [hx, cellsR.ldAg (h.hereB hc) ag_api_Delta rfl]
    refine h.allocAg (ds := (L[i].1.raw L[i].2).cs.toArray) z_api_Delta rfl ag_api_Delta rfl (fun v hv => Enc.one (L[i].1.raw L[i].2) v hv) fun b w2 h => ?_
    simp -zeta only [field_addr f_api_Delta_0, Nat.add_zero, h.ld _ get_last sc_int (o := 0) rfl]
    refine h.ask (fun B2 own base2 => At_g (base2 rt) hs hne htl (L[i].1.raw L[i].2).time) fun w3 h => ?_
    simp -zeta only [bin_eql, ifB_dec]
    have hidx : ∀ (c c' : Dat) (r : Dat) (σ : List Dat), (σ ++ [c] ++ [r])[σ.length]? = some c ∧ (σ ++ [c] ++ [r]).set σ.length c' = σ ++ [c'] ++ [r] := fun c c' r σ => by simp
    refine ⟨fun hv => ?_, fun hv => hJ u M w3 (by omega) ?_ (h.take (M.length + 1) |> fun h => by simpa using h)⟩
    · simp -zeta only [field_addr f_api_Delta_1, Nat.zero_add, h.ld _ get_last sc_s_api_Value (o := 1) rfl]
      refine h.make (fun B2 own base2 => gslices_Clone_s_api_Value_api_Value (base2 q1) (by omega) (by omega)) fun v' τ w4 hp h => ?_
      subst hp
      have h1 : v'.oneCell' = true := h.oneCell get_last
      refine h.st _ (hidx _ emp _ _).1 sc_s_api_Value (show 1 < 3 by omega) h1 fun w5 h => ?_
      rw [(hidx _ _ _ _).2] at h
      simp -zeta only [h.ldAg _ (hidx _ emp _ _).1 ag_api_Delta rfl]
      have h := h.mid
      refine h.push1 (α := Dlt) 0 rfl (L[i].1.raw ⟨v', h1⟩) sl_s_api_Delta (by decide) (by rw [raws_length]; omega) (by rw [raws_length]; omega) fun u' w6 h => ?_
      refine hJ u' (M ++ [(L[i].1, ⟨v', h1⟩)]) w6 (by simp; omega) ?_ (by simpa [raws, rowEnt] using h)
      have hv : atS t L[i].1.time = ver := hv
      rw [htake, List.filter_append, ← hM, List.filter_cons, if_pos (decide_eq_true hv)]
      simp [dels]
    · have hv : ¬ atS t L[i].1.time = ver := hv
      rw [htake, List.filter_append, ← hM, List.filter_cons, if_neg (by rw [decide_eq_false hv]; decide)]
      simp
  · have : i = L.length := by omega
    subst this
    rw [List.take_of_length_le (by simp [dels])] at hM
    exact k _ _ _ ⟨M, hM, rfl⟩ h
end
end Go.Proofs.Ytmpnniicmmekmaa
