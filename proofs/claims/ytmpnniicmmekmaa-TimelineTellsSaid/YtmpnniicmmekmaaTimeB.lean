/-
  timeline.Right of any list. No condition.
-/
import Derived.Test.YtmpnniicmmekmaaTimeA
namespace Go.Proofs.Ytmpnniicmmekmaa
open Go.RowKit

def Link (t : List Seg) (q : Nat) (hq : q < t.length) : Prop :=
  (t[q].from_ ≤ 1099511627776 ∧ 1 ≤ t[q].version ∧ t[q].version ≤ 50) ∧ (0 < q → (t[q - 1]'(by omega)).from_ < t[q].from_ ∧ t[q].version ≠ (t[q - 1]'(by omega)).version)

theorem TInv.of {t : List Seg} (hne : t ≠ []) (h0 : ∀ h : 0 < t.length, t[0].from_ = 0) (hp : ∀ q (hq : q < t.length), Link t q hq) : TInv t := by
  refine ⟨hne, h0, fun s hs => ?_, ?_, fun i hi e => ?_⟩
  · obtain ⟨q, hq, rfl⟩ := List.getElem_of_mem hs
    exact (hp q hq).1
  · refine List.pairwise_iff_getElem.2 fun i j hi hj hij => ?_
    induction j with
    | zero => omega
    | succ j ih =>
      have h1 := ((hp (j + 1) hj).2 (by omega)).1
      have h1 : (t[j]'(by omega)).from_ < t[j + 1].from_ := h1
      by_cases e : i = j
      · subst e; exact h1
      · exact Int.lt_trans (ih (by omega) (by omega)) h1
  · exact ((hp (i + 1) hi).2 (by omega)).2 e.symm

theorem TInv.link {t : List Seg} (h : TInv t) (q : Nat) (hq : q < t.length) : Link t q hq := by
  refine ⟨h.each _ (List.getElem_mem hq), fun hp => ⟨List.pairwise_iff_getElem.1 h.sorted (q - 1) q (by omega) hq (by omega), fun e => ?_⟩⟩
  refine h.differ (q - 1) (by omega) ?_
  rw [← e]
  congr 2
  omega

open Classical in
noncomputable def rightT (t : List Seg) : Bool := decide (TInv t)
theorem rightT_true {t : List Seg} : rightT t = true ↔ TInv t := by by_cases h : TInv t <;> simp [rightT, h]
theorem rightT_no {t : List Seg} (h : ¬ TInv t) : rightT t = false := by simp [rightT, h]
theorem rightT_yes {t : List Seg} (h : TInv t) : rightT t = true := rightT_true.2 h

section
variable {B : Base}
theorem Right_g {v : Value} {t : List Seg} (r : rowR v t B) (hl : t.length ≤ 1000000000) : Gives Try.prog B (sCall F_timeline_Right #[v]) (.bool (rightT t)) := by
  refine Gives.intro fun B' w K base h k => ?_
  replace r := base r
  refine timeline_Right.up (timeline_Right.call ?_)
  unfold timeline_Right.pt
  simp -zeta only [rowR.len r sl_s_api_Seg, bin_eql, ifB_dec]
  have no : ∀ w', Rel B' w' [] → ¬ TInv t → K (.bool false) w' := fun w' h hn => by
    rw [rightT_no hn] at k
    exact k _ _ h
  refine ⟨fun h0 => no _ h fun hi => hi.some_ (List.eq_nil_of_length_eq_zero (by omega)), fun h0 => ?_⟩
  have hlen : 0 < t.length := by omega
  obtain ⟨g, o, hx, hc⟩ := rowR.idx r sl_s_api_Seg (P := Try.prog) hlen
  have hx : ∀ {Kp : Value → Prop}, pureK Try.prog (sIdxAddr T_s_api_Seg v (.int .i64 0)) Kp = Kp _ := hx
  simp -zeta only [hx, field_addr f_api_Seg_0, Nat.add_zero, cellsR.ld0 (h.hereB hc) sc_int rfl, bin_neq, ifB_not, ifB_dec]
  refine ⟨fun hz => ?_, fun hz => no _ h fun hi => hz (hi.zero hlen)⟩
  refine LOOP_intro (fun x w' => ∃ i : Nat, i ≤ t.length ∧ x = (.int .i64 i, ()) ∧ (∀ q (hq : q < t.length), q < i → Link t q hq) ∧ Rel B' w' []) (fun x _ => t.length - (match x.1 with | .int _ n => n.toNat | _ => 0))
    ⟨0, Nat.zero_le _, rfl, fun q _ hq => absurd hq (Nat.not_lt_zero q), h⟩ ?_
  clear h
  rintro x w1 ⟨i, hil, rfl, hlk, h⟩ next hnext
  simp -zeta only [bin_lss, ifB_dec]
  refine ⟨fun hlt => ?_, fun hge => ?_⟩
  · have hi' : i < t.length := by omega
    refine LETJ_intro fun J hJ => ?_
    replace hJ : ∀ w', Link t i hi' → Rel B' w' [] → J () w' := by
      intro w' hl h
      refine hJ _ _ ?_
      rw [bin_add, wrap_id (by omega) (by omega)]
      refine hnext _ _ ⟨i + 1, by omega, rfl, fun q hq hqi => ?_, h⟩ (by simp only; omega)
      by_cases e : q = i
      · subst e; exact hl
      · exact hlk q hq (by omega)
    clear hnext
    have no : ∀ w', Rel B' w' [] → ¬ Link t i hi' → K (.bool false) w' := fun w' h hn => no w' h fun ht => hn (ht.link i hi')
    obtain ⟨g, o, hx, hc⟩ := rowR.idx r sl_s_api_Seg hi'
    simp -zeta only [hx, cellsR.ldAg (h.hereB hc) ag_api_Seg rfl]
    refine h.allocAg (ds := t[i].cs.toArray) z_api_Seg rfl ag_api_Seg rfl (fun v hv => Enc.one t[i] v hv) fun b w2 h => ?_
    have h : Rel B' w2 [cellD b T_api_Seg t[i].cs.toArray] := h
    simp -zeta only [field_addr f_api_Seg_0, field_addr f_api_Seg_1, Nat.add_zero, Nat.zero_add, h.ld 0 rfl sc_int (o := 0) rfl, h.ld 0 rfl sc_int (o := 1) rfl, bin_gtr, bin_lss, ifB_dec]
    refine ⟨fun hh => no _ h.nil fun hl => absurd hl.1.1 (by omega), fun h1 => ⟨fun hh => no _ h.nil fun hl => absurd hl.1.2.1 (by omega), fun h2 => ⟨fun hh => no _ h.nil fun hl => absurd hl.1.2.2 (by omega), fun h3 => ⟨fun hp => ?_, fun hp => hJ _ ⟨⟨by omega, by omega, by omega⟩, fun hq => absurd hq (by omega)⟩ h.tick.nil⟩⟩⟩⟩
    have hp' : 0 < i := by omega
    obtain ⟨g2, o2, hx2, hc2⟩ := rowR.idx r sl_s_api_Seg (i := i - 1) (by omega)
    have hw : IntKind.i64.wrap ((i : Int) - 1) = ((i - 1 : Nat) : Int) := by rw [wrap_id (by omega) (by omega)]; omega
    have h := h.tick
    simp -zeta only [h.ld 0 rfl sc_int (o := 0) rfl, h.ld 0 rfl sc_int (o := 1) rfl, bin_sub, hw, hx2, field_addr f_api_Seg_0, field_addr f_api_Seg_1, Nat.add_zero, cellsR.ld0 (h.hereB hc2) sc_int rfl, cellsR.ld (h.hereB hc2) sc_int (j := 1) rfl,
      bin_leq, bin_eql, ifB_dec]
    exact ⟨fun hh => no _ h.nil fun hl => absurd (hl.2 hp').1 (by omega), fun h4 => ⟨fun hh => no _ h.nil fun hl => (hl.2 hp').2 hh, fun h5 => hJ _ ⟨⟨by omega, by omega, by omega⟩, fun _ => ⟨by omega, h5⟩⟩ h.nil⟩⟩
  · have : TInv t := TInv.of (fun e => by rw [e] at hlen; simp at hlen) (fun _ => hz) fun q hq => hlk q hq (by omega)
    rw [rightT_yes this] at k
    exact k _ _ h
end
end Go.Proofs.Ytmpnniicmmekmaa
