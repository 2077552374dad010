/-
  Contracts: comparing rows and deltas with the same content. No condition.
-/
import Derived.Test.YtmpnniicmmekmaaTimeI
namespace Go.Proofs.Ytmpnniicmmekmaa
open Go.RowKit

theorem bytesLess_self (l : List UInt8) : Op.bytesLess l l = false := by
  induction l with
  | nil => rfl
  | cons a l ih => simp [Op.bytesLess, ih]
theorem str_lss_self {P : Program} {Kp : Value → Prop} {T : TypeId} {xo yo : Operand} {a : ByteArray} : pureK P (sBin .lss T xo yo (.string a) (.string a)) Kp = Kp (.bool false) := by rw [str_lss, bytesLess_self]
theorem str_gtr_self {P : Program} {Kp : Value → Prop} {T : TypeId} {xo yo : Operand} {a : ByteArray} : pureK P (sBin .gtr T xo yo (.string a) (.string a)) Kp = Kp (.bool false) := by
  have : pureK P (sBin .gtr T xo yo (.string a) (.string a)) Kp = Kp (.bool !(Op.bytesLess a.toList a.toList || a.toList == a.toList)) := pureK_eq fun w => rfl
  rw [this, bytesLess_self]
  simp

section
variable {B : Base}
theorem Compare_g (x : Val) : Gives Try.prog B (sCall F_errataref03_Compare #[x.v, x.v]) (.int .i64 0) := by
  refine Gives.intro fun B' w K base h k => ?_
  refine errataref03_Compare.up (errataref03_Compare.call ?_)
  unfold errataref03_Compare.pt
  have e1 : (x.v : Value).cells = x.cs.toArray := Enc.cells_val x
  refine h.box fun b w1 h => ?_
  refine h.box fun b2 w2 h => ?_
  replace h : Rel B' w2 [cellD b T_api_Value x.cs.toArray, cellD b2 T_api_Value x.cs.toArray] := by rw [← e1]; exact h
  have n : ∀ y : Int, decide (y < y) = false := fun y => decide_eq_false (Int.lt_irrefl y)
  simp -zeta only [field_addr f_api_Value_0, field_addr f_api_Value_1, field_addr f_api_Value_2, Nat.add_zero, Nat.zero_add, h.ld 0 rfl sc_int (o := 0) rfl, h.ld 1 rfl sc_int (o := 0) rfl, h.ld 0 rfl sc_int (o := 1) rfl, h.ld 1 rfl sc_int (o := 1) rfl,
    h.ld 0 rfl sc_string (o := 2) rfl, h.ld 1 rfl sc_string (o := 2) rfl, bin_lss, bin_gtr, n, ifB_false, str_lss_self, str_gtr_self]
  exact k _ _ h

theorem CompareRows_g {va vb : Value} {row : List Val} (ra : rowR va row B) (rb : rowR vb row B) (hl : row.length ≤ 1000000000) : Gives Try.prog B (sCall F_errataref03_CompareRows #[va, vb]) (.int .i64 0) := by
  refine Gives.intro fun B' w K base h k => ?_
  replace ra := base ra
  replace rb := base rb
  refine errataref03_CompareRows.up (errataref03_CompareRows.call ?_)
  unfold errataref03_CompareRows.pt
  have n : decide ((row.length : Int) < row.length) = false := decide_eq_false (Int.lt_irrefl _)
  refine LETJ_intro fun J hJ => ?_
  replace hJ : ∀ w', Rel B' w' [] → J () w' := by
    intro w' h
    refine hJ _ _ ?_
    simp -zeta only [rowR.len ra sl_s_api_Value, rowR.len rb sl_s_api_Value, bin_lss, bin_gtr, n, ifB_false]
    exact k _ _ h
  refine LOOP_intro (fun x w' => ∃ i : Nat, i ≤ row.length ∧ x = (.int .i64 i, ()) ∧ Rel B' w' []) (fun x _ => row.length - (match x.1 with | .int _ n => n.toNat | _ => 0))
    ⟨0, Nat.zero_le _, rfl, h⟩ ?_
  clear h
  rintro x w1 ⟨i, hil, rfl, h⟩ next hnext
  simp -zeta only [rowR.len ra sl_s_api_Value, rowR.len rb sl_s_api_Value, bin_lss, ifB_dec]
  refine ⟨fun hlt => ⟨fun _ => ?_, fun hh => absurd hlt hh⟩, fun _ => hJ _ h⟩
  have hi' : i < row.length := by omega
  have h := h.tick
  obtain ⟨g, o, hx, hc⟩ := rowR.idx ra sl_s_api_Value (P := Try.prog) hi'
  obtain ⟨g2, o2, hx2, hc2⟩ := rowR.idx rb sl_s_api_Value (P := Try.prog) hi'
  have hc : cellsR g o row[i].cs B' := hc
  have hc2 : cellsR g2 o2 row[i].cs B' := hc2
  simp -zeta only [hx, hx2, cellsR.ldAg (h.hereB hc) ag_api_Value rfl, cellsR.ldAg (h.hereB hc2) ag_api_Value rfl]
  refine h.ask (fun B2 own base2 => Compare_g row[i]) fun w2 h => ?_
  simp -zeta only [bin_neq, decide_true, Bool.not_true, ifB_false, bin_add]
  rw [wrap_id (by omega) (by omega)]
  exact hnext _ _ ⟨i + 1, by omega, rfl, h⟩ (by simp only; omega)

theorem Same03_g {va vb : Value} {row : List Val} (ra : rowR va row B) (rb : rowR vb row B) (hl : row.length ≤ 1000000000) : Gives Try.prog B (sCall F_errataref03_Same #[va, vb]) (.bool true) := by
  refine Gives.intro fun B' w K base h k => ?_
  replace ra := base ra
  replace rb := base rb
  refine errataref03_Same.up (errataref03_Same.call ?_)
  unfold errataref03_Same.pt
  refine h.ask (fun B2 own base2 => CompareRows_g (base2 ra) (base2 rb) hl) fun w2 h => ?_
  simp -zeta only [bin_eql, decide_true]
  exact k _ _ h
end

/-! ### Deltas, their rows told as lists -/
structure Del where
  time : Int
  row : List Val
  n : Int
def Del.raw (e : Del) (v : SV) : Dlt := ⟨e.time, v, e.n⟩
abbrev DelL := List (Del × SV)
def raws (L : DelL) : List Dlt := L.map fun p => p.1.raw p.2
def dels (L : DelL) : List Del := L.map (·.1)
def rowsR (L : DelL) : Dat := Dat.all L fun p => rowR p.2.1 p.1.row
def rowEnt (p : Del × SV) : Dat := rowD T_api_Value p.2.1 p.1.row
theorem raws_length (L : DelL) : (raws L).length = L.length := by simp [raws]

section
variable {B : Base}
theorem SameDeltas_g {va vb : Value} {L M : DelL} (ra : rowR va (raws L) B) (qa : rowsR L B) (rb : rowR vb (raws M) B) (qb : rowsR M B) (e : dels L = dels M) (hl : L.length ≤ 1000000000) (hr : ∀ p ∈ L, p.1.row.length ≤ 1000000000) :
    Gives Try.prog B (sCall F_errataref45_SameDeltas #[va, vb]) (.bool true) := by
  refine Gives.intro fun B' w K base h k => ?_
  replace ra := base ra
  replace rb := base rb
  replace qa := base qa
  replace qb := base qb
  refine errataref45_SameDeltas.up (errataref45_SameDeltas.call ?_)
  unfold errataref45_SameDeltas.pt
  have hlen : L.length = M.length := by have := congrArg List.length e; simpa [dels] using this
  have h1 : ((raws L).length : Int) = (raws M).length := by rw [raws_length, raws_length, hlen]
  simp -zeta only [rowR.len ra sl_s_api_Delta, rowR.len rb sl_s_api_Delta, bin_neq, decide_eq_true h1, Bool.not_true, ifB_false]
  refine LOOP_intro (fun x w' => ∃ i : Nat, i ≤ L.length ∧ x = (.int .i64 i, ()) ∧ Rel B' w' []) (fun x _ => L.length - (match x.1 with | .int _ n => n.toNat | _ => 0))
    ⟨0, Nat.zero_le _, rfl, h⟩ ?_
  clear h
  rintro x w1 ⟨i, hil, rfl, h⟩ next hnext
  simp -zeta only [bin_lss, ifB_dec]
  rw [raws_length]
  refine ⟨fun hlt => ?_, fun _ => k _ _ h⟩
  have hi : i < L.length := by omega
  have hi2 : i < M.length := by omega
  have h := h.tick
  obtain ⟨g, o, hx, hc⟩ := rowR.idx ra sl_s_api_Delta (P := Try.prog) (i := i) (by rw [raws_length]; exact hi)
  obtain ⟨g2, o2, hx2, hc2⟩ := rowR.idx rb sl_s_api_Delta (P := Try.prog) (i := i) (by rw [raws_length]; exact hi2)
  have e1 : (raws L)[i]'(by rw [raws_length]; exact hi) = L[i].1.raw L[i].2 := by simp [raws]
  have e2 : (raws M)[i]'(by rw [raws_length]; exact hi2) = M[i].1.raw M[i].2 := by simp [raws]
  rw [e1] at hc
  rw [e2] at hc2
  have ed : L[i].1 = M[i].1 := by
    have h1 : (dels L)[i]? = (dels M)[i]? := by rw [e]
    simpa [dels, hi, hi2] using h1
  have q1 := qa L[i] (List.getElem_mem hi)
  have q2 : rowR M[i].2.1 M[i].1.row B' := qb M[i] (List.getElem_mem hi2)
  have hrow := hr L[i] (List.getElem_mem hi)
  rw [← ed] at hc2 q2
  have t1 : decide ((L[i].1.raw L[i].2).time = (L[i].1.raw M[i].2).time) = true := decide_eq_true rfl
  have t2 : decide ((L[i].1.raw L[i].2).n = (L[i].1.raw M[i].2).n) = true := decide_eq_true rfl
  simp -zeta only [hx, hx2, t1, t2, field_addr f_api_Delta_0, field_addr f_api_Delta_1, field_addr f_api_Delta_2, Nat.add_zero, cellsR.ld0 (h.hereB hc) sc_int rfl, cellsR.ld0 (h.hereB hc2) sc_int rfl, cellsR.ld (h.hereB hc) sc_int (j := 2) rfl, cellsR.ld (h.hereB hc2) sc_int (j := 2) rfl,
    cellsR.ld (h.hereB hc) sc_s_api_Value (j := 1) rfl, cellsR.ld (h.hereB hc2) sc_s_api_Value (j := 1) rfl, bin_neq, decide_true, Bool.not_true, ifB_false]
  refine h.ask (fun B2 own base2 => Same03_g (base2 q1) (base2 q2) hrow) fun w2 h => ?_
  simp -zeta only [un_not, Bool.not_true, ifB_false, bin_add]
  rw [wrap_id (by omega) (by omega)]
  exact hnext _ _ ⟨i + 1, by omega, rfl, h⟩ (by simp only; omega)
end
end Go.Proofs.Ytmpnniicmmekmaa
