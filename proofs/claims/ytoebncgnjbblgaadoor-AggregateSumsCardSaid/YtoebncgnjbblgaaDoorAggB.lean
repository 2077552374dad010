/-
  Accumulators: a value of a row, put, Add. No condition.
-/
import Derived.Test.YtoebncgnjbblgaaDoorAggA
--@auto
namespace Go.Proofs.YtoebncgnjbblgaaDoor
open Go.RowKit
set_option maxRecDepth 100000

theorem sameBits_V (n : Nat) (a b : Int) (s : ByteArray) : Instr.sameBits (n + 1) (.agg #[.int .i64 a, .int .i64 b, .string s]) (.agg #[.int .i64 a, .int .i64 b, .string s]) = true := by
  simp [Instr.sameBits]
  obtain ⟨d⟩ := s
  show (d == d) = true
  exact beq_self_eq_true d
theorem kV : KeyTy Tryd.prog T_api_Value ValD := KeyTy.agg (fs := Tryd.prog.fieldsOf T_api_Value) (by kernel_rfl) (fun _ => rfl) (by kernel_rfl) (fun x y w => run_eq_api_Value x y w) (fun x => sameBits_V 9999 x.kind x.n x.s)
theorem entry_thereV {x : ValD} {z : Int} {l : List EntV} {c : Nat} : ∃ e ∈ (entryE x z l c).1, e.2.2 = (entryE x z l c).2.2.1 := by
  unfold entryE
  cases hf : findE x l 0 with
  | none => exact ⟨(x, z, c), List.mem_append_right _ (by simp), rfl⟩
  | some q =>
    obtain ⟨h1, _, _⟩ := findE_some (i := q.1) (v := q.2) hf
    refine ⟨l[q.1], List.getElem_mem h1, ?_⟩
    show _ = ((l[q.1]?).map (·.2.2)).getD 0
    rw [List.getElem?_eq_getElem h1]
    rfl
theorem getE_entry {x y : ValD} {l : List EntV} {c : Nat} : (getE x (entryE x 0 l c).1).getD 0 = (getE x l).getD 0 := by
  unfold entryE getE
  cases hf : findE x l 0 with
  | none =>
    have : getE x (l ++ [(x, 0, c)]) = some 0 := by
      rw [getE_append, if_pos rfl]
      unfold getE
      rw [hf]
      rfl
    unfold getE at this
    simp only [this]
    rfl
  | some q => simp [hf]
section
variable {B : Base} {w : World} {σ : List Dat}
theorem at_g {v : Value} {l : List ValD} (r : rowR v l B) (col : Int) : Gives Tryd.prog B (sCall F_aggregate_at #[v, .int .i64 col]) (atS l col).v := by
  refine Gives.intro fun B' w K base h k => ?_
  replace r := base r
  refine aggregate_at.up (aggregate_at.call ?_)
  unfold aggregate_at.pt
  unfold atS at k
  refine h.alloc z_api_Value fun o w1 h => ?_
  rw [bin_lss, ifB_dec]
  refine ⟨fun c => ?_, fun c => ?_⟩
  · rw [if_pos c] at k
    rw [bd_api_Value_]
    refine h.stAll 0 (ds := vZero.cs.toArray) rfl ag_api_Value rfl rfl (fun v hv => Enc.one vZero v hv) fun w2 h => ?_
    rw [rv_ag h 0 rfl ag_api_Value rfl]
    exact k _ _ h
  rw [if_neg c] at k
  simp -zeta only [rowR.len r sl_s_api_Value]
  rw [bin_geq, ifB_dec]
  refine ⟨fun c2 => ?_, fun c2 => ?_⟩
  · rw [List.getElem?_eq_none (by omega)] at k
    rw [bd_api_Value_]
    refine h.stAll 0 (ds := vZero.cs.toArray) rfl ag_api_Value rfl rfl (fun v hv => Enc.one vZero v hv) fun w2 h => ?_
    rw [rv_ag h 0 rfl ag_api_Value rfl]
    exact k _ _ h
  · obtain ⟨i, rfl⟩ : ∃ i : Nat, col = i := ⟨col.toNat, by omega⟩
    have hi : i < l.length := by omega
    rw [Int.toNat_natCast, List.getElem?_eq_getElem hi] at k
    obtain ⟨g, o2, hx, hc⟩ := rowR.idx r sl_s_api_Value (P := Tryd.prog) hi
    have hc : cellsR g o2 l[i].cs B' := hc
    rw [hx, cellsR.ldAg (h.hereB hc) ag_api_Value rfl]
    refine h.stAll 0 (ds := l[i].cs.toArray) rfl ag_api_Value rfl rfl (fun v hv => Enc.one l[i] v hv) fun w2 h => ?_
    rw [rv_ag h 0 rfl ag_api_Value rfl]
    exact k _ _ h
theorem ordered_g (g : AggD) : Gives Tryd.prog B (sCall F_aggregate_ordered #[g.v]) (.bool (ordB g)) := by
  refine Gives.intro fun B' w K base h k => ?_
  refine aggregate_ordered.up (aggregate_ordered.call ?_)
  unfold aggregate_ordered.pt
  refine h.box fun o w1 h => ?_
  have h : Rel B' w1 [cellD o T_api_Agg g.cs.toArray] := h
  unfold ordB at k
  simp -zeta only [field_addr f_api_Agg_0, Nat.zero_add, h.ld 0 rfl sc_int (o := 0) rfl, bin_eql, ifB_dec]
  refine ⟨fun c => ?_, fun c => ?_⟩
  · rw [decide_eq_true c, Bool.true_or] at k; exact k _ _ h
  · rw [decide_eq_false c, Bool.false_or] at k; exact k _ _ h
theorem put_d {m c : Nat} {l : List EntV} (hw : WfE l c) (v : ValD) (n : Int) : Does Tryd.prog B (mapE m l c) (sCall F_aggregate_put #[mapV m, v.v, .int .i64 n]) fun u e' τ => u = .tuple #[] ∧ e' = mapE m (putS (l, c) v n).1 (putS (l, c) v n).2 ∧ τ = [] := by
  refine Does.intro fun B' w K base h k => ?_
  refine aggregate_put.up (aggregate_put.call ?_)
  unfold aggregate_put.pt
  refine h.box fun o w1 h => ?_
  have h : Rel B' (tick w1) [mapE m l c, cellD o T_api_Value v.cs.toArray] := h.tick
  generalize tick w1 = w1 at *
  rw [h.ldAg 1 rfl ag_api_Value rfl]
  rw [h.lookup 0 rfl U_map_api_Value_int kV 0 z_int v]
  rw [show (Enc.val ((getE v l).getD 0) : Value) = .int .i64 ((getE v l).getD 0) from rfl, bin_add]
  refine h.mapEntry 0 rfl U_map_api_Value_int kV 0 z_int v fun w2 h => ?_
  have h : Rel B' w2 [mapE m (entryE v 0 l c).1 (entryE v 0 l c).2.1, cellD o T_api_Value v.cs.toArray] := h
  refine ⟨?_, ?_⟩
  · have := h.lookup (P := Tryd.prog) (T := T_map_api_Value_int) (Kp := fun x => x = .int .i64 ((getE v l).getD 0)) 0 rfl U_map_api_Value_int kV 0 z_int v
    rw [getE_entry (y := v)] at this
    obtain ⟨x, h1, rfl⟩ := this.mpr rfl
    exact h1
  rw [ext_2_1]
  refine h.entryStore 0 rfl entry_thereV (W64 ((getE v l).getD 0 + n)) fun w3 h => ?_
  obtain ⟨es1, es2⟩ := entry_store (x := v) (y := W64 ((getE v l).getD 0 + n)) (z := (0 : Int)) hw
  have h : Rel B' w3 [mapE m (storeE (entryE v 0 l c).2.2.1 (W64 ((getE v l).getD 0 + n)) (entryE v 0 l c).1) (entryE v 0 l c).2.1, cellD o T_api_Value v.cs.toArray] := h
  rw [es1, es2] at h
  rw [h.ldAg 1 rfl ag_api_Value rfl]
  rw [h.lookup 0 rfl U_map_api_Value_int kV 0 z_int v]
  have hg : (getE v (setE v (W64 ((getE v l).getD 0 + n)) l c).1).getD 0 = W64 ((getE v l).getD 0 + n) := by
    rw [setE_get hw.keys, if_pos rfl]
    rfl
  rw [hg, show (Enc.val (W64 ((getE v l).getD 0 + n)) : Value) = .int .i64 (W64 ((getE v l).getD 0 + n)) from rfl, bin_eql, ifB_dec]
  unfold putS at k
  simp only at k
  refine ⟨fun c0 => ?_, fun c0 => ?_⟩
  · rw [if_pos c0] at k
    rw [h.ldAg 1 rfl ag_api_Value rfl]
    refine h.delete 0 rfl U_map_api_Value_int kV v fun w4 h => ?_
    exact k _ _ [] _ ⟨rfl, rfl, rfl⟩ (h.take 1)
  · rw [if_neg c0] at k
    exact k _ _ [] _ ⟨rfl, rfl, rfl⟩ (h.take 1)
end
end Go.Proofs.YtoebncgnjbblgaaDoor
