/-
  The examples of the documentation. No condition.
-/
import Derived.Test.YtoebncgnjbblgaaGreatDoorAgA
import Derived.Test.YtoebncgnjbblgaaGreatDoorValF
--@auto
namespace Go.Proofs.YtoebncgnjbblgaaGreatDoor
open Go.RowKit
set_option maxRecDepth 100000

def agE : List AggD := [⟨0, 0, ⟨#[]⟩⟩, ⟨1, 0, ⟨#[]⟩⟩, ⟨3, 0, ⟨#[]⟩⟩]
def sx1 : ACC := ⟨agE, 2, [0, 10, 0], [none, none, some ([(vInt 5, 2, 0)], 1)]⟩
def sx2 : ACC := ⟨agE, 3, [0, 19, 0], [none, none, some ([(vInt 5, 2, 0), (vInt 9, 1, 1)], 2)]⟩
def sx3 : ACC := ⟨agE, 2, [0, 10, 0], [none, none, some ([(vInt 5, 2, 0)], 2)]⟩
def sx4 : ACC := ⟨agE, 0, [0, 0, 0], [none, none, some ([], 2)]⟩
theorem sx1_eq : addS (newS agE) [vInt 5] 2 = sx1 := by kernel_rfl
theorem sx2_eq : addS sx1 [vInt 9] 1 = sx2 := by kernel_rfl
theorem sx3_eq : addS sx2 [vInt 9] (-1) = sx3 := by kernel_rfl
theorem sx4_eq : addS sx3 [vInt 5] (-2) = sx4 := by kernel_rfl
theorem sortV_nil : sortV [] = [] := by simp [sortV]
theorem sortV_one (a : ValD) : sortV [a] = [a] := by simp [sortV]
theorem sortV_two {a b : ValD} (h : compareV a b ≤ 0) : sortV [a, b] = [a, b] := by
  have o := compareV_ord
  refine List.Perm.eq_of_pairwise (le := fun a b => compareV a b ≤ 0) (fun a b _ _ h1 h2 => ?_) (sortV_sorted [a, b]) (by simp [h]) (List.mergeSort_perm _ _)
  have := o.anti a b
  exact (o.eq a b).1 (by omega)
theorem keys_1 : keysV ([(vInt 5, 2, 0)], 1) = [vInt 5] ∧ keysV ([(vInt 5, 2, 0)], 2) = [vInt 5] := ⟨sortV_one _, sortV_one _⟩
theorem keys_2 : keysV ([(vInt 5, 2, 0), (vInt 9, 1, 1)], 2) = [vInt 5, vInt 9] := sortV_two (by show compareV (vInt 5) (vInt 9) ≤ 0; decide +kernel)
theorem res2 : resultS sx2 = [vInt 3, vInt 19, vInt 9] := by
  have e : bestS ⟨3, 0, ⟨#[]⟩⟩ ([(vInt 5, 2, 0), (vInt 9, 1, 1)], 2) = vInt 9 := by
    have : posV ([(vInt 5, 2, 0), (vInt 9, 1, 1)], 2) = [vInt 5, vInt 9] := by unfold posV; rw [keys_2]; kernel_rfl
    unfold bestS
    rw [this]
    rfl
  show [vInt 3, vInt 19, bestS ⟨3, 0, ⟨#[]⟩⟩ ([(vInt 5, 2, 0), (vInt 9, 1, 1)], 2)] = _
  rw [e]
theorem res3 : resultS sx3 = [vInt 2, vInt 10, vInt 5] := by
  have e : bestS ⟨3, 0, ⟨#[]⟩⟩ ([(vInt 5, 2, 0)], 2) = vInt 5 := by
    have : posV ([(vInt 5, 2, 0)], 2) = [vInt 5] := by unfold posV; rw [keys_1.2]; kernel_rfl
    unfold bestS
    rw [this]
    rfl
  show [vInt 2, vInt 10, bestS ⟨3, 0, ⟨#[]⟩⟩ ([(vInt 5, 2, 0)], 2)] = _
  rw [e]
theorem res4 : resultS sx4 = [vInt 0, vInt 0, vInt 0] := by
  have e : bestS ⟨3, 0, ⟨#[]⟩⟩ ([], 2) = vInt 0 := by
    have : posV ([], 2) = [] := by unfold posV keysV; simp [sortV]
    unfold bestS
    rw [this]
  show [vInt 0, vInt 0, bestS ⟨3, 0, ⟨#[]⟩⟩ ([], 2)] = _
  rw [e]
theorem agE_good : GoodA 0 (newS agE) := newS_good (by decide)
theorem agE_kinds : Kinds agE := by
  intro g hg
  simp only [agE, List.mem_cons, List.not_mem_nil, or_false] at hg
  rcases hg with rfl | rfl | rfl <;> exact ⟨by decide, by decide⟩
theorem gx1 : GoodA 1 sx1 := by rw [← sx1_eq]; exact agE_good.addK _ _ _
theorem gx2 : GoodA 2 sx2 := by rw [← sx2_eq]; exact gx1.addK _ _ _
theorem gx3 : GoodA 3 sx3 := by rw [← sx3_eq]; exact gx2.addK _ _ _
theorem gx4 : GoodA 4 sx4 := by rw [← sx4_eq]; exact gx3.addK _ _ _
section
variable {B : Base} {w : World} {σ : List Dat}
theorem add_row {p N : Nat} {x y : ACC} {v n : Int} (h : Rel B w [accD p x]) (hx : GoodA N x) (hy : addS x [vInt v] n = y) {K : Value → World → Prop} (k : ∀ w', Rel B w' [accD p y] → K (.tuple #[]) w') :
    upK Tryz.prog (sBuildSlice T_s_api_Value 1 #[(0, (vInt v).v)]) w fun t w1 => upK Tryz.prog (sCall F_aggregate_Acc_Add #[ptr p, t, .int .i64 n]) w1 K := by
  refine h.buildN (α := ValD) [vInt v] sl_s_api_Value fun u w1 h => ?_
  refine h.act 0 rfl (fun B2 own base2 => Add_d (rowD.read (own (j := 1) (by decide) rfl)) hx n) fun u2 e' τ w2 hp h => ?_
  obtain ⟨rfl, rfl, rfl⟩ := hp
  rw [hy] at h
  exact k _ (h.take 1)
theorem res_row {p N : Nat} {x : ACC} {a b c : Int} (h : Rel B w [accD p x]) (hx : GoodA N x) (hN : N ≤ 1000000) (hk : Kinds x.aggs) (hr : resultS x = [vInt a, vInt b, vInt c]) {K : Value → World → Prop} (k : ∀ w', Rel B w' [accD p x] → K (.bool true) w') :
    upK Tryz.prog (sCall F_aggregate_Acc_Result #[ptr p]) w fun t w1 => upK Tryz.prog (sBuildSlice T_s_api_Value 3 #[(0, (vInt a).v), (1, (vInt b).v), (2, (vInt c).v)]) w1 fun t2 w2 => upK Tryz.prog (sCall F_errataref03_Same #[t, t2]) w2 K := by
  refine h.make (fun B2 own base2 => Result_m (own (i := 0) rfl) hx hN hk) fun u τ w1 hp h => ?_
  subst hp
  rw [hr] at h
  refine h.buildN (α := ValD) [vInt a, vInt b, vInt c] sl_s_api_Value fun u2 w2 h => ?_
  refine h.ask (fun B2 own base2 => fSame_g (rowD.read (own (i := 1) rfl)) (rowD.read (own (i := 2) rfl)) (show 3 ≤ 9223372036854775807 by omega)) fun w3 h => ?_
  rw [decide_eq_true rfl]
  exact k _ (h.take 1)
theorem small_g : Gives Tryz.prog B (sCall F_erratalaw30_small #[]) (.bool true) := by
  refine Gives.intro fun B' w K base h k => ?_
  refine erratalaw30_small.up (erratalaw30_small.call ?_)
  unfold erratalaw30_small.pt
  simp -zeta only [bd_api_Agg_0, bd_api_Value_1, bd_api_Value_]
  refine h.buildN (α := AggD) agE sl_s_api_Agg fun u w1 h => ?_
  refine h.make (fun B2 own base2 => New_m (rowD.read (own (i := 0) rfl)) (by decide)) fun u2 τ w2 hp h => ?_
  obtain ⟨p, rfl, rfl⟩ := hp
  have h : Rel B' w2 [accD p (newS agE)] := h.pick [1] (by decide)
  rw [bin_eql_ptr_nil U_p_aggregate_Acc, ifB_false]
  refine add_row h agE_good sx1_eq fun w3 h => ?_
  refine add_row h gx1 sx2_eq fun w4 h => ?_
  refine res_row h gx2 (by decide) agE_kinds res2 fun w5 h => ?_
  refine add_row h gx2 sx3_eq fun w6 h => ?_
  refine res_row h gx3 (by decide) agE_kinds res3 fun w7 h => ?_
  rw [ifB_true]
  refine h.ask (fun B2 own base2 => Rows_g (own (i := 0) rfl) gx3 (by decide)) fun w8 h => ?_
  rw [bin_eql, ifB_dec]
  refine ⟨fun _ => ?_, fun hh => absurd rfl hh⟩
  refine h.ask (fun B2 own base2 => Empty_g (own (i := 0) rfl) gx3 (by decide)) fun w9 h => ?_
  rw [un_not]
  refine add_row h gx3 sx4_eq fun w10 h => ?_
  rw [ifB_true, show emptyS sx3 = false from rfl, Bool.not_false, ifB_true]
  refine res_row (a := 0) (b := 0) (c := 0) h gx4 (by decide) agE_kinds res4 fun w11 h => ?_
  rw [ifB_true]
  refine h.ask (fun B2 own base2 => Empty_g (own (i := 0) rfl) gx4 (by decide)) fun w12 h => ?_
  rw [show emptyS sx4 = true from rfl]
  exact k _ _ h
end
end Go.Proofs.YtoebncgnjbblgaaGreatDoor
