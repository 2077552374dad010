/-
  Accumulators: Result, Rows, Empty. No condition.
-/
import Derived.Test.YtoebncgnjbblgaaDoorAggE
--@auto
namespace Go.Proofs.YtoebncgnjbblgaaDoor
open Go.RowKit
set_option maxRecDepth 100000

theorem len_nilmap {P : Program} {T k E : TypeId} {w : World} {Kp : Value → Prop} (hT : P.underlying T = some (.map k E)) {U : TypeId} {bs : Array Bool} : readK P (sBlt .len #[T] U bs #[.map none]) w Kp = Kp (.int .i64 0) := readK_eq (vN_run (by
  simp [Builtin.len_, run_underlying hT, goInt]))
theorem len_mapE {P : Program} {T k E : TypeId} {w : World} {Kp : Value → Prop} {m c : Nat} {l : List EntV} (h : (mapE m l c).here w) (hT : P.underlying T = some (.map k E)) {U : TypeId} {bs : Array Bool} : readK P (sBlt .len #[T] U bs #[.map (some m)]) w Kp = Kp (.int .i64 l.length) := readK_eq (vN_run (by
  have hb : w.heap[m]? = some (.map (l.map entV).toArray c) := h.2
  have hg := run_getObj (P := P) hb (by intro a b f h; cases h)
  simp [Builtin.len_, run_underlying hT, hg, goInt]))
theorem resAt_bound {x : ACC} : (resultS x).length = x.aggs.length := by simp [resultS]
theorem rows_take {N : Nat} {x : ACC} (hx : GoodA N x) (i : Nat) : ((x.bags.take i).map rowsAt).sum ≤ i * N := by
  induction i with
  | zero => simp
  | succ i ih =>
    by_cases hi : i < x.bags.length
    · rw [List.take_succ_eq_append_getElem hi, List.map_append, List.sum_append, Nat.add_mul, Nat.one_mul]
      have : rowsAt x.bags[i] ≤ N := by
        cases hb : x.bags[i] with
        | none => exact Nat.zero_le _
        | some b => exact (hx.wf i b (by rw [List.getElem?_eq_getElem hi, hb])).2
      simp only [List.map_cons, List.map_nil, List.sum_cons, List.sum_nil, Nat.add_zero]
      omega
    · rw [List.take_of_length_le (by omega)]
      rw [List.take_of_length_le (by omega)] at ih
      rw [Nat.add_mul]
      omega
section
variable {B : Base} {w : World} {σ : List Dat} {p N : Nat} {x : ACC}
theorem Result_m (a : accD p x B) (hx : GoodA N x) (hN : N ≤ 1000000) (hk : Kinds x.aggs) : Makes Tryd.prog B (sCall F_aggregate_Acc_Result #[ptr p]) fun u τ => τ = [rowD T_api_Value u (resultS x)] := by
  refine Makes.intro fun B' w K base h k => ?_
  replace a := base a
  refine aggregate_Acc_Result.up (aggregate_Acc_Result.call ?_)
  unfold aggregate_Acc_Result.pt
  obtain ⟨⟨⟨av, hav⟩, ⟨sv, hsv⟩, ⟨bv, hbv⟩, ms⟩, hms, hr⟩ := accD.read a
  have c0 : cellD p T_aggregate_Acc #[av, .int .i64 x.count, sv, bv] B' := hr 0 _ rfl
  have c1 : rowD T_api_Agg av x.aggs B' := hr 1 _ rfl
  have c2 : rowD T_int sv x.sums B' := hr 2 _ rfl
  have hfew := hx.few
  simp -zeta only [nil_ptr, field_addr f_aggregate_Acc_0, field_addr f_aggregate_Acc_1, field_addr f_aggregate_Acc_2, Nat.zero_add]
  rw [cellD.ld (h.hereB c0) sc_s_api_Agg (o := 0) (v := av) rfl, rowR.len (rowD.read c1) sl_s_api_Agg]
  have h := h.addNil ValD T_api_Value
  refine LOOP_intro (fun y w' => ∃ (i : Nat) (u : Value), i ≤ x.aggs.length ∧ y = (u, .int .i64 i, ()) ∧ Rel B' w' [rowD T_api_Value u ((List.range i).map (resAt x))])
    (fun y _ => x.aggs.length - (match y.2.1 with | .int _ n => n.toNat | _ => 0)) ⟨0, .slice none 0 0, Nat.zero_le _, rfl, h⟩ ?_
  clear h
  rintro y w1 ⟨i, u, hi, rfl, h⟩ next hnext
  simp -zeta only [bin_lss, ifB_dec]
  refine ⟨fun hlt => ?_, fun hge => ?_⟩
  case refine_2 =>
    have : i = x.aggs.length := by omega
    subst this
    exact k _ _ _ rfl h
  have hil : i < x.aggs.length := by omega
  refine LETJ_intro fun J hJ => ?_
  replace hJ : ∀ (w' : World) (u' : Value), Rel B' w' [rowD T_api_Value u' ((List.range i).map (resAt x) ++ [resAt x i])] → J (u', ()) w' := by
    intro w' u' h
    refine hJ _ _ ?_
    show pureK _ _ _
    rw [bin_add, wrap_id (by omega) (by omega)]
    have e : (List.range i).map (resAt x) ++ [resAt x i] = (List.range (i + 1)).map (resAt x) := by rw [List.range_succ, List.map_append]; rfl
    rw [e] at h
    exact hnext _ _ ⟨i + 1, u', hil, rfl, h⟩ (by simp only; omega)
  clear hnext k
  obtain ⟨g, o, hix, hc⟩ := rowR.idx (P := Tryd.prog) (rowD.read c1) sl_s_api_Agg hil
  have hig : x.aggs[i]? = some x.aggs[i] := List.getElem?_eq_getElem hil
  have hkg := hk _ (List.getElem_mem hil)
  have hc : cellsR g o x.aggs[i].cs B' := hc
  rw [hix, cellsR.ldAg (h.hereB hc) ag_api_Agg rfl]
  have hres : resAt x i = (if x.aggs[i].kind = 0 then vInt x.count else if x.aggs[i].kind = 1 then vInt ((x.sums[i]?).getD 0) else match x.bags[i]? with
    | some (some b) => bestS x.aggs[i] b
    | _ => vInt 0) := by
    unfold resAt
    rw [hig]
    rfl
  generalize hG : x.aggs[i] = G at *
  refine h.allocAg (ds := G.cs.toArray) z_api_Agg rfl ag_api_Agg rfl (fun v hv => Enc.one G v hv) fun a1 w2 h => ?_
  have hlr : ((List.range i).map (resAt x)).length = i := by simp
  have push : ∀ (w' : World) (z : ValD), resAt x i = z → Rel B' w' ([rowD T_api_Value u ((List.range i).map (resAt x))] ++ [cellD a1 T_api_Agg G.cs.toArray]) → upK Tryd.prog (sBuildSlice T_s_api_Value 1 #[(0, z.v)]) w' fun t32 w6 => upK Tryd.prog (sBlt .append #[T_s_api_Value, T_s_api_Value] T_s_api_Value #[false, false] #[u, t32]) w6 fun t33 w7 => J (t33, ()) w7 := by
    intro w' z hz h
    refine h.push1 (α := ValD) 0 rfl z sl_s_api_Value (by decide) (by omega) (by omega) fun v' w2 h => hJ w2 v' ?_
    rw [hz]
    exact h.take 1
  rw [field_addr f_api_Agg_0, Nat.zero_add, h.ld 1 rfl sc_int (o := 0) (v := .int .i64 G.kind) rfl, bin_eql, ifB_dec]
  refine ⟨fun e0 => ?_, fun e0 => ?_⟩
  · rw [if_pos e0] at hres
    rw [cellD.ld (h.hereB c0) sc_int (o := 1) (v := .int .i64 x.count) rfl]
    refine h.ask (fun B2 own base2 => vInt_g _) fun w3 h => ?_
    exact push _ _ hres h
  rw [if_neg e0] at hres
  rw [bin_eql, ifB_dec]
  refine ⟨fun e1 => ?_, fun e1 => ?_⟩
  · rw [if_pos e1] at hres
    have hsl : i < x.sums.length := by rw [hx.sums]; exact hil
    rw [List.getElem?_eq_getElem hsl] at hres
    rw [cellD.ld (h.hereB c0) sc_s_int (o := 2) (v := sv) rfl]
    obtain ⟨g3, o3, hix, hc⟩ := rowR.idx (P := Tryd.prog) (rowD.read c2) sl_s_int hsl
    rw [hix, cellsR.ld0 (h.hereB hc) sc_int (v := .int .i64 x.sums[i]) rfl]
    refine h.ask (fun B2 own base2 => vInt_g _) fun w3 h => ?_
    exact push _ _ hres h
  · rw [if_neg e1] at hres
    have hbl : i < x.bags.length := by rw [hx.bags]; exact hil
    obtain ⟨b0, hb0⟩ : ∃ b0, x.bags[i]? = some b0 := ⟨_, List.getElem?_eq_getElem hbl⟩
    have hso := hx.ord i G b0 hig hb0
    have ho : ordB G = true := by
      unfold ordB
      rw [Bool.or_eq_true, decide_eq_true_eq, decide_eq_true_eq]
      omega
    rw [ho] at hso
    obtain ⟨b, rfl⟩ := Option.isSome_iff_exists.1 hso
    rw [hb0] at hres
    refine h.ask (fun B2 own base2 => best_g (base2 a) hx hN hb0 hig) fun w3 h => ?_
    exact push _ _ hres h
theorem Rows_g (a : accD p x B) (hx : GoodA N x) (hN : N ≤ 1000000) : Gives Tryd.prog B (sCall F_aggregate_Acc_Rows #[ptr p]) (.int .i64 (rowsS x)) := by
  refine Gives.intro fun B' w K base h k => ?_
  replace a := base a
  refine aggregate_Acc_Rows.up (aggregate_Acc_Rows.call ?_)
  unfold aggregate_Acc_Rows.pt
  obtain ⟨⟨⟨av, hav⟩, ⟨sv, hsv⟩, ⟨bv, hbv⟩, ms⟩, hms, hr⟩ := accD.read a
  have c0 : cellD p T_aggregate_Acc #[av, .int .i64 x.count, sv, bv] B' := hr 0 _ rfl
  have c3 : rowD T_map_api_Value_int bv ms B' := hr 3 _ rfl
  have c4 : bagsD ms x.bags B' := hr 4 _ rfl
  have hms : ms.length = x.bags.length := hms
  have hfew := hx.few
  have hbags := hx.bags
  simp -zeta only [nil_ptr, field_addr f_aggregate_Acc_3, Nat.zero_add]
  rw [cellD.ld (h.hereB c0) sc_s_map_api_Value_int (o := 3) (v := bv) rfl, rowR.len (rowD.read c3) sl_s_map_api_Value_int]
  refine LOOP_intro (fun y w' => ∃ i : Nat, i ≤ ms.length ∧ y = (.int .i64 (((x.bags.take i).map rowsAt).sum : Nat), .int .i64 i, ()) ∧ Rel B' w' [])
    (fun y _ => ms.length - (match y.2.1 with | .int _ n => n.toNat | _ => 0)) ⟨0, Nat.zero_le _, rfl, h⟩ ?_
  clear h
  rintro y w1 ⟨i, hi, rfl, h⟩ next hnext
  simp -zeta only [bin_lss, ifB_dec]
  refine ⟨fun hlt => ?_, fun hge => ?_⟩
  case refine_2 =>
    have e : i = x.bags.length := by omega
    subst e
    rw [List.take_length]
    exact k _ _ h
  have hil : i < ms.length := by omega
  have hbl : i < x.bags.length := by omega
  obtain ⟨g3, o3, hix, hc⟩ := rowR.idx (P := Tryd.prog) (rowD.read c3) sl_s_map_api_Value_int hil
  have hsum : ((x.bags.take (i + 1)).map rowsAt).sum = ((x.bags.take i).map rowsAt).sum + rowsAt x.bags[i] := by
    rw [List.take_succ_eq_append_getElem hbl, List.map_append, List.sum_append]
    simp
  have hle := rows_take hx (i + 1)
  have hle2 : (i + 1) * N ≤ 1001 * 1000000 := Nat.mul_le_mul (by omega) hN
  have hd : bagD ms[i] x.bags[i] B' := starL.get c4 (j := i) (by rw [List.getElem?_zipWith, List.getElem?_eq_getElem hil, List.getElem?_eq_getElem hbl])
  rw [hix, cellsR.ld0 (h.hereB hc) sc_map_api_Value_int (v := .map ms[i].p) rfl]
  have hlen : ∀ Kp : Value → Prop, readK Tryd.prog (sBlt .len #[T_map_api_Value_int] T_int #[false] #[.map ms[i].p]) w1 Kp = Kp (.int .i64 (rowsAt x.bags[i])) := by
    intro Kp
    generalize ms[i] = M at hd
    generalize x.bags[i] = bo at hd
    obtain ⟨m⟩ := M
    cases m with
    | none =>
      cases bo with
      | none => exact len_nilmap U_map_api_Value_int
      | some b => exact hd.elim
    | some m =>
      cases bo with
      | none => exact hd.elim
      | some b =>
        have hd : mapE m b.1 b.2 B' := hd
        exact len_mapE (h.hereB hd) U_map_api_Value_int
  rw [hlen, bin_add, wrap_id (by omega) (by omega), bin_add, wrap_id (by omega) (by omega)]
  refine hnext _ _ ⟨i + 1, hil, ?_, h⟩ (by simp only; omega)
  rw [hsum]
  simp
theorem empty1_g (n : Int) : Gives Tryd.prog B (sCallV (.func (.func F_aggregate_Acc_Empty_1) #[] #[]) #[.int .i64 n]) (.bool (decide (n ≠ 0))) := by
  refine Gives.intro fun B' w K base h k => ?_
  refine call_v ?_
  show upK Tryd.prog (sCall F_aggregate_Acc_Empty_1 #[.int .i64 n]) w K
  refine aggregate_Acc_Empty_1.up (aggregate_Acc_Empty_1.call ?_)
  unfold aggregate_Acc_Empty_1.pt
  rw [bin_neq]
  simpa using k _ _ h
theorem Empty_g (a : accD p x B) (hx : GoodA N x) (hN : N ≤ 1000000) : Gives Tryd.prog B (sCall F_aggregate_Acc_Empty #[ptr p]) (.bool (emptyS x)) := by
  refine Gives.intro fun B' w K base h k => ?_
  replace a := base a
  refine aggregate_Acc_Empty.up (aggregate_Acc_Empty.call ?_)
  unfold aggregate_Acc_Empty.pt
  obtain ⟨⟨⟨av, hav⟩, ⟨sv, hsv⟩, ⟨bv, hbv⟩, ms⟩, hms, hr⟩ := accD.read a
  have c0 : cellD p T_aggregate_Acc #[av, .int .i64 x.count, sv, bv] B' := hr 0 _ rfl
  have c2 : rowD T_int sv x.sums B' := hr 2 _ rfl
  simp -zeta only [nil_ptr, field_addr f_aggregate_Acc_1, field_addr f_aggregate_Acc_2, Nat.zero_add]
  unfold emptyS at k
  rw [cellD.ld (h.hereB c0) sc_int (o := 1) (v := .int .i64 x.count) rfl, bin_eql, ifB_dec]
  refine ⟨fun e0 => ?_, fun e0 => ?_⟩
  case refine_2 =>
    rw [decide_eq_false e0, Bool.false_and] at k
    exact k _ _ h
  rw [decide_eq_true e0, Bool.true_and] at k
  refine h.ask (fun B2 own base2 => Rows_g (base2 a) hx hN) fun w1 h => ?_
  rw [bin_eql, ifB_dec]
  refine ⟨fun e1 => ?_, fun e1 => ?_⟩
  case refine_2 =>
    rw [decide_eq_false (fun hh => e1 (by rw [hh]; rfl)), Bool.false_and] at k
    exact k _ _ h
  rw [decide_eq_true (by omega), Bool.true_and] at k
  rw [cellD.ld (h.hereB c0) sc_s_int (o := 2) (v := sv) rfl]
  have hs := hx.sums
  have hf := hx.few
  refine h.ask (fun B2 own base2 => gslices_ContainsFunc_s_int_int (rowD.read (base2 c2)) (by omega) (fun n => decide (n ≠ 0)) fun B3 base3 n _ => empty1_g n) fun w2 h => ?_
  rw [un_not]
  exact k _ _ h
end
end Go.Proofs.YtoebncgnjbblgaaDoor
