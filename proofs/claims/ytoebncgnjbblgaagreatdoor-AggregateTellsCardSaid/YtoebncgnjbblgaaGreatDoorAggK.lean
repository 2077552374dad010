/-
  Accumulators: Copy. No condition.
-/
import Derived.Test.YtoebncgnjbblgaaGreatDoorAggN
--@auto
namespace Go.Proofs.YtoebncgnjbblgaaGreatDoor
open Go.RowKit
set_option maxRecDepth 100000

section
variable {B : Base} {w : World} {σ : List Dat} {p N : Nat} {x : ACC}
theorem bags_push {ms : List MP} {bs : List (Option Bag)} {M : MP} {b : Option Bag} (h : Rel B w (σ ++ [bagD M b])) (q : Nat) (hq : σ[q]? = some (bagsD ms bs)) (hm : ms.length = bs.length) : Rel B w (σ.set q (bagsD (ms ++ [M]) (bs ++ [b]))) := by
  have h1 := h.fuse q hq
  have hlt : q < σ.length := (List.getElem?_eq_some_iff.1 hq).1
  have h2 := h1.imp (i := q) (e := bagsD (ms ++ [M]) (bs ++ [b])) (by rw [List.getElem?_set_self hlt]) fun B hB => by
    have := starL.push hB
    unfold bagsD
    rw [List.zipWith_append hm]
    exact this
  rw [List.set_set] at h2
  exact h2
set_option maxHeartbeats 1000000 in
theorem Copy_m (a : accD p x B) (hx : GoodA N x) : Makes Tryz.prog B (sCall F_aggregate_Acc_Copy #[ptr p]) fun u τ => ∃ p2, u = ptr p2 ∧ τ = [accD p2 x] := by
  refine Makes.intro fun B' w K base h k => ?_
  replace a := base a
  refine aggregate_Acc_Copy.up (aggregate_Acc_Copy.call ?_)
  unfold aggregate_Acc_Copy.pt
  obtain ⟨⟨⟨av, hav⟩, ⟨sv, hsv⟩, ⟨bv, hbv⟩, ms⟩, hms, hr⟩ := accD.read a
  have c0 : cellD p T_aggregate_Acc #[av, .int .i64 x.count, sv, bv] B' := hr 0 _ rfl
  have c1 : rowD T_api_Agg av x.aggs B' := hr 1 _ rfl
  have c2 : rowD T_int sv x.sums B' := hr 2 _ rfl
  have c3 : rowD T_map_api_Value_int bv ms B' := hr 3 _ rfl
  have c4 : bagsD ms x.bags B' := hr 4 _ rfl
  have hms : ms.length = x.bags.length := hms
  have hfew := hx.few
  have hbl := hx.bags
  have hsl := hx.sums
  have h := h.tick
  generalize tick w = w at *
  simp -zeta only [nil_ptr, field_addr f_aggregate_Acc_0, field_addr f_aggregate_Acc_1, field_addr f_aggregate_Acc_2, field_addr f_aggregate_Acc_3, Nat.zero_add]
  rw [cellD.ld (h.hereB c0) sc_s_api_Agg (o := 0) (v := av) rfl, cellD.ld (h.hereB c0) sc_int (o := 1) (v := .int .i64 x.count) rfl, cellD.ld (h.hereB c0) sc_s_int (o := 2) (v := sv) rfl]
  refine h.make (fun B2 own base2 => gslices_Clone_s_api_Agg_api_Agg (rowD.read (base2 c1)) (by omega) (by omega)) fun u τ w1 hp h => ?_
  subst hp
  refine ⟨cellD.is (h.hereB c0) sc_s_int (o := 2) rfl, cellD.is (h.hereB c0) sc_int (o := 1) rfl, ?_⟩
  refine h.make (fun B2 own base2 => gslices_Clone_s_int_int (rowD.read (base2 c2)) (by omega) (by omega)) fun u2 τ w2 hp h => ?_
  subst hp
  refine ⟨cellD.is (h.hereB c0) sc_int (o := 1) rfl, ?_⟩
  obtain ⟨xa, na, ca, rfl⟩ := shapeD h 0 rfl
  obtain ⟨xs, ns, cs, rfl⟩ := shapeD h 1 rfl
  rw [bd_aggregate_Acc_0_1_2]
  refine h.box fun p2 w3 h => ?_
  rw [cellD.ld (h.hereB c0) sc_s_map_api_Value_int (o := 3) (v := bv) rfl, rowR.len (rowD.read c3) sl_s_map_api_Value_int]
  have h := (h.addNil MP T_map_api_Value_int).addPure (d := bagsD [] []) fun B => starL.nil
  have h : Rel B' w3 [cellD p2 T_aggregate_Acc #[.slice xa na ca, .int .i64 x.count, .slice xs ns cs, .slice none 0 0], rowD T_api_Agg (.slice xa na ca) x.aggs, rowD T_int (.slice xs ns cs) x.sums, rowD T_map_api_Value_int (.slice none 0 0) ([] : List MP), bagsD [] []] := h.pick [2, 0, 1, 3, 4] (by decide)
  refine LOOP_intro (fun c w' => ∃ (i : Nat) (ms' : List MP) (bv' : Value), i ≤ ms.length ∧ ms'.length = i ∧ bv'.oneCell' = true ∧ c = (.int .i64 i, ()) ∧ Rel B' w' [cellD p2 T_aggregate_Acc #[.slice xa na ca, .int .i64 x.count, .slice xs ns cs, bv'], rowD T_api_Agg (.slice xa na ca) x.aggs, rowD T_int (.slice xs ns cs) x.sums, rowD T_map_api_Value_int bv' ms', bagsD ms' (x.bags.take i)])
    (fun c _ => ms.length - (match c.1 with | .int _ n => n.toNat | _ => 0)) ⟨0, [], .slice none 0 0, Nat.zero_le _, rfl, rfl, rfl, by rw [List.take_zero]; exact h⟩ ?_
  clear h
  rintro c w4 ⟨i, ms', bv', hi, hml', hbv', rfl, h⟩ next hnext
  simp -zeta only [bin_lss, ifB_dec]
  refine ⟨fun hlt => ?_, fun hge => ?_⟩
  case refine_2 =>
    have e : i = x.bags.length := by omega
    rw [e, List.take_length] at h
    exact k _ _ _ ⟨p2, rfl, rfl⟩ (accD.close (p := p2) (x := x) (τ := []) ⟨⟨.slice xa na ca, rfl⟩, ⟨.slice xs ns cs, rfl⟩, ⟨bv', hbv'⟩, ms'⟩ (by show ms'.length = x.bags.length; omega) h)
  have hil : i < ms.length := by omega
  have hib : i < x.bags.length := by omega
  obtain ⟨g5, o5, hx5, hc5⟩ := rowR.idx (P := Tryz.prog) (rowD.read c3) sl_s_map_api_Value_int hil
  have hd : bagD ms[i] x.bags[i] B' := starL.get c4 (j := i) (by rw [List.getElem?_zipWith, List.getElem?_eq_getElem hil, List.getElem?_eq_getElem hib])
  rw [hx5, cellsR.ld0 (h.hereB hc5) sc_map_api_Value_int (v := .map ms[i].p) rfl]
  have h := h.tick
  generalize tick w4 = w4 at *
  simp -zeta only [nil_ptr, field_addr f_aggregate_Acc_3, Nat.zero_add]
  rw [h.ld 0 rfl sc_s_map_api_Value_int (o := 3) (v := bv') rfl]
  have htk : x.bags.take (i + 1) = x.bags.take i ++ [x.bags[i]] := List.take_succ_eq_append_getElem hib
  have fin : ∀ (w5 : World) (M : MP), Rel B' w5 ([cellD p2 T_aggregate_Acc #[.slice xa na ca, .int .i64 x.count, .slice xs ns cs, bv'], rowD T_api_Agg (.slice xa na ca) x.aggs, rowD T_int (.slice xs ns cs) x.sums, rowD T_map_api_Value_int bv' ms', bagsD ms' (x.bags.take i)] ++ [bagD M x.bags[i]]) →
      Is Tryz.prog (sLoad T_s_map_api_Value_int (.pointer (some ⟨p2, 3, none⟩))) bv' w5 ∧ upK Tryz.prog (sBuildSlice T_s_map_api_Value_int 1 #[(0, .map M.p)]) w5 fun t38 w6 =>
      Is Tryz.prog (sLoad T_s_map_api_Value_int (.pointer (some ⟨p2, 3, none⟩))) bv' w6 ∧ upK Tryz.prog (sBlt .append #[T_s_map_api_Value_int, T_s_map_api_Value_int] T_s_map_api_Value_int #[false, false] #[bv', t38]) w6 fun t39 w7 =>
      upK Tryz.prog (sStore T_s_map_api_Value_int (.pointer (some ⟨p2, 3, none⟩)) t39) w7 fun tu w8 => next (.int .i64 (i + 1), ()) w8 := by
    intro w5 M h
    have h := bags_push h 4 rfl (by rw [List.length_take]; omega)
    rw [← htk] at h
    have h : Rel B' w5 [cellD p2 T_aggregate_Acc #[.slice xa na ca, .int .i64 x.count, .slice xs ns cs, bv'], rowD T_api_Agg (.slice xa na ca) x.aggs, rowD T_int (.slice xs ns cs) x.sums, rowD T_map_api_Value_int bv' ms', bagsD (ms' ++ [M]) (x.bags.take (i + 1))] := h
    refine ⟨h.is 0 rfl sc_s_map_api_Value_int (o := 3) rfl, ?_⟩
    refine h.build1 (α := MP) M sl_s_map_api_Value_int (by decide) fun t w6 h => ?_
    refine ⟨h.is 0 rfl sc_s_map_api_Value_int (o := 3) rfl, ?_⟩
    refine h.append 3 rfl sl_s_map_api_Value_int (l2 := [M]) (Rd.at 5 (E := T_map_api_Value_int) rfl (by decide)) (by simp; omega) (by simp; omega) fun v' w7 h => ?_
    have h1 : v'.oneCell' = true := h.oneCell (i := 3) rfl
    refine h.st (v := v') 0 rfl sc_s_map_api_Value_int (o := 3) (show 3 < 4 by omega) h1 fun w8 h => ?_
    exact hnext _ _ ⟨i + 1, ms' ++ [M], v', hil, by simp [hml'], h1, rfl, h.take 5⟩ (by simp only; omega)
  have hw : IntKind.wrap .i64 ((i : Int) + 1) = (i : Int) + 1 := wrap_id (by omega) (by omega)
  generalize ms[i] = MM at *
  obtain ⟨mp⟩ := MM
  cases mp with
  | none =>
    have hb0 : x.bags[i] = none := by
      generalize x.bags[i] = bo at hd
      cases bo with
      | none => rfl
      | some b => exact hd.elim
    refine h.ask (fun B2 own base2 => cloneN_g) fun w5 h => ?_
    simp -zeta only [bin_add, hw]
    exact fin w5 ⟨none⟩ (h.addPure fun B => by rw [hb0]; trivial)
  | some m =>
    obtain ⟨b, hb0⟩ : ∃ b, x.bags[i] = some b := by
      generalize x.bags[i] = bo at hd
      cases bo with
      | none => exact hd.elim
      | some b => exact ⟨b, rfl⟩
    rw [hb0] at hd
    have hd : mapE m b.1 b.2 B' := hd
    refine h.make (fun B2 own base2 => cloneV_m (base2 hd)) fun u τ w5 hp h => ?_
    obtain ⟨m3, rfl, rfl⟩ := hp
    simp -zeta only [bin_add, hw]
    exact fin w5 ⟨some m3⟩ (by rw [hb0]; exact h)
end
end Go.Proofs.YtoebncgnjbblgaaGreatDoor
