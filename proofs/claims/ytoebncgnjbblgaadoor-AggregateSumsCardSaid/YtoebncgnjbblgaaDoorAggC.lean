/-
  Accumulators: Add, New. No condition.
-/
import Derived.Test.YtoebncgnjbblgaaDoorAggB
--@auto
namespace Go.Proofs.YtoebncgnjbblgaaDoor
open Go.RowKit
set_option maxRecDepth 100000

theorem modify_set {α : Type} {l : List α} {i : Nat} {a : α} (f : α → α) (h : l[i]? = some a) : l.modify i f = l.set i (f a) := by
  apply List.ext_getElem?
  intro j
  rw [List.getElem?_modify, List.getElem?_set]
  by_cases c : i = j
  · subst c
    obtain ⟨hl, rfl⟩ := List.getElem?_eq_some_iff.1 h
    simp [hl]
  · simp [c]
section
variable {B : Base} {w : World} {σ : List Dat} {ms : List MP} {bs : List (Option Bag)} {i q : Nat} {M : MP} {b b' : Option Bag}
theorem bags_pull (h : Rel B w σ) (q : Nat) (hq : σ[q]? = some (bagsD ms bs)) (hM : ms[i]? = some M) (hb : bs[i]? = some b) : Rel B w (σ.set q (starL ((List.zipWith bagD ms bs).set i emp)) ++ [bagD M b]) := by
  have hz : (List.zipWith bagD ms bs)[i]? = some (bagD M b) := by rw [List.getElem?_zipWith, hM, hb]
  have h1 := h.imp hq (e := (starL ((List.zipWith bagD ms bs).set i emp)).star (bagD M b)) fun B hB => starL.pull hB hz
  have hlt : q < σ.length := (List.getElem?_eq_some_iff.1 hq).1
  have h2 := h1.split (i := q) (by rw [List.getElem?_set_self hlt])
  rw [List.set_set] at h2
  exact h2
theorem bags_give (h : Rel B w (σ ++ [bagD M b'])) (q : Nat) (hq : σ[q]? = some (starL ((List.zipWith bagD ms bs).set i emp))) (hM : ms[i]? = some M) (hi : i < bs.length) : Rel B w (σ.set q (bagsD ms (bs.set i b'))) := by
  have h1 := h.fuse q hq
  have hlt : q < σ.length := (List.getElem?_eq_some_iff.1 hq).1
  have hm : i < ms.length := (List.getElem?_eq_some_iff.1 hM).1
  have h2 := h1.imp (i := q) (e := bagsD ms (bs.set i b')) (by rw [List.getElem?_set_self hlt]) fun B hB => by
    have := starL.give hB (j := i) (by simp; omega)
    have e : ((List.zipWith bagD ms bs).set i emp).set i (bagD M b') = List.zipWith bagD ms (bs.set i b') := by
      rw [List.set_set]
      apply List.ext_getElem?
      intro j
      rw [List.getElem?_zipWith, List.getElem?_set, List.getElem?_set]
      by_cases c : i = j
      · subst c
        rw [if_pos rfl, if_pos rfl, if_pos (by simp; omega), if_pos hi, hM]
      · rw [if_neg c, if_neg c, List.getElem?_zipWith]
    unfold bagsD
    rw [← e]
    exact this
  rw [List.set_set] at h2
  exact h2
theorem bagD_some {M : MP} {b : Bag} {B : Base} (h : bagD M (some b) B) : ∃ m, M = ⟨some m⟩ := by
  obtain ⟨m⟩ := M
  cases m with
  | none => exact h.elim
  | some m => exact ⟨m, rfl⟩
theorem accD.open {p : Nat} {x : ACC} {τ : List Dat} (h : Rel B w (accD p x :: τ)) : ∃ r : Raw, r.ms.length = x.bags.length ∧ Rel B w (accL p r x ++ τ) := by
  obtain ⟨r, h⟩ := h.ex (i := 0) rfl
  obtain ⟨h1, h⟩ := h.pureAnd (i := 0) rfl
  exact ⟨r, h1, Rel.openL h⟩
theorem accD.close {p : Nat} {x : ACC} {τ : List Dat} (r : Raw) (hr : r.ms.length = x.bags.length) (h : Rel B w (accL p r x ++ τ)) : Rel B w (accD p x :: τ) := by
  have h1 := (Rel.closeL h).imp (i := 0) (e := accD p x) rfl fun B hB => ⟨r, hr, hB⟩
  exact h1
theorem accD.read {p : Nat} {x : ACC} (h : accD p x B) : ∃ r : Raw, r.ms.length = x.bags.length ∧ ∀ (j : Nat) (d : Dat), (accL p r x)[j]? = some d → d B := by
  obtain ⟨r, h1, h2⟩ := h
  exact ⟨r, h1, fun j d hj => starL.get h2 hj⟩

theorem Add_d {p N : Nat} {x : ACC} {v : Value} {row : List ValD} (r : rowR v row B) (hx : GoodA N x) (n : Int) : Does Tryd.prog B (accD p x) (sCall F_aggregate_Acc_Add #[ptr p, v, .int .i64 n]) fun u e' τ => u = .tuple #[] ∧ e' = accD p (addS x row n) ∧ τ = [] := by
  refine Does.intro fun B' w K base h k => ?_
  replace r := base r
  refine aggregate_Acc_Add.up (aggregate_Acc_Add.call ?_)
  unfold aggregate_Acc_Add.pt
  obtain ⟨⟨⟨av, hav⟩, ⟨sv, hsv⟩, ⟨bv, hbv⟩, ms⟩, hms, h⟩ := accD.open h
  have hms : ms.length = x.bags.length := hms
  have h : Rel B' w [cellD p T_aggregate_Acc #[av, .int .i64 x.count, sv, bv], rowD T_api_Agg av x.aggs, rowD T_int sv x.sums, rowD T_map_api_Value_int bv ms, bagsD ms x.bags] := h
  have k : ∀ w', Rel B' w' [cellD p T_aggregate_Acc #[av, .int .i64 (addS x row n).count, sv, bv], rowD T_api_Agg av (addS x row n).aggs, rowD T_int sv (addS x row n).sums, rowD T_map_api_Value_int bv ms, bagsD ms (addS x row n).bags] → K (.tuple #[]) w' := fun w' h =>
    k _ _ [] w' ⟨rfl, rfl, rfl⟩ (accD.close (p := p) (x := addS x row n) (τ := []) ⟨⟨av, hav⟩, ⟨sv, hsv⟩, ⟨bv, hbv⟩, ms⟩ (by show ms.length = (addS x row n).bags.length; rw [hms]; exact (addK_len row n x _).2.symm) h)
  simp -zeta only [nil_ptr, field_addr f_aggregate_Acc_1, field_addr f_aggregate_Acc_0, field_addr f_aggregate_Acc_2, field_addr f_aggregate_Acc_3, Nat.zero_add]
  rw [h.ld 0 rfl sc_int (o := 1) (v := .int .i64 x.count) rfl, bin_add]
  refine h.st 0 rfl sc_int (o := 1) (show 1 < 4 by omega) rfl fun w1 h => ?_
  have h : Rel B' w1 [cellD p T_aggregate_Acc #[av, .int .i64 (addK row n x 0).count, sv, bv], rowD T_api_Agg av (addK row n x 0).aggs, rowD T_int sv (addK row n x 0).sums, rowD T_map_api_Value_int bv ms, bagsD ms (addK row n x 0).bags] := h
  rw [h.ld 0 rfl sc_s_api_Agg (o := 0) (v := av) rfl]
  have ra := rowD.read (h.here (i := 1) rfl)
  have hfew := hx.few
  have ra : rowR av x.aggs ⟨w1, fun _ => True⟩ := ra
  rw [rowR.len ra sl_s_api_Agg]
  clear ra
  refine LOOP_intro (fun y w' => ∃ i : Nat, i ≤ x.aggs.length ∧ y = (.int .i64 i, ()) ∧ Rel B' w' [cellD p T_aggregate_Acc #[av, .int .i64 (addK row n x i).count, sv, bv], rowD T_api_Agg av (addK row n x i).aggs, rowD T_int sv (addK row n x i).sums, rowD T_map_api_Value_int bv ms, bagsD ms (addK row n x i).bags])
    (fun y _ => x.aggs.length - (match y.1 with | .int _ n => n.toNat | _ => 0)) ⟨0, Nat.zero_le _, rfl, h⟩ ?_
  clear h
  rintro y w1 ⟨i, hi, rfl, h⟩ next hnext
  simp -zeta only [bin_lss, ifB_dec]
  refine ⟨fun hlt => ?_, fun hge => ?_⟩
  case refine_2 =>
    have : i = x.aggs.length := by omega
    subst this
    exact k _ h
  have hil : i < x.aggs.length := by omega
  have hy := hx.addK row n i
  have hya := (addK_aggs row n x i).1
  have hyl := addK_len row n x i
  generalize hye : addK row n x i = y at *
  refine LETJ_intro fun J hJ => ?_
  replace hJ : ∀ w' (z : ACC), z = addAt row n y i → Rel B' w' [cellD p T_aggregate_Acc #[av, .int .i64 z.count, sv, bv], rowD T_api_Agg av z.aggs, rowD T_int sv z.sums, rowD T_map_api_Value_int bv ms, bagsD ms z.bags] → J () w' := by
    intro w' z hz h
    refine hJ _ _ ?_
    show pureK _ _ _
    rw [bin_add, wrap_id (by omega) (by omega)]
    have e : z = addK row n x (i + 1) := by rw [hz, addK_succ, hye]
    subst e
    exact hnext _ _ ⟨i + 1, hil, rfl, h⟩ (by simp only; omega)
  clear hnext k
  have hig : y.aggs[i]? = some x.aggs[i] := by rw [hya]; exact List.getElem?_eq_getElem hil
  have hyal : i < y.aggs.length := by rw [hya]; exact hil
  have hgi : y.aggs[i] = x.aggs[i] := by rw [List.getElem?_eq_getElem hyal] at hig; exact Option.some.inj hig
  obtain ⟨g, o, hix, hc⟩ := rowR.idx (P := Tryd.prog) (rowD.read (h.here (i := 1) rfl)) sl_s_api_Agg hyal
  have hc : (cellsR g o y.aggs[i].cs).here w1 := hc
  rw [hgi] at hc
  rw [hix, cellsR.ldAg hc ag_api_Agg rfl]
  clear hc hix
  generalize hG : x.aggs[i] = G at *
  refine h.allocAg (ds := G.cs.toArray) z_api_Agg rfl ag_api_Agg rfl (fun v hv => Enc.one G v hv) fun a1 w2 h => ?_
  have h : Rel B' w2 [cellD p T_aggregate_Acc #[av, .int .i64 y.count, sv, bv], rowD T_api_Agg av y.aggs, rowD T_int sv y.sums, rowD T_map_api_Value_int bv ms, bagsD ms y.bags, cellD a1 T_api_Agg G.cs.toArray] := h
  simp -zeta only [field_addr f_api_Agg_0, field_addr f_api_Agg_1, Nat.zero_add]
  rw [h.ld 5 rfl sc_int (o := 1) (v := .int .i64 G.col) rfl]
  refine h.ask (fun B2 own base2 => at_g (base2 r) G.col) fun w3 h => ?_
  have hadd : addAt row n y i = (if G.kind = 1 then { y with sums := y.sums.modify i fun s => W64 (s + W64 (n * (atS row G.col).n)) } else if ordB G then { y with bags := y.bags.modify i (Option.map fun b => putS b (atS row G.col) n) } else y) := by
    unfold addAt
    rw [hig]
  generalize atS row G.col = V at *
  refine h.allocAg (ds := V.cs.toArray) z_api_Value rfl ag_api_Value rfl (fun v hv => Enc.one V v hv) fun a2 w4 h => ?_
  have h : Rel B' w4 [cellD p T_aggregate_Acc #[av, .int .i64 y.count, sv, bv], rowD T_api_Agg av y.aggs, rowD T_int sv y.sums, rowD T_map_api_Value_int bv ms, bagsD ms y.bags, cellD a1 T_api_Agg G.cs.toArray, cellD a2 T_api_Value V.cs.toArray] := h
  rw [h.ld 5 rfl sc_int (o := 0) (v := .int .i64 G.kind) rfl, bin_eql, ifB_dec]
  refine ⟨fun c1 => ?_, fun c1 => ?_⟩
  · rw [if_pos c1] at hadd
    have hsl : i < y.sums.length := by rw [hy.sums]; exact hyal
    have h := h.tick
    generalize tick w4 = w4 at *
    obtain ⟨gs, cap, rfl⟩ := h.open_ (i := 2) rfl (by omega)
    rw [h.ld 0 rfl sc_s_int (o := 2) (v := .slice (some ⟨gs, 0, none⟩) y.sums.length cap) rfl]
    have hel := h.elem (α := Int) (i := 2) rfl hsl
    rw [idx_own (α := Int) sl_s_int hsl, cellsR.ld0 hel sc_int (v := .int .i64 y.sums[i]) rfl]
    simp -zeta only [field_addr f_api_Value_1, Nat.zero_add]
    rw [h.ld 6 rfl sc_int (o := 1) (v := .int .i64 V.n) rfl, bin_mul, bin_add]
    rw [idx_own (α := Int) sl_s_int hsl]
    refine h.set_sc (α := Int) 2 rfl (W64 (y.sums[i] + W64 (n * V.n))) (j := i) hsl (f := 0) rfl (by decide) rfl sc_int rfl fun w5 h => ?_
    refine hJ _ _ hadd.symm ?_
    have e : (y.sums.modify i fun s => W64 (s + W64 (n * V.n))) = y.sums.set i (W64 (y.sums[i] + W64 (n * V.n))) := modify_set _ (List.getElem?_eq_getElem hsl)
    show Rel B' w5 [_, _, rowD T_int _ (y.sums.modify i _), _, _]
    rw [e]
    exact h.take 5
  rw [if_neg c1] at hadd
  rw [h.ldAg 5 rfl ag_api_Agg rfl]
  refine h.ask (fun B2 own base2 => ordered_g G) fun w5 h => ?_
  rw [ifB_bool]
  refine ⟨fun c2 => ?_, fun c2 => ?_⟩
  case refine_2 =>
    rw [if_neg (by rw [c2]; decide)] at hadd
    exact hJ _ _ hadd.symm (h.take 5)
  rw [if_pos c2] at hadd
  have h := h.tick
  generalize tick w5 = w5 at *
  have hbl : i < y.bags.length := by rw [hy.bags]; exact hyal
  obtain ⟨b0, hb0⟩ : ∃ b0, y.bags[i]? = some b0 := ⟨_, List.getElem?_eq_getElem hbl⟩
  have hso := hy.ord i G b0 hig hb0
  rw [c2] at hso
  obtain ⟨bg, rfl⟩ := Option.isSome_iff_exists.1 hso
  obtain ⟨hwf, _⟩ := hy.wf i bg hb0
  have hml : i < ms.length := by rw [hms, ← hyl.2]; exact hbl
  obtain ⟨M, hM⟩ : ∃ M, ms[i]? = some M := ⟨_, List.getElem?_eq_getElem hml⟩
  rw [h.ld 0 rfl sc_s_map_api_Value_int (o := 3) (v := bv) rfl]
  obtain ⟨g3, o3, hix, hc⟩ := rowR.idx (P := Tryd.prog) (rowD.read (h.here (i := 3) rfl)) sl_s_map_api_Value_int hml
  have hMi : ms[i] = M := by rw [List.getElem?_eq_getElem hml] at hM; exact Option.some.inj hM
  rw [hMi] at hc
  have h := bags_pull h 4 rfl hM hb0
  have h : Rel B' w5 [cellD p T_aggregate_Acc #[av, .int .i64 y.count, sv, bv], rowD T_api_Agg av y.aggs, rowD T_int sv y.sums, rowD T_map_api_Value_int bv ms, starL ((List.zipWith bagD ms y.bags).set i emp), cellD a1 T_api_Agg G.cs.toArray, cellD a2 T_api_Value V.cs.toArray, bagD M (some bg)] := h
  obtain ⟨m, rfl⟩ := bagD_some (h.here (i := 7) rfl)
  rw [hix, cellsR.ld0 hc sc_map_api_Value_int (v := mapV m) rfl, h.ldAg 6 rfl ag_api_Value rfl]
  refine h.act 7 rfl (fun B2 own base2 => put_d (m := m) hwf V n) fun u e' τ w6 hp h => ?_
  obtain ⟨rfl, rfl, rfl⟩ := hp
  have h : Rel B' w6 ([cellD p T_aggregate_Acc #[av, .int .i64 y.count, sv, bv], rowD T_api_Agg av y.aggs, rowD T_int sv y.sums, rowD T_map_api_Value_int bv ms, starL ((List.zipWith bagD ms y.bags).set i emp), cellD a1 T_api_Agg G.cs.toArray, cellD a2 T_api_Value V.cs.toArray] ++ [bagD ⟨some m⟩ (some (putS bg V n))]) := h
  have h := bags_give h 4 rfl hM hbl
  refine hJ _ _ hadd.symm ?_
  have e : (y.bags.modify i (Option.map fun b => putS b V n)) = y.bags.set i (some (putS bg V n)) := modify_set _ hb0
  show Rel B' w6 [_, _, _, _, bagsD ms (y.bags.modify i _)]
  rw [e]
  exact h.take 5
end
end Go.Proofs.YtoebncgnjbblgaaDoor
