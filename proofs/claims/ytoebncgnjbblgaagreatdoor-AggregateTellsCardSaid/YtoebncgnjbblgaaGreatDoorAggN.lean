/-
  Accumulators: Merge. No condition.
-/
import Derived.Test.YtoebncgnjbblgaaGreatDoorAggM
--@auto
namespace Go.Proofs.YtoebncgnjbblgaaGreatDoor
open Go.RowKit
set_option maxRecDepth 100000

structure MergeInv (x y : ACC) (i : Nat) (z : ACC) : Prop where
  aggs : z.aggs = x.aggs
  count : z.count = W64 (x.count + y.count)
  slen : z.sums.length = x.sums.length
  blen : z.bags.length = x.bags.length
  sdone : ∀ j : Nat, j < i → ∀ s t, x.sums[j]? = some s → y.sums[j]? = some t → z.sums[j]? = some (W64 (s + t))
  srest : ∀ j : Nat, i ≤ j → z.sums[j]? = x.sums[j]?
  nil_ : ∀ j : Nat, x.bags[j]? = some none → z.bags[j]? = some none
  bdone : ∀ j : Nat, j < i → ∀ b b', x.bags[j]? = some (some b) → y.bags[j]? = some (some b') → ∃ bz, z.bags[j]? = some (some bz) ∧ SumB b b' bz
  brest : ∀ j : Nat, i ≤ j → z.bags[j]? = x.bags[j]?
theorem MergeInv.final {x y z : ACC} {aggs : List AggD} {L M : List Chg} {N N' : Nat} (h : MergeInv x y x.aggs.length z) (hx : GoodA N x) (hy : GoodA N' y) (ix : IsAcc aggs L x) (iy : IsAcc aggs M y) : IsAcc aggs (L ++ M) z ∧ GoodA (N + N') z := by
  have hax := ix.same
  have hay := iy.same
  have bag : ∀ (i : Nat) (g : AggD) (bz : Bag), aggs[i]? = some g → z.bags[i]? = some (some bz) → ∃ b b', x.bags[i]? = some (some b) ∧ y.bags[i]? = some (some b') ∧ SumB b b' bz := by
    intro i g bz hg hz
    have hil : i < aggs.length := (List.getElem?_eq_some_iff.1 hg).1
    have hgx : x.aggs[i]? = some g := by rw [hax]; exact hg
    have hgy : y.aggs[i]? = some g := by rw [hay]; exact hg
    obtain ⟨b, hb⟩ : ∃ b, x.bags[i]? = some b := ⟨_, List.getElem?_eq_getElem (by rw [hx.bags, hax]; exact hil)⟩
    obtain ⟨b', hb'⟩ : ∃ b, y.bags[i]? = some b := ⟨_, List.getElem?_eq_getElem (by rw [hy.bags, hay]; exact hil)⟩
    have o1 := hx.ord i g b hgx hb
    have o2 := hy.ord i g b' hgy hb'
    cases b with
    | none => have := h.nil_ i hb; rw [this] at hz; cases hz
    | some b =>
      cases b' with
      | none => rw [← o1] at o2; cases o2
      | some b' =>
        obtain ⟨bz', h1, h2⟩ := h.bdone i (by rw [hax]; exact hil) b b' hb hb'
        rw [h1] at hz
        have e : bz' = bz := Option.some.inj (Option.some.inj hz)
        subst e
        exact ⟨b, b', hb, hb', h2⟩
  refine ⟨⟨h.aggs.trans hax, ?_, fun i g hg => ?_, fun i g bz hg hz v => ?_⟩, ⟨by rw [h.aggs]; exact hx.few, by rw [h.slen, h.aggs]; exact hx.sums, by rw [h.blen, h.aggs]; exact hx.bags, fun i g bo hg hz => ?_, fun i bz hz => ?_⟩⟩
  · rw [h.count, ix.count, iy.count, tot_append, W_addr, W_addl]
  · have hil : i < aggs.length := (List.getElem?_eq_some_iff.1 hg).1
    rw [h.sdone i (by rw [hax]; exact hil) _ _ (ix.sums i g hg) (iy.sums i g hg)]
    by_cases c : g.kind = 1
    · rw [if_pos c, if_pos c, if_pos c, tot_append, W_addr, W_addl]
    · rw [if_neg c, if_neg c, if_neg c]
      congr 1
  · obtain ⟨b, b', hb, hb', hs⟩ := bag i g bz hg hz
    rw [hs.get v, iy.bags i g b' hg hb' v, tot_append]
    have hc : cntV b v = W64 (tot L (fCnt g.col v)) := by unfold cntV; rw [ix.bags i g b hg hb v, nz_getD]
    by_cases c : W64 (tot M (fCnt g.col v)) = 0
    · have e1 : nz (W64 (tot M (fCnt g.col v))) = none := by unfold nz; rw [if_pos c]
      rw [e1]
      simp only
      rw [ix.bags i g b hg hb v, ← W_addr, c, Int.add_zero]
    · have e1 : nz (W64 (tot M (fCnt g.col v))) = some (W64 (tot M (fCnt g.col v))) := by unfold nz; rw [if_neg c]
      rw [e1]
      simp only
      rw [hc, W_addr, W_addl]
  · rw [h.aggs] at hg
    have hil : i < x.aggs.length := (List.getElem?_eq_some_iff.1 hg).1
    obtain ⟨b, hb⟩ : ∃ b, x.bags[i]? = some b := ⟨_, List.getElem?_eq_getElem (by rw [hx.bags]; exact hil)⟩
    have o1 := hx.ord i g b hg hb
    rw [← o1]
    cases b with
    | none => rw [h.nil_ i hb] at hz; rw [← Option.some.inj hz]
    | some b =>
      obtain ⟨b', hb'⟩ : ∃ b, y.bags[i]? = some b := ⟨_, List.getElem?_eq_getElem (by rw [hy.bags, hay, ← hax]; exact hil)⟩
      have o2 := hy.ord i g b' (by rw [hay, ← hax]; exact hg) hb'
      cases b' with
      | none => rw [← o1] at o2; cases o2
      | some b' =>
        obtain ⟨bz, h1, _⟩ := h.bdone i hil b b' hb hb'
        rw [h1] at hz
        rw [← Option.some.inj hz]
        rfl
  · have hil : i < aggs.length := by rw [← hax, ← hx.bags, ← h.blen]; exact (List.getElem?_eq_some_iff.1 hz).1
    obtain ⟨b, b', hb, hb', hs⟩ := bag i _ bz (List.getElem?_eq_getElem hil) hz
    have l1 := (hx.wf i b hb).2
    have l2 := (hy.wf i b' hb').2
    have l3 := hs.len
    exact ⟨hs.wf, by omega⟩
section
variable {B : Base} {w : World} {σ : List Dat} {p p2 N N' : Nat} {x y : ACC}
theorem ext_1_0 {P : Program} {K : Value → Prop} {u : Value} : pureK P (sExtract (.tuple #[u]) 0) K = K u := pureK_eq fun w => rfl
def iterN (it : Nat) : Dat := ⟨fun B => B.keep it ∧ B.W.heap[it]? = some (.mapIter none 0 #[] 0), fun {B B'} hl ⟨h1, h2⟩ => by
  obtain ⟨h3, h4⟩ := hl it h1 (Array.getElem?_eq_some_iff.1 h2).1
  exact ⟨h3, h4.trans h2⟩⟩
theorem Rel.rangeN {P : Program} {K : Value → World → Prop} {T k E : TypeId} (h : Rel B w σ) (hT : P.underlying T = some (.map k E)) (kk : ∀ it w', Rel B w' (σ ++ [iterN it]) → K (.pointer (some ⟨it, 0, none⟩)) w') : upK P (sRange T (.map none)) w K := by
  have hrun := run_range_nilMap (P := P) w T k E hT
  obtain ⟨cc, h⟩ := h
  exact upK_of (vN_run hrun) (kk _ _ ⟨paint cc w.heap.size (σ.length + 1), h.push (Step.alloc nobody cc w _ _) ⟨by simp [paint], heap_alloc_new w _⟩⟩)
theorem Rel.nextN {P : Program} {K : Value → World → Prop} {T : TypeId} {it : Nat} (h : Rel B w σ) (j : Nat) (hj : σ[j]? = some (iterN it)) (kk : ∀ w', Rel B w' σ → K (.tuple #[.bool false]) w') : upK P (sNext (.pointer (some ⟨it, 0, none⟩)) false T) w K := by
  have hit : w.heap[it]? = some (.mapIter none 0 #[] 0) := (h.here hj).2
  have hg := run_getObj (P := P) hit (by intro a b f h; cases h)
  refine upK_of (v := .tuple #[.bool false]) (w' := w) (vN_run ?_) (kk w h)
  simp only [Instr.next]
  rw [Sem.run_bind, hg]
  rfl
theorem mergeNo_g (a : accD p x B) (b : accD p2 y B) (h : x.aggs.length ≠ y.aggs.length) : Gives Tryz.prog B (sCall F_aggregate_Acc_Merge #[ptr p, ptr p2]) (.int .i64 1) := by
  refine Gives.intro fun B' w K base hr k => ?_
  replace a := base a
  replace b := base b
  refine aggregate_Acc_Merge.up (aggregate_Acc_Merge.call ?_)
  unfold aggregate_Acc_Merge.pt
  obtain ⟨⟨⟨av, hav⟩, ⟨sv, hsv⟩, ⟨bv, hbv⟩, ms⟩, hms, hra⟩ := accD.read a
  obtain ⟨⟨⟨av2, hav2⟩, ⟨sv2, hsv2⟩, ⟨bv2, hbv2⟩, ms2⟩, hms2, hrb⟩ := accD.read b
  have c0 : cellD p T_aggregate_Acc #[av, .int .i64 x.count, sv, bv] B' := hra 0 _ rfl
  have c1 : rowD T_api_Agg av x.aggs B' := hra 1 _ rfl
  have d0 : cellD p2 T_aggregate_Acc #[av2, .int .i64 y.count, sv2, bv2] B' := hrb 0 _ rfl
  have d1 : rowD T_api_Agg av2 y.aggs B' := hrb 1 _ rfl
  have ht := hr.tick
  simp -zeta only [nil_ptr, field_addr f_aggregate_Acc_0, Nat.zero_add]
  rw [cellD.ld (ht.hereB c0) sc_s_api_Agg (o := 0) (v := av) rfl, cellD.ld (ht.hereB d0) sc_s_api_Agg (o := 0) (v := av2) rfl]
  refine ht.ask (fun B2 own base2 => equalA_no (rowD.read (base2 c1)) (rowD.read (base2 d1)) h) fun w1 hr => ?_
  rw [un_not, Bool.not_false, ifB_true]
  exact k _ _ hr
set_option maxHeartbeats 2000000 in
theorem Merge_d {aggs : List AggD} {L M : List Chg} (b : accD p2 y B) (hx : GoodA N x) (hy : GoodA N' y) (ix : IsAcc aggs L x) (iy : IsAcc aggs M y) (hN' : N' ≤ 100000) :
    Does Tryz.prog B (accD p x) (sCall F_aggregate_Acc_Merge #[ptr p, ptr p2]) fun u e' τ => ∃ z, u = .int .i64 0 ∧ e' = accD p z ∧ IsAcc aggs (L ++ M) z ∧ GoodA (N + N') z ∧ τ = [] := by
  refine Does.intro fun B' w K base h k => ?_
  replace b := base b
  refine aggregate_Acc_Merge.up (aggregate_Acc_Merge.call ?_)
  unfold aggregate_Acc_Merge.pt
  have haa : y.aggs = x.aggs := iy.same.trans ix.same.symm
  obtain ⟨⟨⟨av2, hav2⟩, ⟨sv2, hsv2⟩, ⟨bv2, hbv2⟩, ms2⟩, hms2, hrb⟩ := accD.read b
  have d0 : cellD p2 T_aggregate_Acc #[av2, .int .i64 y.count, sv2, bv2] B' := hrb 0 _ rfl
  have d1 : rowD T_api_Agg av2 y.aggs B' := hrb 1 _ rfl
  have d2 : rowD T_int sv2 y.sums B' := hrb 2 _ rfl
  have d3 : rowD T_map_api_Value_int bv2 ms2 B' := hrb 3 _ rfl
  have d4 : bagsD ms2 y.bags B' := hrb 4 _ rfl
  have hms2 : ms2.length = y.bags.length := hms2
  obtain ⟨⟨⟨av, hav⟩, ⟨sv, hsv⟩, ⟨bv, hbv⟩, ms⟩, hms, h⟩ := accD.open h
  have hms : ms.length = x.bags.length := hms
  have hfew := hx.few
  have h : Rel B' (tick w) [cellD p T_aggregate_Acc #[av, .int .i64 x.count, sv, bv], rowD T_api_Agg av x.aggs, rowD T_int sv x.sums, rowD T_map_api_Value_int bv ms, bagsD ms x.bags] := h.tick
  generalize tick w = w at *
  simp -zeta only [nil_ptr, field_addr f_aggregate_Acc_0, field_addr f_aggregate_Acc_1, field_addr f_aggregate_Acc_2, field_addr f_aggregate_Acc_3, Nat.zero_add]
  rw [h.ld 0 rfl sc_s_api_Agg (o := 0) (v := av) rfl, cellD.ld (h.hereB d0) sc_s_api_Agg (o := 0) (v := av2) rfl]
  rw [haa] at d1
  refine h.ask (fun B2 own base2 => equalA_yes (rowD.read (own (i := 1) rfl)) (rowD.read (base2 d1)) (by omega)) fun w1 h => ?_
  rw [un_not, Bool.not_true, ifB_false]
  have h := h.tick
  generalize tick w1 = w1 at *
  rw [h.ld 0 rfl sc_int (o := 1) (v := .int .i64 x.count) rfl, cellD.ld (h.hereB d0) sc_int (o := 1) (v := .int .i64 y.count) rfl, bin_add]
  refine h.st 0 rfl sc_int (o := 1) (show 1 < 4 by omega) rfl fun w2 h => ?_
  have h : Rel B' w2 [cellD p T_aggregate_Acc #[av, .int .i64 (W64 (x.count + y.count)), sv, bv], rowD T_api_Agg av x.aggs, rowD T_int sv x.sums, rowD T_map_api_Value_int bv ms, bagsD ms x.bags] := h
  rw [h.ld 0 rfl sc_s_api_Agg (o := 0) (v := av) rfl, rowR.len (rowD.read (h.here (i := 1) rfl)) sl_s_api_Agg]
  have inv0 : MergeInv x y 0 { x with count := W64 (x.count + y.count) } := ⟨rfl, rfl, rfl, rfl, fun j hj => absurd hj (Nat.not_lt_zero j), fun j _ => rfl, fun j hj => hj, fun j hj => absurd hj (Nat.not_lt_zero j), fun j _ => rfl⟩
  refine LOOP_intro (fun c w' => ∃ (i : Nat) (z : ACC), i ≤ x.aggs.length ∧ c = (.int .i64 i, ()) ∧ MergeInv x y i z ∧ Rel B' w' [cellD p T_aggregate_Acc #[av, .int .i64 z.count, sv, bv], rowD T_api_Agg av z.aggs, rowD T_int sv z.sums, rowD T_map_api_Value_int bv ms, bagsD ms z.bags])
    (fun c _ => x.aggs.length - (match c.1 with | .int _ n => n.toNat | _ => 0)) ⟨0, { x with count := W64 (x.count + y.count) }, Nat.zero_le _, rfl, inv0, h⟩ ?_
  clear h inv0
  rintro c w3 ⟨i, z, hi, rfl, inv, h⟩ next hnext
  simp -zeta only [bin_lss, ifB_dec]
  refine ⟨fun hlt => ?_, fun hge => ?_⟩
  case refine_2 =>
    have : i = x.aggs.length := by omega
    subst this
    obtain ⟨f1, f2⟩ := inv.final hx hy ix iy
    exact k _ _ [] _ ⟨z, rfl, rfl, f1, f2, rfl⟩ (accD.close (p := p) (x := z) (τ := []) ⟨⟨av, hav⟩, ⟨sv, hsv⟩, ⟨bv, hbv⟩, ms⟩ (by show ms.length = z.bags.length; rw [hms, inv.blen]) h)
  have hil : i < x.aggs.length := by omega
  have hig : x.aggs[i]? = some x.aggs[i] := List.getElem?_eq_getElem hil
  have hsx : i < x.sums.length := by rw [hx.sums]; exact hil
  have hsy : i < y.sums.length := by rw [hy.sums, haa]; exact hil
  have hsz : i < z.sums.length := by rw [inv.slen]; exact hsx
  have hbx : i < x.bags.length := by rw [hx.bags]; exact hil
  have hby : i < y.bags.length := by rw [hy.bags, haa]; exact hil
  have hbz : i < z.bags.length := by rw [inv.blen]; exact hbx
  have hzs : z.sums[i] = x.sums[i] := by
    have := inv.srest i (Nat.le_refl _)
    rw [List.getElem?_eq_getElem hsz, List.getElem?_eq_getElem hsx] at this
    exact Option.some.inj this
  refine LETJ_intro fun J hJ => ?_
  replace hJ : ∀ w' (z' : ACC), MergeInv x y (i + 1) z' → Rel B' w' [cellD p T_aggregate_Acc #[av, .int .i64 z'.count, sv, bv], rowD T_api_Agg av z'.aggs, rowD T_int sv z'.sums, rowD T_map_api_Value_int bv ms, bagsD ms z'.bags] → J () w' := by
    intro w' z' hz h
    refine hJ _ _ ?_
    show pureK _ _ _
    rw [bin_add, wrap_id (by omega) (by omega)]
    exact hnext _ _ ⟨i + 1, z', hil, rfl, hz, h⟩ (by simp only; omega)
  clear hnext k
  have h := h.tick
  generalize tick w3 = w3 at *
  obtain ⟨gs, cap, rfl⟩ := h.open_ (i := 2) rfl (by omega)
  rw [h.ld 0 rfl sc_s_int (o := 2) (v := .slice (some ⟨gs, 0, none⟩) z.sums.length cap) rfl]
  have hel := h.elem (α := Int) (i := 2) rfl hsz
  rw [idx_own (α := Int) sl_s_int hsz, cellsR.ld0 hel sc_int (v := .int .i64 z.sums[i]) rfl]
  rw [cellD.ld (h.hereB d0) sc_s_int (o := 2) (v := sv2) rfl]
  obtain ⟨g5, o5, hx5, hc5⟩ := rowR.idx (P := Tryz.prog) (rowD.read d2) sl_s_int hsy
  rw [hx5, cellsR.ld0 (h.hereB hc5) sc_int (v := .int .i64 y.sums[i]) rfl, bin_add, idx_own (α := Int) sl_s_int hsz]
  refine h.set_sc (α := Int) 2 rfl (W64 (z.sums[i] + y.sums[i])) (j := i) hsz (f := 0) rfl (by decide) rfl sc_int rfl fun w5 h => ?_
  have h : Rel B' w5 [cellD p T_aggregate_Acc #[av, .int .i64 z.count, .slice (some ⟨gs, 0, none⟩) z.sums.length cap, bv], rowD T_api_Agg av z.aggs, rowD T_int (.slice (some ⟨gs, 0, none⟩) z.sums.length cap) (z.sums.set i (W64 (z.sums[i] + y.sums[i]))), rowD T_map_api_Value_int bv ms, bagsD ms z.bags] := h
  have hstep : ∀ bs : List (Option Bag), bs.length = z.bags.length → (∀ j, j ≠ i → bs[j]? = z.bags[j]?) → (x.bags[i]? = some none → bs[i]? = some none) → (∀ b b', x.bags[i]? = some (some b) → y.bags[i]? = some (some b') → ∃ bz, bs[i]? = some (some bz) ∧ SumB b b' bz) →
      MergeInv x y (i + 1) { z with sums := z.sums.set i (W64 (z.sums[i] + y.sums[i])), bags := bs } := by
    intro bs hl hne hnone hsome
    refine ⟨inv.aggs, inv.count, by show (z.sums.set _ _).length = _; rw [List.length_set]; exact inv.slen, by show bs.length = _; rw [hl]; exact inv.blen, fun j hj s t hs ht => ?_, fun j hj => ?_, fun j hj => ?_, fun j hj b b' hb hb' => ?_, fun j hj => ?_⟩
    · show (z.sums.set i _)[j]? = _
      by_cases c : i = j
      · subst c
        rw [List.getElem?_set_self hsz, hzs]
        rw [List.getElem?_eq_getElem hsx] at hs
        rw [List.getElem?_eq_getElem hsy] at ht
        rw [Option.some.inj hs, Option.some.inj ht]
      · rw [List.getElem?_set_ne c]
        exact inv.sdone j (by omega) s t hs ht
    · show (z.sums.set i _)[j]? = _
      rw [List.getElem?_set_ne (by omega)]
      exact inv.srest j (by omega)
    · show bs[j]? = _
      by_cases c : j = i
      · subst c; exact hnone hj
      · rw [hne j c]; exact inv.nil_ j hj
    · show ∃ bz, bs[j]? = _ ∧ _
      by_cases c : j = i
      · subst c; exact hsome b b' hb hb'
      · rw [hne j c]; exact inv.bdone j (by omega) b b' hb hb'
    · show bs[j]? = _
      rw [hne j (by omega)]
      exact inv.brest j (by omega)
  generalize hS : z.sums.set i (W64 (z.sums[i] + y.sums[i])) = S at *
  have hSl : S.length = z.sums.length := by rw [← hS, List.length_set]
  obtain ⟨bx, hbx0⟩ : ∃ b, x.bags[i]? = some b := ⟨_, List.getElem?_eq_getElem hbx⟩
  obtain ⟨by0, hby0⟩ : ∃ b, y.bags[i]? = some b := ⟨_, List.getElem?_eq_getElem hby⟩
  have hbz0 : z.bags[i]? = some bx := (inv.brest i (Nat.le_refl _)).trans hbx0
  have o1 := hx.ord i _ bx hig hbx0
  have o2 := hy.ord i _ by0 (by rw [haa]; exact hig) hby0
  have hml2 : i < ms2.length := by rw [hms2]; exact hby
  obtain ⟨g6, o6, hx6, hc6⟩ := rowR.idx (P := Tryz.prog) (rowD.read d3) sl_s_map_api_Value_int hml2
  rw [cellD.ld (h.hereB d0) sc_s_map_api_Value_int (o := 3) (v := bv2) rfl, hx6, cellsR.ld0 (h.hereB hc6) sc_map_api_Value_int (v := .map ms2[i].p) rfl]
  cases by0 with
  | none =>
    cases bx with
    | some bx => rw [← o1] at o2; cases o2
    | none =>
      have hd : bagD ms2[i] none B' := starL.get d4 (j := i) (by rw [List.getElem?_zipWith, List.getElem?_eq_getElem hml2, hby0])
      have hp : ms2[i].p = none := by
        generalize ms2[i] = MM at hd
        obtain ⟨m⟩ := MM
        cases m with
        | none => rfl
        | some m => exact hd.elim
      rw [hp]
      refine h.ask (fun B2 own base2 => cloneN_g) fun w6 h => ?_
      refine h.rangeN U_map_api_Value_int fun it w7 h => ?_
      have h : Rel B' w7 [cellD p T_aggregate_Acc #[av, .int .i64 z.count, .slice (some ⟨gs, 0, none⟩) z.sums.length cap, bv], rowD T_api_Agg av z.aggs, rowD T_int (.slice (some ⟨gs, 0, none⟩) z.sums.length cap) S, rowD T_map_api_Value_int bv ms, bagsD ms z.bags, iterN it] := h
      refine LOOP_intro (fun _ w' => Rel B' w' [cellD p T_aggregate_Acc #[av, .int .i64 z.count, .slice (some ⟨gs, 0, none⟩) z.sums.length cap, bv], rowD T_api_Agg av z.aggs, rowD T_int (.slice (some ⟨gs, 0, none⟩) z.sums.length cap) S, rowD T_map_api_Value_int bv ms, bagsD ms z.bags, iterN it]) (fun _ _ => 0) h ?_
      clear h
      rintro _ w8 h next _
      refine h.nextN 5 rfl fun w9 h => ?_
      rw [ext_1_0, ifB_false]
      exact hJ _ _ (hstep z.bags rfl (fun _ _ => rfl) (fun _ => hbz0) (fun b b' hb _ => by rw [hbx0] at hb; cases hb)) (h.take 5)
  | some b' =>
    cases bx with
    | none => rw [← o1] at o2; cases o2
    | some bx =>
      obtain ⟨m2, hM2, hmap2⟩ := accD.map d4 hms2 hby0
      have hM2i : ms2[i] = ⟨some m2⟩ := (List.getElem?_eq_some_iff.1 hM2).2
      rw [hM2i]
      obtain ⟨hwy, hly⟩ := hy.wf i b' hby0
      obtain ⟨hwx, hlx⟩ := hx.wf i bx hbx0
      have hml : i < ms.length := by rw [hms]; exact hbx
      obtain ⟨MM, hM⟩ : ∃ MM, ms[i]? = some MM := ⟨_, List.getElem?_eq_getElem hml⟩
      have hMi : ms[i] = MM := (List.getElem?_eq_some_iff.1 hM).2
      have h := bags_pull h 4 rfl hM hbz0
      have h : Rel B' w5 [cellD p T_aggregate_Acc #[av, .int .i64 z.count, .slice (some ⟨gs, 0, none⟩) z.sums.length cap, bv], rowD T_api_Agg av z.aggs, rowD T_int (.slice (some ⟨gs, 0, none⟩) z.sums.length cap) S, rowD T_map_api_Value_int bv ms, starL ((List.zipWith bagD ms z.bags).set i emp), bagD MM (some bx)] := h
      obtain ⟨m, rfl⟩ := bagD_some (h.here (i := 5) rfl)
      refine h.make (fun B2 own base2 => cloneV_m (base2 hmap2)) fun u τ w6 hp h => ?_
      obtain ⟨m3, rfl, rfl⟩ := hp
      refine h.range 6 rfl U_map_api_Value_int fun it w7 h => ?_
      have h : Rel B' w7 [cellD p T_aggregate_Acc #[av, .int .i64 z.count, .slice (some ⟨gs, 0, none⟩) z.sums.length cap, bv], rowD T_api_Agg av z.aggs, rowD T_int (.slice (some ⟨gs, 0, none⟩) z.sums.length cap) S, rowD T_map_api_Value_int bv ms, starL ((List.zipWith bagD ms z.bags).set i emp), mapE m bx.1 bx.2, mapE m3 b'.1 b'.2, iterE it m3 b'.2 #[] b'.2] := h
      refine LOOP_intro (fun _ w' => ∃ (es : List EntV) (seen : Array Nat), Come b'.1 es seen ∧ WfE (putAll bx es).1 (putAll bx es).2 ∧ Rel B' w' [cellD p T_aggregate_Acc #[av, .int .i64 z.count, .slice (some ⟨gs, 0, none⟩) z.sums.length cap, bv], rowD T_api_Agg av z.aggs, rowD T_int (.slice (some ⟨gs, 0, none⟩) z.sums.length cap) S, rowD T_map_api_Value_int bv ms, starL ((List.zipWith bagD ms z.bags).set i emp), mapE m (putAll bx es).1 (putAll bx es).2, mapE m3 b'.1 b'.2, iterE it m3 b'.2 seen b'.2]) (fun _ w' => unseenE b'.1 (seenOf w' it))
        ⟨[], #[], Come.start, hwx, h⟩ ?_
      clear h
      rintro _ w8 ⟨es, seen, hc, hwe, h⟩ next hnext
      have hseen := seenOf_eq h (j := 7) rfl
      rw [hseen] at hnext
      refine h.next 6 7 it rfl rfl hwy.below (fun w9 hall h => ?_) fun e w9 he hns h => ?_
      · rw [ext_1_0, ifB_false]
        have h := h.pick [0, 1, 2, 3, 4, 5] (by decide)
        have h : Rel B' w9 ([cellD p T_aggregate_Acc #[av, .int .i64 z.count, .slice (some ⟨gs, 0, none⟩) z.sums.length cap, bv], rowD T_api_Agg av z.aggs, rowD T_int (.slice (some ⟨gs, 0, none⟩) z.sums.length cap) S, rowD T_map_api_Value_int bv ms, starL ((List.zipWith bagD ms z.bags).set i emp)] ++ [bagD ⟨some m⟩ (some (putAll bx es))]) := h
        have h := bags_give h 4 rfl hM hbz
        refine hJ _ _ (hstep (z.bags.set i (some (putAll bx es))) (by rw [List.length_set]) (fun j hj => by rw [List.getElem?_set_ne (fun hh => hj hh.symm)]) (fun hh => by rw [hbx0] at hh; cases hh) fun b b2 hb hb2 => ?_) h
        rw [hbx0] at hb
        rw [hby0] at hb2
        have e1 : bx = b := Option.some.inj (Option.some.inj hb)
        have e2 : b' = b2 := Option.some.inj (Option.some.inj hb2)
        subst e1 e2
        exact ⟨_, by rw [List.getElem?_set_self hbz], sumB_of hwx hwy (hc.perm hwy hall)⟩
      · rw [ext_3_0, ifB_true]
        have h : Rel B' w9 [cellD p T_aggregate_Acc #[av, .int .i64 z.count, .slice (some ⟨gs, 0, none⟩) z.sums.length cap, bv], rowD T_api_Agg av z.aggs, rowD T_int (.slice (some ⟨gs, 0, none⟩) z.sums.length cap) S, rowD T_map_api_Value_int bv ms, starL ((List.zipWith bagD ms z.bags).set i emp), mapE m (putAll bx es).1 (putAll bx es).2, mapE m3 b'.1 b'.2, iterE it m3 b'.2 (seen.push e.2.2) b'.2] := h
        refine h.entry 6 7 it rfl rfl he hwy.stamps fun w10 h => ?_
        rw [ext_2_0, ext_2_1]
        refine h.allocAg (ds := e.1.cs.toArray) z_api_Value rfl ag_api_Value rfl (fun v hv => Enc.one e.1 v hv) fun a1 w12 h => ?_
        have h : Rel B' (tick w12) [cellD p T_aggregate_Acc #[av, .int .i64 z.count, .slice (some ⟨gs, 0, none⟩) z.sums.length cap, bv], rowD T_api_Agg av z.aggs, rowD T_int (.slice (some ⟨gs, 0, none⟩) z.sums.length cap) S, rowD T_map_api_Value_int bv ms, starL ((List.zipWith bagD ms z.bags).set i emp), mapE m (putAll bx es).1 (putAll bx es).2, mapE m3 b'.1 b'.2, iterE it m3 b'.2 (seen.push e.2.2) b'.2, cellD a1 T_api_Value e.1.cs.toArray] := h.tick
        generalize tick w12 = w12 at *
        obtain ⟨g7, o7, hx7, hc7⟩ := rowR.idx (P := Tryz.prog) (rowD.read (h.here (i := 3) rfl)) sl_s_map_api_Value_int hml
        rw [hMi] at hc7
        rw [h.ld 0 rfl sc_s_map_api_Value_int (o := 3) (v := bv) rfl, hx7, cellsR.ld0 hc7 sc_map_api_Value_int (v := mapV m) rfl, h.ldAg 8 rfl ag_api_Value rfl]
        refine h.act 5 rfl (fun B2 own base2 => put_d (m := m) hwe e.1 e.2.1) fun u e' τ w13 hp h => ?_
        obtain ⟨rfl, rfl, rfl⟩ := hp
        have hw2 := (putS_wf (v := e.1) (n := e.2.1) hwe (Nat.le_refl _)).1
        refine hnext _ _ ⟨es ++ [e], seen.push e.2.2, hc.push he hns, by rw [putAll_snoc]; exact hw2, ?_⟩ ?_
        · rw [putAll_snoc]
          exact h.take 8
        · rw [seenOf_eq (h.take 8) (j := 7) rfl]
          exact unseen_push he hns
end
end Go.Proofs.YtoebncgnjbblgaaGreatDoor
