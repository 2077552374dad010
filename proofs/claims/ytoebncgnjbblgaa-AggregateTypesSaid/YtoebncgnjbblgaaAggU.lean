/-
  AggregateTypes. No condition.
-/
import Derived.Test.YtoebncgnjbblgaaAggT
import Derived.Test.YtoebncgnjbblgaaArgs
namespace Go.Proofs.Ytoebncgnjbblgaa
open Go.RowKit
set_option maxRecDepth 100000

theorem firstE_zero {cols : List ColD} {l : List AggD} (h : firstE cols l = 0) : ∀ g ∈ l, (typeS g cols).2 = 0 := by
  induction l with
  | nil => intro g hg; cases hg
  | cons a l ih =>
    rw [firstE] at h
    intro g hg
    by_cases c : (typeS a cols).2 = 0
    · rw [if_neg (fun hh => hh c)] at h
      rcases List.mem_cons.1 hg with rfl | hg
      · exact c
      · exact ih h g hg
    · rw [if_pos c] at h
      exact absurd h c
/-- What holds after m rows that fit. -/
structure Fit (cols : List ColD) (aggs : List AggD) (m : Nat) (x : ACC) : Prop where
  good : GoodA m x
  same : x.aggs = aggs
  bag : ∀ (i : Nat) (g : AggD) (b : Bag), aggs[i]? = some g → x.bags[i]? = some (some b) → (∀ u n, getE u b.1 = some n → 1 ≤ n ∧ n ≤ m ∧ u.kind = colT cols g.col ∧ vRight u = true) ∧ (0 < m → ∃ u n, getE u b.1 = some n)
theorem newS_bag {aggs : List AggD} {i : Nat} {b : Bag} (h : (newS aggs).bags[i]? = some (some b)) : b = ([], 0) := by
  have h : (aggs.map nb)[i]? = some (some b) := h
  rw [List.getElem?_map] at h
  cases hg : aggs[i]? with
  | none => rw [hg] at h; cases h
  | some g =>
    rw [hg] at h
    have h : nb g = some b := by simpa using h
    unfold nb at h
    split at h
    · exact (Option.some.inj h).symm
    · cases h
theorem Fit.new {cols : List ColD} {aggs : List AggD} (hl : aggs.length ≤ 1000) : Fit cols aggs 0 (newS aggs) :=
  ⟨newS_good hl, rfl, fun i g b hg hb => by
    have := newS_bag hb
    subst this
    refine ⟨fun u n hn => ?_, fun h => absurd h (Nat.lt_irrefl 0)⟩
    have hn : getE u ([] : List EntV) = some n := hn
    simp [getE, findE] at hn⟩
theorem fits_at {row : List ValD} {cols : List ColD} (h : fitsS row cols = true) {c : Int} (h0 : 0 ≤ c) (h1 : c < cols.length) : (atS row c).kind = colT cols c ∧ vRight (atS row c) = true := by
  unfold fitsS at h
  rw [Bool.and_eq_true, Bool.and_eq_true, decide_eq_true_eq, decide_eq_true_eq] at h
  obtain ⟨hlen, hr, hk⟩ := h
  obtain ⟨i, rfl⟩ : ∃ i : Nat, c = i := ⟨c.toNat, by omega⟩
  have hi : i < cols.length := by omega
  have hir : i < row.length := by omega
  have := hk i hi
  unfold atS colT
  rw [if_neg (by omega), Int.toNat_natCast, ← this, List.getElem?_eq_getElem hir]
  refine ⟨rfl, ?_⟩
  unfold rowRight at hr
  rw [Bool.and_eq_true] at hr
  exact List.all_eq_true.1 hr.2 _ (List.getElem_mem hir)
theorem type_col {g : AggD} {cols : List ColD} (h : (typeS g cols).2 = 0) (h0 : g.kind ≠ 0) : 0 ≤ g.col ∧ g.col < cols.length ∧ (typeS g cols).1 = colT cols g.col ∧ (g.kind = 1 → colT cols g.col = 0) := by
  unfold typeS at h ⊢
  by_cases a1 : g.kind < 0 ∨ 4 ≤ g.kind
  · rw [if_pos a1] at h; exact absurd h (by decide)
  by_cases a2 : g.col < 0 ∨ (cols.length : Int) ≤ g.col
  · rw [if_neg a1, if_neg h0, if_pos a2] at h; exact absurd h (by decide)
  rw [if_neg a1, if_neg h0, if_neg a2] at h ⊢
  by_cases a3 : g.kind = 1 ∧ colT cols g.col ≠ 0
  · rw [if_pos a3] at h; exact absurd h (by decide)
  rw [if_neg a3]
  refine ⟨by omega, by omega, rfl, fun hk => Decidable.byContradiction fun hh => a3 ⟨hk, hh⟩⟩
theorem put_one {b : Bag} {c m : Nat} {v : ValD} (hw : WfE b.1 b.2) (hm : m ≤ 1000) (hb : ∀ u n, getE u b.1 = some n → 1 ≤ n ∧ n ≤ m) : ∃ q : Int, 1 ≤ q ∧ q ≤ m + 1 ∧ ∀ u, getE u (putS b v 1).1 = if u = v then some q else getE u b.1 := by
  have hc : 0 ≤ (getE v b.1).getD 0 ∧ (getE v b.1).getD 0 ≤ m := by
    cases hg : getE v b.1 with
    | none => exact ⟨Int.le_refl 0, by simp⟩
    | some n => have := hb v n hg; exact ⟨by simp; omega, by simp; omega⟩
  have hq : W64 ((getE v b.1).getD 0 + 1) = (getE v b.1).getD 0 + 1 := wrap_id (by omega) (by omega)
  refine ⟨(getE v b.1).getD 0 + 1, by omega, by omega, fun u => ?_⟩
  unfold putS
  simp only [hq]
  rw [if_neg (by omega)]
  exact setE_get hw.keys
theorem Fit.add {cols : List ColD} {aggs : List AggD} {m : Nat} {x : ACC} {row : List ValD} (h : Fit cols aggs m x) (hm : m ≤ 1000) (hf : fitsS row cols = true) (ht : ∀ g ∈ aggs, (typeS g cols).2 = 0) : Fit cols aggs (m + 1) (addS x row 1) := by
  refine ⟨h.good.addK row 1 _, (addK_aggs row 1 x _).1.trans h.same, fun i g b hg hb => ?_⟩
  have hga : x.aggs[i]? = some g := by rw [h.same]; exact hg
  have hil : i < x.aggs.length := (List.getElem?_eq_some_iff.1 hga).1
  have hb : (addK row 1 x x.aggs.length).bags[i]? = some (some b) := hb
  rw [(addK_get row 1 x _ i).2, if_pos hil, hga] at hb
  cases hb0 : x.bags[i]? with
  | none => rw [hb0] at hb; cases hb
  | some b0 =>
    rw [hb0] at hb
    have hb : bagAt row 1 g b0 = some b := by simpa using hb
    have ho := h.good.ord i g b0 hga hb0
    unfold bagAt at hb
    by_cases k1 : g.kind = 1
    · rw [if_pos k1] at hb
      subst hb
      have : ordB g = false := by unfold ordB; rw [decide_eq_false (by omega), decide_eq_false (by omega)]; rfl
      rw [this] at ho
      cases ho
    rw [if_neg k1] at hb
    by_cases k2 : ordB g = true
    case neg =>
      rw [if_neg k2] at hb
      subst hb
      exact absurd ho.symm k2
    rw [if_pos k2] at hb
    cases b0 with
    | none => cases hb
    | some b1 =>
      have hb : putS b1 (atS row g.col) 1 = b := by simpa using hb
      subst hb
      obtain ⟨hin, _⟩ := h.bag i g b1 hg hb0
      have hk0 : g.kind ≠ 0 := by
        intro hh
        unfold ordB at k2
        rw [decide_eq_false (by omega), decide_eq_false (by omega)] at k2
        cases k2
      obtain ⟨c0, c1, _, _⟩ := type_col (ht g (List.mem_of_getElem? hg)) hk0
      obtain ⟨v1, v2⟩ := fits_at hf c0 c1
      obtain ⟨q, q1, q2, hq⟩ := put_one (c := 0) (v := atS row g.col) (h.good.wf i b1 hb0).1 hm fun u n hn => ⟨(hin u n hn).1, (hin u n hn).2.1⟩
      refine ⟨fun u n hn => ?_, fun _ => ⟨atS row g.col, q, by rw [hq, if_pos rfl]⟩⟩
      rw [hq] at hn
      by_cases e : u = atS row g.col
      · rw [if_pos e] at hn
        have hn : q = n := Option.some.inj hn
        subst hn e
        exact ⟨q1, by omega, v1, v2⟩
      · rw [if_neg e] at hn
        obtain ⟨n1, n2, n3⟩ := hin u n hn
        exact ⟨n1, by omega, n3⟩
theorem mem_keysV {b : Bag} {u : ValD} : u ∈ keysV b ↔ ∃ e ∈ b.1, e.1 = u := by
  unfold keysV sortV
  rw [(List.mergeSort_perm _ _).mem_iff, List.mem_map]
theorem best_mem {g : AggD} {b : Bag} (h : posV b ≠ []) : bestS g b ∈ posV b := by
  unfold bestS
  split
  · rename_i e; exact absurd e h
  · rename_i a r e
    rw [e]
    split
    · exact List.mem_cons_self
    · exact List.getLast_mem _
theorem vRight_int (n : Int) : vRight (vInt n) = true := by
  unfold vRight vInt
  simp
theorem Fit.res {cols : List ColD} {aggs : List AggD} {m : Nat} {x : ACC} (h : Fit cols aggs m x) (hm : 0 < m) (ht : ∀ g ∈ aggs, (typeS g cols).2 = 0) (hk : Kinds aggs) {i : Nat} {g : AggD} (hg : aggs[i]? = some g) :
    (resAt x i).kind = (typeS g cols).1 ∧ vRight (resAt x i) = true := by
  have hga : x.aggs[i]? = some g := by rw [h.same]; exact hg
  have hgm := List.mem_of_getElem? hg
  unfold resAt
  rw [hga]
  simp only
  by_cases k0 : g.kind = 0
  · rw [if_pos k0]
    refine ⟨?_, vRight_int _⟩
    unfold typeS
    rw [if_neg (by omega), if_pos k0]
    rfl
  rw [if_neg k0]
  obtain ⟨c0, c1, c2, c3⟩ := type_col (ht g hgm) k0
  by_cases k1 : g.kind = 1
  · rw [if_pos k1, c2, c3 k1]
    exact ⟨rfl, vRight_int _⟩
  rw [if_neg k1]
  have hkg := hk g hgm
  have ho : ordB g = true := by
    unfold ordB
    rw [Bool.or_eq_true, decide_eq_true_eq, decide_eq_true_eq]
    omega
  have hbl : i < x.bags.length := by rw [h.good.bags]; exact (List.getElem?_eq_some_iff.1 hga).1
  obtain ⟨b0, hb0⟩ : ∃ b0, x.bags[i]? = some b0 := ⟨_, List.getElem?_eq_getElem hbl⟩
  have hso := h.good.ord i g b0 hga hb0
  rw [ho] at hso
  obtain ⟨b, rfl⟩ := Option.isSome_iff_exists.1 hso
  rw [hb0]
  obtain ⟨hin, hne⟩ := h.bag i g b hg hb0
  have hwf := (h.good.wf i b hb0).1
  have key : ∀ u, u ∈ posV b → u.kind = colT cols g.col ∧ vRight u = true := by
    intro u hu
    unfold posV at hu
    obtain ⟨e, he, rfl⟩ := mem_keysV.1 (List.mem_filter.1 hu).1
    have := hin e.1 e.2.1 (getE_mem hwf.keys he)
    exact this.2.2
  have hpn : posV b ≠ [] := by
    obtain ⟨u, n, hn⟩ := hne hm
    have hu : u ∈ posV b := by
      unfold posV
      refine List.mem_filter.2 ⟨?_, ?_⟩
      · obtain ⟨s, hs⟩ := (hwf.getE_iff).1 hn
        exact mem_keysV.2 ⟨_, hs, rfl⟩
      · have := (hin u n hn).1
        unfold cntV
        rw [hn]
        exact decide_eq_true (show (0 : Int) < n by omega)
    intro hh
    rw [hh] at hu
    cases hu
  rw [c2]
  exact key _ (best_mem hpn)

theorem aggregateTypes_pt {W : World} {v0 v1 v2 : Value} {aggs : List AggD} {cols : List ColD} {rows : List SV} (r0 : rowR v0 aggs (lawB W)) (hm0 : aggs.length ≤ maxLen) (r1 : rowR v1 cols (lawB W)) (r2 : rowR v2 rows (lawB W)) (hq2 : ∀ a ∈ rows, ok_s_api_Value W a) {K : Value → World → Prop}
    (fin : ∀ w' σ, Rel (lawB W) w' σ → K (.bool true) w') : erratalaw30_AggregateTypes.pt v0 v1 v2 W K := by
  unfold erratalaw30_AggregateTypes.pt
  have h := lawB.start W
  have hm0 : aggs.length ≤ 9223372036854775807 := by unfold maxLen at hm0; omega
  refine h.ask (fun B2 own base2 => small_g) fun w1 h => ?_
  refine h.ask (fun B2 own base2 => right_g (base2 r0) hm0) fun w2 h => ?_
  rw [un_not, ifB_not, ifB_bool]
  refine ⟨fun cr => ?_, fun _ => fin _ _ h⟩
  unfold rightA at cr
  rw [Bool.and_eq_true, decide_eq_true_eq, List.all_eq_true] at cr
  obtain ⟨hok, hl8⟩ := cr
  have hok : ∀ g ∈ aggs, gOk g := fun g hg => of_decide_eq_true (hok g hg)
  have hkinds : Kinds aggs := fun g hg => ⟨(hok g hg).1, (hok g hg).2.1⟩
  rw [rowR.len r1 sl_s_api_Col, bin_gtr, ifB_dec]
  refine ⟨fun _ => fin _ _ h, fun hc12 => ?_⟩
  rw [rowR.len r2 sl_s_s_api_Value, bin_gtr, ifB_dec]
  refine ⟨fun _ => fin _ _ h, fun hr40 => ?_⟩
  refine h.make (fun B2 own base2 => cols_m (base2 r0) (base2 r1) (by omega)) fun u τ w3 hp h => ?_
  obtain ⟨y, rfl, rfl⟩ := hp
  rw [ext_2_0, ext_2_1, rowR.len r0 sl_s_api_Agg, bin_sub, wrap_id (by omega) (by omega)]
  have h : Rel (lawB W) w3 [rowD T_api_Col y (colsS cols aggs).2] := h
  have hE : (colsS cols aggs).1 = firstE cols aggs := by
    unfold colsS
    split
    · rfl
    · rename_i hh; exact (Decidable.of_not_not hh).symm
  rw [hE]
  refine LOOP_intro (fun z w' => ∃ (i : Nat), i ≤ aggs.length ∧ z = (.int .i64 (firstE cols (aggs.drop i)), .int .i64 (i - 1), ()) ∧ Rel (lawB W) w' [rowD T_api_Col y (colsS cols aggs).2]) (fun z _ => match z.2.1 with | .int _ n => (n + 1).toNat | _ => 0)
    ⟨aggs.length, Nat.le_refl _, by rw [List.drop_length]; rfl, h⟩ ?_
  clear h
  rintro z w4 ⟨i, hi, rfl, h⟩ next hnext
  simp -zeta only [bin_geq, ifB_dec]
  refine ⟨fun hge => ?_, fun hlt => ?_⟩
  · obtain ⟨j, rfl⟩ : ∃ j, i = j + 1 := ⟨i - 1, by omega⟩
    have hjl : j < aggs.length := by omega
    refine LETJ_intro fun J hJ => ?_
    replace hJ : ∀ w', Rel (lawB W) w' [rowD T_api_Col y (colsS cols aggs).2] → J (.int .i64 (firstE cols (aggs.drop j)), ()) w' := by
      intro w' h
      refine hJ _ _ ?_
      show pureK _ _ _
      rw [bin_sub, wrap_id (by omega) (by omega)]
      refine hnext _ _ ⟨j, by omega, ?_, h⟩ (by simp only; omega)
      rw [show ((j + 1 : Nat) : Int) - 1 - 1 = (j : Int) - 1 by omega]
    obtain ⟨g, o, hx, hcl⟩ := rowR.idx r0 sl_s_api_Agg (P := Try.prog) hjl
    have hcl : cellsR g o aggs[j].cs (lawB W) := hcl
    rw [show ((j + 1 : Nat) : Int) - 1 = (j : Int) by omega, hx, cellsR.ldAg (h.hereB hcl) ag_api_Agg rfl]
    refine h.ask (fun B2 own base2 => type_g (base2 r1) aggs[j]) fun w5 h => ?_
    rw [firstE_at hjl] at hJ
    rw [ext_2_0, ext_2_1, bin_neq, ifB_not, ifB_dec]
    refine ⟨fun e => ?_, fun e => ?_⟩
    · rw [if_neg (fun hh => hh e)] at hJ
      exact hJ _ h
    · rw [if_pos e] at hJ
      exact hJ _ h
  have : i = 0 := by omega
  subst this
  rw [List.drop_zero]
  clear hnext
  refine LETJ_intro fun J2 hJ2 => ?_
  have hlen2 : firstE cols aggs ≠ 0 → (colsS cols aggs).2 = [] := fun hh => by unfold colsS; rw [if_pos hh]
  have hlen0 : firstE cols aggs = 0 → (colsS cols aggs).2 = aggs.map (colAt cols) := fun hh => by unfold colsS; rw [if_neg (fun h => h hh)]
  replace hJ2 : ∀ w', Rel (lawB W) w' [rowD T_api_Col y (colsS cols aggs).2] → J2 () w' := by
    intro w7 h
    refine hJ2 _ _ ?_
    show pureK _ _ _
    rw [bin_neq, ifB_not, ifB_dec]
    refine ⟨fun e0 => ?_, fun _ => fin _ _ h⟩
    rw [hlen0 e0] at h
    have ht := firstE_zero e0
    refine h.make (fun B2 own base2 => New_m (base2 r0) (by omega)) fun u τ w8 hp h => ?_
    obtain ⟨p, rfl, rfl⟩ := hp
    rw [bin_eql_ptr_nil U_p_aggregate_Acc, ifB_false]
    have h : Rel (lawB W) w8 [rowD T_api_Col y (aggs.map (colAt cols)), accD p (newS aggs)] := h
    refine LOOP_intro (fun z w' => ∃ (i : Nat) (x : ACC), i ≤ rows.length ∧ z = (.int .i64 i, ()) ∧ Fit cols aggs i x ∧ Rel (lawB W) w' [rowD T_api_Col y (aggs.map (colAt cols)), accD p x]) (fun z _ => rows.length - (match z.1 with | .int _ n => n.toNat | _ => 0))
      ⟨0, newS aggs, Nat.zero_le _, rfl, Fit.new (by omega), h⟩ ?_
    clear h
    rintro z w9 ⟨i, x, hi, rfl, hfit, h⟩ next hnext
    rw [rowR.len r2 sl_s_s_api_Value, bin_lss, ifB_dec]
    refine ⟨fun hlt => ?_, fun hge => ?_⟩
    · have hil : i < rows.length := by omega
      obtain ⟨row, rr, _, _⟩ := hq2 _ (List.getElem_mem hil)
      obtain ⟨g, o, hx, hcl⟩ := rowR.idx r2 sl_s_s_api_Value (P := Try.prog) hil
      rw [hx, cellsR.ld0 (h.hereB hcl) sc_s_api_Value (v := rows[i].1) rfl]
      refine h.ask (fun B2 own base2 => fits_g (base2 rr) (base2 r1) (by omega)) fun w10 h => ?_
      rw [un_not, ifB_not, ifB_bool]
      refine ⟨fun cf => ?_, fun _ => fin _ _ h⟩
      rw [hx, cellsR.ld0 (h.hereB hcl) sc_s_api_Value (v := rows[i].1) rfl]
      refine h.act 1 rfl (fun B2 own base2 => Add_d (base2 rr) hfit.good 1) fun u2 e' τ w11 hp h => ?_
      obtain ⟨rfl, rfl, rfl⟩ := hp
      rw [bin_add, wrap_id (by omega) (by omega)]
      exact hnext _ _ ⟨i + 1, _, hil, rfl, hfit.add (by omega) cf ht, h⟩ (by simp only; omega)
    have : i = rows.length := by omega
    subst this
    clear hnext
    refine h.make (fun B2 own base2 => Result_m (own (i := 1) rfl) hfit.good (by omega) (by rw [hfit.same]; exact hkinds)) fun u τ w12 hp h => ?_
    subst hp
    have h : Rel (lawB W) w12 [rowD T_api_Col y (aggs.map (colAt cols)), accD p x, rowD T_api_Value u (resultS x)] := h
    have hrl : (resultS x).length = aggs.length := by rw [resAt_bound, hfit.same]
    rw [rowR.len (rowD.read (h.here (i := 2) rfl)) sl_s_api_Value, rowR.len (rowD.read (h.here (i := 0) rfl)) sl_s_api_Col, bin_neq, ifB_not, ifB_dec]
    refine ⟨fun _ => ?_, fun hh => absurd (by rw [hrl, List.length_map]) hh⟩
    refine LOOP_intro (fun z w' => ∃ (i : Nat), i ≤ aggs.length ∧ z = (.int .i64 i, ()) ∧ Rel (lawB W) w' [rowD T_api_Col y (aggs.map (colAt cols)), accD p x, rowD T_api_Value u (resultS x)]) (fun z _ => aggs.length - (match z.1 with | .int _ n => n.toNat | _ => 0))
      ⟨0, Nat.zero_le _, rfl, h⟩ ?_
    clear h
    rintro z w13 ⟨i, hi, rfl, h⟩ next hnext
    rw [rowR.len (rowD.read (h.here (i := 0) rfl)) sl_s_api_Col, bin_lss, ifB_dec]
    refine ⟨fun hlt => ?_, fun _ => fin _ _ h⟩
    have hil : i < aggs.length := by rw [List.length_map] at hlt; omega
    have hig : aggs[i]? = some aggs[i] := List.getElem?_eq_getElem hil
    refine LETJ_intro fun J3 hJ3 => ?_
    replace hJ3 : ∀ w', Rel (lawB W) w' [rowD T_api_Col y (aggs.map (colAt cols)), accD p x, rowD T_api_Value u (resultS x)] → J3 () w' := by
      intro w' h
      refine hJ3 _ _ ?_
      show pureK _ _ _
      rw [bin_add, wrap_id (by omega) (by omega)]
      exact hnext _ _ ⟨i + 1, hil, rfl, h⟩ (by simp only; omega)
    have h := h.tick
    generalize tick w13 = w13 at *
    obtain ⟨g1, o1, hx1, hc1⟩ := rowR.idx (P := Try.prog) (rowD.read (h.here (i := 0) rfl)) sl_s_api_Col (i := i) (by simpa using hil)
    have e1 : (aggs.map (colAt cols))[i]'(by simpa using hil) = colAt cols aggs[i] := by simp
    rw [e1] at hc1
    have hc1 : (cellsR g1 o1 (colAt cols aggs[i]).cs).here w13 := hc1
    obtain ⟨g2, o2, hx2, hc2⟩ := rowR.idx (P := Try.prog) r0 sl_s_api_Agg hil
    have hc2 : cellsR g2 o2 aggs[i].cs (lawB W) := hc2
    simp -zeta only [hx1, hx2, field_addr f_api_Col_0, field_addr f_api_Col_1, field_addr f_api_Agg_2]
    rw [cellsR.ld hc1 sc_string (j := 0) (v := .string aggs[i].name) rfl, cellsR.ld (h.hereB hc2) sc_string (j := 2) (v := .string aggs[i].name) rfl]
    rw [neq_str, decide_eq_true rfl, Bool.not_true, ifB_false]
    rw [rowR.len r2 sl_s_s_api_Value, bin_gtr, ifB_dec]
    refine ⟨fun hpos => ?_, fun _ => hJ3 _ h⟩
    obtain ⟨rk, rv⟩ := hfit.res (by omega) ht hkinds hig
    have hirl : i < (resultS x).length := by omega
    obtain ⟨g3, o3, hx3, hc3⟩ := rowR.idx (P := Try.prog) (rowD.read (h.here (i := 2) rfl)) sl_s_api_Value (i := i) hirl
    have e3 : (resultS x)[i] = resAt x i := by simp [resultS]
    rw [e3] at hc3
    have hc3 : (cellsR g3 o3 (resAt x i).cs).here w13 := hc3
    simp -zeta only [hx3, field_addr f_api_Value_0]
    rw [cellsR.ld hc3 sc_int (j := 0) (v := .int .i64 (resAt x i).kind) rfl, cellsR.ld hc1 sc_int (j := 1) (v := .int .i64 (typeS aggs[i] cols).1) rfl, bin_neq, ifB_not, ifB_dec]
    refine ⟨fun _ => ?_, fun hh => absurd rk hh⟩
    rw [cellsR.ldAg hc3 ag_api_Value rfl]
    refine h.ask (fun B2 own base2 => vRight_g (resAt x i)) fun w15 h => ?_
    rw [rv, un_not, Bool.not_true, ifB_false]
    exact hJ3 _ h
  rw [bin_neq, ifB_not, ifB_dec]
  refine ⟨fun _ => ?_, fun hh => absurd rfl hh⟩
  have hrd := rowD.read (h.here (i := 0) rfl)
  rw [bin_neq, ifB_not, ifB_dec]
  refine ⟨fun e => ?_, fun e => ?_⟩
  · rw [bin_eql, ifB_dec]
    refine ⟨fun _ => ?_, fun hh => absurd e hh⟩
    rw [rowR.len hrd sl_s_api_Col, rowR.len r0 sl_s_api_Agg, bin_neq, ifB_not, ifB_dec]
    refine ⟨fun _ => hJ2 _ h, fun hh => absurd (by rw [hlen0 e, List.length_map]) hh⟩
  · rw [rowR.len hrd sl_s_api_Col, bin_neq, ifB_not, ifB_dec]
    refine ⟨fun _ => ?_, fun hh => absurd (by rw [hlen2 e]; rfl) hh⟩
    rw [bin_eql, ifB_dec]
    exact ⟨fun hh => absurd hh e, fun _ => hJ2 _ h⟩
end Go.Proofs.Ytoebncgnjbblgaa
