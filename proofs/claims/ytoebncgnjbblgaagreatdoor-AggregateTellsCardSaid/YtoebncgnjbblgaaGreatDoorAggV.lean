/-
  Accumulators: what they hold, by the changes' totals. No condition.
-/
import Derived.Test.YtoebncgnjbblgaaGreatDoorAggW
--@auto
namespace Go.Proofs.YtoebncgnjbblgaaGreatDoor
open Go.RowKit
set_option maxRecDepth 100000

/-! ### Numbers of 64 bits -/
theorem W_range (a : Int) : inI (W64 a) := by
  show -9223372036854775808 ≤ IntKind.i64.wrap a ∧ IntKind.i64.wrap a ≤ 9223372036854775807
  rw [IntKind.wrap_i64]
  omega
theorem W_eq {a b : Int} (k : Int) (h : a = b + 18446744073709551616 * k) : W64 a = W64 b := by
  show IntKind.i64.wrap a = IntKind.i64.wrap b
  rw [IntKind.wrap_i64, IntKind.wrap_i64]
  omega
theorem W_is (a : Int) : ∃ k, W64 a = a + 18446744073709551616 * k := by
  refine ⟨(W64 a - a) / 18446744073709551616, ?_⟩
  show IntKind.i64.wrap a = a + 18446744073709551616 * ((IntKind.i64.wrap a - a) / 18446744073709551616)
  rw [IntKind.wrap_i64]
  omega
theorem W_idem (a : Int) : W64 (W64 a) = W64 a := by obtain ⟨k, h⟩ := W_is a; exact W_eq k h
theorem W_addl (a b : Int) : W64 (W64 a + b) = W64 (a + b) := by obtain ⟨k, h⟩ := W_is a; exact W_eq k (by rw [h]; omega)
theorem W_addr (a b : Int) : W64 (a + W64 b) = W64 (a + b) := by obtain ⟨k, h⟩ := W_is b; exact W_eq k (by rw [h]; omega)
theorem W_mull (a b : Int) : W64 (W64 a * b) = W64 (a * b) := by
  obtain ⟨k, h⟩ := W_is a
  refine W_eq (k * b) ?_
  rw [h, Int.add_mul, Int.mul_assoc]
theorem W_cong {a b c d : Int} (h : W64 a = W64 b) (h' : W64 c = W64 d) : W64 (a + c) = W64 (b + d) := by
  rw [← W_addl, h, W_addl, ← W_addr, h', W_addr]
theorem W_zero : W64 0 = 0 := by decide +kernel
theorem W_id {a : Int} (h : inI a) : W64 a = a := wrap_id h.1 h.2

/-! ### Totals -/
abbrev Chg := List ValD × Int
def tot (L : List Chg) (f : List ValD → Int) : Int := (L.map fun p => p.2 * f p.1).sum
theorem tot_nil (f : List ValD → Int) : tot [] f = 0 := rfl
theorem tot_append (L M : List Chg) (f : List ValD → Int) : tot (L ++ M) f = tot L f + tot M f := by unfold tot; rw [List.map_append, List.sum_append]
theorem tot_one (r : List ValD) (n : Int) (f : List ValD → Int) : tot [(r, n)] f = n * f r := by unfold tot; simp
theorem tot_cons (p : Chg) (L : List Chg) (f : List ValD → Int) : tot (p :: L) f = p.2 * f p.1 + tot L f := by unfold tot; simp
def fSum (c : Int) (r : List ValD) : Int := (atS r c).n
def fCnt (c : Int) (v : ValD) (r : List ValD) : Int := if atS r c = v then 1 else 0
def nz (t : Int) : Option Int := if t = 0 then none else some t
theorem nz_getD (t : Int) : (nz t).getD 0 = t := by
  unfold nz
  split
  · rename_i h; rw [h]; rfl
  · rfl
/-- An accumulator of these changes. -/
structure IsAcc (aggs : List AggD) (L : List Chg) (x : ACC) : Prop where
  same : x.aggs = aggs
  count : x.count = W64 (tot L fun _ => 1)
  sums : ∀ (i : Nat) (g : AggD), aggs[i]? = some g → x.sums[i]? = some (if g.kind = 1 then W64 (tot L (fSum g.col)) else 0)
  bags : ∀ (i : Nat) (g : AggD) (b : Bag), aggs[i]? = some g → x.bags[i]? = some (some b) → ∀ v, getE v b.1 = nz (W64 (tot L (fCnt g.col v)))
theorem isAcc_new (aggs : List AggD) : IsAcc aggs [] (newS aggs) := by
  refine ⟨rfl, ?_, fun i g hg => ?_, fun i g b hg hb v => ?_⟩
  · rw [tot_nil, W_zero]; rfl
  · have hl : i < aggs.length := (List.getElem?_eq_some_iff.1 hg).1
    show (List.replicate aggs.length (0 : Int))[i]? = _
    rw [List.getElem?_replicate, if_pos hl, tot_nil, W_zero]
    split <;> rfl
  · have hb : (aggs.map nb)[i]? = some (some b) := hb
    rw [List.getElem?_map, hg] at hb
    have hb : nb g = some b := by simpa using hb
    unfold nb at hb
    split at hb
    · have hb : (([], 0) : Bag) = b := by simpa using hb
      subst hb
      rw [tot_nil, W_zero]
      rfl
    · cases hb
theorem putS_get {b : Bag} {v : ValD} {n : Int} (hw : WfE b.1 b.2) (u : ValD) : getE u (putS b v n).1 = if u = v then nz (W64 ((getE v b.1).getD 0 + n)) else getE u b.1 := by
  have hs := hw.set v (W64 ((getE v b.1).getD 0 + n))
  unfold putS
  simp only
  by_cases c : W64 ((getE v b.1).getD 0 + n) = 0
  · rw [if_pos c]
    show getE u (delE v _) = _
    rw [delE_eq hs.keys, filter_get hs (fun k => decide (k ≠ v)), setE_get hw.keys]
    unfold nz
    rw [if_pos c]
    by_cases e : u = v
    · simp [e]
    · simp [e]
  · rw [if_neg c, setE_get hw.keys]
    unfold nz
    rw [if_neg c]
theorem IsAcc.add {aggs : List AggD} {L : List Chg} {x : ACC} {N : Nat} (h : IsAcc aggs L x) (hx : GoodA N x) (row : List ValD) (n : Int) : IsAcc aggs (L ++ [(row, n)]) (addS x row n) := by
  refine ⟨(addK_aggs row n x _).1.trans h.same, ?_, fun i g hg => ?_, fun i g b hg hb v => ?_⟩
  · show (addK row n x _).count = _
    rw [(addK_aggs row n x _).2, h.count, W_addl, tot_append, tot_one, Int.mul_one]
  · have hga : x.aggs[i]? = some g := by rw [h.same]; exact hg
    have hil : i < x.aggs.length := (List.getElem?_eq_some_iff.1 hga).1
    show (addK row n x _).sums[i]? = _
    rw [(addK_get row n x _ i).1, if_pos hil, hga, h.sums i g hg]
    show some (sumAt row n g _) = _
    unfold sumAt
    by_cases c : g.kind = 1
    · rw [if_pos c, if_pos c, if_pos c, W_addr, W_addl, tot_append, tot_one]
      rfl
    · rw [if_neg c, if_neg c, if_neg c]
  · have hga : x.aggs[i]? = some g := by rw [h.same]; exact hg
    have hil : i < x.aggs.length := (List.getElem?_eq_some_iff.1 hga).1
    have hb : (addK row n x x.aggs.length).bags[i]? = some (some b) := hb
    rw [(addK_get row n x _ i).2, if_pos hil, hga] at hb
    cases hb0 : x.bags[i]? with
    | none => rw [hb0] at hb; cases hb
    | some b0 =>
      rw [hb0] at hb
      have hb : bagAt row n g b0 = some b := by simpa using hb
      have ho := hx.ord i g b0 hga hb0
      unfold bagAt at hb
      by_cases k1 : g.kind = 1
      · rw [if_pos k1] at hb
        subst hb
        have : ordB g = false := by unfold ordB; rw [decide_eq_false (by omega), decide_eq_false (by omega)]; rfl
        rw [this] at ho
        cases ho
      rw [if_neg k1] at hb
      by_cases k2 : ordB g = true
      case neg =>
        rw [if_neg k2] at hb
        subst hb
        exact absurd ho.symm k2
      rw [if_pos k2] at hb
      cases b0 with
      | none => cases hb
      | some b1 =>
        have hb : putS b1 (atS row g.col) n = b := by simpa using hb
        subst hb
        rw [putS_get (hx.wf i b1 hb0).1, h.bags i g b1 hg hb0, h.bags i g b1 hg hb0, nz_getD, W_addl, tot_append, tot_one]
        by_cases e : v = atS row g.col
        · rw [if_pos e]
          subst e
          unfold fCnt
          rw [if_pos rfl, Int.mul_one]
        · rw [if_neg e]
          have : fCnt g.col v row = 0 := by unfold fCnt; rw [if_neg (fun hh => e hh.symm)]
          rw [this, Int.mul_zero, Int.add_zero]

/-! ### Equal totals, equal answers -/
def SameT (L M : List Chg) : Prop := ∀ f : List ValD → Int, W64 (tot L f) = W64 (tot M f)
theorem bag_same {b b' : Bag} (hw : WfE b.1 b.2) (hw' : WfE b'.1 b'.2) (h : ∀ v, getE v b.1 = getE v b'.1) : keysV b = keysV b' ∧ b.1.length = b'.1.length ∧ cntV b = cntV b' := by
  have hp : (b.1.map (·.1)).Perm (b'.1.map (·.1)) := (List.perm_ext_iff_of_nodup hw.keys hw'.keys).2 fun u => by
    have mem : ∀ l : List EntV, u ∈ l.map (·.1) ↔ getE u l ≠ none := fun l => by
      rw [Ne, getE_none, List.mem_map]
      constructor
      · rintro ⟨e, he, rfl⟩ hh; exact hh e he rfl
      · intro hh
        refine Classical.byContradiction fun hno => hh fun e he hu => hno ⟨e, he, hu⟩
    rw [mem, mem, h u]
  refine ⟨sortV_perm hp, ?_, ?_⟩
  · have := hp.length_eq
    rw [List.length_map, List.length_map] at this
    exact this
  · funext v
    unfold cntV
    rw [h v]
structure SameA (x y : ACC) : Prop where
  aggs : x.aggs = y.aggs
  count : x.count = y.count
  sums : x.sums = y.sums
  bags : ∀ i : Nat, x.bags[i]? = none ∧ y.bags[i]? = none ∨ x.bags[i]? = some none ∧ y.bags[i]? = some none ∨ ∃ b b', x.bags[i]? = some (some b) ∧ y.bags[i]? = some (some b') ∧ keysV b = keysV b' ∧ b.1.length = b'.1.length ∧ cntV b = cntV b'
theorem IsAcc.same' {aggs : List AggD} {L M : List Chg} {x y : ACC} {N N' : Nat} (h : IsAcc aggs L x) (h' : IsAcc aggs M y) (hx : GoodA N x) (hy : GoodA N' y) (ht : SameT L M) : SameA x y := by
  refine ⟨h.same.trans h'.same.symm, by rw [h.count, h'.count, ht], ?_, fun i => ?_⟩
  · apply List.ext_getElem?
    intro i
    cases hg : aggs[i]? with
    | none =>
      have hl := List.getElem?_eq_none_iff.1 hg
      rw [List.getElem?_eq_none (by rw [hx.sums, h.same]; exact hl), List.getElem?_eq_none (by rw [hy.sums, h'.same]; exact hl)]
    | some g => rw [h.sums i g hg, h'.sums i g hg, ht]
  · cases hg : aggs[i]? with
    | none =>
      have hl := List.getElem?_eq_none_iff.1 hg
      exact .inl ⟨List.getElem?_eq_none (by rw [hx.bags, h.same]; exact hl), List.getElem?_eq_none (by rw [hy.bags, h'.same]; exact hl)⟩
    | some g =>
      have hl : i < aggs.length := (List.getElem?_eq_some_iff.1 hg).1
      have hgx : x.aggs[i]? = some g := by rw [h.same]; exact hg
      have hgy : y.aggs[i]? = some g := by rw [h'.same]; exact hg
      obtain ⟨b, hb⟩ : ∃ b, x.bags[i]? = some b := ⟨_, List.getElem?_eq_getElem (by rw [hx.bags, h.same]; exact hl)⟩
      obtain ⟨b', hb'⟩ : ∃ b, y.bags[i]? = some b := ⟨_, List.getElem?_eq_getElem (by rw [hy.bags, h'.same]; exact hl)⟩
      have o1 := hx.ord i g b hgx hb
      have o2 := hy.ord i g b' hgy hb'
      rw [hb, hb']
      cases b with
      | none =>
        cases b' with
        | none => exact .inr (.inl ⟨rfl, rfl⟩)
        | some b' => rw [← o1] at o2; cases o2
      | some b =>
        cases b' with
        | none => rw [← o1] at o2; cases o2
        | some b' => exact .inr (.inr ⟨b, b', rfl, rfl, bag_same (hx.wf i b hb).1 (hy.wf i b' hb').1 fun v => by rw [h.bags i g b hg hb, h'.bags i g b' hg hb', ht]⟩)
theorem posV_same {b b' : Bag} (h : keysV b = keysV b') (h' : cntV b = cntV b') : posV b = posV b' := by unfold posV; rw [h, h']
theorem bestS_same {b b' : Bag} {g : AggD} (h : keysV b = keysV b') (h' : cntV b = cntV b') : bestS g b = bestS g b' := by
  unfold bestS
  rw [posV_same h h']
theorem encBag_same {b b' : Bag} (h : keysV b = keysV b') (hl : b.1.length = b'.1.length) (h' : cntV b = cntV b') : encBag b = encBag b' := by
  unfold encBag
  have : encE b = encE b' := by funext u; unfold encE; rw [h']
  rw [h, hl, this]
theorem SameA.res {x y : ACC} (h : SameA x y) : resultS x = resultS y := by
  unfold resultS
  rw [h.aggs]
  apply List.map_congr_left
  intro i _
  unfold resAt
  rw [h.aggs, h.count, h.sums]
  rcases h.bags i with ⟨h1, h2⟩ | ⟨h1, h2⟩ | ⟨b, b', h1, h2, h3, h4, h5⟩
  · rw [h1, h2]
  · rw [h1, h2]
  · rw [h1, h2]
    cases y.aggs[i]? with
    | none => rfl
    | some g => simp only [bestS_same h3 h5]
theorem SameA.enc {x y : ACC} (h : SameA x y) : encA x = encA y := by
  unfold encA
  rw [h.aggs, h.count]
  congr 1
  rw [List.flatMap_def, List.flatMap_def]
  congr 1
  apply List.map_congr_left
  intro i _
  unfold encAt
  rw [h.aggs]
  cases y.aggs[i]? with
  | none => rfl
  | some g =>
    simp only
    congr 1
    · unfold encSum; rw [h.sums]
    · unfold encOrd
      rcases h.bags i with ⟨h1, h2⟩ | ⟨h1, h2⟩ | ⟨b, b', h1, h2, h3, h4, h5⟩
      · rw [h1, h2]
      · rw [h1, h2]
      · rw [h1, h2]
        simp only [encBag_same h3 h4 h5]
/-- What is written of a row. -/
structure KeyOk (u : ValD) : Prop where
  good : GoodVal u
  s : (bl u.s).length ≤ 1000
theorem keyOk_zero : KeyOk vZero := ⟨⟨by decide, by decide, by decide⟩, by decide⟩
def RowOk (row : List ValD) : Prop := ∀ u ∈ row, KeyOk u
theorem atS_ok {row : List ValD} (h : RowOk row) (c : Int) : KeyOk (atS row c) := by
  unfold atS
  split
  · exact keyOk_zero
  · cases hr : row[c.toNat]? with
    | none => exact keyOk_zero
    | some u => exact h u (List.mem_of_getElem? hr)
theorem tot_zero {L : List Chg} {f : List ValD → Int} (h : ∀ p ∈ L, f p.1 = 0) : tot L f = 0 := by
  induction L with
  | nil => rfl
  | cons p L ih => rw [tot_cons, h p List.mem_cons_self, Int.mul_zero, Int.zero_add]; exact ih fun q hq => h q (List.mem_cons_of_mem _ hq)
theorem cnt_mem {L : List Chg} {c : Int} {v : ValD} (h : W64 (tot L (fCnt c v)) ≠ 0) : ∃ p ∈ L, atS p.1 c = v := by
  refine Classical.byContradiction fun hno => h ?_
  rw [tot_zero fun p hp => ?_, W_zero]
  unfold fCnt
  rw [if_neg fun hh => hno ⟨p, hp, hh⟩]
theorem IsAcc.keys {aggs : List AggD} {L : List Chg} {x : ACC} {N : Nat} (h : IsAcc aggs L x) (hx : GoodA N x) {i : Nat} {g : AggD} {b : Bag} (hg : aggs[i]? = some g) (hb : x.bags[i]? = some (some b)) (u : ValD) :
    (u ∈ keysV b ↔ W64 (tot L (fCnt g.col u)) ≠ 0) ∧ cntV b u = W64 (tot L (fCnt g.col u)) := by
  have hget := h.bags i g b hg hb u
  refine ⟨?_, by unfold cntV; rw [hget, nz_getD]⟩
  rw [show u ∈ keysV b ↔ ∃ e ∈ b.1, e.1 = u by unfold keysV sortV; rw [(List.mergeSort_perm _ _).mem_iff, List.mem_map]]
  have : (∃ e ∈ b.1, e.1 = u) ↔ getE u b.1 ≠ none := by
    rw [Ne, getE_none]
    constructor
    · rintro ⟨e, he, rfl⟩ hh; exact hh e he rfl
    · intro hh
      exact Classical.byContradiction fun hno => hh fun e he hu => hno ⟨e, he, hu⟩
  rw [this, hget]
  unfold nz
  split
  · rename_i c; simp [c]
  · rename_i c; simp [c]
theorem IsAcc.fit {aggs : List AggD} {L : List Chg} {x : ACC} {N : Nat} (h : IsAcc aggs L x) (hx : GoodA N x) (hL : ∀ p ∈ L, RowOk p.1) : FitA N x := by
  refine ⟨hx, by rw [h.count]; exact W_range _, fun i s hs => ?_, fun i b hb u hu => ?_⟩
  · have hil : i < aggs.length := by rw [← h.same, ← hx.sums]; exact (List.getElem?_eq_some_iff.1 hs).1
    rw [h.sums i _ (List.getElem?_eq_getElem hil)] at hs
    have hs := Option.some.inj hs
    subst hs
    split
    · exact W_range _
    · exact ⟨by omega, by omega⟩
  · have hil : i < aggs.length := by rw [← h.same, ← hx.bags]; exact (List.getElem?_eq_some_iff.1 hb).1
    obtain ⟨k1, k2⟩ := h.keys hx (List.getElem?_eq_getElem hil) hb u
    obtain ⟨p, hp, rfl⟩ := cnt_mem (k1.1 hu)
    have := atS_ok (hL p hp) aggs[i].col
    exact ⟨this.good, this.s, by rw [k2]; exact W_range _⟩
theorem sum_zero : ∀ {l : List Nat}, (∀ n ∈ l, n = 0) → l.sum = 0
  | [], _ => rfl
  | a :: l, h => by rw [List.sum_cons, h a List.mem_cons_self, sum_zero fun n hn => h n (List.mem_cons_of_mem _ hn)]
/-- All gone. -/
theorem IsAcc.empty {aggs : List AggD} {L : List Chg} {x : ACC} {N : Nat} (h : IsAcc aggs L x) (hx : GoodA N x) (ht : SameT L []) : x.count = 0 ∧ rowsS x = 0 ∧ emptyS x = true := by
  have hc : x.count = 0 := by rw [h.count, ht, tot_nil, W_zero]
  have hr : rowsS x = 0 := by
    unfold rowsS
    refine sum_zero ?_
    intro n hn
    obtain ⟨bo, hbo, rfl⟩ := List.mem_map.1 hn
    obtain ⟨i, hi, rfl⟩ := List.getElem_of_mem hbo
    cases hb : x.bags[i] with
    | none => rfl
    | some b =>
      have hb' : x.bags[i]? = some (some b) := by rw [List.getElem?_eq_getElem hi, hb]
      have hil : i < aggs.length := by rw [← h.same, ← hx.bags]; exact hi
      have hk : keysV b = [] := List.eq_nil_iff_forall_not_mem.2 fun u hu => ((h.keys hx (List.getElem?_eq_getElem hil) hb' u).1.1 hu) (by rw [ht, tot_nil, W_zero])
      have := keysV_len b
      rw [hk] at this
      exact this.symm
  refine ⟨hc, hr, ?_⟩
  unfold emptyS
  rw [hc, hr, decide_eq_true rfl, decide_eq_true rfl, Bool.true_and, Bool.true_and, Bool.not_eq_true', List.any_eq_false]
  intro s hs
  obtain ⟨i, hi, rfl⟩ := List.getElem_of_mem hs
  have hil : i < aggs.length := by rw [← h.same, ← hx.sums]; exact hi
  have := h.sums i _ (List.getElem?_eq_getElem hil)
  rw [List.getElem?_eq_getElem hi, ht, tot_nil, W_zero] at this
  have := Option.some.inj this
  rw [this]
  split <;> decide
end Go.Proofs.YtoebncgnjbblgaaGreatDoor
