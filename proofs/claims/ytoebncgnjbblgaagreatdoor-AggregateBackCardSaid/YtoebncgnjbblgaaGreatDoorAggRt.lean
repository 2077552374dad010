/-
  Accumulators: Read of Bytes. No condition.
-/
import Derived.Test.YtoebncgnjbblgaaGreatDoorAggO
--@auto
namespace Go.Proofs.YtoebncgnjbblgaaGreatDoor
open Go.RowKit
set_option maxRecDepth 100000

def nub : List ValD → List ValD
  | [] => []
  | a :: l => if a ∈ nub l then nub l else a :: nub l
theorem nub_nodup : ∀ l, (nub l).Nodup
  | [] => List.nodup_nil
  | a :: l => by
    unfold nub
    split
    · exact nub_nodup l
    · rename_i h; exact List.nodup_cons.2 ⟨h, nub_nodup l⟩
theorem nub_mem : ∀ (l : List ValD) (x : ValD), x ∈ l → x ∈ nub l
  | a :: l, x, h => by
    unfold nub
    rcases List.mem_cons.1 h with rfl | h
    · split
      · rename_i c; exact c
      · exact List.mem_cons_self
    · split
      · exact nub_mem l x h
      · exact List.mem_cons_of_mem _ (nub_mem l x h)
theorem pick_val {c : Int} {r : List ValD} {n : Int} : ∀ {D : List ValD}, D.Nodup → (D.map fun v => n * fCnt c v r).sum = if atS r c ∈ D then n else 0
  | [], _ => by simp
  | v :: D, h => by
    obtain ⟨h1, h2⟩ := List.nodup_cons.1 h
    rw [List.map_cons, List.sum_cons, pick_val h2]
    unfold fCnt
    by_cases e : atS r c = v
    · subst e
      rw [if_pos rfl, if_neg h1, if_pos List.mem_cons_self, Int.mul_one, Int.add_zero]
    · rw [if_neg e, Int.mul_zero]
      by_cases m : atS r c ∈ D
      · rw [if_pos m, if_pos (List.mem_cons_of_mem _ m), Int.zero_add]
      · rw [if_neg m, if_neg (fun hh => (List.mem_cons.1 hh).elim e m)]; rfl
theorem val_sum {c : Int} {D : List ValD} (hD : D.Nodup) : ∀ {L : List Chg}, (∀ p ∈ L, atS p.1 c ∈ D) → (D.map fun v => tot L (fCnt c v)).sum = tot L fun _ => 1
  | [], _ => by
    rw [tot_nil]
    clear hD
    induction D with
    | nil => rfl
    | cons a l ih => rw [List.map_cons, List.sum_cons, tot_nil, ih fun p hp => by cases hp]; rfl
  | p :: L, h => by
    have ih := val_sum hD (L := L) fun q hq => h q (List.mem_cons_of_mem _ hq)
    have hs : (D.map fun v => tot (p :: L) (fCnt c v)).sum = (D.map fun v => p.2 * fCnt c v p.1).sum + (D.map fun v => tot L (fCnt c v)).sum := by
      clear ih h hD
      induction D with
      | nil => rfl
      | cons a l ih =>
        simp only [List.map_cons, List.sum_cons]
        rw [ih, tot_cons]
        omega
    rw [hs, ih, pick_val hD, if_pos (h p List.mem_cons_self), tot_cons, Int.mul_one]
theorem filter_sum (f : ValD → Int) : ∀ D : List ValD, W64 ((D.map f).sum) = W64 (((D.filter fun v => decide (W64 (f v) ≠ 0)).map f).sum)
  | [] => rfl
  | v :: D => by
    rw [List.map_cons, List.sum_cons]
    by_cases c : W64 (f v) = 0
    · rw [List.filter_cons_of_neg (by simp [c]), ← W_addl, c, Int.zero_add]
      exact filter_sum f D
    · rw [List.filter_cons_of_pos (by simp [c]), List.map_cons, List.sum_cons]
      exact W_cong rfl (filter_sum f D)
theorem fold_sum (f : ValD → Int) : ∀ (D : List ValD) (a : Int), W64 a = a → D.foldl (fun a u => W64 (a + f u)) a = W64 (a + (D.map f).sum)
  | [], a, h => by rw [List.map_nil, List.sum_nil, Int.add_zero]; exact h.symm
  | u :: D, a, h => by
    rw [List.foldl_cons, fold_sum f D _ (W_idem _), W_addl, List.map_cons, List.sum_cons, Int.add_assoc]
theorem map_W (f g : ValD → Int) : ∀ D : List ValD, (∀ u ∈ D, W64 (f u) = W64 (g u)) → W64 ((D.map f).sum) = W64 ((D.map g).sum)
  | [], _ => rfl
  | u :: D, h => by
    rw [List.map_cons, List.map_cons, List.sum_cons, List.sum_cons]
    exact W_cong (h u List.mem_cons_self) (map_W f g D fun v hv => h v (List.mem_cons_of_mem _ hv))
theorem perm_isum {l m : List Int} (h : l.Perm m) : l.sum = m.sum := by
  induction h with
  | nil => rfl
  | cons a _ ih => rw [List.sum_cons, List.sum_cons, ih]
  | swap a b l => simp only [List.sum_cons]; omega
  | trans _ _ h1 h2 => exact h1.trans h2
theorem keysV_nodup {b : Bag} (h : WfE b.1 b.2) : (keysV b).Nodup := by
  unfold keysV sortV
  exact (List.mergeSort_perm _ _).nodup_iff.2 h.keys
theorem again_of {aggs : List AggD} {L : List Chg} {x : ACC} {N : Nat} (h : IsAcc aggs L x) (hx : GoodA N x) (hR : ∀ p ∈ L, ∀ c, vRight (atS p.1 c) = true) : Again x := by
  have at_ : ∀ (i : Nat) (b : Bag), x.bags[i]? = some (some b) → ∃ g, aggs[i]? = some g := fun i b hb => by
    have hil : i < aggs.length := by rw [← h.same, ← hx.bags]; exact (List.getElem?_eq_some_iff.1 hb).1
    exact ⟨_, List.getElem?_eq_getElem hil⟩
  refine ⟨fun i b hb u hu => ?_, fun i b hb => ?_⟩
  · obtain ⟨g, hg⟩ := at_ i b hb
    obtain ⟨p, hp, rfl⟩ := cnt_mem ((h.keys hx hg hb u).1.1 hu)
    exact hR p hp g.col
  · obtain ⟨g, hg⟩ := at_ i b hb
    have hnd := nub_nodup (L.map fun p => atS p.1 g.col)
    have hall : ∀ p ∈ L, atS p.1 g.col ∈ nub (L.map fun p => atS p.1 g.col) := fun p hp => nub_mem _ _ (List.mem_map.2 ⟨p, hp, rfl⟩)
    have hv := val_sum hnd hall
    have hf := filter_sum (fun v => tot L (fCnt g.col v)) (nub (L.map fun p => atS p.1 g.col))
    have hperm : (keysV b).Perm ((nub (L.map fun p => atS p.1 g.col)).filter fun v => decide (W64 (tot L (fCnt g.col v)) ≠ 0)) :=
      (List.perm_ext_iff_of_nodup (keysV_nodup (hx.wf i b hb).1) (hnd.filter _)).2 fun u => by
        rw [(h.keys hx hg hb u).1, List.mem_filter, decide_eq_true_eq]
        refine ⟨fun hu => ⟨?_, hu⟩, fun hu => hu.2⟩
        obtain ⟨p, hp, e⟩ := cnt_mem hu
        rw [← e]
        exact hall p hp
    rw [fold_sum _ _ _ W_zero, Int.zero_add, map_W _ (fun v => tot L (fCnt g.col v)) _ fun u _ => by rw [(h.keys hx hg hb u).2, W_idem], perm_isum (hperm.map _), ← hf, hv, h.count]
/-- What was written is read again. -/
theorem read_again {aggs : List AggD} {L : List Chg} {x : ACC} {N : Nat} (h : IsAcc aggs L x) (hx : GoodA N x) (hN : N ≤ 1000000) (hL : ∀ p ∈ L, RowOk p.1) (hR : ∀ p ∈ L, ∀ c, vRight (atS p.1 c) = true) : ∃ y, readA aggs (encA x) = some y ∧ IsAcc aggs L y := by
  obtain ⟨y, e1, inv⟩ := readN_enc h.same (h.fit hx hL) hN (again_of h hx hR) aggs.length (Nat.le_refl _)
  have hya : y.aggs = aggs := inv.same
  have hbag : ∀ (i : Nat) (g : AggD) (b2 : Bag), aggs[i]? = some g → y.bags[i]? = some (some b2) → ∃ b, x.bags[i]? = some (some b) ∧ WfE b2.1 b2.2 ∧ b2.1.length ≤ N ∧ ∀ v, getE v b2.1 = getE v b.1 := by
    intro i g b2 hg hb2
    have hil : i < aggs.length := (List.getElem?_eq_some_iff.1 hg).1
    have hgx : x.aggs[i]? = some g := by rw [h.same]; exact hg
    obtain ⟨b0, hb0⟩ : ∃ b0, x.bags[i]? = some b0 := ⟨_, List.getElem?_eq_getElem (by rw [hx.bags, h.same]; exact hil)⟩
    have o := hx.ord i g b0 hgx hb0
    cases b0 with
    | none =>
      have := inv.nil_ i g hg o.symm
      rw [this] at hb2
      cases hb2
    | some b =>
      obtain ⟨b3, h1, ⟨h2, h3⟩, h4⟩ := inv.bdone i hil b hb0
      rw [h1] at hb2
      have e : b3 = b2 := Option.some.inj (Option.some.inj hb2)
      subst e
      have hl := (hx.wf i b hb0).2
      rw [keysV_len] at h3
      refine ⟨b, hb0, h2, by omega, fun v => ?_⟩
      obtain ⟨k1, k2⟩ := h.keys hx hg hb0 v
      rw [h4, k2, h.bags i g b hg hb0]
      unfold nz
      by_cases c : v ∈ keysV b
      · rw [if_pos c, if_neg (k1.1 c)]
      · rw [if_neg c, if_pos (Classical.not_not.1 fun hh => c (k1.2 hh))]
  have gy : GoodA N y := by
    refine ⟨by rw [hya, ← h.same]; exact hx.few, by rw [hya]; exact inv.slen, by rw [hya]; exact inv.blen, fun i g b hg hb => ?_, fun i b hb => ?_⟩
    · rw [hya] at hg
      have hil : i < aggs.length := (List.getElem?_eq_some_iff.1 hg).1
      by_cases o : ordB g = true
      · have hgx : x.aggs[i]? = some g := by rw [h.same]; exact hg
        obtain ⟨b0, hb0⟩ : ∃ b0, x.bags[i]? = some b0 := ⟨_, List.getElem?_eq_getElem (by rw [hx.bags, h.same]; exact hil)⟩
        have o2 := hx.ord i g b0 hgx hb0
        rw [o] at o2
        obtain ⟨bb, rfl⟩ := Option.isSome_iff_exists.1 o2
        obtain ⟨b3, h1, _⟩ := inv.bdone i hil bb hb0
        rw [h1] at hb
        rw [← Option.some.inj hb, o]
        rfl
      · have o : ordB g = false := by simpa using o
        have := inv.nil_ i g hg o
        rw [this] at hb
        rw [← Option.some.inj hb, o]
        rfl
    · have hil : i < aggs.length := by rw [← inv.blen]; exact (List.getElem?_eq_some_iff.1 hb).1
      obtain ⟨_, _, h2, h3, _⟩ := hbag i _ b (List.getElem?_eq_getElem hil) hb
      exact ⟨h2, h3⟩
  have iy : IsAcc aggs L y := by
    refine ⟨hya, by rw [inv.count]; exact h.count, fun i g hg => ?_, fun i g b2 hg hb2 v => ?_⟩
    · have hil : i < aggs.length := (List.getElem?_eq_some_iff.1 hg).1
      rw [inv.sdone i hil g hg, h.sums i g hg]
      by_cases c : g.kind = 1
      · rw [if_pos c, if_pos c]; rfl
      · rw [if_neg c, if_neg c]
    · obtain ⟨b, hb, _, _, h4⟩ := hbag i g b2 hg hb2
      rw [h4, h.bags i g b hg hb]
  refine ⟨y, readA_ok e1 ⟨?_, (iy.same' h gy hx (SameT.refl L)).enc, fun i b2 hb2 e he h0 => ?_⟩, iy⟩
  · rw [List.drop_of_length_le (by simp)]
    rfl
  · have hil : i < aggs.length := by rw [← inv.blen]; exact (List.getElem?_eq_some_iff.1 hb2).1
    have hg := getE_mem (gy.wf i b2 hb2).1.keys he
    rw [iy.bags i _ b2 (List.getElem?_eq_getElem hil) hb2, h0] at hg
    unfold nz at hg
    split at hg
    · cases hg
    · rename_i c; exact c (Option.some.inj hg)
end Go.Proofs.YtoebncgnjbblgaaGreatDoor
