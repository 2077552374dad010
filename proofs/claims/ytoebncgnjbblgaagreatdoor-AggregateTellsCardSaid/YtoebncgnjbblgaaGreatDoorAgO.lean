/-
  Accumulators: an encoding is read as what was written. No condition.
-/
import Derived.Test.YtoebncgnjbblgaaGreatDoorAgR
import Derived.Test.YtoebncgnjbblgaaGreatDoorAggK
import Derived.Test.YtoebncgnjbblgaaGreatDoorAggS
import Derived.Test.YtoebncgnjbblgaaGreatDoorAggQ
--@auto
namespace Go.Proofs.YtoebncgnjbblgaaGreatDoor
open Go.RowKit
set_option maxRecDepth 100000

theorem flat_ge {α : Type} (f : α → Bs) : ∀ l : List α, (∀ x ∈ l, 1 ≤ (f x).length) → l.length ≤ (l.flatMap f).length
  | [], _ => by simp
  | a :: l, h => by
    rw [List.flatMap_cons, List.length_append, List.length_cons]
    have h1 := h a List.mem_cons_self
    have h2 := flat_ge f l fun x hx => h x (List.mem_cons_of_mem _ hx)
    omega
theorem flat_drop_le {α : Type} (f : α → Bs) (l : List α) (k : Nat) : ((l.drop k).flatMap f).length ≤ (l.flatMap f).length := by
  have := congrArg (fun q => (q.flatMap f).length) (List.take_append_drop k l)
  simp only [List.flatMap_append, List.length_append] at this
  omega
theorem readEnts_enc (f : ValD → Int) : ∀ (D : List ValD) (b0 : Bag) (all : Int) (r : Bs), (∀ u ∈ D, vRight u = true ∧ GoodVal u ∧ (bl u.s).length ≤ 1000 ∧ inI (f u)) →
    readEnts D.length b0 all ⟨D.flatMap (fun u => encT (encV1 u) ++ encI (f u)) ++ r, false⟩ = some (D.foldl (fun b u => setE u (f u) b.1 b.2) b0, D.foldl (fun a u => W64 (a + f u)) all, ⟨r, false⟩)
  | [], b0, all, r, _ => rfl
  | u :: D, b0, all, r, h => by
    obtain ⟨h1, h2, h3, h4⟩ := h u List.mem_cons_self
    have hl := encV1_len h2 h3
    have e : (u :: D).flatMap (fun u => encT (encV1 u) ++ encI (f u)) ++ r = encT (encV1 u) ++ (encI (f u) ++ (D.flatMap (fun u => encT (encV1 u) ++ encI (f u)) ++ r)) := by
      rw [List.flatMap_cons]
      simp only [List.append_assoc]
    rw [e, List.length_cons, readEnts, textR_rd.fore (encV1 u) _ (show (encV1 u).length ≤ 9223372036854775807 by omega)]
    simp only
    rw [readV1_enc h2]
    simp only
    rw [if_pos h1, intR_rd.fore (f u) _ h4]
    simp only
    rw [readEnts_enc f D _ _ r fun x hx => h x (List.mem_cons_of_mem _ hx)]
    rfl
theorem foldSet_get (f : ValD → Int) : ∀ (D : List ValD) (b0 : Bag), WfE b0.1 b0.2 → ∀ v, getE v (D.foldl (fun b u => setE u (f u) b.1 b.2) b0).1 = if v ∈ D then some (f v) else getE v b0.1
  | [], b0, _, v => by simp
  | u :: D, b0, h, v => by
    rw [List.foldl_cons, foldSet_get f D _ (h.set u (f u)), setE_get h.keys]
    by_cases c : v ∈ D
    · rw [if_pos c, if_pos (List.mem_cons_of_mem _ c)]
    · rw [if_neg c]
      by_cases e : v = u
      · subst e; rw [if_pos rfl, if_pos List.mem_cons_self]
      · rw [if_neg e, if_neg (fun hh => (List.mem_cons.1 hh).elim e c)]
theorem foldSet_wf (f : ValD → Int) : ∀ (D : List ValD) (b0 : Bag), WfE b0.1 b0.2 → WfE (D.foldl (fun b u => setE u (f u) b.1 b.2) b0).1 (D.foldl (fun b u => setE u (f u) b.1 b.2) b0).2 ∧ (D.foldl (fun b u => setE u (f u) b.1 b.2) b0).1.length ≤ b0.1.length + D.length
  | [], b0, h => ⟨h, Nat.le_refl _⟩
  | u :: D, b0, h => by
    obtain ⟨h1, h2⟩ := foldSet_wf f D _ (h.set u (f u))
    have hle : (setE u (f u) b0.1 b0.2).1.length ≤ b0.1.length + 1 := by
      unfold setE
      split
      · simp
      · simp
    rw [List.foldl_cons, List.length_cons]
    exact ⟨h1, by omega⟩
theorem nb_none {aggs : List AggD} {j : Nat} {g : AggD} (hg : aggs[j]? = some g) (ho : ordB g = false) : (newS aggs).bags[j]? = some none := by
  show (aggs.map nb)[j]? = _
  rw [List.getElem?_map, hg]
  show some (nb g) = _
  unfold nb
  rw [if_neg (by rw [ho]; decide)]
/-- What can be read again. -/
structure Again (x : ACC) : Prop where
  right : ∀ (i : Nat) (b : Bag), x.bags[i]? = some (some b) → ∀ u ∈ keysV b, vRight u = true
  total : ∀ (i : Nat) (b : Bag), x.bags[i]? = some (some b) → (keysV b).foldl (fun a u => W64 (a + cntV b u)) 0 = x.count
structure ReadInv (aggs : List AggD) (x : ACC) (k : Nat) (y : ACC) : Prop where
  same : y.aggs = aggs
  count : y.count = x.count
  slen : y.sums.length = aggs.length
  blen : y.bags.length = aggs.length
  sdone : ∀ j : Nat, j < k → ∀ g, aggs[j]? = some g → y.sums[j]? = some (if g.kind = 1 then (x.sums[j]?).getD 0 else 0)
  srest : ∀ j : Nat, k ≤ j → y.sums[j]? = (newS aggs).sums[j]?
  bdone : ∀ j : Nat, j < k → ∀ b, x.bags[j]? = some (some b) → ∃ b2, y.bags[j]? = some (some b2) ∧ (WfE b2.1 b2.2 ∧ b2.1.length ≤ (keysV b).length) ∧ ∀ v, getE v b2.1 = if v ∈ keysV b then some (cntV b v) else none
  brest : ∀ j : Nat, k ≤ j → y.bags[j]? = (newS aggs).bags[j]?
  nil_ : ∀ (j : Nat) (g : AggD), aggs[j]? = some g → ordB g = false → y.bags[j]? = some none
theorem readN_enc {aggs : List AggD} {N : Nat} {x : ACC} (hs : x.aggs = aggs) (hf : FitA N x) (hN : N ≤ 1000000) (ha : Again x) : ∀ k, k ≤ aggs.length → ∃ y, readN aggs (encA x) k = some (y, ⟨((List.range aggs.length).drop k).flatMap (encAt x), false⟩) ∧ ReadInv aggs x k y
  | 0, _ => by
    have e : intR ⟨encA x, false⟩ = (x.count, ⟨(List.range aggs.length).flatMap (encAt x), false⟩) := by
      unfold encA
      rw [hs]
      exact intR_rd.fore x.count _ hf.count
    refine ⟨{ newS aggs with count := x.count }, ?_, ⟨rfl, rfl, by simp [newS], by simp [newS], fun j hj => absurd hj (Nat.not_lt_zero j), fun j _ => rfl, fun j hj => absurd hj (Nat.not_lt_zero j), fun j _ => rfl, fun j g hg ho => nb_none hg ho⟩⟩
    rw [readN, e, List.drop_zero]
  | k + 1, hk => by
    obtain ⟨y, hy, inv⟩ := readN_enc hs hf hN ha k (by omega)
    have hkl : k < aggs.length := by omega
    have hkg : aggs[k]? = some aggs[k] := List.getElem?_eq_getElem hkl
    have hkx : x.aggs[k]? = some aggs[k] := by rw [hs]; exact hkg
    have hd : (List.range aggs.length).drop k = k :: (List.range aggs.length).drop (k + 1) := by
      rw [List.drop_eq_getElem_cons (by simpa using hkl)]
      simp
    have hea : encAt x k = encSum x aggs[k] k ++ encOrd x aggs[k] k := by unfold encAt; rw [hkx]
    have hsx : k < x.sums.length := by rw [hf.good.sums, hs]; exact hkl
    have hsy : k < y.sums.length := by rw [inv.slen]; exact hkl
    have hby : k < y.bags.length := by rw [inv.blen]; exact hkl
    have htl : ((k :: (List.range aggs.length).drop (k + 1)).flatMap (encAt x)).length ≤ (encA x).length := by
      have := flat_drop_le (encAt x) (List.range aggs.length) k
      rw [hd] at this
      unfold encA
      rw [hs, List.length_append]
      omega
    generalize hr : ((List.range aggs.length).drop (k + 1)).flatMap (encAt x) = rest at *
    rw [hd, List.flatMap_cons, hr, hea, List.append_assoc] at hy
    rw [List.flatMap_cons, hr, hea, List.append_assoc] at htl
    have hgo : readN aggs (encA x) (k + 1) = readOrd (encA x).length aggs[k] (readSum aggs[k] y k ⟨encSum x aggs[k] k ++ (encOrd x aggs[k] k ++ rest), false⟩).1 k (readSum aggs[k] y k ⟨encSum x aggs[k] k ++ (encOrd x aggs[k] k ++ rest), false⟩).2 := by
      show (match readN aggs (encA x) k with
        | none => none
        | some q => match aggs[k]? with
          | none => none
          | some g => readOrd (encA x).length g (readSum g q.1 k q.2).1 k (readSum g q.1 k q.2).2) = _
      rw [hy, hkg]
    have hsum : ∃ y1 : ACC, readSum aggs[k] y k ⟨encSum x aggs[k] k ++ (encOrd x aggs[k] k ++ rest), false⟩ = (y1, ⟨encOrd x aggs[k] k ++ rest, false⟩) ∧ y1.count = y.count ∧ y1.bags = y.bags ∧ y1.sums.length = y.sums.length ∧ (∀ j, j ≠ k → y1.sums[j]? = y.sums[j]?) ∧ y1.sums[k]? = some (if aggs[k].kind = 1 then (x.sums[k]?).getD 0 else 0) ∧ y1.aggs = y.aggs := by
      by_cases c : aggs[k].kind = 1
      · have hi : inI ((x.sums[k]?).getD 0) := by
          rw [List.getElem?_eq_getElem hsx]
          exact hf.sum k _ (List.getElem?_eq_getElem hsx)
        have e : encSum x aggs[k] k = encI ((x.sums[k]?).getD 0) := by unfold encSum; rw [if_pos c]
        refine ⟨{ y with sums := y.sums.set k ((x.sums[k]?).getD 0) }, ?_, rfl, rfl, by show (y.sums.set k _).length = _; rw [List.length_set], fun j hj => ?_, ?_, rfl⟩
        · unfold readSum
          rw [if_pos c, e, intR_rd.fore _ _ hi]
        · show (y.sums.set k _)[j]? = _
          rw [List.getElem?_set_ne (fun hh => hj hh.symm)]
        · show (y.sums.set k _)[k]? = _
          rw [List.getElem?_set_self hsy, if_pos c]
      · have e : encSum x aggs[k] k = [] := by unfold encSum; rw [if_neg c]
        refine ⟨y, ?_, rfl, rfl, rfl, fun j _ => rfl, ?_, rfl⟩
        · unfold readSum
          rw [if_neg c, e]
          rfl
        · rw [inv.srest k (Nat.le_refl _), if_neg c]
          show (List.replicate aggs.length (0 : Int))[k]? = _
          rw [List.getElem?_replicate, if_pos hkl]
    obtain ⟨y1, e1, e2, e3, e4, e5, e6, e7⟩ := hsum
    rw [e1] at hgo
    simp only at hgo
    by_cases co : ordB aggs[k] = true
    · have hbx : k < x.bags.length := by rw [hf.good.bags, hs]; exact hkl
      obtain ⟨b0, hb0⟩ : ∃ b0, x.bags[k]? = some b0 := ⟨_, List.getElem?_eq_getElem hbx⟩
      have hso := hf.good.ord k aggs[k] b0 hkx hb0
      rw [co] at hso
      obtain ⟨b, rfl⟩ := Option.isSome_iff_exists.1 hso
      have heo : encOrd x aggs[k] k = encI b.1.length ++ (keysV b).flatMap (encE b) := by unfold encOrd; rw [if_pos co, hb0]; rfl
      have hlen := (hf.good.wf k b hb0).2
      have hkl2 := keysV_len b
      have hge := flat_ge (encE b) (keysV b) fun u _ => by
        have := encT_pos (encV1 u)
        unfold encE
        rw [List.length_append]
        omega
      rw [heo, List.append_assoc] at hgo
      rw [heo] at htl
      simp only [List.length_append] at htl
      have hmin : (min (b.1.length : Int) ((encA x).length : Int)).toNat = (keysV b).length := by omega
      have hre := readEnts_enc (cntV b) (keysV b) ([], 0) 0 rest fun u hu => ⟨ha.right k b hb0 u hu, (hf.bag k b hb0 u hu).1, (hf.bag k b hb0 u hu).2.1, (hf.bag k b hb0 u hu).2.2⟩
      have hfe : (keysV b).flatMap (fun u => encT (encV1 u) ++ encI (cntV b u)) = (keysV b).flatMap (encE b) := rfl
      rw [hfe, ha.total k b hb0] at hre
      have hro : readOrd (encA x).length aggs[k] y1 k ⟨encI b.1.length ++ ((keysV b).flatMap (encE b) ++ rest), false⟩ = some ({ y1 with bags := y1.bags.set k (some ((keysV b).foldl (fun b2 u => setE u (cntV b u) b2.1 b2.2) ([], 0))) }, ⟨rest, false⟩) := by
        unfold readOrd
        rw [if_pos co, natR_rd.fore (b.1.length : Int) _ ⟨by omega, ⟨by omega, by omega⟩⟩]
        simp only
        rw [hmin, hre]
        simp only
        rw [if_pos (by rw [e2, inv.count])]
      rw [hro] at hgo
      refine ⟨_, hgo, ⟨by show y1.aggs = _; rw [e7, inv.same], by show y1.count = _; rw [e2, inv.count], by show y1.sums.length = _; rw [e4, inv.slen], by show (y1.bags.set k _).length = _; rw [List.length_set, e3, inv.blen], fun j hj g hg => ?_, fun j hj => ?_, fun j hj b2 hb2 => ?_, fun j hj => ?_, fun j g hg ho => ?_⟩⟩
      · show y1.sums[j]? = _
        by_cases c : j = k
        · subst c
          rw [hkg] at hg
          rw [e6, Option.some.inj hg]
        · rw [e5 j c]; exact inv.sdone j (by omega) g hg
      · show y1.sums[j]? = _
        rw [e5 j (by omega)]; exact inv.srest j (by omega)
      · show ∃ b3, (y1.bags.set k _)[j]? = _ ∧ _
        by_cases c : j = k
        · subst c
          rw [hb0] at hb2
          have : b = b2 := Option.some.inj (Option.some.inj hb2)
          subst this
          have hfw := foldSet_wf (cntV b) (keysV b) ([], 0) WfE.nil
          refine ⟨_, by rw [List.getElem?_set_self (by rw [e3]; exact hby)], ⟨hfw.1, by have := hfw.2; simpa using this⟩, fun v => ?_⟩
          rw [foldSet_get _ _ _ WfE.nil]
          rfl
        · rw [List.getElem?_set_ne (fun hh => c hh.symm), e3]
          exact inv.bdone j (by omega) b2 hb2
      · show (y1.bags.set k _)[j]? = _
        rw [List.getElem?_set_ne (by omega), e3]
        exact inv.brest j (by omega)
      · show (y1.bags.set k _)[j]? = _
        have hjk : j ≠ k := fun hh => by
          subst hh
          rw [hkg] at hg
          rw [Option.some.inj hg] at co
          rw [co] at ho
          cases ho
        rw [List.getElem?_set_ne (fun hh => hjk hh.symm), e3]
        exact inv.nil_ j g hg ho
    · have heo : encOrd x aggs[k] k = [] := by unfold encOrd; rw [if_neg co]
      have hro : readOrd (encA x).length aggs[k] y1 k ⟨encOrd x aggs[k] k ++ rest, false⟩ = some (y1, ⟨rest, false⟩) := by
        unfold readOrd
        rw [if_neg co, heo]
        rfl
      rw [hro] at hgo
      refine ⟨_, hgo, ⟨by rw [e7, inv.same], by rw [e2, inv.count], by rw [e4, inv.slen], by rw [e3, inv.blen], fun j hj g hg => ?_, fun j hj => ?_, fun j hj b2 hb2 => ?_, fun j hj => ?_, fun j g hg ho => ?_⟩⟩
      · by_cases c : j = k
        · subst c
          rw [hkg] at hg
          rw [e6, Option.some.inj hg]
        · rw [e5 j c]; exact inv.sdone j (by omega) g hg
      · rw [e5 j (by omega)]; exact inv.srest j (by omega)
      · by_cases c : j = k
        · subst c
          have := hf.good.ord j _ _ hkx hb2
          exact absurd this.symm co
        · rw [e3]; exact inv.bdone j (by omega) b2 hb2
      · rw [e3]; exact inv.brest j (by omega)
      · rw [e3]; exact inv.nil_ j g hg ho
end Go.Proofs.YtoebncgnjbblgaaGreatDoor
/-
  Accumulators: Read of Bytes. No condition.
-/
--@auto
namespace Go.Proofs.YtoebncgnjbblgaaGreatDoor
open Go.RowKit
set_option maxRecDepth 100000

def nub : List ValD → List ValD
  | [] => []
  | a :: l => if a ∈ nub l then nub l else a :: nub l
theorem nub_nodup : ∀ l, (nub l).Nodup
  | [] => List.nodup_nil
  | a :: l => by
    unfold nub
    split
    · exact nub_nodup l
    · rename_i h; exact List.nodup_cons.2 ⟨h, nub_nodup l⟩
theorem nub_mem : ∀ (l : List ValD) (x : ValD), x ∈ l → x ∈ nub l
  | a :: l, x, h => by
    unfold nub
    rcases List.mem_cons.1 h with rfl | h
    · split
      · rename_i c; exact c
      · exact List.mem_cons_self
    · split
      · exact nub_mem l x h
      · exact List.mem_cons_of_mem _ (nub_mem l x h)
theorem pick_val {c : Int} {r : List ValD} {n : Int} : ∀ {D : List ValD}, D.Nodup → (D.map fun v => n * fCnt c v r).sum = if atS r c ∈ D then n else 0
  | [], _ => by simp
  | v :: D, h => by
    obtain ⟨h1, h2⟩ := List.nodup_cons.1 h
    rw [List.map_cons, List.sum_cons, pick_val h2]
    unfold fCnt
    by_cases e : atS r c = v
    · subst e
      rw [if_pos rfl, if_neg h1, if_pos List.mem_cons_self, Int.mul_one, Int.add_zero]
    · rw [if_neg e, Int.mul_zero]
      by_cases m : atS r c ∈ D
      · rw [if_pos m, if_pos (List.mem_cons_of_mem _ m), Int.zero_add]
      · rw [if_neg m, if_neg (fun hh => (List.mem_cons.1 hh).elim e m)]; rfl
theorem val_sum {c : Int} {D : List ValD} (hD : D.Nodup) : ∀ {L : List Chg}, (∀ p ∈ L, atS p.1 c ∈ D) → (D.map fun v => tot L (fCnt c v)).sum = tot L fun _ => 1
  | [], _ => by
    rw [tot_nil]
    clear hD
    induction D with
    | nil => rfl
    | cons a l ih => rw [List.map_cons, List.sum_cons, tot_nil, ih fun p hp => by cases hp]; rfl
  | p :: L, h => by
    have ih := val_sum hD (L := L) fun q hq => h q (List.mem_cons_of_mem _ hq)
    have hs : (D.map fun v => tot (p :: L) (fCnt c v)).sum = (D.map fun v => p.2 * fCnt c v p.1).sum + (D.map fun v => tot L (fCnt c v)).sum := by
      clear ih h hD
      induction D with
      | nil => rfl
      | cons a l ih =>
        simp only [List.map_cons, List.sum_cons]
        rw [ih, tot_cons]
        omega
    rw [hs, ih, pick_val hD, if_pos (h p List.mem_cons_self), tot_cons, Int.mul_one]
theorem filter_sum (f : ValD → Int) : ∀ D : List ValD, W64 ((D.map f).sum) = W64 (((D.filter fun v => decide (W64 (f v) ≠ 0)).map f).sum)
  | [] => rfl
  | v :: D => by
    rw [List.map_cons, List.sum_cons]
    by_cases c : W64 (f v) = 0
    · rw [List.filter_cons_of_neg (by simp [c]), ← W_addl, c, Int.zero_add]
      exact filter_sum f D
    · rw [List.filter_cons_of_pos (by simp [c]), List.map_cons, List.sum_cons]
      exact W_cong rfl (filter_sum f D)
theorem fold_sum (f : ValD → Int) : ∀ (D : List ValD) (a : Int), W64 a = a → D.foldl (fun a u => W64 (a + f u)) a = W64 (a + (D.map f).sum)
  | [], a, h => by rw [List.map_nil, List.sum_nil, Int.add_zero]; exact h.symm
  | u :: D, a, h => by
    rw [List.foldl_cons, fold_sum f D _ (W_idem _), W_addl, List.map_cons, List.sum_cons, Int.add_assoc]
theorem map_W (f g : ValD → Int) : ∀ D : List ValD, (∀ u ∈ D, W64 (f u) = W64 (g u)) → W64 ((D.map f).sum) = W64 ((D.map g).sum)
  | [], _ => rfl
  | u :: D, h => by
    rw [List.map_cons, List.map_cons, List.sum_cons, List.sum_cons]
    exact W_cong (h u List.mem_cons_self) (map_W f g D fun v hv => h v (List.mem_cons_of_mem _ hv))
theorem perm_isum {l m : List Int} (h : l.Perm m) : l.sum = m.sum := by
  induction h with
  | nil => rfl
  | cons a _ ih => rw [List.sum_cons, List.sum_cons, ih]
  | swap a b l => simp only [List.sum_cons]; omega
  | trans _ _ h1 h2 => exact h1.trans h2
theorem keysV_nodup {b : Bag} (h : WfE b.1 b.2) : (keysV b).Nodup := by
  unfold keysV sortV
  exact (List.mergeSort_perm _ _).nodup_iff.2 h.keys
theorem again_of {aggs : List AggD} {L : List Chg} {x : ACC} {N : Nat} (h : IsAcc aggs L x) (hx : GoodA N x) (hR : ∀ p ∈ L, ∀ c, vRight (atS p.1 c) = true) : Again x := by
  have at_ : ∀ (i : Nat) (b : Bag), x.bags[i]? = some (some b) → ∃ g, aggs[i]? = some g := fun i b hb => by
    have hil : i < aggs.length := by rw [← h.same, ← hx.bags]; exact (List.getElem?_eq_some_iff.1 hb).1
    exact ⟨_, List.getElem?_eq_getElem hil⟩
  refine ⟨fun i b hb u hu => ?_, fun i b hb => ?_⟩
  · obtain ⟨g, hg⟩ := at_ i b hb
    obtain ⟨p, hp, rfl⟩ := cnt_mem ((h.keys hx hg hb u).1.1 hu)
    exact hR p hp g.col
  · obtain ⟨g, hg⟩ := at_ i b hb
    have hnd := nub_nodup (L.map fun p => atS p.1 g.col)
    have hall : ∀ p ∈ L, atS p.1 g.col ∈ nub (L.map fun p => atS p.1 g.col) := fun p hp => nub_mem _ _ (List.mem_map.2 ⟨p, hp, rfl⟩)
    have hv := val_sum hnd hall
    have hf := filter_sum (fun v => tot L (fCnt g.col v)) (nub (L.map fun p => atS p.1 g.col))
    have hperm : (keysV b).Perm ((nub (L.map fun p => atS p.1 g.col)).filter fun v => decide (W64 (tot L (fCnt g.col v)) ≠ 0)) :=
      (List.perm_ext_iff_of_nodup (keysV_nodup (hx.wf i b hb).1) (hnd.filter _)).2 fun u => by
        rw [(h.keys hx hg hb u).1, List.mem_filter, decide_eq_true_eq]
        refine ⟨fun hu => ⟨?_, hu⟩, fun hu => hu.2⟩
        obtain ⟨p, hp, e⟩ := cnt_mem hu
        rw [← e]
        exact hall p hp
    rw [fold_sum _ _ _ W_zero, Int.zero_add, map_W _ (fun v => tot L (fCnt g.col v)) _ fun u _ => by rw [(h.keys hx hg hb u).2, W_idem], perm_isum (hperm.map _), ← hf, hv, h.count]
/-- What was written is read again. -/
theorem read_again {aggs : List AggD} {L : List Chg} {x : ACC} {N : Nat} (h : IsAcc aggs L x) (hx : GoodA N x) (hN : N ≤ 1000000) (hL : ∀ p ∈ L, RowOk p.1) (hR : ∀ p ∈ L, ∀ c, vRight (atS p.1 c) = true) : ∃ y, readA aggs (encA x) = some y ∧ IsAcc aggs L y := by
  obtain ⟨y, e1, inv⟩ := readN_enc h.same (h.fit hx hL) hN (again_of h hx hR) aggs.length (Nat.le_refl _)
  have hya : y.aggs = aggs := inv.same
  have hbag : ∀ (i : Nat) (g : AggD) (b2 : Bag), aggs[i]? = some g → y.bags[i]? = some (some b2) → ∃ b, x.bags[i]? = some (some b) ∧ WfE b2.1 b2.2 ∧ b2.1.length ≤ N ∧ ∀ v, getE v b2.1 = getE v b.1 := by
    intro i g b2 hg hb2
    have hil : i < aggs.length := (List.getElem?_eq_some_iff.1 hg).1
    have hgx : x.aggs[i]? = some g := by rw [h.same]; exact hg
    obtain ⟨b0, hb0⟩ : ∃ b0, x.bags[i]? = some b0 := ⟨_, List.getElem?_eq_getElem (by rw [hx.bags, h.same]; exact hil)⟩
    have o := hx.ord i g b0 hgx hb0
    cases b0 with
    | none =>
      have := inv.nil_ i g hg o.symm
      rw [this] at hb2
      cases hb2
    | some b =>
      obtain ⟨b3, h1, ⟨h2, h3⟩, h4⟩ := inv.bdone i hil b hb0
      rw [h1] at hb2
      have e : b3 = b2 := Option.some.inj (Option.some.inj hb2)
      subst e
      have hl := (hx.wf i b hb0).2
      rw [keysV_len] at h3
      refine ⟨b, hb0, h2, by omega, fun v => ?_⟩
      obtain ⟨k1, k2⟩ := h.keys hx hg hb0 v
      rw [h4, k2, h.bags i g b hg hb0]
      unfold nz
      by_cases c : v ∈ keysV b
      · rw [if_pos c, if_neg (k1.1 c)]
      · rw [if_neg c, if_pos (Classical.not_not.1 fun hh => c (k1.2 hh))]
  have gy : GoodA N y := by
    refine ⟨by rw [hya, ← h.same]; exact hx.few, by rw [hya]; exact inv.slen, by rw [hya]; exact inv.blen, fun i g b hg hb => ?_, fun i b hb => ?_⟩
    · rw [hya] at hg
      have hil : i < aggs.length := (List.getElem?_eq_some_iff.1 hg).1
      by_cases o : ordB g = true
      · have hgx : x.aggs[i]? = some g := by rw [h.same]; exact hg
        obtain ⟨b0, hb0⟩ : ∃ b0, x.bags[i]? = some b0 := ⟨_, List.getElem?_eq_getElem (by rw [hx.bags, h.same]; exact hil)⟩
        have o2 := hx.ord i g b0 hgx hb0
        rw [o] at o2
        obtain ⟨bb, rfl⟩ := Option.isSome_iff_exists.1 o2
        obtain ⟨b3, h1, _⟩ := inv.bdone i hil bb hb0
        rw [h1] at hb
        rw [← Option.some.inj hb, o]
        rfl
      · have o : ordB g = false := by simpa using o
        have := inv.nil_ i g hg o
        rw [this] at hb
        rw [← Option.some.inj hb, o]
        rfl
    · have hil : i < aggs.length := by rw [← inv.blen]; exact (List.getElem?_eq_some_iff.1 hb).1
      obtain ⟨_, _, h2, h3, _⟩ := hbag i _ b (List.getElem?_eq_getElem hil) hb
      exact ⟨h2, h3⟩
  have iy : IsAcc aggs L y := by
    refine ⟨hya, by rw [inv.count]; exact h.count, fun i g hg => ?_, fun i g b2 hg hb2 v => ?_⟩
    · have hil : i < aggs.length := (List.getElem?_eq_some_iff.1 hg).1
      rw [inv.sdone i hil g hg, h.sums i g hg]
      by_cases c : g.kind = 1
      · rw [if_pos c, if_pos c]; rfl
      · rw [if_neg c, if_neg c]
    · obtain ⟨b, hb, _, _, h4⟩ := hbag i g b2 hg hb2
      rw [h4, h.bags i g b hg hb]
  refine ⟨y, readA_ok e1 ⟨?_, (iy.same' h gy hx (SameT.refl L)).enc, fun i b2 hb2 e he h0 => ?_⟩, iy⟩
  · rw [List.drop_of_length_le (by simp)]
    rfl
  · have hil : i < aggs.length := by rw [← inv.blen]; exact (List.getElem?_eq_some_iff.1 hb2).1
    have hg := getE_mem (gy.wf i b2 hb2).1.keys he
    rw [iy.bags i _ b2 (List.getElem?_eq_getElem hil) hb2, h0] at hg
    unfold nz at hg
    split at hg
    · cases hg
    · rename_i c; exact c (Option.some.inj hg)
end Go.Proofs.YtoebncgnjbblgaaGreatDoor
/-
  AggregateBack. No condition.
-/
--@auto
namespace Go.Proofs.YtoebncgnjbblgaaGreatDoor
open Go.RowKit
set_option maxRecDepth 100000

theorem encA_small {N : Nat} {x : ACC} (h : FitA N x) (hN : N ≤ 400) (hl : x.aggs.length ≤ 8) : (encA x).length ≤ 5000000 ∧ (encA x).length ≤ 100 + 8 * (100 + 1200 * N) := by
  have hat : ∀ i ∈ List.range x.aggs.length, (encAt x i).length ≤ 64 + 1200 * N := by
    intro i _
    unfold encAt
    split
    · simp
    · rw [List.length_append]
      have h1 : (encSum x ‹_› i).length ≤ 21 := by
        unfold encSum
        split
        · cases hs : x.sums[i]? with
          | none => exact encI_len (n := 0) ⟨by omega, by omega⟩
          | some s => exact encI_len (h.sum i s hs)
        · simp
      have h2 : (encOrd x ‹_› i).length ≤ 21 + 1200 * N := by
        unfold encOrd
        split
        · split
          · rename_i b hb
            have hlb := (h.good.wf i b hb).2
            have h1 := flat_len (encE b) (keysV b) 1200 fun u hu => encE_len (h.bag i b hb u hu)
            rw [keysV_len] at h1
            have h2 := encI_len (n := (b.1.length : Int)) ⟨by omega, by omega⟩
            unfold encBag
            rw [List.length_append]
            omega
          · simp
        · simp
      omega
  have h1 := flat_len (encAt x) (List.range x.aggs.length) (64 + 1200 * N) hat
  rw [List.length_range] at h1
  have h2 := encI_len h.count
  have h3 : (64 + 1200 * N) * x.aggs.length ≤ (64 + 1200 * N) * 8 := Nat.mul_le_mul_left _ hl
  unfold encA
  rw [List.length_append]
  omega
theorem few_right {L : ChL} (h : fewS (chs L) = true) : ∀ p ∈ chs L, ∀ c, vRight (atS p.1 c) = true := by
  intro p hp c
  unfold fewS at h
  rw [Bool.and_eq_true, List.all_eq_true] at h
  have := h.1 p hp
  rw [Bool.and_eq_true, List.all_eq_true] at this
  unfold atS
  split
  · rfl
  · cases hr : p.1[c.toNat]? with
    | none => rfl
    | some u => exact this.2 u (List.mem_of_getElem? hr)
theorem chs_mem2 {L : ChL} {P : List ValD → Prop} (h : ∀ p ∈ L, P p.2) : ∀ p ∈ chs L, P p.1 := fun p hp => by
  obtain ⟨q, hq, rfl⟩ := List.mem_map.1 hp
  exact h q hq
theorem readA_enc {aggs : List AggD} {t : Bs} {x : ACC} (h : readA aggs t = some x) : encA x = t := by
  unfold readA at h
  split at h
  · cases h
  · split at h
    · rename_i c
      have e := Option.some.inj h
      rw [← e]
      exact c.2.1
    · cases h
set_option maxHeartbeats 4000000 in
theorem aggregateBack_pt {W : World} {v0 v1 v2 : Value} {aggs : List AggD} {l m : List ChD} {s : ByteArray} (hB : wireD (lawB W)) (r0 : rowR v0 aggs (lawB W)) (hm0 : aggs.length ≤ maxLen) (r1 : rowR v1 l (lawB W)) (hm1 : l.length ≤ maxLen) (hq1 : ∀ a ∈ l, ok_erratalaw30_Change W a) (r2 : rowR v2 m (lawB W)) (hm2 : m.length ≤ maxLen) (hq2 : ∀ a ∈ m, ok_erratalaw30_Change W a) {K : Value → World → Prop}
    (fin : ∀ w' σ, Rel (lawB W) w' σ → K (.bool true) w') : erratalaw30_AggregateBack.pt v0 v1 v2 (.string s) W K := by
  unfold erratalaw30_AggregateBack.pt
  have h := lawB.start W
  have hm0 : aggs.length ≤ 9223372036854775807 := by unfold maxLen at hm0; omega
  obtain ⟨L, rfl, q, hq⟩ := ch_open hq1
  obtain ⟨M, rfl, q2, hqm⟩ := ch_open hq2
  rw [raws_len] at hm1 hm2
  have hm1 : L.length ≤ 9223372036854775807 := by unfold maxLen at hm1; omega
  have hm2 : M.length ≤ 9223372036854775807 := by unfold maxLen at hm2; omega
  have hrl : ∀ p ∈ L, p.2.length ≤ 9223372036854775807 := fun p hp => by have := (hq p hp).1; unfold maxLen at this; omega
  have hrm : ∀ p ∈ M, p.2.length ≤ 9223372036854775807 := fun p hp => by have := (hqm p hp).1; unfold maxLen at this; omega
  refine h.ask (fun B2 own base2 => small_g) fun w1 h => ?_
  refine h.ask (fun B2 own base2 => right_g (base2 r0) hm0) fun w2 h => ?_
  rw [un_not, ifB_not, ifB_bool]
  refine ⟨fun cr => ?_, fun _ => fin _ _ h⟩
  obtain ⟨hok, hl8⟩ := rightA_ok cr
  have hkinds := right_kinds hok
  refine h.ask (fun B2 own base2 => few_g (base2 r1) (base2 q) hm1 hrl) fun w3 h => ?_
  rw [un_not, ifB_not, ifB_bool]
  refine ⟨fun cf => ?_, fun _ => fin _ _ h⟩
  obtain ⟨hl40, hrows⟩ := few_rows cf hq
  have hrok : ∀ p ∈ L, RowOk p.2 := fun p hp => (hrows p hp).1
  refine h.ask (fun B2 own base2 => few_g (base2 r2) (base2 q2) hm2 hrm) fun w4 h => ?_
  rw [un_not, ifB_not, ifB_bool]
  refine ⟨fun cfm => ?_, fun _ => fin _ _ h⟩
  obtain ⟨hlm40, hrowsm⟩ := few_rows cfm hqm
  have hrokm : ∀ p ∈ M, RowOk p.2 := fun p hp => (hrowsm p hp).1
  rw [len_string U_string, bin_gtr, ifB_dec]
  refine ⟨fun _ => fin _ _ h, fun hs600 => ?_⟩
  refine h.make (fun B2 own base2 => New_m (base2 r0) (by omega)) fun u τ w5 hp h => ?_
  obtain ⟨p, rfl, rfl⟩ := hp
  rw [bin_eql_ptr_nil U_p_aggregate_Acc, ifB_false]
  have h : Rel (lawB W) w5 [accD p (newS aggs)] := h
  refine LOOP_intro (fun z w' => ∃ (i : Nat) (x : ACC), i ≤ L.length ∧ z = (.int .i64 i, ()) ∧ IsAcc aggs (chs (L.take i)) x ∧ GoodA i x ∧ Rel (lawB W) w' [accD p x]) (fun z _ => L.length - (match z.1 with | .int _ n => n.toNat | _ => 0))
    ⟨0, newS aggs, Nat.zero_le _, rfl, isAcc_new aggs, newS_good (by omega), h⟩ ?_
  clear h
  rintro z w6 ⟨i, x, hi, rfl, ix, gx, h⟩ next hnext
  rw [rowR.len r1 sl_s_erratalaw30_Change, raws_len, bin_lss, ifB_dec]
  refine ⟨fun hlt => ?_, fun hge => ?_⟩
  · have hil : i < L.length := by omega
    obtain ⟨g1, o1, hx1, hc1⟩ := ch_idx r1 hil
    have h := h.tick
    generalize tick w6 = w6 at *
    rw [hx1, field_addr f_erratalaw30_Change_0, cellsR.ld (h.hereB hc1) sc_s_api_Value (j := 0) (v := L[i].1.row.1) rfl, hx1, field_addr f_erratalaw30_Change_1, cellsR.ld (h.hereB hc1) sc_int (j := 1) (v := .int .i64 L[i].1.n) rfl]
    refine h.act 0 rfl (fun B2 own base2 => Add_d (base2 (chR.at q hil)) gx L[i].1.n) fun u e' τ w8 hp h => ?_
    obtain ⟨rfl, rfl, rfl⟩ := hp
    rw [bin_add, wrap_id (by omega) (by omega)]
    have ix' := ix.add gx L[i].2 L[i].1.n
    rw [← chs_take_succ hil] at ix'
    exact hnext _ _ ⟨i + 1, _, hil, rfl, ix', gx.addK _ _ _, h⟩ (by simp only; omega)
  have : i = L.length := by omega
  subst this
  clear hnext
  rw [List.take_length] at ix
  have fx := ix.fit gx (chs_mem2 hrok)
  have hsm := encA_small fx (by omega) (by rw [ix.same]; exact hl8)
  obtain ⟨y, hy, iy⟩ := read_again ix gx (by omega) (chs_mem2 hrok) (few_right cf)
  refine h.ask (fun B2 own base2 => Bytes_g (base2 hB) (own (i := 0) rfl) fx (by omega)) fun w8 h => ?_
  refine h.make (fun B2 own base2 => aRead_m (base2 hB) (base2 r0) (by omega) (by omega)) fun u τ w9 hp h => ?_
  rcases hp with ⟨y', pb, hy', gy, fy, rfl, rfl⟩ | ⟨hn, _, _⟩
  case inr => rw [hn] at hy; cases hy
  rw [hy] at hy'
  have e : y = y' := Option.some.inj hy'
  subst e
  rw [ext_2_0, ext_2_1, bin_eql_ptr_nil U_p_aggregate_Acc, ifB_false, un_not, Bool.not_true, ifB_false]
  have h : Rel (lawB W) w9 [accD p x, accD pb y] := h
  refine h.make (fun B2 own base2 => Copy_m (own (i := 0) rfl) gx) fun u τ w10 hp h => ?_
  obtain ⟨pc, rfl, rfl⟩ := hp
  rw [bin_eql_ptr_nil U_p_aggregate_Acc, ifB_false]
  have h : Rel (lawB W) w10 [accD p x, accD pb y, accD pc x] := h
  refine h.ask (fun B2 own base2 => Bytes_g (base2 hB) (own (i := 0) rfl) fx (by omega)) fun w11 h => ?_
  have hN0 : (encA x).length ≤ 400000 := by omega
  generalize hNN : (encA x).length = N0 at *
  refine LOOP_intro (fun z w' => ∃ (k : Nat) (y' x' : ACC), k ≤ M.length ∧ z = (.int .i64 k, ()) ∧ IsAcc aggs (chs L ++ chs (M.take k)) y' ∧ IsAcc aggs (chs L ++ chs (M.take k)) x' ∧ GoodA (N0 + k) y' ∧ GoodA (L.length + k) x' ∧ Rel (lawB W) w' [accD p x, accD pb y', accD pc x']) (fun z _ => M.length - (match z.1 with | .int _ n => n.toNat | _ => 0))
    ⟨0, y, x, Nat.zero_le _, rfl, by rw [List.take_zero]; show IsAcc aggs (chs L ++ []) y; rw [List.append_nil]; exact iy, by rw [List.take_zero]; show IsAcc aggs (chs L ++ []) x; rw [List.append_nil]; exact ix, gy, gx, h⟩ ?_
  clear h gy iy fy hy hy'
  rintro z w12 ⟨k, y', x', hk, rfl, iy, ix', gy, gx', h⟩ next hnext
  rw [rowR.len r2 sl_s_erratalaw30_Change, raws_len, bin_lss, ifB_dec]
  refine ⟨fun hlt => ?_, fun hge => ?_⟩
  · have hkl : k < M.length := by omega
    obtain ⟨g1, o1, hx1, hc1⟩ := ch_idx r2 hkl
    have qk := chR.at q2 hkl
    have h := h.tick
    generalize tick w12 = w12 at *
    rw [hx1, field_addr f_erratalaw30_Change_0, cellsR.ld (h.hereB hc1) sc_s_api_Value (j := 0) (v := M[k].1.row.1) rfl, hx1, field_addr f_erratalaw30_Change_1, cellsR.ld (h.hereB hc1) sc_int (j := 1) (v := .int .i64 M[k].1.n) rfl]
    refine h.act 1 rfl (fun B2 own base2 => Add_d (base2 qk) gy M[k].1.n) fun u e' τ w13 hp h => ?_
    obtain ⟨rfl, rfl, rfl⟩ := hp
    have h := h.tick
    generalize tick w13 = w13 at *
    rw [hx1, field_addr f_erratalaw30_Change_0, cellsR.ld (h.hereB hc1) sc_s_api_Value (j := 0) (v := M[k].1.row.1) rfl, hx1, field_addr f_erratalaw30_Change_1, cellsR.ld (h.hereB hc1) sc_int (j := 1) (v := .int .i64 M[k].1.n) rfl]
    refine h.act 2 rfl (fun B2 own base2 => Add_d (base2 qk) gx' M[k].1.n) fun u e' τ w14 hp h => ?_
    obtain ⟨rfl, rfl, rfl⟩ := hp
    have iy2 := iy.add gy M[k].2 M[k].1.n
    have ix2 := ix'.add gx' M[k].2 M[k].1.n
    rw [List.append_assoc, ← chs_take_succ hkl] at iy2 ix2
    have gy2 : GoodA (N0 + k + 1) (addS y' M[k].2 M[k].1.n) := gy.addK _ _ _
    have gx2 : GoodA (L.length + k + 1) (addS x' M[k].2 M[k].1.n) := gx'.addK _ _ _
    have hro : ∀ p ∈ chs L ++ chs (M.take (k + 1)), RowOk p.1 := fun p hp => by
      rcases List.mem_append.1 hp with hp | hp
      · exact chs_mem2 hrok p hp
      · exact chs_mem2 (fun x hx => hrokm x (List.mem_of_mem_take hx)) p hp
    have fy2 := iy2.fit gy2 hro
    have fx2 := ix2.fit gx2 hro
    have h : Rel (lawB W) w14 [accD p x, accD pb (addS y' M[k].2 M[k].1.n), accD pc (addS x' M[k].2 M[k].1.n)] := h
    generalize addS y' M[k].2 M[k].1.n = y2 at *
    generalize addS x' M[k].2 M[k].1.n = x2 at *
    have hsa := iy2.same' ix2 gy2 gx2 (SameT.refl _)
    refine h.ask (fun B2 own base2 => Bytes_g (base2 hB) (own (i := 1) rfl) fy2 (by omega)) fun w15 h => ?_
    refine h.ask (fun B2 own base2 => Bytes_g (base2 hB) (own (i := 2) rfl) fx2 (by omega)) fun w16 h => ?_
    rw [hsa.enc, neq_str, decide_eq_true rfl, Bool.not_true, ifB_false]
    refine h.make (fun B2 own base2 => Result_m (own (i := 1) rfl) gy2 (by omega) (by rw [iy2.same]; exact hkinds)) fun u τ w17 hp h => ?_
    subst hp
    refine h.make (fun B2 own base2 => Result_m (own (i := 2) rfl) gx2 (by omega) (by rw [ix2.same]; exact hkinds)) fun u2 τ w18 hp h => ?_
    subst hp
    have h : Rel (lawB W) w18 [accD p x, accD pb y2, accD pc x2, rowD T_api_Value u (resultS y2), rowD T_api_Value u2 (resultS x2)] := h
    refine h.ask (fun B2 own base2 => fSame_g (rowD.read (own (i := 3) rfl)) (rowD.read (own (i := 4) rfl)) (by rw [resAt_bound, iy2.same]; omega)) fun w19 h => ?_
    rw [decide_eq_true hsa.res, un_not, Bool.not_true, ifB_false, bin_add, wrap_id (by omega) (by omega)]
    exact hnext _ _ ⟨k + 1, y2, x2, hkl, rfl, iy2, ix2, gy2, gx2, h.take 3⟩ (by simp only; omega)
  clear hnext
  have h := h.take 1
  have h : Rel (lawB W) w12 [accD p x] := h
  have hsl : (bl s).length ≤ 600 := by
    have : (s.size : Int) ≤ 600 := by omega
    show s.size ≤ 600
    omega
  have es : s = ofL (bl s) := (ofL_bl s).symm
  have last : ∀ w', Rel (lawB W) w' [accD p x] → upK Tryz.prog (sCall F_aggregate_Acc_Bytes #[ptr p]) w' fun t144 w22 => pureK Tryz.prog (sBin .eql T_string (.tmp 144) (.tmp 145) t144 (.string (ofL (encA x)))) fun t146 => K t146 w22 := by
    intro w' h
    refine h.ask (fun B2 own base2 => Bytes_g (base2 hB) (own (i := 0) rfl) fx (by omega)) fun w22 h => ?_
    rw [eql_str, decide_eq_true rfl]
    exact fin _ _ h
  have rd : ∀ B2 : Base, (∀ {d : Dat}, d (lawB W) → d B2) → Makes Tryz.prog B2 (sCall F_aggregate_Read #[v0, .string s]) fun u τ => (∃ x p, readA aggs (bl s) = some x ∧ GoodA (bl s).length x ∧ FitA (bl s).length x ∧ u = .tuple #[ptr p, .bool true] ∧ τ = [accD p x]) ∨ (readA aggs (bl s) = none ∧ u = .tuple #[.pointer none, .bool false] ∧ τ = []) := fun B2 base2 => by
    have := aRead_m (t := bl s) (base2 hB) (base2 r0) (by omega) (by omega)
    rw [ofL_bl] at this
    exact this
  have hbool : Tryz.prog.underlying T_bool = some .bool := by kernel_rfl
  refine h.make (fun B2 own base2 => rd B2 base2) fun u τ w20 hp h => ?_
  rcases hp with ⟨d, pd, hd, gd, fd, rfl, rfl⟩ | ⟨hn, rfl, rfl⟩
  · have h : Rel (lawB W) w20 [accD p x, accD pd d] := h
    rw [ext_2_0, ext_2_1, bin_neq_ptr_nil U_p_aggregate_Acc, bin_neq_bool hbool]
    rw [show (!(true == true)) = false from rfl, ifB_false]
    refine LETJ_intro fun J hJ => ?_
    replace hJ : ∀ w', Rel (lawB W) w' [accD p x] → J () w' := by
      intro w' h
      refine hJ _ _ ?_
      rw [ifB_true]
      exact last w' h
    rw [bin_neq_ptr_nil U_p_aggregate_Acc, ifB_true]
    refine h.ask (fun B2 own base2 => Bytes_g (base2 hB) (own (i := 1) rfl) fd (by omega)) fun w23 h => ?_
    rw [readA_enc hd, ofL_bl, neq_str, decide_eq_true rfl, Bool.not_true, ifB_false]
    exact hJ _ (h.take 1)
  · rw [ext_2_0, ext_2_1, neq_pnil_pnil U_p_aggregate_Acc, bin_neq_bool hbool]
    rw [show (!(false == false)) = false from rfl, ifB_false]
    refine LETJ_intro fun J hJ => ?_
    replace hJ : ∀ w', Rel (lawB W) w' [accD p x] → J () w' := by
      intro w' h
      refine hJ _ _ ?_
      rw [ifB_true]
      exact last w' h
    rw [neq_pnil_pnil U_p_aggregate_Acc, ifB_false]
    exact hJ _ (h.take 1)
end Go.Proofs.YtoebncgnjbblgaaGreatDoor
