/-
  Accumulators: an encoding is read as what was written. No condition.
-/
import Derived.Test.YtoebncgnjbblgaaGreatDoorAgR
--@auto
namespace Go.Proofs.YtoebncgnjbblgaaGreatDoor
open Go.RowKit
set_option maxRecDepth 100000

theorem flat_ge {α : Type} (f : α → Bs) : ∀ l : List α, (∀ x ∈ l, 1 ≤ (f x).length) → l.length ≤ (l.flatMap f).length
  | [], _ => by simp
  | a :: l, h => by
    rw [List.flatMap_cons, List.length_append, List.length_cons]
    have h1 := h a List.mem_cons_self
    have h2 := flat_ge f l fun x hx => h x (List.mem_cons_of_mem _ hx)
    omega
theorem flat_drop_le {α : Type} (f : α → Bs) (l : List α) (k : Nat) : ((l.drop k).flatMap f).length ≤ (l.flatMap f).length := by
  have := congrArg (fun q => (q.flatMap f).length) (List.take_append_drop k l)
  simp only [List.flatMap_append, List.length_append] at this
  omega
theorem readEnts_enc (f : ValD → Int) : ∀ (D : List ValD) (b0 : Bag) (all : Int) (r : Bs), (∀ u ∈ D, vRight u = true ∧ GoodVal u ∧ (bl u.s).length ≤ 1000 ∧ inI (f u)) →
    readEnts D.length b0 all ⟨D.flatMap (fun u => encT (encV1 u) ++ encI (f u)) ++ r, false⟩ = some (D.foldl (fun b u => setE u (f u) b.1 b.2) b0, D.foldl (fun a u => W64 (a + f u)) all, ⟨r, false⟩)
  | [], b0, all, r, _ => rfl
  | u :: D, b0, all, r, h => by
    obtain ⟨h1, h2, h3, h4⟩ := h u List.mem_cons_self
    have hl := encV1_len h2 h3
    have e : (u :: D).flatMap (fun u => encT (encV1 u) ++ encI (f u)) ++ r = encT (encV1 u) ++ (encI (f u) ++ (D.flatMap (fun u => encT (encV1 u) ++ encI (f u)) ++ r)) := by
      rw [List.flatMap_cons]
      simp only [List.append_assoc]
    rw [e, List.length_cons, readEnts, textR_rd.fore (encV1 u) _ (show (encV1 u).length ≤ 9223372036854775807 by omega)]
    simp only
    rw [readV1_enc h2]
    simp only
    rw [if_pos h1, intR_rd.fore (f u) _ h4]
    simp only
    rw [readEnts_enc f D _ _ r fun x hx => h x (List.mem_cons_of_mem _ hx)]
    rfl
theorem foldSet_get (f : ValD → Int) : ∀ (D : List ValD) (b0 : Bag), WfE b0.1 b0.2 → ∀ v, getE v (D.foldl (fun b u => setE u (f u) b.1 b.2) b0).1 = if v ∈ D then some (f v) else getE v b0.1
  | [], b0, _, v => by simp
  | u :: D, b0, h, v => by
    rw [List.foldl_cons, foldSet_get f D _ (h.set u (f u)), setE_get h.keys]
    by_cases c : v ∈ D
    · rw [if_pos c, if_pos (List.mem_cons_of_mem _ c)]
    · rw [if_neg c]
      by_cases e : v = u
      · subst e; rw [if_pos rfl, if_pos List.mem_cons_self]
      · rw [if_neg e, if_neg (fun hh => (List.mem_cons.1 hh).elim e c)]
theorem foldSet_wf (f : ValD → Int) : ∀ (D : List ValD) (b0 : Bag), WfE b0.1 b0.2 → WfE (D.foldl (fun b u => setE u (f u) b.1 b.2) b0).1 (D.foldl (fun b u => setE u (f u) b.1 b.2) b0).2 ∧ (D.foldl (fun b u => setE u (f u) b.1 b.2) b0).1.length ≤ b0.1.length + D.length
  | [], b0, h => ⟨h, Nat.le_refl _⟩
  | u :: D, b0, h => by
    obtain ⟨h1, h2⟩ := foldSet_wf f D _ (h.set u (f u))
    have hle : (setE u (f u) b0.1 b0.2).1.length ≤ b0.1.length + 1 := by
      unfold setE
      split
      · simp
      · simp
    rw [List.foldl_cons, List.length_cons]
    exact ⟨h1, by omega⟩
theorem nb_none {aggs : List AggD} {j : Nat} {g : AggD} (hg : aggs[j]? = some g) (ho : ordB g = false) : (newS aggs).bags[j]? = some none := by
  show (aggs.map nb)[j]? = _
  rw [List.getElem?_map, hg]
  show some (nb g) = _
  unfold nb
  rw [if_neg (by rw [ho]; decide)]
/-- What can be read again. -/
structure Again (x : ACC) : Prop where
  right : ∀ (i : Nat) (b : Bag), x.bags[i]? = some (some b) → ∀ u ∈ keysV b, vRight u = true
  total : ∀ (i : Nat) (b : Bag), x.bags[i]? = some (some b) → (keysV b).foldl (fun a u => W64 (a + cntV b u)) 0 = x.count
structure ReadInv (aggs : List AggD) (x : ACC) (k : Nat) (y : ACC) : Prop where
  same : y.aggs = aggs
  count : y.count = x.count
  slen : y.sums.length = aggs.length
  blen : y.bags.length = aggs.length
  sdone : ∀ j : Nat, j < k → ∀ g, aggs[j]? = some g → y.sums[j]? = some (if g.kind = 1 then (x.sums[j]?).getD 0 else 0)
  srest : ∀ j : Nat, k ≤ j → y.sums[j]? = (newS aggs).sums[j]?
  bdone : ∀ j : Nat, j < k → ∀ b, x.bags[j]? = some (some b) → ∃ b2, y.bags[j]? = some (some b2) ∧ (WfE b2.1 b2.2 ∧ b2.1.length ≤ (keysV b).length) ∧ ∀ v, getE v b2.1 = if v ∈ keysV b then some (cntV b v) else none
  brest : ∀ j : Nat, k ≤ j → y.bags[j]? = (newS aggs).bags[j]?
  nil_ : ∀ (j : Nat) (g : AggD), aggs[j]? = some g → ordB g = false → y.bags[j]? = some none
theorem readN_enc {aggs : List AggD} {N : Nat} {x : ACC} (hs : x.aggs = aggs) (hf : FitA N x) (hN : N ≤ 1000000) (ha : Again x) : ∀ k, k ≤ aggs.length → ∃ y, readN aggs (encA x) k = some (y, ⟨((List.range aggs.length).drop k).flatMap (encAt x), false⟩) ∧ ReadInv aggs x k y
  | 0, _ => by
    have e : intR ⟨encA x, false⟩ = (x.count, ⟨(List.range aggs.length).flatMap (encAt x), false⟩) := by
      unfold encA
      rw [hs]
      exact intR_rd.fore x.count _ hf.count
    refine ⟨{ newS aggs with count := x.count }, ?_, ⟨rfl, rfl, by simp [newS], by simp [newS], fun j hj => absurd hj (Nat.not_lt_zero j), fun j _ => rfl, fun j hj => absurd hj (Nat.not_lt_zero j), fun j _ => rfl, fun j g hg ho => nb_none hg ho⟩⟩
    rw [readN, e, List.drop_zero]
  | k + 1, hk => by
    obtain ⟨y, hy, inv⟩ := readN_enc hs hf hN ha k (by omega)
    have hkl : k < aggs.length := by omega
    have hkg : aggs[k]? = some aggs[k] := List.getElem?_eq_getElem hkl
    have hkx : x.aggs[k]? = some aggs[k] := by rw [hs]; exact hkg
    have hd : (List.range aggs.length).drop k = k :: (List.range aggs.length).drop (k + 1) := by
      rw [List.drop_eq_getElem_cons (by simpa using hkl)]
      simp
    have hea : encAt x k = encSum x aggs[k] k ++ encOrd x aggs[k] k := by unfold encAt; rw [hkx]
    have hsx : k < x.sums.length := by rw [hf.good.sums, hs]; exact hkl
    have hsy : k < y.sums.length := by rw [inv.slen]; exact hkl
    have hby : k < y.bags.length := by rw [inv.blen]; exact hkl
    have htl : ((k :: (List.range aggs.length).drop (k + 1)).flatMap (encAt x)).length ≤ (encA x).length := by
      have := flat_drop_le (encAt x) (List.range aggs.length) k
      rw [hd] at this
      unfold encA
      rw [hs, List.length_append]
      omega
    generalize hr : ((List.range aggs.length).drop (k + 1)).flatMap (encAt x) = rest at *
    rw [hd, List.flatMap_cons, hr, hea, List.append_assoc] at hy
    rw [List.flatMap_cons, hr, hea, List.append_assoc] at htl
    have hgo : readN aggs (encA x) (k + 1) = readOrd (encA x).length aggs[k] (readSum aggs[k] y k ⟨encSum x aggs[k] k ++ (encOrd x aggs[k] k ++ rest), false⟩).1 k (readSum aggs[k] y k ⟨encSum x aggs[k] k ++ (encOrd x aggs[k] k ++ rest), false⟩).2 := by
      show (match readN aggs (encA x) k with
        | none => none
        | some q => match aggs[k]? with
          | none => none
          | some g => readOrd (encA x).length g (readSum g q.1 k q.2).1 k (readSum g q.1 k q.2).2) = _
      rw [hy, hkg]
    have hsum : ∃ y1 : ACC, readSum aggs[k] y k ⟨encSum x aggs[k] k ++ (encOrd x aggs[k] k ++ rest), false⟩ = (y1, ⟨encOrd x aggs[k] k ++ rest, false⟩) ∧ y1.count = y.count ∧ y1.bags = y.bags ∧ y1.sums.length = y.sums.length ∧ (∀ j, j ≠ k → y1.sums[j]? = y.sums[j]?) ∧ y1.sums[k]? = some (if aggs[k].kind = 1 then (x.sums[k]?).getD 0 else 0) ∧ y1.aggs = y.aggs := by
      by_cases c : aggs[k].kind = 1
      · have hi : inI ((x.sums[k]?).getD 0) := by
          rw [List.getElem?_eq_getElem hsx]
          exact hf.sum k _ (List.getElem?_eq_getElem hsx)
        have e : encSum x aggs[k] k = encI ((x.sums[k]?).getD 0) := by unfold encSum; rw [if_pos c]
        refine ⟨{ y with sums := y.sums.set k ((x.sums[k]?).getD 0) }, ?_, rfl, rfl, by show (y.sums.set k _).length = _; rw [List.length_set], fun j hj => ?_, ?_, rfl⟩
        · unfold readSum
          rw [if_pos c, e, intR_rd.fore _ _ hi]
        · show (y.sums.set k _)[j]? = _
          rw [List.getElem?_set_ne (fun hh => hj hh.symm)]
        · show (y.sums.set k _)[k]? = _
          rw [List.getElem?_set_self hsy, if_pos c]
      · have e : encSum x aggs[k] k = [] := by unfold encSum; rw [if_neg c]
        refine ⟨y, ?_, rfl, rfl, rfl, fun j _ => rfl, ?_, rfl⟩
        · unfold readSum
          rw [if_neg c, e]
          rfl
        · rw [inv.srest k (Nat.le_refl _), if_neg c]
          show (List.replicate aggs.length (0 : Int))[k]? = _
          rw [List.getElem?_replicate, if_pos hkl]
    obtain ⟨y1, e1, e2, e3, e4, e5, e6, e7⟩ := hsum
    rw [e1] at hgo
    simp only at hgo
    by_cases co : ordB aggs[k] = true
    · have hbx : k < x.bags.length := by rw [hf.good.bags, hs]; exact hkl
      obtain ⟨b0, hb0⟩ : ∃ b0, x.bags[k]? = some b0 := ⟨_, List.getElem?_eq_getElem hbx⟩
      have hso := hf.good.ord k aggs[k] b0 hkx hb0
      rw [co] at hso
      obtain ⟨b, rfl⟩ := Option.isSome_iff_exists.1 hso
      have heo : encOrd x aggs[k] k = encI b.1.length ++ (keysV b).flatMap (encE b) := by unfold encOrd; rw [if_pos co, hb0]; rfl
      have hlen := (hf.good.wf k b hb0).2
      have hkl2 := keysV_len b
      have hge := flat_ge (encE b) (keysV b) fun u _ => by
        have := encT_pos (encV1 u)
        unfold encE
        rw [List.length_append]
        omega
      rw [heo, List.append_assoc] at hgo
      rw [heo] at htl
      simp only [List.length_append] at htl
      have hmin : (min (b.1.length : Int) ((encA x).length : Int)).toNat = (keysV b).length := by omega
      have hre := readEnts_enc (cntV b) (keysV b) ([], 0) 0 rest fun u hu => ⟨ha.right k b hb0 u hu, (hf.bag k b hb0 u hu).1, (hf.bag k b hb0 u hu).2.1, (hf.bag k b hb0 u hu).2.2⟩
      have hfe : (keysV b).flatMap (fun u => encT (encV1 u) ++ encI (cntV b u)) = (keysV b).flatMap (encE b) := rfl
      rw [hfe, ha.total k b hb0] at hre
      have hro : readOrd (encA x).length aggs[k] y1 k ⟨encI b.1.length ++ ((keysV b).flatMap (encE b) ++ rest), false⟩ = some ({ y1 with bags := y1.bags.set k (some ((keysV b).foldl (fun b2 u => setE u (cntV b u) b2.1 b2.2) ([], 0))) }, ⟨rest, false⟩) := by
        unfold readOrd
        rw [if_pos co, natR_rd.fore (b.1.length : Int) _ ⟨by omega, ⟨by omega, by omega⟩⟩]
        simp only
        rw [hmin, hre]
        simp only
        rw [if_pos (by rw [e2, inv.count])]
      rw [hro] at hgo
      refine ⟨_, hgo, ⟨by show y1.aggs = _; rw [e7, inv.same], by show y1.count = _; rw [e2, inv.count], by show y1.sums.length = _; rw [e4, inv.slen], by show (y1.bags.set k _).length = _; rw [List.length_set, e3, inv.blen], fun j hj g hg => ?_, fun j hj => ?_, fun j hj b2 hb2 => ?_, fun j hj => ?_, fun j g hg ho => ?_⟩⟩
      · show y1.sums[j]? = _
        by_cases c : j = k
        · subst c
          rw [hkg] at hg
          rw [e6, Option.some.inj hg]
        · rw [e5 j c]; exact inv.sdone j (by omega) g hg
      · show y1.sums[j]? = _
        rw [e5 j (by omega)]; exact inv.srest j (by omega)
      · show ∃ b3, (y1.bags.set k _)[j]? = _ ∧ _
        by_cases c : j = k
        · subst c
          rw [hb0] at hb2
          have : b = b2 := Option.some.inj (Option.some.inj hb2)
          subst this
          have hfw := foldSet_wf (cntV b) (keysV b) ([], 0) WfE.nil
          refine ⟨_, by rw [List.getElem?_set_self (by rw [e3]; exact hby)], ⟨hfw.1, by have := hfw.2; simpa using this⟩, fun v => ?_⟩
          rw [foldSet_get _ _ _ WfE.nil]
          rfl
        · rw [List.getElem?_set_ne (fun hh => c hh.symm), e3]
          exact inv.bdone j (by omega) b2 hb2
      · show (y1.bags.set k _)[j]? = _
        rw [List.getElem?_set_ne (by omega), e3]
        exact inv.brest j (by omega)
      · show (y1.bags.set k _)[j]? = _
        have hjk : j ≠ k := fun hh => by
          subst hh
          rw [hkg] at hg
          rw [Option.some.inj hg] at co
          rw [co] at ho
          cases ho
        rw [List.getElem?_set_ne (fun hh => hjk hh.symm), e3]
        exact inv.nil_ j g hg ho
    · have heo : encOrd x aggs[k] k = [] := by unfold encOrd; rw [if_neg co]
      have hro : readOrd (encA x).length aggs[k] y1 k ⟨encOrd x aggs[k] k ++ rest, false⟩ = some (y1, ⟨rest, false⟩) := by
        unfold readOrd
        rw [if_neg co, heo]
        rfl
      rw [hro] at hgo
      refine ⟨_, hgo, ⟨by rw [e7, inv.same], by rw [e2, inv.count], by rw [e4, inv.slen], by rw [e3, inv.blen], fun j hj g hg => ?_, fun j hj => ?_, fun j hj b2 hb2 => ?_, fun j hj => ?_, fun j g hg ho => ?_⟩⟩
      · by_cases c : j = k
        · subst c
          rw [hkg] at hg
          rw [e6, Option.some.inj hg]
        · rw [e5 j c]; exact inv.sdone j (by omega) g hg
      · rw [e5 j (by omega)]; exact inv.srest j (by omega)
      · by_cases c : j = k
        · subst c
          have := hf.good.ord j _ _ hkx hb2
          exact absurd this.symm co
        · rw [e3]; exact inv.bdone j (by omega) b2 hb2
      · rw [e3]; exact inv.brest j (by omega)
      · rw [e3]; exact inv.nil_ j g hg ho
end Go.Proofs.YtoebncgnjbblgaaGreatDoor
