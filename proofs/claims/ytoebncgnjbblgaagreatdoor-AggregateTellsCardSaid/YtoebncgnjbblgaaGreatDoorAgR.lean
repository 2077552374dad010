/-
  Accumulators: what is read of an encoding. No condition.
-/
import Derived.Test.YtoebncgnjbblgaaGreatDoorAgX
import Derived.Test.YtoebncgnjbblgaaGreatDoorValV
import Derived.Test.YtoebncgnjbblgaaGreatDoorAggN
--@auto
namespace Go.Proofs.YtoebncgnjbblgaaGreatDoor
open Go.RowKit
set_option maxRecDepth 100000

noncomputable def readEnts : Nat → Bag → Int → RS → Option (Bag × Int × RS)
  | 0, b, all, s => some (b, all, s)
  | k + 1, b, all, s => match readV1 (textR s).1 with
    | none => none
    | some v => if vRight v = true then readEnts k (setE v (intR (textR s).2).1 b.1 b.2) (W64 (all + (intR (textR s).2).1)) (intR (textR s).2).2 else none
noncomputable def readSum (g : AggD) (x : ACC) (i : Nat) (s : RS) : ACC × RS := if g.kind = 1 then ({ x with sums := x.sums.set i (intR s).1 }, (intR s).2) else (x, s)
noncomputable def readOrd (tl : Nat) (g : AggD) (x : ACC) (i : Nat) (s : RS) : Option (ACC × RS) :=
  if ordB g = true then
    match readEnts (min (natR s).1 (tl : Int)).toNat ([], 0) 0 (natR s).2 with
    | none => none
    | some q => if q.2.1 = x.count then some ({ x with bags := x.bags.set i (some q.1) }, q.2.2) else none
  else some (x, s)
noncomputable def readN (aggs : List AggD) (t : Bs) : Nat → Option (ACC × RS)
  | 0 => some ({ newS aggs with count := (intR ⟨t, false⟩).1 }, (intR ⟨t, false⟩).2)
  | k + 1 => match readN aggs t k with
    | none => none
    | some q => match aggs[k]? with
      | none => none
      | some g => readOrd t.length g (readSum g q.1 k q.2).1 k (readSum g q.1 k q.2).2
def noZero (x : ACC) : Prop := ∀ (i : Nat) (b : Bag), x.bags[i]? = some (some b) → ∀ e ∈ b.1, e.2.1 ≠ 0
open Classical in
noncomputable def readA (aggs : List AggD) (t : Bs) : Option ACC :=
  match readN aggs t aggs.length with
  | none => none
  | some q => if doneR q.2 = true ∧ encA q.1 = t ∧ noZero q.1 then some q.1 else none
theorem readN_none {aggs : List AggD} {t : Bs} {k : Nat} (h : readN aggs t k = none) : ∀ m, readN aggs t (k + m) = none
  | 0 => h
  | m + 1 => by
    show readN aggs t ((k + m) + 1) = none
    unfold readN
    rw [readN_none h m]
theorem readA_none {aggs : List AggD} {t : Bs} {k : Nat} (hk : k ≤ aggs.length) (h : readN aggs t k = none) : readA aggs t = none := by
  have := readN_none h (aggs.length - k)
  rw [show k + (aggs.length - k) = aggs.length by omega] at this
  unfold readA
  rw [this]
/-- A bag that is being read. -/
structure BagR (m : Nat) (b : Bag) : Prop where
  wf : WfE b.1 b.2
  len : b.1.length ≤ m
  keys : ∀ u n, getE u b.1 = some n → vRight u = true ∧ GoodVal u ∧ inI n
theorem BagR.nil : BagR 0 ([], 0) := ⟨WfE.nil, Nat.le_refl _, fun u n h => by simp [getE, findE] at h⟩
theorem BagR.set {m : Nat} {b : Bag} (h : BagR m b) {v : ValD} {n : Int} (h1 : vRight v = true) (h2 : GoodVal v) (h3 : inI n) : BagR (m + 1) (setE v n b.1 b.2) := by
  refine ⟨h.wf.set v n, ?_, fun u k hk => ?_⟩
  · have := h.len
    unfold setE
    split
    · simp; omega
    · simp; omega
  · rw [setE_get h.wf.keys] at hk
    by_cases c : u = v
    · rw [if_pos c] at hk
      have hk : n = k := Option.some.inj hk
      subst hk c
      exact ⟨h1, h2, h3⟩
    · rw [if_neg c] at hk
      exact h.keys u k hk
theorem BagR.mono {m k : Nat} {b : Bag} (h : BagR m b) (hk : m ≤ k) : BagR k b := ⟨h.wf, Nat.le_trans h.len hk, h.keys⟩
theorem intR_in (s : RS) : inI (intR s).1 := (numR_le (.inl rfl) _ s).2.1
theorem natR_in (s : RS) : inI (natR s).1 ∧ 0 ≤ (natR s).1 := ⟨(numR_le (.inl rfl) _ s).2.1, (numR_le (.inl rfl) _ s).2.2 (Int.le_refl 0)⟩
theorem readEnts_ok : ∀ (k : Nat) {m : Nat} {b : Bag} {all : Int} {s : RS} {q : Bag × Int × RS}, BagR m b → readEnts k b all s = some q → BagR (m + k) q.1 ∧ q.2.2.rest.length ≤ s.rest.length
  | 0, m, b, all, s, q, h, e => by
    have e : (b, all, s) = q := Option.some.inj e
    subst e
    exact ⟨h, Nat.le_refl _⟩
  | k + 1, m, b, all, s, q, h, e => by
    unfold readEnts at e
    cases hv : readV1 (textR s).1 with
    | none => rw [hv] at e; cases e
    | some v =>
      rw [hv] at e
      simp only at e
      by_cases c : vRight v = true
      · rw [if_pos c] at e
        obtain ⟨h1, h2⟩ := readEnts_ok k (h.set c (readV1_back hv).2 (intR_in _)) e
        have z1 := (textR_le s).2
        have z2 := intR_le (textR s).2
        refine ⟨?_, by omega⟩
        rw [show m + (k + 1) = m + 1 + k by omega]
        exact h1
      · rw [if_neg c] at e; cases e
/-- An accumulator that is being read: k aggregates are. -/
structure AccR (aggs : List AggD) (tl : Nat) (x : ACC) : Prop where
  same : x.aggs = aggs
  count : inI x.count
  slen : x.sums.length = aggs.length
  blen : x.bags.length = aggs.length
  sums : ∀ (i : Nat) (s : Int), x.sums[i]? = some s → inI s
  ord : ∀ (i : Nat) (g : AggD) (b : Option Bag), aggs[i]? = some g → x.bags[i]? = some b → b.isSome = ordB g
  bags : ∀ (i : Nat) (b : Bag), x.bags[i]? = some (some b) → BagR tl b
theorem AccR.good {aggs : List AggD} {tl : Nat} {x : ACC} (h : AccR aggs tl x) (hl : aggs.length ≤ 1000) : GoodA tl x :=
  ⟨by rw [h.same]; exact hl, by rw [h.same]; exact h.slen, by rw [h.same]; exact h.blen, fun i g b hg hb => h.ord i g b (by rw [← h.same]; exact hg) hb, fun i b hb => ⟨(h.bags i b hb).wf, (h.bags i b hb).len⟩⟩
theorem right_s {v : ValD} (hr : vRight v = true) : (bl v.s).length ≤ 1000 := by
  have hs : v.s.size ≤ 200 := by
    unfold vRight at hr
    split at hr
    · have := of_decide_eq_true hr
      rw [this]
      exact Nat.zero_le _
    · split at hr
      · rw [Bool.and_eq_true, decide_eq_true_eq, decide_eq_true_eq] at hr
        omega
      · rw [Bool.or_eq_true, decide_eq_true_eq, decide_eq_true_eq] at hr
        rcases hr with hr | hr <;> (rw [hr]; exact Nat.zero_le _)
  have hl : (bl v.s).length ≤ 200 := hs
  omega
theorem AccR.fit {aggs : List AggD} {tl : Nat} {x : ACC} (h : AccR aggs tl x) (hl : aggs.length ≤ 1000) : FitA tl x := by
  refine ⟨h.good hl, h.count, h.sums, fun i b hb u hu => ?_⟩
  have hB := h.bags i b hb
  obtain ⟨e, he, rfl⟩ : ∃ e ∈ b.1, e.1 = u := by
    unfold keysV sortV at hu
    rw [(List.mergeSort_perm _ _).mem_iff, List.mem_map] at hu
    exact hu
  have hg := getE_mem hB.wf.keys he
  obtain ⟨k1, k2, k3⟩ := hB.keys _ _ hg
  refine ⟨k2, right_s k1, ?_⟩
  unfold cntV
  rw [hg]
  exact k3
theorem accR_new {aggs : List AggD} {tl : Nat} {n : Int} (hn : inI n) : AccR aggs tl { newS aggs with count := n } := by
  refine ⟨rfl, hn, by simp [newS], by simp [newS], fun i s hs => ?_, fun i g b hg hb => ?_, fun i b hb => ?_⟩
  · have hs : (List.replicate aggs.length (0 : Int))[i]? = some s := hs
    have := (List.mem_replicate.1 (List.mem_of_getElem? hs)).2
    rw [this]
    exact ⟨by omega, by omega⟩
  · have hb : (aggs.map nb)[i]? = some b := hb
    rw [List.getElem?_map, hg] at hb
    have hb : nb g = b := by simpa using hb
    rw [← hb]
    unfold nb
    split
    · rename_i c; rw [c]; rfl
    · rename_i c; simp at c; rw [c]; rfl
  · have hb : (aggs.map nb)[i]? = some (some b) := hb
    rw [List.getElem?_map] at hb
    cases hg : aggs[i]? with
    | none => rw [hg] at hb; cases hb
    | some g =>
      rw [hg] at hb
      have hb : nb g = some b := by simpa using hb
      unfold nb at hb
      split at hb
      · have hb : (([], 0) : Bag) = b := by simpa using hb
        subst hb
        exact BagR.nil.mono (Nat.zero_le _)
      · cases hb
theorem AccR.sum {aggs : List AggD} {tl : Nat} {x : ACC} (h : AccR aggs tl x) (i : Nat) {n : Int} (hn : inI n) : AccR aggs tl { x with sums := x.sums.set i n } := by
  refine ⟨h.same, h.count, by show (x.sums.set i n).length = _; rw [List.length_set]; exact h.slen, h.blen, fun j s hs => ?_, h.ord, h.bags⟩
  have hs2 : (x.sums.set i n)[j]? = some s := hs
  rw [List.getElem?_set] at hs2
  split at hs2
  · split at hs2
    · rw [← Option.some.inj hs2]; exact hn
    · cases hs2
  · exact h.sums j s hs2
theorem AccR.bag {aggs : List AggD} {tl : Nat} {x : ACC} (h : AccR aggs tl x) {i : Nat} {g : AggD} (hg : aggs[i]? = some g) (ho : ordB g = true) {b : Bag} (hb : BagR tl b) : AccR aggs tl { x with bags := x.bags.set i (some b) } := by
  refine ⟨h.same, h.count, h.slen, by show (x.bags.set i _).length = _; rw [List.length_set]; exact h.blen, h.sums, fun j g2 b2 hg2 hb2 => ?_, fun j b2 hb2 => ?_⟩
  · have hb3 : (x.bags.set i (some b))[j]? = some b2 := hb2
    rw [List.getElem?_set] at hb3
    split at hb3
    · rename_i e
      subst e
      split at hb3
      · rw [← Option.some.inj hb3]
        rw [hg] at hg2
        rw [← Option.some.inj hg2, ho]
        rfl
      · cases hb3
    · exact h.ord j g2 b2 hg2 hb3
  · have hb3 : (x.bags.set i (some b))[j]? = some (some b2) := hb2
    rw [List.getElem?_set] at hb3
    split at hb3
    · split at hb3
      · rw [← Option.some.inj (Option.some.inj hb3)]; exact hb
      · cases hb3
    · exact h.bags j b2 hb3
end Go.Proofs.YtoebncgnjbblgaaGreatDoor
/-
  Bags with an entry of 0. No condition.
-/
--@auto
namespace Go.Proofs.YtoebncgnjbblgaaGreatDoor
open Go.RowKit
set_option maxRecDepth 100000

section
variable {B : Base} {w : World} {σ : List Dat}
theorem zeroN_g : Gives Tryz.prog B (sCallV (.func (.func F_aggregate_zero) #[] #[]) #[.map none]) (.bool false) := by
  refine Gives.intro fun B' w K base h k => ?_
  refine call_v ?_
  show upK Tryz.prog (sCall F_aggregate_zero #[.map none]) w K
  refine aggregate_zero.up (aggregate_zero.call ?_)
  unfold aggregate_zero.pt
  refine h.rangeN U_map_api_Value_int fun it w1 h => ?_
  have h : Rel B' w1 [iterN it] := h
  refine LOOP_intro (fun _ w' => Rel B' w' [iterN it]) (fun _ _ => 0) h ?_
  clear h
  rintro _ w2 h next _
  refine h.nextN 0 rfl fun w3 h => ?_
  rw [ext_1_0, ifB_false]
  exact k _ _ h
theorem zeroV_g {m c : Nat} {l : List EntV} (hm : mapE m l c B) (hw : WfE l c) : Gives Tryz.prog B (sCallV (.func (.func F_aggregate_zero) #[] #[]) #[mapV m]) (.bool (l.any fun e => decide (e.2.1 = 0))) := by
  refine Gives.intro fun B' w K base h k => ?_
  replace hm := base hm
  refine call_v ?_
  show upK Tryz.prog (sCall F_aggregate_zero #[mapV m]) w K
  refine aggregate_zero.up (aggregate_zero.call ?_)
  unfold aggregate_zero.pt
  refine h.rangeB hm U_map_api_Value_int fun it w1 h => ?_
  have h : Rel B' w1 [iterE it m c #[] c] := h
  refine LOOP_intro (fun _ w' => ∃ (seen : Array Nat), (∀ e ∈ l, seen.contains e.2.2 = true → e.2.1 ≠ 0) ∧ Rel B' w' [iterE it m c seen c]) (fun _ w' => unseenE l (seenOf w' it))
    ⟨#[], fun e _ hh => by simp at hh, h⟩ ?_
  clear h
  rintro _ w2 ⟨seen, hs, h⟩ next hnext
  have hseen := seenOf_eq h (j := 0) rfl
  rw [hseen] at hnext
  refine h.nextB 0 it hm rfl hw.below (fun w3 hall h => ?_) fun e w3 he hns h => ?_
  · rw [ext_1_0, ifB_false]
    have : (l.any fun e => decide (e.2.1 = 0)) = false := by
      rw [List.any_eq_false]
      intro e he
      rw [decide_eq_true_eq]
      exact hs e he (hall e he)
    rw [this] at k
    exact k _ _ h
  · rw [ext_3_0, ifB_true]
    have h : Rel B' w3 [iterE it m c (seen.push e.2.2) c] := h
    refine h.entryB 0 it hm rfl he hw.stamps fun w4 h => ?_
    rw [ext_2_1, show (Enc.val e.2.1 : Value) = .int .i64 e.2.1 from rfl, bin_eql, ifB_dec]
    refine ⟨fun c0 => ?_, fun c0 => ?_⟩
    · have : (l.any fun e => decide (e.2.1 = 0)) = true := List.any_eq_true.2 ⟨e, he, decide_eq_true c0⟩
      rw [this] at k
      exact k _ _ h
    · refine hnext _ _ ⟨seen.push e.2.2, fun x hx hh => ?_, h⟩ ?_
      · rw [contains_push, Bool.or_eq_true, decide_eq_true_eq] at hh
        rcases hh with hh | hh
        · exact hs x hx hh
        · rw [hw.eq_of_stamp hx he hh]; exact c0
      · rw [seenOf_eq h (j := 0) rfl]
        exact unseen_push he hns
end
end Go.Proofs.YtoebncgnjbblgaaGreatDoor
/-
  Accumulators: Read. No condition.
-/
--@auto
namespace Go.Proofs.YtoebncgnjbblgaaGreatDoor
open Go.RowKit
set_option maxRecDepth 100000

def zOf : Option Bag → Bool
  | none => false
  | some b => b.1.any fun e => decide (e.2.1 = 0)
def zeroA (x : ACC) : Bool := x.bags.any zOf
theorem zeroA_no {x : ACC} : zeroA x = false ↔ noZero x := by
  unfold zeroA noZero
  rw [List.any_eq_false]
  constructor
  · intro h i b hb e he h0
    have := h (some b) (List.mem_of_getElem? hb)
    exact this (List.any_eq_true.2 ⟨e, he, decide_eq_true h0⟩)
  · intro h b hb
    cases b with
    | none => exact fun hh => by cases hh
    | some b =>
      obtain ⟨i, hi, e1⟩ := List.getElem_of_mem hb
      show ¬ (b.1.any fun e => decide (e.2.1 = 0)) = true
      rw [Bool.not_eq_true, List.any_eq_false]
      intro e he
      rw [decide_eq_true_eq]
      exact h i b (by rw [List.getElem?_eq_getElem hi, e1]) e he
section
variable {B : Base} {w : World} {σ : List Dat}
theorem zeroOne_g {M : MP} {bo : Option Bag} (hd : bagD M bo B) (hw : ∀ b, bo = some b → WfE b.1 b.2) : Gives Tryz.prog B (sCallV (.func (.func F_aggregate_zero) #[] #[]) #[.map M.p]) (.bool (zOf bo)) := by
  obtain ⟨m⟩ := M
  cases m with
  | none =>
    cases bo with
    | none => exact zeroN_g
    | some b => exact hd.elim
  | some m =>
    cases bo with
    | none => exact hd.elim
    | some b =>
      have hd : mapE m b.1 b.2 B := hd
      exact zeroV_g hd (hw b rfl)
theorem anyZero_g {bv : Value} {ms : List MP} {x : ACC} {N : Nat} (r : rowD T_map_api_Value_int bv ms B) (q : bagsD ms x.bags B) (hm : ms.length = x.bags.length) (hx : GoodA N x) : Gives Tryz.prog B (sCall F_slices_ContainsFunc_s_map_api_Value_int_map_api_Value_int #[bv, .func (.func F_aggregate_zero) #[] #[]]) (.bool (zeroA x)) := by
  refine Gives.intro fun B' w K base h k => ?_
  replace r := base r
  replace q := base q
  have hfew := hx.few
  have hbl := hx.bags
  refine slices_ContainsFunc_s_map_api_Value_int_map_api_Value_int.up (slices_ContainsFunc_s_map_api_Value_int_map_api_Value_int.call ?_)
  unfold slices_ContainsFunc_s_map_api_Value_int_map_api_Value_int.pt
  refine slices_IndexFunc_s_map_api_Value_int_map_api_Value_int.up (slices_IndexFunc_s_map_api_Value_int_map_api_Value_int.call ?_)
  unfold slices_IndexFunc_s_map_api_Value_int_map_api_Value_int.pt
  rw [rowR.len (rowD.read r) sl_s_map_api_Value_int]
  refine LOOP_intro (fun c w' => ∃ i : Nat, i ≤ ms.length ∧ c = (.int .i64 i, ()) ∧ (∀ j (h1 : j < x.bags.length), j < i → zOf x.bags[j] = false) ∧ Rel B' w' []) (fun c _ => ms.length - (match c.1 with | .int _ n => n.toNat | _ => 0))
    ⟨0, Nat.zero_le _, rfl, fun j _ hj => absurd hj (Nat.not_lt_zero j), h⟩ ?_
  clear h
  rintro c w1 ⟨i, hi, rfl, hin, h⟩ next hnext
  simp -zeta only [bin_lss, ifB_dec]
  refine ⟨fun hlt => ?_, fun hge => ?_⟩
  case refine_2 =>
    have : zeroA x = false := by
      unfold zeroA
      rw [List.any_eq_false]
      intro b hb
      obtain ⟨j, hj, rfl⟩ := List.getElem_of_mem hb
      have := hin j hj (by omega)
      simp only [Bool.not_eq_true]
      exact this
    rw [this] at k
    rw [bin_geq, decide_eq_false (by omega)]
    exact k _ _ h
  have hil : i < ms.length := by omega
  have hib : i < x.bags.length := by omega
  obtain ⟨g5, o5, hx5, hc5⟩ := rowR.idx (P := Tryz.prog) (rowD.read r) sl_s_map_api_Value_int hil
  have hd : bagD ms[i] x.bags[i] B' := starL.get q (j := i) (by rw [List.getElem?_zipWith, List.getElem?_eq_getElem hil, List.getElem?_eq_getElem hib])
  rw [hx5, cellsR.ld0 (h.hereB hc5) sc_map_api_Value_int (v := .map ms[i].p) rfl]
  refine h.ask (fun B2 own base2 => zeroOne_g (base2 hd) fun b hb => (hx.wf i b (by rw [List.getElem?_eq_getElem hib, hb])).1) fun w2 h => ?_
  rw [ifB_bool]
  refine ⟨fun c => ?_, fun c => ?_⟩
  · have : zeroA x = true := by
      unfold zeroA
      exact List.any_eq_true.2 ⟨_, List.getElem_mem hib, c⟩
    rw [this] at k
    rw [bin_geq, decide_eq_true (by omega)]
    exact k _ _ h
  · rw [bin_add, wrap_id (by omega) (by omega)]
    refine hnext _ _ ⟨i + 1, hil, rfl, fun j h1 hj => ?_, h⟩ (by simp only; omega)
    by_cases e : j = i
    · subst e; exact c
    · exact hin j h1 (by omega)
end
end Go.Proofs.YtoebncgnjbblgaaGreatDoor
/-
  Accumulators: Read. No condition.
-/
--@auto
namespace Go.Proofs.YtoebncgnjbblgaaGreatDoor
open Go.RowKit
set_option maxRecDepth 100000

theorem readA_ok {aggs : List AggD} {t : Bs} {x : ACC} {s : RS} (h : readN aggs t aggs.length = some (x, s)) (c : doneR s = true ∧ encA x = t ∧ noZero x) : readA aggs t = some x := by
  unfold readA
  rw [h]
  exact if_pos c
theorem readA_no {aggs : List AggD} {t : Bs} {x : ACC} {s : RS} (h : readN aggs t aggs.length = some (x, s)) (c : ¬ (doneR s = true ∧ encA x = t ∧ noZero x)) : readA aggs t = none := by
  unfold readA
  rw [h]
  exact if_neg c
section
variable {B : Base} {w : World} {σ : List Dat}
set_option maxHeartbeats 4000000 in
theorem aRead_m (hB : wireD B) {v : Value} {aggs : List AggD} {t : Bs} (r : rowR v aggs B) (hl : aggs.length ≤ 1000) (ht : t.length ≤ 1000000) :
    Makes Tryz.prog B (sCall F_aggregate_Read #[v, .string (ofL t)]) fun u τ => (∃ x p, readA aggs t = some x ∧ GoodA t.length x ∧ FitA t.length x ∧ u = .tuple #[ptr p, .bool true] ∧ τ = [accD p x]) ∨ (readA aggs t = none ∧ u = .tuple #[.pointer none, .bool false] ∧ τ = []) := by
  refine Makes.intro fun B' w K base h k => ?_
  replace r := base r
  replace hB := base hB
  refine aggregate_Read.up (aggregate_Read.call ?_)
  unfold aggregate_Read.pt
  have no : readA aggs t = none → ∀ w' σ, Rel B' w' σ → K (.tuple #[.pointer none, .bool false]) w' := fun hn w' σ h => k _ [] _ (.inr ⟨hn, rfl, rfl⟩) h.nil
  refine h.make (fun B2 own base2 => New_m (base2 r) hl) fun u τ w1 hp h => ?_
  obtain ⟨p, rfl, rfl⟩ := hp
  refine h.make (fun B2 own base2 => open_m) fun u τ w2 hp h => ?_
  obtain ⟨q, rfl, rfl⟩ := hp
  have h : Rel B' w2 (accD p (newS aggs) :: [rdD q ⟨t, false⟩]) := h
  have z0 := intR_le ⟨t, false⟩
  have z0 : (intR ⟨t, false⟩).2.rest.length ≤ t.length := z0
  refine h.rd_ 1 rfl (fun B2 own base2 => rInt_d (base2 hB) (by show t.length ≤ _; omega)) fun w3 h => ?_
  have h : Rel B' w3 (accD p (newS aggs) :: [rdD q (intR ⟨t, false⟩).2]) := h
  obtain ⟨⟨⟨av, hav⟩, ⟨sv, hsv⟩, ⟨bv, hbv⟩, ms⟩, hms, h⟩ := accD.open h
  have hms : ms.length = aggs.length := by
    have : ms.length = (aggs.map nb).length := hms
    rw [this, List.length_map]
  have h : Rel B' w3 [cellD p T_aggregate_Acc #[av, .int .i64 0, sv, bv], rowD T_api_Agg av aggs, rowD T_int sv (newS aggs).sums, rowD T_map_api_Value_int bv ms, bagsD ms (newS aggs).bags, rdD q (intR ⟨t, false⟩).2] := h
  simp -zeta only [nil_ptr, field_addr f_aggregate_Acc_1, field_addr f_aggregate_Acc_2, field_addr f_aggregate_Acc_3, Nat.zero_add]
  refine h.st 0 rfl sc_int (o := 1) (show 1 < 4 by omega) rfl fun w4 h => ?_
  rw [rowR.len r sl_s_api_Agg]
  have h : Rel B' w4 [cellD p T_aggregate_Acc #[av, .int .i64 (intR ⟨t, false⟩).1, sv, bv], rowD T_api_Agg av aggs, rowD T_int sv (newS aggs).sums, rowD T_map_api_Value_int bv ms, bagsD ms (newS aggs).bags, rdD q (intR ⟨t, false⟩).2] := h
  refine LOOP_intro (fun c w' => ∃ (i : Nat) (x : ACC) (s : RS), i ≤ aggs.length ∧ c = (.int .i64 i, ()) ∧ readN aggs t i = some (x, s) ∧ AccR aggs t.length x ∧ s.rest.length ≤ t.length ∧ (∀ j, i ≤ j → x.bags[j]? = (aggs.map nb)[j]?) ∧ Rel B' w' [cellD p T_aggregate_Acc #[av, .int .i64 x.count, sv, bv], rowD T_api_Agg av aggs, rowD T_int sv x.sums, rowD T_map_api_Value_int bv ms, bagsD ms x.bags, rdD q s])
    (fun c _ => aggs.length - (match c.1 with | .int _ n => n.toNat | _ => 0)) ⟨0, { newS aggs with count := (intR ⟨t, false⟩).1 }, (intR ⟨t, false⟩).2, Nat.zero_le _, rfl, rfl, accR_new (intR_in _), z0, fun j _ => rfl, h⟩ ?_
  clear h z0
  rintro c w5 ⟨i, x, s, hi, rfl, hrd, hx, hs, hnb, h⟩ next hnext
  simp -zeta only [bin_lss, ifB_dec]
  refine ⟨fun hlt => ?_, fun hge => ?_⟩
  case refine_2 =>
    have : i = aggs.length := by omega
    subst this
    have hgood := hx.good hl
    have hfit := hx.fit hl
    refine h.ask (fun B2 own base2 => rDone_g (own (i := 5) rfl)) fun w22 h => ?_
    rw [un_not, ifB_not, ifB_bool]
    refine ⟨fun cd => ?_, fun cd => no (readA_no hrd fun hh => by rw [hh.1] at cd; cases cd) _ _ h⟩
    have hxa := hx.same
    have h : Rel B' w22 (accL p ⟨⟨av, hav⟩, ⟨sv, hsv⟩, ⟨bv, hbv⟩, ms⟩ x ++ [rdD q s]) := by rw [← hxa] at h; exact h
    have h := accD.close (p := p) (x := x) (τ := [rdD q s]) ⟨⟨av, hav⟩, ⟨sv, hsv⟩, ⟨bv, hbv⟩, ms⟩ (by show ms.length = x.bags.length; rw [hms, hx.blen]) h
    refine h.ask (fun B2 own base2 => Bytes_g (base2 hB) (own (i := 0) rfl) hfit ht) fun w23 h => ?_
    rw [neq_str, ifB_not, ifB_dec]
    refine ⟨fun ce => ?_, fun ce => no (readA_no hrd fun hh => ce (by rw [hh.2.1])) _ _ h⟩
    have ce : encA x = t := by
      have := congrArg bl ce
      rw [bl_ofL, bl_ofL] at this
      exact this
    obtain ⟨⟨⟨av', hav'⟩, ⟨sv', hsv'⟩, ⟨bv', hbv'⟩, ms'⟩, hms', h⟩ := accD.open h
    have hms' : ms'.length = x.bags.length := hms'
    have h : Rel B' w23 [cellD p T_aggregate_Acc #[av', .int .i64 x.count, sv', bv'], rowD T_api_Agg av' x.aggs, rowD T_int sv' x.sums, rowD T_map_api_Value_int bv' ms', bagsD ms' x.bags, rdD q s] := h
    rw [h.ld 0 rfl sc_s_map_api_Value_int (o := 3) (v := bv') rfl]
    refine h.ask (fun B2 own base2 => anyZero_g (own (i := 3) rfl) (own (i := 4) rfl) hms' hgood) fun w24 h => ?_
    rw [ifB_bool]
    refine ⟨fun cz => no (readA_no hrd fun hh => by rw [zeroA_no.2 hh.2.2] at cz; cases cz) _ _ h, fun cz => ?_⟩
    exact k _ _ _ (.inl ⟨x, p, readA_ok hrd ⟨cd, ce, zeroA_no.1 cz⟩, hgood, hfit, rfl, rfl⟩) (accD.close (p := p) (x := x) (τ := []) ⟨⟨av', hav'⟩, ⟨sv', hsv'⟩, ⟨bv', hbv'⟩, ms'⟩ hms' (h.take 5))
  have hil : i < aggs.length := by omega
  have hig : aggs[i]? = some aggs[i] := List.getElem?_eq_getElem hil
  have hstep : readN aggs t (i + 1) = readOrd t.length aggs[i] (readSum aggs[i] x i s).1 i (readSum aggs[i] x i s).2 := by
    show (match readN aggs t i with
      | none => none
      | some q => match aggs[i]? with
        | none => none
        | some g => readOrd t.length g (readSum g q.1 i q.2).1 i (readSum g q.1 i q.2).2) = _
    rw [hrd, hig]
  have no1 : readOrd t.length aggs[i] (readSum aggs[i] x i s).1 i (readSum aggs[i] x i s).2 = none → ∀ w' σ, Rel B' w' σ → K (.tuple #[.pointer none, .bool false]) w' := fun hn => no (readA_none (k := i + 1) hil (hstep.trans hn))
  refine LETJ_intro fun J hJ => ?_
  replace hJ : ∀ (w' : World) (x' : ACC) (s' : RS), readOrd t.length aggs[i] (readSum aggs[i] x i s).1 i (readSum aggs[i] x i s).2 = some (x', s') → AccR aggs t.length x' → s'.rest.length ≤ t.length → (∀ j, i + 1 ≤ j → x'.bags[j]? = (aggs.map nb)[j]?) → Rel B' w' [cellD p T_aggregate_Acc #[av, .int .i64 x'.count, sv, bv], rowD T_api_Agg av aggs, rowD T_int sv x'.sums, rowD T_map_api_Value_int bv ms, bagsD ms x'.bags, rdD q s'] → J () w' := by
    intro w' x' s' h1 h2 h3 h4 h
    refine hJ _ _ ?_
    show pureK _ _ _
    rw [bin_add, wrap_id (by omega) (by omega)]
    exact hnext _ _ ⟨i + 1, x', s', hil, rfl, hstep.trans h1, h2, h3, h4, h⟩ (by simp only; omega)
  clear hnext hstep no k
  obtain ⟨g1, o1, hx1, hc1⟩ := rowR.idx (P := Tryz.prog) r sl_s_api_Agg hil
  have hc1 : cellsR g1 o1 aggs[i].cs B' := hc1
  rw [hx1, cellsR.ldAg (h.hereB hc1) ag_api_Agg rfl]
  clear hc1 hx1
  generalize hG : aggs[i] = G at *
  refine h.allocAg (ds := G.cs.toArray) z_api_Agg rfl ag_api_Agg rfl (fun v hv => Enc.one G v hv) fun a1 w7 h => ?_
  have h : Rel B' w7 [cellD p T_aggregate_Acc #[av, .int .i64 x.count, sv, bv], rowD T_api_Agg av aggs, rowD T_int sv x.sums, rowD T_map_api_Value_int bv ms, bagsD ms x.bags, rdD q s, cellD a1 T_api_Agg G.cs.toArray] := h
  refine LETJ_intro fun J2 hJ2 => ?_
  replace hJ2 : ∀ w' y, y = readSum G x i s → AccR aggs t.length y.1 → y.2.rest.length ≤ t.length → Rel B' w' [cellD p T_aggregate_Acc #[av, .int .i64 y.1.count, sv, bv], rowD T_api_Agg av aggs, rowD T_int sv y.1.sums, rowD T_map_api_Value_int bv ms, bagsD ms y.1.bags, rdD q y.2, cellD a1 T_api_Agg G.cs.toArray] → J2 () w' := by
    intro w10 y hy hAy hry h
    refine hJ2 _ _ ?_
    clear hJ2
    have hyb : y.1.bags = x.bags ∧ y.1.count = x.count := by rw [hy]; unfold readSum; split <;> exact ⟨rfl, rfl⟩
    rw [← hy] at hJ no1
    rw [h.ldAg 6 rfl ag_api_Agg rfl]
    refine h.ask (fun B2 own base2 => ordered_g G) fun w11 h => ?_
    rw [un_not, ifB_not, ifB_bool]
    refine ⟨fun co => ?_, fun co => ?_⟩
    case refine_2 =>
      exact hJ _ y.1 y.2 (by unfold readOrd; rw [if_neg (by rw [co]; decide)]) hAy hry (fun j hj => by rw [hyb.1]; exact hnb j (by omega)) (h.take 6)
    have hmi : i < ms.length := by omega
    have hbi : i < y.1.bags.length := by rw [hAy.blen]; exact hil
    have hb0 : y.1.bags[i]? = some (some ([], 0)) := by
      rw [hyb.1, hnb i (Nat.le_refl _), List.getElem?_map, hig]
      show some (nb G) = _
      unfold nb
      rw [if_pos co]
    obtain ⟨MM, hM⟩ : ∃ MM, ms[i]? = some MM := ⟨_, List.getElem?_eq_getElem hmi⟩
    have hMi : ms[i] = MM := (List.getElem?_eq_some_iff.1 hM).2
    have h := h.take 6
    have h : Rel B' w11 [cellD p T_aggregate_Acc #[av, .int .i64 y.1.count, sv, bv], rowD T_api_Agg av aggs, rowD T_int sv y.1.sums, rowD T_map_api_Value_int bv ms, bagsD ms y.1.bags, rdD q y.2] := h
    have h := bags_pull h 4 rfl hM hb0
    have h : Rel B' w11 [cellD p T_aggregate_Acc #[av, .int .i64 y.1.count, sv, bv], rowD T_api_Agg av aggs, rowD T_int sv y.1.sums, rowD T_map_api_Value_int bv ms, starL ((List.zipWith bagD ms y.1.bags).set i emp), rdD q y.2, bagD MM (some ([], 0))] := h
    obtain ⟨m, rfl⟩ := bagD_some (h.here (i := 6) rfl)
    have h : Rel B' w11 [cellD p T_aggregate_Acc #[av, .int .i64 y.1.count, sv, bv], rowD T_api_Agg av aggs, rowD T_int sv y.1.sums, rowD T_map_api_Value_int bv ms, starL ((List.zipWith bagD ms y.1.bags).set i emp), rdD q y.2, mapE m ([] : List EntV) 0] := h
    obtain ⟨gb, capb, rfl⟩ := h.open_ (i := 3) rfl (by omega)
    obtain ⟨hn1, hn2⟩ := natR_in y.2
    have z1 := natR_le y.2
    refine h.rd_ 5 rfl (fun B2 own base2 => rNum_d (base2 hB) (by omega)) fun w12 h => ?_
    have h : Rel B' w12 [cellD p T_aggregate_Acc #[av, .int .i64 y.1.count, sv, .slice (some ⟨gb, 0, none⟩) ms.length capb], rowD T_api_Agg av aggs, rowD T_int sv y.1.sums, rowD T_map_api_Value_int (.slice (some ⟨gb, 0, none⟩) ms.length capb) ms, starL ((List.zipWith bagD ms y.1.bags).set i emp), rdD q (natR y.2).2, mapE m ([] : List EntV) 0] := h
    have hsz : ((ofL t).size : Int) = (t.length : Int) := by rw [ofL_size]
    rw [len_string U_string, hsz, blt_min]
    obtain ⟨cnt, hcnt⟩ : ∃ cnt : Nat, min (natR y.2).1 (t.length : Int) = cnt := ⟨(min (natR y.2).1 (t.length : Int)).toNat, by omega⟩
    have hOrd : readOrd t.length G y.1 i y.2 = match readEnts cnt ([], 0) 0 (natR y.2).2 with
      | none => none
      | some q => if q.2.1 = y.1.count then some ({ y.1 with bags := y.1.bags.set i (some q.1) }, q.2.2) else none := by
      unfold readOrd
      rw [if_pos co, hcnt]
      rfl
    have hct : cnt ≤ t.length := by omega
    rw [hOrd] at hJ no1
    rw [hcnt]
    generalize natR y.2 = ny at *
    obtain ⟨nn, s1⟩ := ny
    have z1 : s1.rest.length ≤ y.2.rest.length := z1
    have h : Rel B' w12 [cellD p T_aggregate_Acc #[av, .int .i64 y.1.count, sv, .slice (some ⟨gb, 0, none⟩) ms.length capb], rowD T_api_Agg av aggs, rowD T_int sv y.1.sums, rowD T_map_api_Value_int (.slice (some ⟨gb, 0, none⟩) ms.length capb) ms, starL ((List.zipWith bagD ms y.1.bags).set i emp), rdD q s1, mapE m ([] : List EntV) 0] := h
    refine LOOP_intro (fun c w' => ∃ (j : Nat) (b : Bag) (all : Int) (s2 : RS), j ≤ cnt ∧ c = (.int .i64 all, .int .i64 j, ()) ∧ readEnts (cnt - j) b all s2 = readEnts cnt ([], 0) 0 s1 ∧ BagR j b ∧ s2.rest.length ≤ t.length ∧ Rel B' w' [cellD p T_aggregate_Acc #[av, .int .i64 y.1.count, sv, .slice (some ⟨gb, 0, none⟩) ms.length capb], rowD T_api_Agg av aggs, rowD T_int sv y.1.sums, rowD T_map_api_Value_int (.slice (some ⟨gb, 0, none⟩) ms.length capb) ms, starL ((List.zipWith bagD ms y.1.bags).set i emp), rdD q s2, mapE m b.1 b.2])
      (fun c _ => cnt - (match c.2.1 with | .int _ n => n.toNat | _ => 0)) ⟨0, ([], 0), 0, s1, Nat.zero_le _, rfl, rfl, BagR.nil, by omega, h⟩ ?_
    clear h
    rintro c w13 ⟨j, b, all, s2, hj, rfl, hre, hbr, hs2, h⟩ next hnext
    simp -zeta only [bin_lss, ifB_dec]
    refine ⟨fun hlt => ?_, fun hge => ?_⟩
    case refine_2 =>
      have : j = cnt := by omega
      subst this
      rw [Nat.sub_self] at hre
      have hre : readEnts j ([], 0) 0 s1 = some (b, all, s2) := hre.symm
      rw [hre] at hJ no1
      simp only at hJ no1
      rw [h.ld 0 rfl sc_int (o := 1) (v := .int .i64 y.1.count) rfl, bin_neq, ifB_not, ifB_dec]
      refine ⟨fun ca => ?_, fun ca => no1 (if_neg ca) _ _ h⟩
      have h := bags_give (σ := [cellD p T_aggregate_Acc #[av, .int .i64 y.1.count, sv, .slice (some ⟨gb, 0, none⟩) ms.length capb], rowD T_api_Agg av aggs, rowD T_int sv y.1.sums, rowD T_map_api_Value_int (.slice (some ⟨gb, 0, none⟩) ms.length capb) ms, starL ((List.zipWith bagD ms y.1.bags).set i emp), rdD q s2]) (M := ⟨some m⟩) (b' := some b) h 4 rfl hM hbi
      refine hJ _ { y.1 with bags := y.1.bags.set i (some b) } s2 (if_pos ca) (hAy.bag hig co (hbr.mono hct)) hs2 (fun j2 hj2 => ?_) h
      show (y.1.bags.set i (some b))[j2]? = _
      rw [List.getElem?_set_ne (by omega), hyb.1]
      exact hnb j2 (by omega)
    have hjc : j < cnt := by omega
    obtain ⟨k', hk'⟩ : ∃ k', cnt - j = k' + 1 := ⟨cnt - j - 1, by omega⟩
    rw [hk', readEnts] at hre
    have z2 := textR_le s2
    have z3 := intR_le (textR s2).2
    refine h.rd_ 5 rfl (fun B2 own base2 => rText_d (base2 hB) (by omega)) fun w14 h => ?_
    refine h.ask (fun B2 own base2 => read_g (base2 hB) (by omega)) fun w15 h => ?_
    rw [ext_2_0, ext_2_1]
    generalize hV : (readV1 (textR s2).1).getD vZero = V at *
    refine h.allocAg (ds := V.cs.toArray) z_api_Value rfl ag_api_Value rfl (fun v hv => Enc.one V v hv) fun a2 w16 h => ?_
    rw [un_not, ifB_not, ifB_bool]
    refine ⟨fun cv => ?_, fun cv => ?_⟩
    case refine_2 =>
      have : readV1 (textR s2).1 = none := by
        cases hh : readV1 (textR s2).1 with
        | none => rfl
        | some v => rw [hh] at cv; cases cv
      rw [this] at hre
      exact no1 (by rw [← hre]) _ _ h
    obtain ⟨v0, hv0⟩ := Option.isSome_iff_exists.1 cv
    rw [hv0] at hV hre
    have hV : v0 = V := hV
    subst hV
    simp only at hre
    have h : Rel B' w16 [cellD p T_aggregate_Acc #[av, .int .i64 y.1.count, sv, .slice (some ⟨gb, 0, none⟩) ms.length capb], rowD T_api_Agg av aggs, rowD T_int sv y.1.sums, rowD T_map_api_Value_int (.slice (some ⟨gb, 0, none⟩) ms.length capb) ms, starL ((List.zipWith bagD ms y.1.bags).set i emp), rdD q (textR s2).2, mapE m b.1 b.2, cellD a2 T_api_Value v0.cs.toArray] := h
    rw [h.ldAg 7 rfl ag_api_Value rfl]
    refine h.ask (fun B2 own base2 => vRight_g v0) fun w17 h => ?_
    rw [un_not, ifB_not, ifB_bool]
    refine ⟨fun cr => ?_, fun cr => no1 (by rw [← hre, if_neg (by rw [cr]; decide)]) _ _ h⟩
    rw [if_pos cr] at hre
    have h := h.tick
    generalize tick w17 = w17 at *
    have hel := h.elem (α := MP) (i := 3) (j := i) rfl hmi
    rw [hMi] at hel
    rw [h.ld 0 rfl sc_s_map_api_Value_int (o := 3) (v := .slice (some ⟨gb, 0, none⟩) ms.length capb) rfl, idx_own (α := MP) sl_s_map_api_Value_int hmi, cellsR.ld0 hel sc_map_api_Value_int (v := mapV m) rfl, h.ldAg 7 rfl ag_api_Value rfl]
    refine h.rd_ 5 rfl (fun B2 own base2 => rInt_d (base2 hB) (by omega)) fun w18 h => ?_
    have hel := h.elem (α := MP) (i := 3) (j := i) rfl hmi
    rw [hMi] at hel
    refine ⟨h.isAg 7 rfl ag_api_Value rfl, by have := cellsR.is (P := Tryz.prog) (T := T_map_api_Value_int) (j := 0) hel sc_map_api_Value_int (v := mapV m) rfl; exact this, h.is 0 rfl sc_s_map_api_Value_int (o := 3) rfl, ?_⟩
    refine h.mapUpd 6 rfl U_map_api_Value_int kV v0 (intR (textR s2).2).1 fun w19 h => ?_
    have h := h.tick
    generalize tick w19 = w19 at *
    have h : Rel B' w19 [cellD p T_aggregate_Acc #[av, .int .i64 y.1.count, sv, .slice (some ⟨gb, 0, none⟩) ms.length capb], rowD T_api_Agg av aggs, rowD T_int sv y.1.sums, rowD T_map_api_Value_int (.slice (some ⟨gb, 0, none⟩) ms.length capb) ms, starL ((List.zipWith bagD ms y.1.bags).set i emp), rdD q (intR (textR s2).2).2, mapE m (setE v0 (intR (textR s2).2).1 b.1 b.2).1 (setE v0 (intR (textR s2).2).1 b.1 b.2).2, cellD a2 T_api_Value v0.cs.toArray] := h
    have hel := h.elem (α := MP) (i := 3) (j := i) rfl hmi
    rw [hMi] at hel
    rw [h.ld 0 rfl sc_s_map_api_Value_int (o := 3) (v := .slice (some ⟨gb, 0, none⟩) ms.length capb) rfl, idx_own (α := MP) sl_s_map_api_Value_int hmi, cellsR.ld0 hel sc_map_api_Value_int (v := mapV m) rfl, h.ldAg 7 rfl ag_api_Value rfl]
    rw [h.lookup 6 rfl U_map_api_Value_int kV 0 z_int v0]
    have hg : (getE v0 (setE v0 (intR (textR s2).2).1 b.1 b.2).1).getD 0 = (intR (textR s2).2).1 := by
      rw [setE_get hbr.wf.keys, if_pos rfl]
      rfl
    rw [hg, show (Enc.val (intR (textR s2).2).1 : Value) = .int .i64 (intR (textR s2).2).1 from rfl, bin_add, bin_add, wrap_id (n := (j : Int) + 1) (by omega) (by omega)]
    refine hnext _ _ ⟨j + 1, setE v0 (intR (textR s2).2).1 b.1 b.2, W64 (all + (intR (textR s2).2).1), (intR (textR s2).2).2, hjc, rfl, by rw [show cnt - (j + 1) = k' by omega]; exact hre, hbr.set cr (readV1_back hv0).2 (intR_in _), by omega, h.take 7⟩ (by simp only; omega)
  rw [field_addr f_api_Agg_0, Nat.zero_add, h.ld 6 rfl sc_int (o := 0) (v := .int .i64 G.kind) rfl, bin_eql, ifB_dec]
  refine ⟨fun k1 => ?_, fun k1 => ?_⟩
  case refine_2 => exact hJ2 _ (x, s) (by unfold readSum; rw [if_neg k1]) hx hs h
  have hsl : i < x.sums.length := by rw [hx.slen]; exact hil
  have h := h.tick
  generalize tick w7 = w7 at *
  obtain ⟨gs, cap, rfl⟩ := h.open_ (i := 2) rfl (by omega)
  rw [h.ld 0 rfl sc_s_int (o := 2) (v := .slice (some ⟨gs, 0, none⟩) x.sums.length cap) rfl]
  have z1 := intR_le s
  refine h.rd_ 5 rfl (fun B2 own base2 => rInt_d (base2 hB) (by omega)) fun w8 h => ?_
  refine ⟨h.is 0 rfl sc_s_int (o := 2) (v := .slice (some ⟨gs, 0, none⟩) x.sums.length cap) rfl, ?_⟩
  rw [idx_own (α := Int) sl_s_int hsl]
  refine h.set_sc (α := Int) 2 rfl (intR s).1 (j := i) hsl (f := 0) rfl (by decide) rfl sc_int rfl fun w9 h => ?_
  refine hJ2 _ ({ x with sums := x.sums.set i (intR s).1 }, (intR s).2) (by unfold readSum; rw [if_pos k1]) (hx.sum i (intR_in _)) (by show (intR s).2.rest.length ≤ _; omega) ?_
  exact h
end
end Go.Proofs.YtoebncgnjbblgaaGreatDoor
