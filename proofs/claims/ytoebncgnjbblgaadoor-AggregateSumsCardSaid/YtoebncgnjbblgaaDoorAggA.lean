/-
  Accumulators: what they are made of; what adding does to them. No condition.
-/
import Derived.Test.YtoebncgnjbblgaaDoorSortV
namespace Go.Proofs.YtoebncgnjbblgaaDoor
open Go.RowKit
set_option maxRecDepth 100000

/-! ### A list of things as one thing -/
def starL (L : List Dat) : Dat := ⟨fun B => ∃ G : Nat → Nat, ∀ (j : Nat) (d : Dat), L[j]? = some d → d ⟨B.W, fun k => B.keep k ∧ G k = j⟩, fun {B B'} hl ⟨G, h⟩ =>
  ⟨G, fun j d hj => d.mono (B := ⟨B.W, fun k => B.keep k ∧ G k = j⟩) (B' := ⟨B'.W, fun k => B'.keep k ∧ G k = j⟩) (fun k (hk : B.keep k ∧ G k = j) hs => ⟨⟨(hl k hk.1 hs).1, hk.2⟩, (hl k hk.1 hs).2⟩) (h j d hj)⟩⟩
section
variable {L τ : List Dat} {B : Base} {j : Nat} {d : Dat} {w : World}
theorem starL.get (h : starL L B) (hj : L[j]? = some d) : d B := by
  obtain ⟨G, h⟩ := h
  exact d.mono (B := ⟨B.W, fun k => B.keep k ∧ G k = j⟩) (fun k hk _ => ⟨hk.1, rfl⟩) (h j d hj)
theorem starL.pull (h : starL L B) (hj : L[j]? = some d) : ((starL (L.set j emp)).star d) B := by
  obtain ⟨G, h⟩ := h
  refine ⟨fun k => G k ≠ j, ⟨G, fun i e hi => ?_⟩, ?_⟩
  · by_cases c : j = i
    · subst c
      have hl : j < L.length := (List.getElem?_eq_some_iff.1 hj).1
      rw [List.getElem?_set_self hl] at hi
      cases hi
      trivial
    · rw [List.getElem?_set_ne c] at hi
      exact e.mono (B := ⟨B.W, fun k => B.keep k ∧ G k = i⟩) (fun k hk _ => ⟨⟨⟨hk.1, fun hh => c (hh.symm.trans hk.2)⟩, hk.2⟩, rfl⟩) (h i e hi)
  · exact d.mono (B := ⟨B.W, fun k => B.keep k ∧ G k = j⟩) (fun k hk _ => ⟨⟨hk.1, fun hh => hh hk.2⟩, rfl⟩) (h j d hj)
open Classical in
theorem starL.give (h : ((starL L).star d) B) (hj : j < L.length) : starL (L.set j d) B := by
  obtain ⟨H, ⟨G, h1⟩, h2⟩ := h
  refine ⟨fun k => if H k then (if G k = j then L.length else G k) else j, fun i e hi => ?_⟩
  by_cases c : j = i
  · subst c
    rw [List.getElem?_set_self hj] at hi
    cases hi
    refine d.mono (B := ⟨B.W, fun k => B.keep k ∧ ¬ H k⟩) (fun k hk _ => ⟨⟨hk.1, ?_⟩, rfl⟩) h2
    show (if H k then _ else _) = _
    rw [if_neg hk.2]
  · rw [List.getElem?_set_ne c] at hi
    refine e.mono (B := ⟨B.W, fun k => (B.keep k ∧ H k) ∧ G k = i⟩) (fun k hk _ => ⟨⟨hk.1.1, ?_⟩, rfl⟩) (h1 i e hi)
    have h3 : G k = i := hk.2
    show (if H k then _ else _) = _
    rw [if_pos hk.1.2, if_neg (fun hh => c (hh.symm.trans h3))]
    exact h3
open Classical in
theorem starL.push (h : ((starL L).star d) B) : starL (L ++ [d]) B := by
  obtain ⟨H, ⟨G, h1⟩, h2⟩ := h
  refine ⟨fun k => if H k then G k else L.length, fun i e hi => ?_⟩
  rcases Nat.lt_trichotomy i L.length with c | c | c
  · rw [List.getElem?_append_left c] at hi
    refine e.mono (B := ⟨B.W, fun k => (B.keep k ∧ H k) ∧ G k = i⟩) (fun k hk _ => ⟨⟨hk.1.1, ?_⟩, rfl⟩) (h1 i e hi)
    show (if H k then _ else _) = _
    rw [if_pos hk.1.2]
    exact hk.2
  · subst c
    rw [List.getElem?_append_right (Nat.le_refl _)] at hi
    simp at hi
    subst hi
    refine d.mono (B := ⟨B.W, fun k => B.keep k ∧ ¬ H k⟩) (fun k hk _ => ⟨⟨hk.1, ?_⟩, rfl⟩) h2
    show (if H k then _ else _) = _
    rw [if_neg hk.2]
  · rw [List.getElem?_eq_none (by simp; omega)] at hi; cases hi
theorem starL.nil : starL [] B := ⟨fun _ => 0, fun j d hj => by simp at hj⟩
theorem Rel.openL (h : Rel B w (starL L :: τ)) : Rel B w (L ++ τ) := by
  obtain ⟨c, h⟩ := h
  obtain ⟨G, hG⟩ := h.own 0 _ rfl
  refine ⟨fun k => if c k = 0 then 0 else if c k = 1 then (if G k < L.length then G k + 1 else 0) else c k - 1 + L.length, h.os, h.tape, h.output, h.size, fun k hk hs => ?_, h.same, fun j d hj => ?_⟩
  · have := h.keepc k hk hs
    simp only [this]
    rfl
  · by_cases hl : j < L.length
    · rw [List.getElem?_append_left hl] at hj
      refine d.wide (fun k hk hs => ?_) (hG j d hj)
      obtain ⟨h1, h2⟩ := hk
      have h1 : c k = 1 := h1
      have h2 : G k = j := h2
      show (if c k = 0 then 0 else if c k = 1 then (if G k < L.length then G k + 1 else 0) else _) = j + 1
      rw [if_neg (by omega), if_pos h1, if_pos (by omega), h2]
    · rw [List.getElem?_append_right (by omega)] at hj
      refine d.wide (fun k hk hs => ?_) (h.own (j - L.length + 1) d (by rw [List.getElem?_cons_succ]; exact hj))
      have hk : c k = j - L.length + 1 + 1 := hk
      show (if c k = 0 then 0 else if c k = 1 then _ else c k - 1 + L.length) = j + 1
      rw [if_neg (by omega), if_neg (by omega)]
      omega
theorem Rel.closeL (h : Rel B w (L ++ τ)) : Rel B w (starL L :: τ) := by
  obtain ⟨c, h⟩ := h
  refine ⟨fun k => if c k = 0 then 0 else if c k ≤ L.length then 1 else c k - L.length + 1, h.os, h.tape, h.output, h.size, fun k hk hs => ?_, h.same, fun j d hj => ?_⟩
  · have := h.keepc k hk hs
    simp only [this]
    rfl
  · cases j with
    | zero =>
      simp at hj
      subst hj
      refine ⟨fun k => c k - 1, fun i e hi => ?_⟩
      have hl : i < L.length := (List.getElem?_eq_some_iff.1 hi).1
      refine e.wide (fun k hk hs => ?_) (h.own i e (by rw [List.getElem?_append_left hl]; exact hi))
      have hk : c k = i + 1 := hk
      refine ⟨?_, ?_⟩
      · show (if c k = 0 then 0 else if c k ≤ L.length then 1 else _) = 0 + 1
        rw [if_neg (by omega), if_pos (by omega)]
      · show c k - 1 = i
        omega
    | succ j =>
      rw [List.getElem?_cons_succ] at hj
      refine d.wide (fun k hk hs => ?_) (h.own (L.length + j) d (by rw [List.getElem?_append_right (by omega), Nat.add_sub_cancel_left]; exact hj))
      have hk : c k = L.length + j + 1 := hk
      show (if c k = 0 then 0 else if c k ≤ L.length then 1 else c k - L.length + 1) = j + 1 + 1
      rw [if_neg (by omega), if_neg (by omega)]
      omega
end

/-! ### Slices of maps -/
structure MP where
  p : Option Nat
instance : Enc MP where
  sz := 1
  cells x := [.map x.p]
  val x := .map x.p
  pos := by omega
  len _ := rfl
  one x v hv := by
    simp only [List.mem_cons, List.not_mem_nil, or_false] at hv
    subst hv
    rfl
  cells_val _ := rfl
abbrev AggD := D_api_Agg
abbrev Bag := List EntV × Nat
def bagD : MP → Option Bag → Dat
  | ⟨some m⟩, some b => mapE m b.1 b.2
  | ⟨none⟩, none => emp
  | _, _ => Dat.pure False

/-! ### Accumulators -/
structure ACC where
  aggs : List AggD
  count : Int
  sums : List Int
  bags : List (Option Bag)
abbrev W64 (n : Int) : Int := IntKind.wrap .i64 n
def ordB (g : AggD) : Bool := decide (g.kind = 2) || decide (g.kind = 3)
structure Raw where
  av : SV
  sv : SV
  bv : SV
  ms : List MP
def bagsD (ms : List MP) (bs : List (Option Bag)) : Dat := starL (List.zipWith bagD ms bs)
def accL (p : Nat) (r : Raw) (x : ACC) : List Dat := [cellD p T_aggregate_Acc #[r.av.1, .int .i64 x.count, r.sv.1, r.bv.1], rowD T_api_Agg r.av.1 x.aggs, rowD T_int r.sv.1 x.sums, rowD T_map_api_Value_int r.bv.1 r.ms, bagsD r.ms x.bags]
/-- An accumulator at p. -/
def accD (p : Nat) (x : ACC) : Dat := Dat.ex fun r : Raw => Dat.and (Dat.pure (r.ms.length = x.bags.length)) (starL (accL p r x))
/-- What is right of it: n entries of a bag at most. -/
structure GoodA (n : Nat) (x : ACC) : Prop where
  few : x.aggs.length ≤ 1000
  sums : x.sums.length = x.aggs.length
  bags : x.bags.length = x.aggs.length
  ord : ∀ (i : Nat) (g : AggD) (b : Option Bag), x.aggs[i]? = some g → x.bags[i]? = some b → b.isSome = ordB g
  wf : ∀ (i : Nat) (b : Bag), x.bags[i]? = some (some b) → WfE b.1 b.2 ∧ b.1.length ≤ n

def atS (row : List ValD) (col : Int) : ValD := if col < 0 then vZero else (row[col.toNat]?).getD vZero
def putS (b : Bag) (v : ValD) (n : Int) : Bag :=
  let q := W64 ((getE v b.1).getD 0 + n)
  let b' := setE v q b.1 b.2
  if q = 0 then (delE v b'.1, b'.2) else b'
def addAt (row : List ValD) (n : Int) (x : ACC) (i : Nat) : ACC :=
  match x.aggs[i]? with
  | none => x
  | some g =>
    if g.kind = 1 then { x with sums := x.sums.modify i fun s => W64 (s + W64 (n * (atS row g.col).n)) }
    else if ordB g then { x with bags := x.bags.modify i (Option.map fun b => putS b (atS row g.col) n) }
    else x
def addK (row : List ValD) (n : Int) (x : ACC) (k : Nat) : ACC := (List.range k).foldl (addAt row n) { x with count := W64 (x.count + n) }
def addS (x : ACC) (row : List ValD) (n : Int) : ACC := addK row n x x.aggs.length

theorem addK_zero (row : List ValD) (n : Int) (x : ACC) : addK row n x 0 = { x with count := W64 (x.count + n) } := rfl
theorem addK_succ (row : List ValD) (n : Int) (x : ACC) (k : Nat) : addK row n x (k + 1) = addAt row n (addK row n x k) k := by
  unfold addK
  rw [List.range_succ, List.foldl_append]
  rfl
theorem addAt_aggs (row : List ValD) (n : Int) (x : ACC) (i : Nat) : (addAt row n x i).aggs = x.aggs ∧ (addAt row n x i).count = x.count := by
  unfold addAt
  split
  · exact ⟨rfl, rfl⟩
  · split
    · exact ⟨rfl, rfl⟩
    · split <;> exact ⟨rfl, rfl⟩
theorem addK_aggs (row : List ValD) (n : Int) (x : ACC) (k : Nat) : (addK row n x k).aggs = x.aggs ∧ (addK row n x k).count = W64 (x.count + n) := by
  induction k with
  | zero => exact ⟨rfl, rfl⟩
  | succ k ih => rw [addK_succ, (addAt_aggs row n _ k).1, (addAt_aggs row n _ k).2]; exact ih
/-- What adding does to the sums, one by one. -/
def sumAt (row : List ValD) (n : Int) (g : AggD) (s : Int) : Int := if g.kind = 1 then W64 (s + W64 (n * (atS row g.col).n)) else s
def bagAt (row : List ValD) (n : Int) (g : AggD) (b : Option Bag) : Option Bag := if g.kind = 1 then b else if ordB g then b.map fun b => putS b (atS row g.col) n else b
theorem addAt_get (row : List ValD) (n : Int) (x : ACC) (i j : Nat) :
    (addAt row n x i).sums[j]? = (if i = j then (x.sums[j]?).map fun s => match x.aggs[i]? with | some g => sumAt row n g s | none => s else x.sums[j]?) ∧
    (addAt row n x i).bags[j]? = (if i = j then (x.bags[j]?).map fun b => match x.aggs[i]? with | some g => bagAt row n g b | none => b else x.bags[j]?) := by
  unfold addAt sumAt bagAt
  cases hg : x.aggs[i]? with
  | none => by_cases c : i = j <;> simp [c]
  | some g =>
    by_cases h1 : g.kind = 1
    · by_cases c : i = j <;> simp [h1, c, List.getElem?_modify]
    · by_cases h2 : ordB g = true
      · by_cases c : i = j <;> simp [h1, h2, c, List.getElem?_modify]
      · have h2 : ordB g = false := by simpa using h2
        by_cases c : i = j <;> simp [h1, h2, c]
theorem addK_get (row : List ValD) (n : Int) (x : ACC) (k j : Nat) :
    (addK row n x k).sums[j]? = (if j < k then (x.sums[j]?).map fun s => match x.aggs[j]? with | some g => sumAt row n g s | none => s else x.sums[j]?) ∧
    (addK row n x k).bags[j]? = (if j < k then (x.bags[j]?).map fun b => match x.aggs[j]? with | some g => bagAt row n g b | none => b else x.bags[j]?) := by
  induction k with
  | zero => exact ⟨rfl, rfl⟩
  | succ k ih =>
    rw [addK_succ, (addAt_get row n _ k j).1, (addAt_get row n _ k j).2, (addK_aggs row n x k).1, ih.1, ih.2]
    by_cases c : k = j
    · subst c
      rw [if_pos rfl, if_pos rfl, if_neg (Nat.lt_irrefl k), if_neg (Nat.lt_irrefl k), if_pos (Nat.lt_succ_self k), if_pos (Nat.lt_succ_self k)]
      exact ⟨rfl, rfl⟩
    · rw [if_neg c, if_neg c]
      by_cases c2 : j < k
      · rw [if_pos c2, if_pos c2, if_pos (by omega), if_pos (by omega)]; exact ⟨rfl, rfl⟩
      · rw [if_neg c2, if_neg c2, if_neg (by omega), if_neg (by omega)]; exact ⟨rfl, rfl⟩
theorem addAt_len (row : List ValD) (n : Int) (x : ACC) (i : Nat) : (addAt row n x i).sums.length = x.sums.length ∧ (addAt row n x i).bags.length = x.bags.length := by
  unfold addAt
  split
  · exact ⟨rfl, rfl⟩
  · split
    · exact ⟨by simp, rfl⟩
    · split
      · exact ⟨rfl, by simp⟩
      · exact ⟨rfl, rfl⟩
theorem addK_len (row : List ValD) (n : Int) (x : ACC) (k : Nat) : (addK row n x k).sums.length = x.sums.length ∧ (addK row n x k).bags.length = x.bags.length := by
  induction k with
  | zero => exact ⟨rfl, rfl⟩
  | succ k ih => rw [addK_succ, (addAt_len row n _ k).1, (addAt_len row n _ k).2]; exact ih
theorem putS_wf {b : Bag} {v : ValD} {n : Int} {m : Nat} (h : WfE b.1 b.2) (hl : b.1.length ≤ m) : WfE (putS b v n).1 (putS b v n).2 ∧ (putS b v n).1.length ≤ m + 1 := by
  have hs := h.set v (W64 ((getE v b.1).getD 0 + n))
  have hle : (setE v (W64 ((getE v b.1).getD 0 + n)) b.1 b.2).1.length ≤ m + 1 := by
    unfold setE
    split
    · simp; omega
    · simp; omega
  unfold putS
  simp only
  split
  · have hd := delE_eq (x := v) hs.keys
    refine ⟨?_, ?_⟩
    · show WfE (delE v _) _
      rw [hd]
      exact hs.filter _
    · show (delE v _).length ≤ _
      rw [hd]
      exact Nat.le_trans (List.length_filter_le _ _) hle
  · exact ⟨hs, hle⟩
theorem GoodA.mono {n m : Nat} {x : ACC} (h : GoodA n x) (hm : n ≤ m) : GoodA m x := ⟨h.few, h.sums, h.bags, h.ord, fun i b hb => ⟨(h.wf i b hb).1, Nat.le_trans (h.wf i b hb).2 hm⟩⟩
theorem GoodA.addK {m : Nat} {x : ACC} (h : GoodA m x) (row : List ValD) (n : Int) (k : Nat) : GoodA (m + 1) (addK row n x k) := by
  have ha := (addK_aggs row n x k).1
  have hl := addK_len row n x k
  refine ⟨by rw [ha]; exact h.few, by rw [hl.1, ha]; exact h.sums, by rw [hl.2, ha]; exact h.bags, fun i g b hg hb => ?_, fun i b hb => ?_⟩
  · rw [ha] at hg
    rw [(addK_get row n x k i).2] at hb
    split at hb
    · rw [hg] at hb
      cases hx : x.bags[i]? with
      | none => rw [hx] at hb; cases hb
      | some b0 =>
        rw [hx] at hb
        have hb : bagAt row n g b0 = b := by simpa using hb
        have := h.ord i g b0 hg hx
        rw [← hb, ← this]
        unfold bagAt
        split
        · rfl
        · split
          · simp
          · rfl
    · exact h.ord i g b hg hb
  · rw [(addK_get row n x k i).2] at hb
    split at hb
    · cases hx : x.bags[i]? with
      | none => rw [hx] at hb; cases hb
      | some b0 =>
        rw [hx] at hb
        have up : ∀ b1 : Bag, x.bags[i]? = some (some b1) → WfE b1.1 b1.2 ∧ b1.1.length ≤ m + 1 := fun b1 h1 => ⟨(h.wf i b1 h1).1, Nat.le_succ_of_le (h.wf i b1 h1).2⟩
        cases hg : x.aggs[i]? with
        | none =>
          rw [hg] at hb
          have hb : b0 = some b := by simpa using hb
          subst hb
          exact up b hx
        | some g =>
          rw [hg] at hb
          have hb : bagAt row n g b0 = some b := by simpa using hb
          unfold bagAt at hb
          split at hb
          · subst hb; exact up b hx
          · split at hb
            · cases b0 with
              | none => cases hb
              | some b1 =>
                have hb : putS b1 (atS row g.col) n = b := by simpa using hb
                subst hb
                exact putS_wf (h.wf i b1 hx).1 (h.wf i b1 hx).2
            · subst hb; exact up b hx
    · exact ⟨(h.wf i b hb).1, Nat.le_succ_of_le (h.wf i b hb).2⟩
end Go.Proofs.YtoebncgnjbblgaaDoor
