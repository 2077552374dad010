/-
  Accumulators: what they are made of; what adding does to them. No condition.
-/
import Derived.Test.YtoebncgnjbblgaaGreatDoorSortV
namespace Go.Proofs.YtoebncgnjbblgaaGreatDoor
open Go.RowKit
set_option maxRecDepth 100000

/-! ### A list of things as one thing -/
def starL (L : List Dat) : Dat := ⟨fun B => ∃ G : Nat → Nat, ∀ (j : Nat) (d : Dat), L[j]? = some d → d ⟨B.W, fun k => B.keep k ∧ G k = j⟩, fun {B B'} hl ⟨G, h⟩ =>
  ⟨G, fun j d hj => d.mono (B := ⟨B.W, fun k => B.keep k ∧ G k = j⟩) (B' := ⟨B'.W, fun k => B'.keep k ∧ G k = j⟩) (fun k (hk : B.keep k ∧ G k = j) hs => ⟨⟨(hl k hk.1 hs).1, hk.2⟩, (hl k hk.1 hs).2⟩) (h j d hj)⟩⟩
section
variable {L τ : List Dat} {B : Base} {j : Nat} {d : Dat} {w : World}
theorem starL.get (h : starL L B) (hj : L[j]? = some d) : d B := by
  obtain ⟨G, h⟩ := h
  exact d.mono (B := ⟨B.W, fun k => B.keep k ∧ G k = j⟩) (fun k hk _ => ⟨hk.1, rfl⟩) (h j d hj)
theorem starL.pull (h : starL L B) (hj : L[j]? = some d) : ((starL (L.set j emp)).star d) B := by
  obtain ⟨G, h⟩ := h
  refine ⟨fun k => G k ≠ j, ⟨G, fun i e hi => ?_⟩, ?_⟩
  · by_cases c : j = i
    · subst c
      have hl : j < L.length := (List.getElem?_eq_some_iff.1 hj).1
      rw [List.getElem?_set_self hl] at hi
      cases hi
      trivial
    · rw [List.getElem?_set_ne c] at hi
      exact e.mono (B := ⟨B.W, fun k => B.keep k ∧ G k = i⟩) (fun k hk _ => ⟨⟨⟨hk.1, fun hh => c (hh.symm.trans hk.2)⟩, hk.2⟩, rfl⟩) (h i e hi)
  · exact d.mono (B := ⟨B.W, fun k => B.keep k ∧ G k = j⟩) (fun k hk _ => ⟨⟨hk.1, fun hh => hh hk.2⟩, rfl⟩) (h j d hj)
open Classical in
theorem starL.give (h : ((starL L).star d) B) (hj : j < L.length) : starL (L.set j d) B := by
  obtain ⟨H, ⟨G, h1⟩, h2⟩ := h
  refine ⟨fun k => if H k then (if G k = j then L.length else G k) else j, fun i e hi => ?_⟩
  by_cases c : j = i
  · subst c
    rw [List.getElem?_set_self hj] at hi
    cases hi
    refine d.mono (B := ⟨B.W, fun k => B.keep k ∧ ¬ H k⟩) (fun k hk _ => ⟨⟨hk.1, ?_⟩, rfl⟩) h2
    show (if H k then _ else _) = _
    rw [if_neg hk.2]
  · rw [List.getElem?_set_ne c] at hi
    refine e.mono (B := ⟨B.W, fun k => (B.keep k ∧ H k) ∧ G k = i⟩) (fun k hk _ => ⟨⟨hk.1.1, ?_⟩, rfl⟩) (h1 i e hi)
    have h3 : G k = i := hk.2
    show (if H k then _ else _) = _
    rw [if_pos hk.1.2, if_neg (fun hh => c (hh.symm.trans h3))]
    exact h3
open Classical in
theorem starL.push (h : ((starL L).star d) B) : starL (L ++ [d]) B := by
  obtain ⟨H, ⟨G, h1⟩, h2⟩ := h
  refine ⟨fun k => if H k then G k else L.length, fun i e hi => ?_⟩
  rcases Nat.lt_trichotomy i L.length with c | c | c
  · rw [List.getElem?_append_left c] at hi
    refine e.mono (B := ⟨B.W, fun k => (B.keep k ∧ H k) ∧ G k = i⟩) (fun k hk _ => ⟨⟨hk.1.1, ?_⟩, rfl⟩) (h1 i e hi)
    show (if H k then _ else _) = _
    rw [if_pos hk.1.2]
    exact hk.2
  · subst c
    rw [List.getElem?_append_right (Nat.le_refl _)] at hi
    simp at hi
    subst hi
    refine d.mono (B := ⟨B.W, fun k => B.keep k ∧ ¬ H k⟩) (fun k hk _ => ⟨⟨hk.1, ?_⟩, rfl⟩) h2
    show (if H k then _ else _) = _
    rw [if_neg hk.2]
  · rw [List.getElem?_eq_none (by simp; omega)] at hi; cases hi
theorem starL.nil : starL [] B := ⟨fun _ => 0, fun j d hj => by simp at hj⟩
theorem Rel.openL (h : Rel B w (starL L :: τ)) : Rel B w (L ++ τ) := by
  obtain ⟨c, h⟩ := h
  obtain ⟨G, hG⟩ := h.own 0 _ rfl
  refine ⟨fun k => if c k = 0 then 0 else if c k = 1 then (if G k < L.length then G k + 1 else 0) else c k - 1 + L.length, h.os, h.tape, h.output, h.size, fun k hk hs => ?_, h.same, fun j d hj => ?_⟩
  · have := h.keepc k hk hs
    simp only [this]
    rfl
  · by_cases hl : j < L.length
    · rw [List.getElem?_append_left hl] at hj
      refine d.wide (fun k hk hs => ?_) (hG j d hj)
      obtain ⟨h1, h2⟩ := hk
      have h1 : c k = 1 := h1
      have h2 : G k = j := h2
      show (if c k = 0 then 0 else if c k = 1 then (if G k < L.length then G k + 1 else 0) else _) = j + 1
      rw [if_neg (by omega), if_pos h1, if_pos (by omega), h2]
    · rw [List.getElem?_append_right (by omega)] at hj
      refine d.wide (fun k hk hs => ?_) (h.own (j - L.length + 1) d (by rw [List.getElem?_cons_succ]; exact hj))
      have hk : c k = j - L.length + 1 + 1 := hk
      show (if c k = 0 then 0 else if c k = 1 then _ else c k - 1 + L.length) = j + 1
      rw [if_neg (by omega), if_neg (by omega)]
      omega
theorem Rel.closeL (h : Rel B w (L ++ τ)) : Rel B w (starL L :: τ) := by
  obtain ⟨c, h⟩ := h
  refine ⟨fun k => if c k = 0 then 0 else if c k ≤ L.length then 1 else c k - L.length + 1, h.os, h.tape, h.output, h.size, fun k hk hs => ?_, h.same, fun j d hj => ?_⟩
  · have := h.keepc k hk hs
    simp only [this]
    rfl
  · cases j with
    | zero =>
      simp at hj
      subst hj
      refine ⟨fun k => c k - 1, fun i e hi => ?_⟩
      have hl : i < L.length := (List.getElem?_eq_some_iff.1 hi).1
      refine e.wide (fun k hk hs => ?_) (h.own i e (by rw [List.getElem?_append_left hl]; exact hi))
      have hk : c k = i + 1 := hk
      refine ⟨?_, ?_⟩
      · show (if c k = 0 then 0 else if c k ≤ L.length then 1 else _) = 0 + 1
        rw [if_neg (by omega), if_pos (by omega)]
      · show c k - 1 = i
        omega
    | succ j =>
      rw [List.getElem?_cons_succ] at hj
      refine d.wide (fun k hk hs => ?_) (h.own (L.length + j) d (by rw [List.getElem?_append_right (by omega), Nat.add_sub_cancel_left]; exact hj))
      have hk : c k = L.length + j + 1 := hk
      show (if c k = 0 then 0 else if c k ≤ L.length then 1 else c k - L.length + 1) = j + 1 + 1
      rw [if_neg (by omega), if_neg (by omega)]
      omega
end

/-! ### Slices of maps -/
structure MP where
  p : Option Nat
instance : Enc MP where
  sz := 1
  cells x := [.map x.p]
  val x := .map x.p
  pos := by omega
  len _ := rfl
  one x v hv := by
    simp only [List.mem_cons, List.not_mem_nil, or_false] at hv
    subst hv
    rfl
  cells_val _ := rfl
abbrev AggD := D_api_Agg
abbrev Bag := List EntV × Nat
def bagD : MP → Option Bag → Dat
  | ⟨some m⟩, some b => mapE m b.1 b.2
  | ⟨none⟩, none => emp
  | _, _ => Dat.pure False

/-! ### Accumulators -/
structure ACC where
  aggs : List AggD
  count : Int
  sums : List Int
  bags : List (Option Bag)
abbrev W64 (n : Int) : Int := IntKind.wrap .i64 n
def ordB (g : AggD) : Bool := decide (g.kind = 2) || decide (g.kind = 3)
structure Raw where
  av : SV
  sv : SV
  bv : SV
  ms : List MP
def bagsD (ms : List MP) (bs : List (Option Bag)) : Dat := starL (List.zipWith bagD ms bs)
def accL (p : Nat) (r : Raw) (x : ACC) : List Dat := [cellD p T_aggregate_Acc #[r.av.1, .int .i64 x.count, r.sv.1, r.bv.1], rowD T_api_Agg r.av.1 x.aggs, rowD T_int r.sv.1 x.sums, rowD T_map_api_Value_int r.bv.1 r.ms, bagsD r.ms x.bags]
/-- An accumulator at p. -/
def accD (p : Nat) (x : ACC) : Dat := Dat.ex fun r : Raw => Dat.and (Dat.pure (r.ms.length = x.bags.length)) (starL (accL p r x))
/-- What is right of it: n entries of a bag at most. -/
structure GoodA (n : Nat) (x : ACC) : Prop where
  few : x.aggs.length ≤ 1000
  sums : x.sums.length = x.aggs.length
  bags : x.bags.length = x.aggs.length
  ord : ∀ (i : Nat) (g : AggD) (b : Option Bag), x.aggs[i]? = some g → x.bags[i]? = some b → b.isSome = ordB g
  wf : ∀ (i : Nat) (b : Bag), x.bags[i]? = some (some b) → WfE b.1 b.2 ∧ b.1.length ≤ n

def atS (row : List ValD) (col : Int) : ValD := if col < 0 then vZero else (row[col.toNat]?).getD vZero
def putS (b : Bag) (v : ValD) (n : Int) : Bag :=
  let q := W64 ((getE v b.1).getD 0 + n)
  let b' := setE v q b.1 b.2
  if q = 0 then (delE v b'.1, b'.2) else b'
def addAt (row : List ValD) (n : Int) (x : ACC) (i : Nat) : ACC :=
  match x.aggs[i]? with
  | none => x
  | some g =>
    if g.kind = 1 then { x with sums := x.sums.modify i fun s => W64 (s + W64 (n * (atS row g.col).n)) }
    else if ordB g then { x with bags := x.bags.modify i (Option.map fun b => putS b (atS row g.col) n) }
    else x
def addK (row : List ValD) (n : Int) (x : ACC) (k : Nat) : ACC := (List.range k).foldl (addAt row n) { x with count := W64 (x.count + n) }
def addS (x : ACC) (row : List ValD) (n : Int) : ACC := addK row n x x.aggs.length

theorem addK_zero (row : List ValD) (n : Int) (x : ACC) : addK row n x 0 = { x with count := W64 (x.count + n) } := rfl
theorem addK_succ (row : List ValD) (n : Int) (x : ACC) (k : Nat) : addK row n x (k + 1) = addAt row n (addK row n x k) k := by
  unfold addK
  rw [List.range_succ, List.foldl_append]
  rfl
theorem addAt_aggs (row : List ValD) (n : Int) (x : ACC) (i : Nat) : (addAt row n x i).aggs = x.aggs ∧ (addAt row n x i).count = x.count := by
  unfold addAt
  split
  · exact ⟨rfl, rfl⟩
  · split
    · exact ⟨rfl, rfl⟩
    · split <;> exact ⟨rfl, rfl⟩
theorem addK_aggs (row : List ValD) (n : Int) (x : ACC) (k : Nat) : (addK row n x k).aggs = x.aggs ∧ (addK row n x k).count = W64 (x.count + n) := by
  induction k with
  | zero => exact ⟨rfl, rfl⟩
  | succ k ih => rw [addK_succ, (addAt_aggs row n _ k).1, (addAt_aggs row n _ k).2]; exact ih
/-- What adding does to the sums, one by one. -/
def sumAt (row : List ValD) (n : Int) (g : AggD) (s : Int) : Int := if g.kind = 1 then W64 (s + W64 (n * (atS row g.col).n)) else s
def bagAt (row : List ValD) (n : Int) (g : AggD) (b : Option Bag) : Option Bag := if g.kind = 1 then b else if ordB g then b.map fun b => putS b (atS row g.col) n else b
theorem addAt_get (row : List ValD) (n : Int) (x : ACC) (i j : Nat) :
    (addAt row n x i).sums[j]? = (if i = j then (x.sums[j]?).map fun s => match x.aggs[i]? with | some g => sumAt row n g s | none => s else x.sums[j]?) ∧
    (addAt row n x i).bags[j]? = (if i = j then (x.bags[j]?).map fun b => match x.aggs[i]? with | some g => bagAt row n g b | none => b else x.bags[j]?) := by
  unfold addAt sumAt bagAt
  cases hg : x.aggs[i]? with
  | none => by_cases c : i = j <;> simp [c]
  | some g =>
    by_cases h1 : g.kind = 1
    · by_cases c : i = j <;> simp [h1, c, List.getElem?_modify]
    · by_cases h2 : ordB g = true
      · by_cases c : i = j <;> simp [h1, h2, c, List.getElem?_modify]
      · have h2 : ordB g = false := by simpa using h2
        by_cases c : i = j <;> simp [h1, h2, c]
theorem addK_get (row : List ValD) (n : Int) (x : ACC) (k j : Nat) :
    (addK row n x k).sums[j]? = (if j < k then (x.sums[j]?).map fun s => match x.aggs[j]? with | some g => sumAt row n g s | none => s else x.sums[j]?) ∧
    (addK row n x k).bags[j]? = (if j < k then (x.bags[j]?).map fun b => match x.aggs[j]? with | some g => bagAt row n g b | none => b else x.bags[j]?) := by
  induction k with
  | zero => exact ⟨rfl, rfl⟩
  | succ k ih =>
    rw [addK_succ, (addAt_get row n _ k j).1, (addAt_get row n _ k j).2, (addK_aggs row n x k).1, ih.1, ih.2]
    by_cases c : k = j
    · subst c
      rw [if_pos rfl, if_pos rfl, if_neg (Nat.lt_irrefl k), if_neg (Nat.lt_irrefl k), if_pos (Nat.lt_succ_self k), if_pos (Nat.lt_succ_self k)]
      exact ⟨rfl, rfl⟩
    · rw [if_neg c, if_neg c]
      by_cases c2 : j < k
      · rw [if_pos c2, if_pos c2, if_pos (by omega), if_pos (by omega)]; exact ⟨rfl, rfl⟩
      · rw [if_neg c2, if_neg c2, if_neg (by omega), if_neg (by omega)]; exact ⟨rfl, rfl⟩
theorem addAt_len (row : List ValD) (n : Int) (x : ACC) (i : Nat) : (addAt row n x i).sums.length = x.sums.length ∧ (addAt row n x i).bags.length = x.bags.length := by
  unfold addAt
  split
  · exact ⟨rfl, rfl⟩
  · split
    · exact ⟨by simp, rfl⟩
    · split
      · exact ⟨rfl, by simp⟩
      · exact ⟨rfl, rfl⟩
theorem addK_len (row : List ValD) (n : Int) (x : ACC) (k : Nat) : (addK row n x k).sums.length = x.sums.length ∧ (addK row n x k).bags.length = x.bags.length := by
  induction k with
  | zero => exact ⟨rfl, rfl⟩
  | succ k ih => rw [addK_succ, (addAt_len row n _ k).1, (addAt_len row n _ k).2]; exact ih
theorem putS_wf {b : Bag} {v : ValD} {n : Int} {m : Nat} (h : WfE b.1 b.2) (hl : b.1.length ≤ m) : WfE (putS b v n).1 (putS b v n).2 ∧ (putS b v n).1.length ≤ m + 1 := by
  have hs := h.set v (W64 ((getE v b.1).getD 0 + n))
  have hle : (setE v (W64 ((getE v b.1).getD 0 + n)) b.1 b.2).1.length ≤ m + 1 := by
    unfold setE
    split
    · simp; omega
    · simp; omega
  unfold putS
  simp only
  split
  · have hd := delE_eq (x := v) hs.keys
    refine ⟨?_, ?_⟩
    · show WfE (delE v _) _
      rw [hd]
      exact hs.filter _
    · show (delE v _).length ≤ _
      rw [hd]
      exact Nat.le_trans (List.length_filter_le _ _) hle
  · exact ⟨hs, hle⟩
theorem GoodA.mono {n m : Nat} {x : ACC} (h : GoodA n x) (hm : n ≤ m) : GoodA m x := ⟨h.few, h.sums, h.bags, h.ord, fun i b hb => ⟨(h.wf i b hb).1, Nat.le_trans (h.wf i b hb).2 hm⟩⟩
theorem GoodA.addK {m : Nat} {x : ACC} (h : GoodA m x) (row : List ValD) (n : Int) (k : Nat) : GoodA (m + 1) (addK row n x k) := by
  have ha := (addK_aggs row n x k).1
  have hl := addK_len row n x k
  refine ⟨by rw [ha]; exact h.few, by rw [hl.1, ha]; exact h.sums, by rw [hl.2, ha]; exact h.bags, fun i g b hg hb => ?_, fun i b hb => ?_⟩
  · rw [ha] at hg
    rw [(addK_get row n x k i).2] at hb
    split at hb
    · rw [hg] at hb
      cases hx : x.bags[i]? with
      | none => rw [hx] at hb; cases hb
      | some b0 =>
        rw [hx] at hb
        have hb : bagAt row n g b0 = b := by simpa using hb
        have := h.ord i g b0 hg hx
        rw [← hb, ← this]
        unfold bagAt
        split
        · rfl
        · split
          · simp
          · rfl
    · exact h.ord i g b hg hb
  · rw [(addK_get row n x k i).2] at hb
    split at hb
    · cases hx : x.bags[i]? with
      | none => rw [hx] at hb; cases hb
      | some b0 =>
        rw [hx] at hb
        have up : ∀ b1 : Bag, x.bags[i]? = some (some b1) → WfE b1.1 b1.2 ∧ b1.1.length ≤ m + 1 := fun b1 h1 => ⟨(h.wf i b1 h1).1, Nat.le_succ_of_le (h.wf i b1 h1).2⟩
        cases hg : x.aggs[i]? with
        | none =>
          rw [hg] at hb
          have hb : b0 = some b := by simpa using hb
          subst hb
          exact up b hx
        | some g =>
          rw [hg] at hb
          have hb : bagAt row n g b0 = some b := by simpa using hb
          unfold bagAt at hb
          split at hb
          · subst hb; exact up b hx
          · split at hb
            · cases b0 with
              | none => cases hb
              | some b1 =>
                have hb : putS b1 (atS row g.col) n = b := by simpa using hb
                subst hb
                exact putS_wf (h.wf i b1 hx).1 (h.wf i b1 hx).2
            · subst hb; exact up b hx
    · exact ⟨(h.wf i b hb).1, Nat.le_succ_of_le (h.wf i b hb).2⟩
end Go.Proofs.YtoebncgnjbblgaaGreatDoor
/-
  Accumulators: a value of a row, put, Add. No condition.
-/
--@auto
namespace Go.Proofs.YtoebncgnjbblgaaGreatDoor
open Go.RowKit
set_option maxRecDepth 100000

theorem sameBits_V (n : Nat) (a b : Int) (s : ByteArray) : Instr.sameBits (n + 1) (.agg #[.int .i64 a, .int .i64 b, .string s]) (.agg #[.int .i64 a, .int .i64 b, .string s]) = true := by
  simp [Instr.sameBits]
  obtain ⟨d⟩ := s
  show (d == d) = true
  exact beq_self_eq_true d
theorem kV : KeyTy Tryz.prog T_api_Value ValD := KeyTy.agg (fs := Tryz.prog.fieldsOf T_api_Value) (by kernel_rfl) (fun _ => rfl) (by kernel_rfl) (fun x y w => run_eq_api_Value x y w) (fun x => sameBits_V 9999 x.kind x.n x.s)
theorem entry_thereV {x : ValD} {z : Int} {l : List EntV} {c : Nat} : ∃ e ∈ (entryE x z l c).1, e.2.2 = (entryE x z l c).2.2.1 := by
  unfold entryE
  cases hf : findE x l 0 with
  | none => exact ⟨(x, z, c), List.mem_append_right _ (by simp), rfl⟩
  | some q =>
    obtain ⟨h1, _, _⟩ := findE_some (i := q.1) (v := q.2) hf
    refine ⟨l[q.1], List.getElem_mem h1, ?_⟩
    show _ = ((l[q.1]?).map (·.2.2)).getD 0
    rw [List.getElem?_eq_getElem h1]
    rfl
theorem getE_entry {x y : ValD} {l : List EntV} {c : Nat} : (getE x (entryE x 0 l c).1).getD 0 = (getE x l).getD 0 := by
  unfold entryE getE
  cases hf : findE x l 0 with
  | none =>
    have : getE x (l ++ [(x, 0, c)]) = some 0 := by
      rw [getE_append, if_pos rfl]
      unfold getE
      rw [hf]
      rfl
    unfold getE at this
    simp only [this]
    rfl
  | some q => simp [hf]
section
variable {B : Base} {w : World} {σ : List Dat}
theorem at_g {v : Value} {l : List ValD} (r : rowR v l B) (col : Int) : Gives Tryz.prog B (sCall F_aggregate_at #[v, .int .i64 col]) (atS l col).v := by
  refine Gives.intro fun B' w K base h k => ?_
  replace r := base r
  refine aggregate_at.up (aggregate_at.call ?_)
  unfold aggregate_at.pt
  unfold atS at k
  refine h.alloc z_api_Value fun o w1 h => ?_
  rw [bin_lss, ifB_dec]
  refine ⟨fun c => ?_, fun c => ?_⟩
  · rw [if_pos c] at k
    rw [bd_api_Value_]
    refine h.stAll 0 (ds := vZero.cs.toArray) rfl ag_api_Value rfl rfl (fun v hv => Enc.one vZero v hv) fun w2 h => ?_
    rw [rv_ag h 0 rfl ag_api_Value rfl]
    exact k _ _ h
  rw [if_neg c] at k
  simp -zeta only [rowR.len r sl_s_api_Value]
  rw [bin_geq, ifB_dec]
  refine ⟨fun c2 => ?_, fun c2 => ?_⟩
  · rw [List.getElem?_eq_none (by omega)] at k
    rw [bd_api_Value_]
    refine h.stAll 0 (ds := vZero.cs.toArray) rfl ag_api_Value rfl rfl (fun v hv => Enc.one vZero v hv) fun w2 h => ?_
    rw [rv_ag h 0 rfl ag_api_Value rfl]
    exact k _ _ h
  · obtain ⟨i, rfl⟩ : ∃ i : Nat, col = i := ⟨col.toNat, by omega⟩
    have hi : i < l.length := by omega
    rw [Int.toNat_natCast, List.getElem?_eq_getElem hi] at k
    obtain ⟨g, o2, hx, hc⟩ := rowR.idx r sl_s_api_Value (P := Tryz.prog) hi
    have hc : cellsR g o2 l[i].cs B' := hc
    rw [hx, cellsR.ldAg (h.hereB hc) ag_api_Value rfl]
    refine h.stAll 0 (ds := l[i].cs.toArray) rfl ag_api_Value rfl rfl (fun v hv => Enc.one l[i] v hv) fun w2 h => ?_
    rw [rv_ag h 0 rfl ag_api_Value rfl]
    exact k _ _ h
theorem ordered_g (g : AggD) : Gives Tryz.prog B (sCall F_aggregate_ordered #[g.v]) (.bool (ordB g)) := by
  refine Gives.intro fun B' w K base h k => ?_
  refine aggregate_ordered.up (aggregate_ordered.call ?_)
  unfold aggregate_ordered.pt
  refine h.box fun o w1 h => ?_
  have h : Rel B' w1 [cellD o T_api_Agg g.cs.toArray] := h
  unfold ordB at k
  simp -zeta only [field_addr f_api_Agg_0, Nat.zero_add, h.ld 0 rfl sc_int (o := 0) rfl, bin_eql, ifB_dec]
  refine ⟨fun c => ?_, fun c => ?_⟩
  · rw [decide_eq_true c, Bool.true_or] at k; exact k _ _ h
  · rw [decide_eq_false c, Bool.false_or] at k; exact k _ _ h
theorem put_d {m c : Nat} {l : List EntV} (hw : WfE l c) (v : ValD) (n : Int) : Does Tryz.prog B (mapE m l c) (sCall F_aggregate_put #[mapV m, v.v, .int .i64 n]) fun u e' τ => u = .tuple #[] ∧ e' = mapE m (putS (l, c) v n).1 (putS (l, c) v n).2 ∧ τ = [] := by
  refine Does.intro fun B' w K base h k => ?_
  refine aggregate_put.up (aggregate_put.call ?_)
  unfold aggregate_put.pt
  refine h.box fun o w1 h => ?_
  have h : Rel B' (tick w1) [mapE m l c, cellD o T_api_Value v.cs.toArray] := h.tick
  generalize tick w1 = w1 at *
  rw [h.ldAg 1 rfl ag_api_Value rfl]
  rw [h.lookup 0 rfl U_map_api_Value_int kV 0 z_int v]
  rw [show (Enc.val ((getE v l).getD 0) : Value) = .int .i64 ((getE v l).getD 0) from rfl, bin_add]
  refine h.mapEntry 0 rfl U_map_api_Value_int kV 0 z_int v fun w2 h => ?_
  have h : Rel B' w2 [mapE m (entryE v 0 l c).1 (entryE v 0 l c).2.1, cellD o T_api_Value v.cs.toArray] := h
  refine ⟨?_, ?_⟩
  · have := h.lookup (P := Tryz.prog) (T := T_map_api_Value_int) (Kp := fun x => x = .int .i64 ((getE v l).getD 0)) 0 rfl U_map_api_Value_int kV 0 z_int v
    rw [getE_entry (y := v)] at this
    obtain ⟨x, h1, rfl⟩ := this.mpr rfl
    exact h1
  rw [ext_2_1]
  refine h.entryStore 0 rfl entry_thereV (W64 ((getE v l).getD 0 + n)) fun w3 h => ?_
  obtain ⟨es1, es2⟩ := entry_store (x := v) (y := W64 ((getE v l).getD 0 + n)) (z := (0 : Int)) hw
  have h : Rel B' w3 [mapE m (storeE (entryE v 0 l c).2.2.1 (W64 ((getE v l).getD 0 + n)) (entryE v 0 l c).1) (entryE v 0 l c).2.1, cellD o T_api_Value v.cs.toArray] := h
  rw [es1, es2] at h
  rw [h.ldAg 1 rfl ag_api_Value rfl]
  rw [h.lookup 0 rfl U_map_api_Value_int kV 0 z_int v]
  have hg : (getE v (setE v (W64 ((getE v l).getD 0 + n)) l c).1).getD 0 = W64 ((getE v l).getD 0 + n) := by
    rw [setE_get hw.keys, if_pos rfl]
    rfl
  rw [hg, show (Enc.val (W64 ((getE v l).getD 0 + n)) : Value) = .int .i64 (W64 ((getE v l).getD 0 + n)) from rfl, bin_eql, ifB_dec]
  unfold putS at k
  simp only at k
  refine ⟨fun c0 => ?_, fun c0 => ?_⟩
  · rw [if_pos c0] at k
    rw [h.ldAg 1 rfl ag_api_Value rfl]
    refine h.delete 0 rfl U_map_api_Value_int kV v fun w4 h => ?_
    exact k _ _ [] _ ⟨rfl, rfl, rfl⟩ (h.take 1)
  · rw [if_neg c0] at k
    exact k _ _ [] _ ⟨rfl, rfl, rfl⟩ (h.take 1)
end
end Go.Proofs.YtoebncgnjbblgaaGreatDoor
/-
  Accumulators: Add, New. No condition.
-/
--@auto
namespace Go.Proofs.YtoebncgnjbblgaaGreatDoor
open Go.RowKit
set_option maxRecDepth 100000

theorem modify_set {α : Type} {l : List α} {i : Nat} {a : α} (f : α → α) (h : l[i]? = some a) : l.modify i f = l.set i (f a) := by
  apply List.ext_getElem?
  intro j
  rw [List.getElem?_modify, List.getElem?_set]
  by_cases c : i = j
  · subst c
    obtain ⟨hl, rfl⟩ := List.getElem?_eq_some_iff.1 h
    simp [hl]
  · simp [c]
section
variable {B : Base} {w : World} {σ : List Dat} {ms : List MP} {bs : List (Option Bag)} {i q : Nat} {M : MP} {b b' : Option Bag}
theorem bags_pull (h : Rel B w σ) (q : Nat) (hq : σ[q]? = some (bagsD ms bs)) (hM : ms[i]? = some M) (hb : bs[i]? = some b) : Rel B w (σ.set q (starL ((List.zipWith bagD ms bs).set i emp)) ++ [bagD M b]) := by
  have hz : (List.zipWith bagD ms bs)[i]? = some (bagD M b) := by rw [List.getElem?_zipWith, hM, hb]
  have h1 := h.imp hq (e := (starL ((List.zipWith bagD ms bs).set i emp)).star (bagD M b)) fun B hB => starL.pull hB hz
  have hlt : q < σ.length := (List.getElem?_eq_some_iff.1 hq).1
  have h2 := h1.split (i := q) (by rw [List.getElem?_set_self hlt])
  rw [List.set_set] at h2
  exact h2
theorem bags_give (h : Rel B w (σ ++ [bagD M b'])) (q : Nat) (hq : σ[q]? = some (starL ((List.zipWith bagD ms bs).set i emp))) (hM : ms[i]? = some M) (hi : i < bs.length) : Rel B w (σ.set q (bagsD ms (bs.set i b'))) := by
  have h1 := h.fuse q hq
  have hlt : q < σ.length := (List.getElem?_eq_some_iff.1 hq).1
  have hm : i < ms.length := (List.getElem?_eq_some_iff.1 hM).1
  have h2 := h1.imp (i := q) (e := bagsD ms (bs.set i b')) (by rw [List.getElem?_set_self hlt]) fun B hB => by
    have := starL.give hB (j := i) (by simp; omega)
    have e : ((List.zipWith bagD ms bs).set i emp).set i (bagD M b') = List.zipWith bagD ms (bs.set i b') := by
      rw [List.set_set]
      apply List.ext_getElem?
      intro j
      rw [List.getElem?_zipWith, List.getElem?_set, List.getElem?_set]
      by_cases c : i = j
      · subst c
        rw [if_pos rfl, if_pos rfl, if_pos (by simp; omega), if_pos hi, hM]
      · rw [if_neg c, if_neg c, List.getElem?_zipWith]
    unfold bagsD
    rw [← e]
    exact this
  rw [List.set_set] at h2
  exact h2
theorem bagD_some {M : MP} {b : Bag} {B : Base} (h : bagD M (some b) B) : ∃ m, M = ⟨some m⟩ := by
  obtain ⟨m⟩ := M
  cases m with
  | none => exact h.elim
  | some m => exact ⟨m, rfl⟩
theorem accD.open {p : Nat} {x : ACC} {τ : List Dat} (h : Rel B w (accD p x :: τ)) : ∃ r : Raw, r.ms.length = x.bags.length ∧ Rel B w (accL p r x ++ τ) := by
  obtain ⟨r, h⟩ := h.ex (i := 0) rfl
  obtain ⟨h1, h⟩ := h.pureAnd (i := 0) rfl
  exact ⟨r, h1, Rel.openL h⟩
theorem accD.close {p : Nat} {x : ACC} {τ : List Dat} (r : Raw) (hr : r.ms.length = x.bags.length) (h : Rel B w (accL p r x ++ τ)) : Rel B w (accD p x :: τ) := by
  have h1 := (Rel.closeL h).imp (i := 0) (e := accD p x) rfl fun B hB => ⟨r, hr, hB⟩
  exact h1
theorem accD.read {p : Nat} {x : ACC} (h : accD p x B) : ∃ r : Raw, r.ms.length = x.bags.length ∧ ∀ (j : Nat) (d : Dat), (accL p r x)[j]? = some d → d B := by
  obtain ⟨r, h1, h2⟩ := h
  exact ⟨r, h1, fun j d hj => starL.get h2 hj⟩

theorem Add_d {p N : Nat} {x : ACC} {v : Value} {row : List ValD} (r : rowR v row B) (hx : GoodA N x) (n : Int) : Does Tryz.prog B (accD p x) (sCall F_aggregate_Acc_Add #[ptr p, v, .int .i64 n]) fun u e' τ => u = .tuple #[] ∧ e' = accD p (addS x row n) ∧ τ = [] := by
  refine Does.intro fun B' w K base h k => ?_
  replace r := base r
  refine aggregate_Acc_Add.up (aggregate_Acc_Add.call ?_)
  unfold aggregate_Acc_Add.pt
  obtain ⟨⟨⟨av, hav⟩, ⟨sv, hsv⟩, ⟨bv, hbv⟩, ms⟩, hms, h⟩ := accD.open h
  have hms : ms.length = x.bags.length := hms
  have h : Rel B' w [cellD p T_aggregate_Acc #[av, .int .i64 x.count, sv, bv], rowD T_api_Agg av x.aggs, rowD T_int sv x.sums, rowD T_map_api_Value_int bv ms, bagsD ms x.bags] := h
  have k : ∀ w', Rel B' w' [cellD p T_aggregate_Acc #[av, .int .i64 (addS x row n).count, sv, bv], rowD T_api_Agg av (addS x row n).aggs, rowD T_int sv (addS x row n).sums, rowD T_map_api_Value_int bv ms, bagsD ms (addS x row n).bags] → K (.tuple #[]) w' := fun w' h =>
    k _ _ [] w' ⟨rfl, rfl, rfl⟩ (accD.close (p := p) (x := addS x row n) (τ := []) ⟨⟨av, hav⟩, ⟨sv, hsv⟩, ⟨bv, hbv⟩, ms⟩ (by show ms.length = (addS x row n).bags.length; rw [hms]; exact (addK_len row n x _).2.symm) h)
  simp -zeta only [nil_ptr, field_addr f_aggregate_Acc_1, field_addr f_aggregate_Acc_0, field_addr f_aggregate_Acc_2, field_addr f_aggregate_Acc_3, Nat.zero_add]
  rw [h.ld 0 rfl sc_int (o := 1) (v := .int .i64 x.count) rfl, bin_add]
  refine h.st 0 rfl sc_int (o := 1) (show 1 < 4 by omega) rfl fun w1 h => ?_
  have h : Rel B' w1 [cellD p T_aggregate_Acc #[av, .int .i64 (addK row n x 0).count, sv, bv], rowD T_api_Agg av (addK row n x 0).aggs, rowD T_int sv (addK row n x 0).sums, rowD T_map_api_Value_int bv ms, bagsD ms (addK row n x 0).bags] := h
  rw [h.ld 0 rfl sc_s_api_Agg (o := 0) (v := av) rfl]
  have ra := rowD.read (h.here (i := 1) rfl)
  have hfew := hx.few
  have ra : rowR av x.aggs ⟨w1, fun _ => True⟩ := ra
  rw [rowR.len ra sl_s_api_Agg]
  clear ra
  refine LOOP_intro (fun y w' => ∃ i : Nat, i ≤ x.aggs.length ∧ y = (.int .i64 i, ()) ∧ Rel B' w' [cellD p T_aggregate_Acc #[av, .int .i64 (addK row n x i).count, sv, bv], rowD T_api_Agg av (addK row n x i).aggs, rowD T_int sv (addK row n x i).sums, rowD T_map_api_Value_int bv ms, bagsD ms (addK row n x i).bags])
    (fun y _ => x.aggs.length - (match y.1 with | .int _ n => n.toNat | _ => 0)) ⟨0, Nat.zero_le _, rfl, h⟩ ?_
  clear h
  rintro y w1 ⟨i, hi, rfl, h⟩ next hnext
  simp -zeta only [bin_lss, ifB_dec]
  refine ⟨fun hlt => ?_, fun hge => ?_⟩
  case refine_2 =>
    have : i = x.aggs.length := by omega
    subst this
    exact k _ h
  have hil : i < x.aggs.length := by omega
  have hy := hx.addK row n i
  have hya := (addK_aggs row n x i).1
  have hyl := addK_len row n x i
  generalize hye : addK row n x i = y at *
  refine LETJ_intro fun J hJ => ?_
  replace hJ : ∀ w' (z : ACC), z = addAt row n y i → Rel B' w' [cellD p T_aggregate_Acc #[av, .int .i64 z.count, sv, bv], rowD T_api_Agg av z.aggs, rowD T_int sv z.sums, rowD T_map_api_Value_int bv ms, bagsD ms z.bags] → J () w' := by
    intro w' z hz h
    refine hJ _ _ ?_
    show pureK _ _ _
    rw [bin_add, wrap_id (by omega) (by omega)]
    have e : z = addK row n x (i + 1) := by rw [hz, addK_succ, hye]
    subst e
    exact hnext _ _ ⟨i + 1, hil, rfl, h⟩ (by simp only; omega)
  clear hnext k
  have hig : y.aggs[i]? = some x.aggs[i] := by rw [hya]; exact List.getElem?_eq_getElem hil
  have hyal : i < y.aggs.length := by rw [hya]; exact hil
  have hgi : y.aggs[i] = x.aggs[i] := by rw [List.getElem?_eq_getElem hyal] at hig; exact Option.some.inj hig
  obtain ⟨g, o, hix, hc⟩ := rowR.idx (P := Tryz.prog) (rowD.read (h.here (i := 1) rfl)) sl_s_api_Agg hyal
  have hc : (cellsR g o y.aggs[i].cs).here w1 := hc
  rw [hgi] at hc
  rw [hix, cellsR.ldAg hc ag_api_Agg rfl]
  clear hc hix
  generalize hG : x.aggs[i] = G at *
  refine h.allocAg (ds := G.cs.toArray) z_api_Agg rfl ag_api_Agg rfl (fun v hv => Enc.one G v hv) fun a1 w2 h => ?_
  have h : Rel B' w2 [cellD p T_aggregate_Acc #[av, .int .i64 y.count, sv, bv], rowD T_api_Agg av y.aggs, rowD T_int sv y.sums, rowD T_map_api_Value_int bv ms, bagsD ms y.bags, cellD a1 T_api_Agg G.cs.toArray] := h
  simp -zeta only [field_addr f_api_Agg_0, field_addr f_api_Agg_1, Nat.zero_add]
  rw [h.ld 5 rfl sc_int (o := 1) (v := .int .i64 G.col) rfl]
  refine h.ask (fun B2 own base2 => at_g (base2 r) G.col) fun w3 h => ?_
  have hadd : addAt row n y i = (if G.kind = 1 then { y with sums := y.sums.modify i fun s => W64 (s + W64 (n * (atS row G.col).n)) } else if ordB G then { y with bags := y.bags.modify i (Option.map fun b => putS b (atS row G.col) n) } else y) := by
    unfold addAt
    rw [hig]
  generalize atS row G.col = V at *
  refine h.allocAg (ds := V.cs.toArray) z_api_Value rfl ag_api_Value rfl (fun v hv => Enc.one V v hv) fun a2 w4 h => ?_
  have h : Rel B' w4 [cellD p T_aggregate_Acc #[av, .int .i64 y.count, sv, bv], rowD T_api_Agg av y.aggs, rowD T_int sv y.sums, rowD T_map_api_Value_int bv ms, bagsD ms y.bags, cellD a1 T_api_Agg G.cs.toArray, cellD a2 T_api_Value V.cs.toArray] := h
  rw [h.ld 5 rfl sc_int (o := 0) (v := .int .i64 G.kind) rfl, bin_eql, ifB_dec]
  refine ⟨fun c1 => ?_, fun c1 => ?_⟩
  · rw [if_pos c1] at hadd
    have hsl : i < y.sums.length := by rw [hy.sums]; exact hyal
    have h := h.tick
    generalize tick w4 = w4 at *
    obtain ⟨gs, cap, rfl⟩ := h.open_ (i := 2) rfl (by omega)
    rw [h.ld 0 rfl sc_s_int (o := 2) (v := .slice (some ⟨gs, 0, none⟩) y.sums.length cap) rfl]
    have hel := h.elem (α := Int) (i := 2) rfl hsl
    rw [idx_own (α := Int) sl_s_int hsl, cellsR.ld0 hel sc_int (v := .int .i64 y.sums[i]) rfl]
    simp -zeta only [field_addr f_api_Value_1, Nat.zero_add]
    rw [h.ld 6 rfl sc_int (o := 1) (v := .int .i64 V.n) rfl, bin_mul, bin_add]
    rw [idx_own (α := Int) sl_s_int hsl]
    refine h.set_sc (α := Int) 2 rfl (W64 (y.sums[i] + W64 (n * V.n))) (j := i) hsl (f := 0) rfl (by decide) rfl sc_int rfl fun w5 h => ?_
    refine hJ _ _ hadd.symm ?_
    have e : (y.sums.modify i fun s => W64 (s + W64 (n * V.n))) = y.sums.set i (W64 (y.sums[i] + W64 (n * V.n))) := modify_set _ (List.getElem?_eq_getElem hsl)
    show Rel B' w5 [_, _, rowD T_int _ (y.sums.modify i _), _, _]
    rw [e]
    exact h.take 5
  rw [if_neg c1] at hadd
  rw [h.ldAg 5 rfl ag_api_Agg rfl]
  refine h.ask (fun B2 own base2 => ordered_g G) fun w5 h => ?_
  rw [ifB_bool]
  refine ⟨fun c2 => ?_, fun c2 => ?_⟩
  case refine_2 =>
    rw [if_neg (by rw [c2]; decide)] at hadd
    exact hJ _ _ hadd.symm (h.take 5)
  rw [if_pos c2] at hadd
  have h := h.tick
  generalize tick w5 = w5 at *
  have hbl : i < y.bags.length := by rw [hy.bags]; exact hyal
  obtain ⟨b0, hb0⟩ : ∃ b0, y.bags[i]? = some b0 := ⟨_, List.getElem?_eq_getElem hbl⟩
  have hso := hy.ord i G b0 hig hb0
  rw [c2] at hso
  obtain ⟨bg, rfl⟩ := Option.isSome_iff_exists.1 hso
  obtain ⟨hwf, _⟩ := hy.wf i bg hb0
  have hml : i < ms.length := by rw [hms, ← hyl.2]; exact hbl
  obtain ⟨M, hM⟩ : ∃ M, ms[i]? = some M := ⟨_, List.getElem?_eq_getElem hml⟩
  rw [h.ld 0 rfl sc_s_map_api_Value_int (o := 3) (v := bv) rfl]
  obtain ⟨g3, o3, hix, hc⟩ := rowR.idx (P := Tryz.prog) (rowD.read (h.here (i := 3) rfl)) sl_s_map_api_Value_int hml
  have hMi : ms[i] = M := by rw [List.getElem?_eq_getElem hml] at hM; exact Option.some.inj hM
  rw [hMi] at hc
  have h := bags_pull h 4 rfl hM hb0
  have h : Rel B' w5 [cellD p T_aggregate_Acc #[av, .int .i64 y.count, sv, bv], rowD T_api_Agg av y.aggs, rowD T_int sv y.sums, rowD T_map_api_Value_int bv ms, starL ((List.zipWith bagD ms y.bags).set i emp), cellD a1 T_api_Agg G.cs.toArray, cellD a2 T_api_Value V.cs.toArray, bagD M (some bg)] := h
  obtain ⟨m, rfl⟩ := bagD_some (h.here (i := 7) rfl)
  rw [hix, cellsR.ld0 hc sc_map_api_Value_int (v := mapV m) rfl, h.ldAg 6 rfl ag_api_Value rfl]
  refine h.act 7 rfl (fun B2 own base2 => put_d (m := m) hwf V n) fun u e' τ w6 hp h => ?_
  obtain ⟨rfl, rfl, rfl⟩ := hp
  have h : Rel B' w6 ([cellD p T_aggregate_Acc #[av, .int .i64 y.count, sv, bv], rowD T_api_Agg av y.aggs, rowD T_int sv y.sums, rowD T_map_api_Value_int bv ms, starL ((List.zipWith bagD ms y.bags).set i emp), cellD a1 T_api_Agg G.cs.toArray, cellD a2 T_api_Value V.cs.toArray] ++ [bagD ⟨some m⟩ (some (putS bg V n))]) := h
  have h := bags_give h 4 rfl hM hbl
  refine hJ _ _ hadd.symm ?_
  have e : (y.bags.modify i (Option.map fun b => putS b V n)) = y.bags.set i (some (putS bg V n)) := modify_set _ hb0
  show Rel B' w6 [_, _, _, _, bagsD ms (y.bags.modify i _)]
  rw [e]
  exact h.take 5
end
end Go.Proofs.YtoebncgnjbblgaaGreatDoor
/-
  Accumulators: New. No condition.
-/
--@auto
namespace Go.Proofs.YtoebncgnjbblgaaGreatDoor
open Go.RowKit
set_option maxRecDepth 100000

def nb (g : AggD) : Option Bag := if ordB g then some ([], 0) else none
/-- The empty accumulator. -/
def newS (aggs : List AggD) : ACC := ⟨aggs, 0, List.replicate aggs.length 0, aggs.map nb⟩
theorem newS_good {aggs : List AggD} (h : aggs.length ≤ 1000) : GoodA 0 (newS aggs) := by
  refine ⟨h, by simp [newS], by simp [newS], fun i g b hg hb => ?_, fun i b hb => ?_⟩
  · have hg : aggs[i]? = some g := hg
    have hb : (aggs.map nb)[i]? = some b := hb
    rw [List.getElem?_map, hg] at hb
    have hb : nb g = b := by simpa using hb
    rw [← hb]
    unfold nb
    split
    · rename_i c; rw [c]; rfl
    · rename_i c; simp at c; rw [c]; rfl
  · have hb : (aggs.map nb)[i]? = some (some b) := hb
    rw [List.getElem?_map] at hb
    cases hg : aggs[i]? with
    | none => rw [hg] at hb; cases hb
    | some g =>
      rw [hg] at hb
      have hb : nb g = some b := by simpa using hb
      unfold nb at hb
      split at hb
      · have hb : (([], 0) : Bag) = b := by simpa using hb
        subst hb
        exact ⟨WfE.nil, Nat.le_refl _⟩
      · cases hb
def newB (aggs : List AggD) (i : Nat) : List (Option Bag) := (aggs.take i).map nb ++ List.replicate (aggs.length - i) none
theorem newB_len (aggs : List AggD) {i : Nat} (h : i ≤ aggs.length) : (newB aggs i).length = aggs.length := by
  unfold newB
  simp
  omega
theorem newB_succ {aggs : List AggD} {i : Nat} (h : i < aggs.length) : newB aggs (i + 1) = (newB aggs i).set i (nb aggs[i]) := by
  unfold newB
  have hr : List.replicate (aggs.length - i) (none : Option Bag) = none :: List.replicate (aggs.length - (i + 1)) none := by
    rw [show aggs.length - i = (aggs.length - (i + 1)) + 1 by omega, List.replicate_succ]
  rw [hr, List.set_append_right _ _ (by simp; omega), List.take_succ_eq_append_getElem h, List.map_append, List.length_map, List.length_take, Nat.min_eq_left (by omega), Nat.sub_self]
  simp
theorem newB_get {aggs : List AggD} {i : Nat} (h : i < aggs.length) : (newB aggs i)[i]? = some none := by
  unfold newB
  rw [List.getElem?_append_right (by simp; omega), List.length_map, List.length_take, Nat.min_eq_left (by omega), Nat.sub_self, List.getElem?_replicate, if_pos (by omega)]
section
variable {B : Base} {w : World} {σ : List Dat} {ms : List MP} {bs : List (Option Bag)} {i q : Nat} {M : MP} {b b' : Option Bag}
theorem bags_put (h : Rel B w (σ ++ [bagD M b'])) (q : Nat) (hq : σ[q]? = some (bagsD ms bs)) (hm : i < ms.length) (hi : i < bs.length) : Rel B w (σ.set q (bagsD (ms.set i M) (bs.set i b'))) := by
  have h1 := h.fuse q hq
  have hlt : q < σ.length := (List.getElem?_eq_some_iff.1 hq).1
  have h2 := h1.imp (i := q) (e := bagsD (ms.set i M) (bs.set i b')) (by rw [List.getElem?_set_self hlt]) fun B hB => by
    have := starL.give hB (j := i) (by simp; omega)
    have e : (List.zipWith bagD ms bs).set i (bagD M b') = List.zipWith bagD (ms.set i M) (bs.set i b') := by
      apply List.ext_getElem?
      intro j
      rw [List.getElem?_zipWith, List.getElem?_set, List.getElem?_set, List.getElem?_set]
      by_cases c : i = j
      · subst c
        rw [if_pos rfl, if_pos rfl, if_pos rfl, if_pos (by simp; omega), if_pos hi, if_pos hm]
      · rw [if_neg c, if_neg c, if_neg c, List.getElem?_zipWith]
    unfold bagsD
    rw [← e]
    exact this
  rw [List.set_set] at h2
  exact h2
theorem bags_nil {n : Nat} {B : Base} : bagsD (List.replicate n ⟨none⟩) (List.replicate n none) B := by
  refine ⟨fun _ => 0, fun j d hj => ?_⟩
  obtain ⟨x, y, hx, hy, rfl⟩ := List.getElem?_zipWith_eq_some.1 hj
  have hx := (List.mem_replicate.1 (List.mem_of_getElem? hx)).2
  have hy := (List.mem_replicate.1 (List.mem_of_getElem? hy)).2
  subst hx hy
  trivial
theorem shapeD {E : TypeId} {v : Value} {α : Type} [Enc α] {l : List α} (h : Rel B w σ) (i : Nat) (hi : σ[i]? = some (rowD E v l)) : ∃ x n c, v = .slice x n c := by
  rcases h.here hi with ⟨rfl, _⟩ | ⟨g, cap, _, rfl, _⟩
  · exact ⟨_, _, _, rfl⟩
  · exact ⟨_, _, _, rfl⟩
theorem Rel.addPure {d : Dat} (h : Rel B w σ) (hd : ∀ B, d B) : Rel B w (σ ++ [d]) := by
  obtain ⟨c, h⟩ := h
  refine ⟨c, h.os, h.tape, h.output, h.size, h.keepc, h.same, fun j e hj => ?_⟩
  by_cases hl : j < σ.length
  · rw [List.getElem?_append_left hl] at hj; exact h.own j e hj
  · rw [List.getElem?_append_right (by omega)] at hj
    have : j = σ.length := by
      rcases Nat.lt_trichotomy j σ.length with c | c | c
      · omega
      · exact c
      · rw [List.getElem?_eq_none (by simp; omega)] at hj; cases hj
    subst this
    simp at hj
    subst hj
    exact hd _

theorem New_m {v : Value} {aggs : List AggD} (r : rowR v aggs B) (hl : aggs.length ≤ 1000) : Makes Tryz.prog B (sCall F_aggregate_New #[v]) fun u τ => ∃ p, u = ptr p ∧ τ = [accD p (newS aggs)] := by
  refine Makes.intro fun B' w K base h k => ?_
  replace r := base r
  refine aggregate_New.up (aggregate_New.call ?_)
  unfold aggregate_New.pt
  refine LETJ_intro fun J hJ => ?_
  replace hJ : ∀ (w1 : World) (p gs gb : Nat) (xa : Option Addr) (na ca : Nat), Rel B' w1 [cellD p T_aggregate_Acc #[.slice xa na ca, .int .i64 0, .slice (some ⟨gs, 0, none⟩) aggs.length aggs.length, .slice (some ⟨gb, 0, none⟩) aggs.length aggs.length], rowD T_api_Agg (.slice xa na ca) aggs, rowD T_int (.slice (some ⟨gs, 0, none⟩) aggs.length aggs.length) (List.replicate aggs.length (0 : Int)), rowD T_map_api_Value_int (.slice (some ⟨gb, 0, none⟩) aggs.length aggs.length) (List.replicate aggs.length (⟨none⟩ : MP))] → J (ptr p, ()) w1 := by
    intro w1 p gs gb xa na ca h
    refine hJ _ _ ?_
    clear hJ
    simp -zeta only [nil_ptr, field_addr f_aggregate_Acc_3, Nat.zero_add]
    rw [rowR.len r sl_s_api_Agg]
    have h := h.addPure (d := bagsD (List.replicate aggs.length ⟨none⟩) (List.replicate aggs.length none)) fun B => bags_nil
    refine LOOP_intro (fun y w' => ∃ (i : Nat) (ms : List MP), i ≤ aggs.length ∧ ms.length = aggs.length ∧ y = (.int .i64 i, ()) ∧ Rel B' w' [cellD p T_aggregate_Acc #[.slice xa na ca, .int .i64 0, .slice (some ⟨gs, 0, none⟩) aggs.length aggs.length, .slice (some ⟨gb, 0, none⟩) aggs.length aggs.length], rowD T_api_Agg (.slice xa na ca) aggs, rowD T_int (.slice (some ⟨gs, 0, none⟩) aggs.length aggs.length) (List.replicate aggs.length (0 : Int)), rowD T_map_api_Value_int (.slice (some ⟨gb, 0, none⟩) aggs.length aggs.length) ms, bagsD ms (newB aggs i)])
      (fun y _ => aggs.length - (match y.1 with | .int _ n => n.toNat | _ => 0)) ⟨0, List.replicate aggs.length ⟨none⟩, Nat.zero_le _, by simp, rfl, ?_⟩ ?_
    · have e : newB aggs 0 = List.replicate aggs.length none := by simp [newB]
      rw [e]
      exact h
    clear h
    rintro y w1 ⟨i, ms, hi, hms, rfl, h⟩ next hnext
    simp -zeta only [bin_lss, ifB_dec]
    refine ⟨fun hlt => ?_, fun hge => ?_⟩
    case refine_2 =>
      have : i = aggs.length := by omega
      subst this
      have e : newB aggs aggs.length = aggs.map nb := by simp [newB]
      rw [e] at h
      exact k _ _ _ ⟨p, rfl, rfl⟩ (accD.close (p := p) (x := newS aggs) (τ := []) ⟨⟨.slice xa na ca, rfl⟩, ⟨.slice (some ⟨gs, 0, none⟩) aggs.length aggs.length, rfl⟩, ⟨.slice (some ⟨gb, 0, none⟩) aggs.length aggs.length, rfl⟩, ms⟩ (by show ms.length = (aggs.map nb).length; rw [hms]; simp) h)
    have hil : i < aggs.length := by omega
    refine LETJ_intro fun J2 hJ2 => ?_
    replace hJ2 : ∀ (w' : World) (ms' : List MP), ms'.length = aggs.length → Rel B' w' [cellD p T_aggregate_Acc #[.slice xa na ca, .int .i64 0, .slice (some ⟨gs, 0, none⟩) aggs.length aggs.length, .slice (some ⟨gb, 0, none⟩) aggs.length aggs.length], rowD T_api_Agg (.slice xa na ca) aggs, rowD T_int (.slice (some ⟨gs, 0, none⟩) aggs.length aggs.length) (List.replicate aggs.length (0 : Int)), rowD T_map_api_Value_int (.slice (some ⟨gb, 0, none⟩) aggs.length aggs.length) ms', bagsD ms' (newB aggs (i + 1))] → J2 () w' := by
      intro w' ms' hm h
      refine hJ2 _ _ ?_
      show pureK _ _ _
      rw [bin_add, wrap_id (by omega) (by omega)]
      exact hnext _ _ ⟨i + 1, ms', hil, hm, rfl, h⟩ (by simp only; omega)
    clear hnext k
    obtain ⟨g, o, hix, hc⟩ := rowR.idx (P := Tryz.prog) r sl_s_api_Agg hil
    have hc : cellsR g o aggs[i].cs B' := hc
    rw [hix, cellsR.ldAg (h.hereB hc) ag_api_Agg rfl]
    refine h.allocAg (ds := aggs[i].cs.toArray) z_api_Agg rfl ag_api_Agg rfl (fun v hv => Enc.one aggs[i] v hv) fun a1 w2 h => ?_
    rw [h.ldAg 5 rfl ag_api_Agg rfl]
    refine h.ask (fun B2 own base2 => ordered_g aggs[i]) fun w3 h => ?_
    have hsucc := newB_succ hil
    unfold nb at hsucc
    rw [ifB_bool]
    refine ⟨fun c2 => ?_, fun c2 => ?_⟩
    case refine_2 =>
      rw [if_neg (by rw [c2]; decide)] at hsucc
      have e : (newB aggs i).set i none = newB aggs i := by
        have hg := newB_get hil
        obtain ⟨h1, h2⟩ := List.getElem?_eq_some_iff.1 hg
        rw [← h2]
        exact List.set_getElem_self h1
      rw [e] at hsucc
      exact hJ2 _ ms hms (by rw [hsucc]; exact h.take 5)
    rw [if_pos c2] at hsucc
    rw [h.ld 0 rfl sc_s_map_api_Value_int (o := 3) (v := .slice (some ⟨gb, 0, none⟩) aggs.length aggs.length) rfl]
    refine h.mkMap ValD Int fun m w4 h => ?_
    rw [idx_own (α := MP) sl_s_map_api_Value_int hil]
    refine h.set_sc (α := MP) 3 rfl ⟨some m⟩ (j := i) (by omega) (f := 0) rfl (by decide) rfl sc_map_api_Value_int rfl fun w5 h => ?_
    have h : Rel B' w5 ([cellD p T_aggregate_Acc #[.slice xa na ca, .int .i64 0, .slice (some ⟨gs, 0, none⟩) aggs.length aggs.length, .slice (some ⟨gb, 0, none⟩) aggs.length aggs.length], rowD T_api_Agg (.slice xa na ca) aggs, rowD T_int (.slice (some ⟨gs, 0, none⟩) aggs.length aggs.length) (List.replicate aggs.length (0 : Int)), rowD T_map_api_Value_int (.slice (some ⟨gb, 0, none⟩) aggs.length aggs.length) (ms.set i ⟨some m⟩), bagsD ms (newB aggs i), cellD a1 T_api_Agg aggs[i].cs.toArray] ++ [bagD ⟨some m⟩ (some ([], 0))]) := h
    have h := bags_put (i := i) h 4 rfl (by omega) (by rw [newB_len aggs hi]; exact hil)
    refine hJ2 _ (ms.set i ⟨some m⟩) (by simp [hms]) ?_
    rw [hsucc]
    exact h.take 5
  clear k
  rw [rowR.len r sl_s_api_Agg, rowR.len r sl_s_api_Agg]
  have isl : ∀ w, Is Tryz.prog (sBlt .len #[T_s_api_Agg] T_int #[false] #[v]) (.int .i64 aggs.length) w := fun w => by
    have := rowR.len (P := Tryz.prog) (w := w) (T := T_s_api_Agg) (U := T_int) (bs := #[false]) (Kp := fun x => x = .int .i64 aggs.length) r sl_s_api_Agg
    obtain ⟨x, h1, rfl⟩ := this.mpr rfl
    exact h1
  have fin : ∀ (w1 : World) (gs gb : Nat) (xa : Option Addr) (na ca : Nat), Rel B' w1 [rowD T_api_Agg (.slice xa na ca) aggs, rowD T_int (.slice (some ⟨gs, 0, none⟩) aggs.length aggs.length) (List.replicate aggs.length (0 : Int)), rowD T_map_api_Value_int (.slice (some ⟨gb, 0, none⟩) aggs.length aggs.length) (List.replicate aggs.length (⟨none⟩ : MP))] →
      pureK Tryz.prog (sBuild T_aggregate_Acc #[(0, .slice xa na ca), (2, .slice (some ⟨gs, 0, none⟩) aggs.length aggs.length), (3, .slice (some ⟨gb, 0, none⟩) aggs.length aggs.length)]) fun t14 => upK Tryz.prog (sBox T_aggregate_Acc t14) w1 fun t15 w12 => J (t15, ()) w12 := by
    intro w1 gs gb xa na ca h
    rw [bd_aggregate_Acc_0_2_3]
    refine h.box fun p w2 h => ?_
    exact hJ w2 p gs gb xa na ca (h.pick [3, 0, 1, 2] (by decide))
  clear hJ
  have h := h.tick
  generalize tick w = w at *
  refine ⟨?_, ?_, ?_⟩
  · skip
    refine h.make (fun B2 own base2 => gslices_Clone_s_api_Agg_api_Agg (base2 r) (by omega) (by omega)) fun u τ w1 hp h => ?_
    subst hp
    obtain ⟨xa, na, ca, rfl⟩ := shapeD h 0 rfl
    refine ⟨isl _, isl _, ?_, ?_⟩
    · skip
      refine h.mkSliceV (0 : Int) sl_s_int (by kernel_rfl) (by omega) (by omega) fun gs w1 h => ?_
      refine ⟨isl _, ?_⟩
      refine h.mkSliceV (⟨none⟩ : MP) sl_s_map_api_Value_int (by kernel_rfl) (by omega) (by omega) fun gb w1 h => ?_
      refine ⟨isl _, ?_⟩
      exact fin _ _ _ _ _ _ (h.pick [0, 1, 2] (by decide))
    · skip
      refine h.mkSliceV (⟨none⟩ : MP) sl_s_map_api_Value_int (by kernel_rfl) (by omega) (by omega) fun gb w1 h => ?_
      refine ⟨isl _, ?_⟩
      refine h.mkSliceV (0 : Int) sl_s_int (by kernel_rfl) (by omega) (by omega) fun gs w1 h => ?_
      refine ⟨isl _, ?_⟩
      exact fin _ _ _ _ _ _ (h.pick [0, 2, 1] (by decide))
  · skip
    refine h.mkSliceV (0 : Int) sl_s_int (by kernel_rfl) (by omega) (by omega) fun gs w1 h => ?_
    refine ⟨isl _, ?_, ?_⟩
    · skip
      refine h.make (fun B2 own base2 => gslices_Clone_s_api_Agg_api_Agg (base2 r) (by omega) (by omega)) fun u τ w1 hp h => ?_
      subst hp
      obtain ⟨xa, na, ca, rfl⟩ := shapeD h 1 rfl
      refine ⟨isl _, isl _, ?_⟩
      refine h.mkSliceV (⟨none⟩ : MP) sl_s_map_api_Value_int (by kernel_rfl) (by omega) (by omega) fun gb w1 h => ?_
      refine ⟨isl _, ?_⟩
      exact fin _ _ _ _ _ _ (h.pick [1, 0, 2] (by decide))
    · skip
      refine h.mkSliceV (⟨none⟩ : MP) sl_s_map_api_Value_int (by kernel_rfl) (by omega) (by omega) fun gb w1 h => ?_
      refine ⟨isl _, ?_⟩
      refine h.make (fun B2 own base2 => gslices_Clone_s_api_Agg_api_Agg (base2 r) (by omega) (by omega)) fun u τ w1 hp h => ?_
      subst hp
      obtain ⟨xa, na, ca, rfl⟩ := shapeD h 2 rfl
      refine ⟨isl _, isl _, ?_⟩
      exact fin _ _ _ _ _ _ (h.pick [2, 0, 1] (by decide))
  · skip
    refine h.mkSliceV (⟨none⟩ : MP) sl_s_map_api_Value_int (by kernel_rfl) (by omega) (by omega) fun gb w1 h => ?_
    refine ⟨isl _, ?_, ?_⟩
    · skip
      refine h.make (fun B2 own base2 => gslices_Clone_s_api_Agg_api_Agg (base2 r) (by omega) (by omega)) fun u τ w1 hp h => ?_
      subst hp
      obtain ⟨xa, na, ca, rfl⟩ := shapeD h 1 rfl
      refine ⟨isl _, isl _, ?_⟩
      refine h.mkSliceV (0 : Int) sl_s_int (by kernel_rfl) (by omega) (by omega) fun gs w1 h => ?_
      refine ⟨isl _, ?_⟩
      exact fin _ _ _ _ _ _ (h.pick [1, 2, 0] (by decide))
    · skip
      refine h.mkSliceV (0 : Int) sl_s_int (by kernel_rfl) (by omega) (by omega) fun gs w1 h => ?_
      refine ⟨isl _, ?_⟩
      refine h.make (fun B2 own base2 => gslices_Clone_s_api_Agg_api_Agg (base2 r) (by omega) (by omega)) fun u τ w1 hp h => ?_
      subst hp
      obtain ⟨xa, na, ca, rfl⟩ := shapeD h 2 rfl
      refine ⟨isl _, isl _, ?_⟩
      exact fin _ _ _ _ _ _ (h.pick [2, 1, 0] (by decide))
end
end Go.Proofs.YtoebncgnjbblgaaGreatDoor
/-
  Accumulators: sorted, best, Result, Rows, Empty. No condition.
-/
--@auto
namespace Go.Proofs.YtoebncgnjbblgaaGreatDoor
open Go.RowKit
set_option maxRecDepth 100000

theorem sortV_sorted (l : List ValD) : (sortV l).Pairwise fun a b => compareV a b ≤ 0 := by
  have o := compareV_ord
  have h := List.pairwise_mergeSort (le := fun x y => !ltV y x) (fun a b c h1 h2 => by
    simp only [ltV, Bool.not_eq_true', decide_eq_false_iff_not] at *
    have a1 := o.anti a b
    have a2 := o.anti b c
    have a3 := o.anti a c
    have := o.trans a b c (by omega) (by omega)
    omega) (fun a b => by
    simp only [ltV, Bool.or_eq_true, Bool.not_eq_true', decide_eq_false_iff_not]
    have := o.anti a b
    omega) l
  refine h.imp fun {a b} hab => ?_
  simp only [ltV, Bool.not_eq_true', decide_eq_false_iff_not] at hab
  have := o.anti a b
  omega
theorem sortV_perm {l m : List ValD} (h : l.Perm m) : sortV l = sortV m := by
  have o := compareV_ord
  refine List.Perm.eq_of_pairwise (le := fun a b => compareV a b ≤ 0) (fun a b _ _ h1 h2 => ?_) (sortV_sorted l) (sortV_sorted m) (((List.mergeSort_perm l _).trans h).trans (List.mergeSort_perm m _).symm)
  have := o.anti a b
  exact (o.eq a b).1 (by omega)
/-- A bag's values in order. -/
def keysV (b : Bag) : List ValD := sortV (b.1.map (·.1))
def cntV (b : Bag) (v : ValD) : Int := (getE v b.1).getD 0
def posV (b : Bag) : List ValD := (keysV b).filter fun v => decide (0 < cntV b v)
def bestS (g : AggD) (b : Bag) : ValD :=
  match posV b with
  | [] => vInt 0
  | a :: r => if g.kind = 2 then a else (a :: r).getLast (by simp)
def resAt (x : ACC) (i : Nat) : ValD :=
  match x.aggs[i]? with
  | none => vZero
  | some g => if g.kind = 0 then vInt x.count else if g.kind = 1 then vInt ((x.sums[i]?).getD 0) else match x.bags[i]? with
    | some (some b) => bestS g b
    | _ => vInt 0
def resultS (x : ACC) : List ValD := (List.range x.aggs.length).map (resAt x)
def rowsAt (b : Option Bag) : Nat := match b with
  | none => 0
  | some b => b.1.length
def rowsS (x : ACC) : Nat := (x.bags.map rowsAt).sum
def emptyS (x : ACC) : Bool := decide (x.count = 0) && (decide (rowsS x = 0) && !x.sums.any fun n => decide (n ≠ 0))
def Kinds (aggs : List AggD) : Prop := ∀ g ∈ aggs, 0 ≤ g.kind ∧ g.kind < 4

section
variable {B : Base} {w : World} {σ : List Dat} {p N : Nat} {x : ACC}
theorem accD.map {ms : List MP} {bs : List (Option Bag)} (h : bagsD ms bs B) (hm : ms.length = bs.length) {i : Nat} {b : Bag} (hb : bs[i]? = some (some b)) : ∃ m, ms[i]? = some ⟨some m⟩ ∧ mapE m b.1 b.2 B := by
  have hi : i < ms.length := by rw [hm]; exact (List.getElem?_eq_some_iff.1 hb).1
  have hM : ms[i]? = some ms[i] := List.getElem?_eq_getElem hi
  have hd : bagD ms[i] (some b) B := starL.get h (j := i) (by rw [List.getElem?_zipWith, hM, hb])
  obtain ⟨m, e⟩ := bagD_some hd
  rw [e] at hd hM
  exact ⟨m, hM, hd⟩
theorem sorted_m (a : accD p x B) (hx : GoodA N x) (hN : N ≤ 1000000) {i : Nat} {b : Bag} (hb : x.bags[i]? = some (some b)) :
    Makes Tryz.prog B (sCall F_aggregate_Acc_sorted #[ptr p, .int .i64 i]) fun u τ => τ = [rowD T_api_Value u (keysV b)] := by
  refine Makes.intro fun B' w K base h k => ?_
  replace a := base a
  refine aggregate_Acc_sorted.up (aggregate_Acc_sorted.call ?_)
  unfold aggregate_Acc_sorted.pt
  obtain ⟨⟨⟨av, hav⟩, ⟨sv, hsv⟩, ⟨bv, hbv⟩, ms⟩, hms, hr⟩ := accD.read a
  have c0 : cellD p T_aggregate_Acc #[av, .int .i64 x.count, sv, bv] B' := hr 0 _ rfl
  have c3 : rowD T_map_api_Value_int bv ms B' := hr 3 _ rfl
  have c4 : bagsD ms x.bags B' := hr 4 _ rfl
  have hms : ms.length = x.bags.length := hms
  obtain ⟨m, hM, hmap⟩ := accD.map c4 hms hb
  obtain ⟨hwf, hlen⟩ := hx.wf i b hb
  simp -zeta only [nil_ptr, field_addr f_aggregate_Acc_3, Nat.zero_add]
  rw [cellD.ld (h.hereB c0) sc_s_map_api_Value_int (o := 3) (v := bv) rfl]
  obtain ⟨hml, hMi⟩ := List.getElem?_eq_some_iff.1 hM
  obtain ⟨g3, o3, hix, hc⟩ := rowR.idx (P := Tryz.prog) (rowD.read c3) sl_s_map_api_Value_int hml
  rw [hMi] at hc
  rw [hix, cellsR.ld0 (h.hereB hc) sc_map_api_Value_int (v := mapV m) rfl]
  refine h.make (fun B2 own base2 => keysV_m m) fun u τ w1 hp h => ?_
  obtain ⟨b0, rfl, rfl⟩ := hp
  have h : Rel B' w1 [cellD b0 T_map_api_Value_int #[mapV m]] := h
  refine slices_SortedFunc_api_Value.up (slices_SortedFunc_api_Value.call ?_)
  unfold slices_SortedFunc_api_Value.pt
  refine h.make (fun B2 own base2 => collectV_m (own (i := 0) rfl) (base2 hmap) hwf (by omega)) fun u τ w2 hp h => ?_
  obtain ⟨ss, hss, rfl⟩ := hp
  have h : Rel B' w2 [cellD b0 T_map_api_Value_int #[mapV m], rowD T_api_Value u ss] := h
  have hsl : ss.length = b.1.length := by rw [hss.length_eq, List.length_map]
  refine h.act 1 rfl (fun B2 own base2 => SortV_d (by omega)) fun u2 e' τ w3 hp h => ?_
  obtain ⟨rfl, rfl, rfl⟩ := hp
  have h : Rel B' w3 [cellD b0 T_map_api_Value_int #[mapV m], rowD T_api_Value u (sortV ss)] := h
  rw [sortV_perm hss] at h
  exact k _ _ _ rfl (h.pick [1] (by decide))
theorem best1_g (a : accD p x B) {i a2 i3 : Nat} {b : Bag} (hb : x.bags[i]? = some (some b)) (h2 : cellD a2 T_p_aggregate_Acc #[ptr p] B) (h3 : cellD i3 T_int #[.int .i64 i] B) (v : ValD) :
    Gives Tryz.prog B (sCallV (.func (.func F_aggregate_Acc_best_1) #[] #[ptr a2, ptr i3]) #[v.v]) (.bool (decide (cntV b v ≤ 0))) := by
  refine Gives.intro fun B' w K base h k => ?_
  replace a := base a
  replace h2 := base h2
  replace h3 := base h3
  refine call_v ?_
  show upK Tryz.prog (sCall F_aggregate_Acc_best_1 #[v.v, ptr a2, ptr i3]) w K
  refine aggregate_Acc_best_1.up (aggregate_Acc_best_1.call ?_)
  unfold aggregate_Acc_best_1.pt
  obtain ⟨⟨⟨av, hav⟩, ⟨sv, hsv⟩, ⟨bv, hbv⟩, ms⟩, hms, hr⟩ := accD.read a
  have c0 : cellD p T_aggregate_Acc #[av, .int .i64 x.count, sv, bv] B' := hr 0 _ rfl
  have c3 : rowD T_map_api_Value_int bv ms B' := hr 3 _ rfl
  have c4 : bagsD ms x.bags B' := hr 4 _ rfl
  have hms : ms.length = x.bags.length := hms
  obtain ⟨m, hM, hmap⟩ := accD.map c4 hms hb
  refine h.box fun o w1 h => ?_
  have h : Rel B' (tick w1) [cellD o T_api_Value v.cs.toArray] := h.tick
  generalize tick w1 = w1 at *
  rw [cellD.ld (h.hereB h2) sc_p_aggregate_Acc (o := 0) (v := ptr p) rfl]
  simp -zeta only [nil_ptr, field_addr f_aggregate_Acc_3, Nat.zero_add]
  rw [cellD.ld (h.hereB c0) sc_s_map_api_Value_int (o := 3) (v := bv) rfl, cellD.ld (h.hereB h3) sc_int (o := 0) (v := .int .i64 i) rfl]
  obtain ⟨hml, hMi⟩ := List.getElem?_eq_some_iff.1 hM
  obtain ⟨g3, o3, hix, hc⟩ := rowR.idx (P := Tryz.prog) (rowD.read c3) sl_s_map_api_Value_int hml
  rw [hMi] at hc
  rw [hix, cellsR.ld0 (h.hereB hc) sc_map_api_Value_int (v := mapV m) rfl, h.ldAg 0 rfl ag_api_Value rfl]
  rw [mapE.look (h.hereB hmap) U_map_api_Value_int kV 0 z_int v]
  rw [show (Enc.val ((getE v b.1).getD 0) : Value) = .int .i64 (cntV b v) from rfl, bin_leq]
  exact k _ _ h
theorem best_g (a : accD p x B) (hx : GoodA N x) (hN : N ≤ 1000000) {i : Nat} {b : Bag} {g : AggD} (hb : x.bags[i]? = some (some b)) (hg : x.aggs[i]? = some g) :
    Gives Tryz.prog B (sCall F_aggregate_Acc_best #[ptr p, .int .i64 i]) (bestS g b).v := by
  refine Gives.intro fun B' w K base h k => ?_
  replace a := base a
  refine aggregate_Acc_best.up (aggregate_Acc_best.call ?_)
  unfold aggregate_Acc_best.pt
  refine h.box fun a2 w1 h => ?_
  refine h.box fun i3 w2 h => ?_
  refine h.alloc z_api_Value fun t4 w3 h => ?_
  have h : Rel B' w3 [cellD a2 T_p_aggregate_Acc #[ptr p], cellD i3 T_int #[.int .i64 i], cellD t4 T_api_Value #[.int .i64 0, .int .i64 0, .string ⟨#[]⟩]] := h
  rw [h.ld 0 rfl sc_p_aggregate_Acc (o := 0) (v := ptr p) rfl, h.ld 1 rfl sc_int (o := 0) (v := .int .i64 i) rfl]
  refine h.make (fun B2 own base2 => sorted_m (base2 a) hx hN hb) fun u τ w4 hp h => ?_
  subst hp
  have h : Rel B' w4 [cellD a2 T_p_aggregate_Acc #[ptr p], cellD i3 T_int #[.int .i64 i], cellD t4 T_api_Value #[.int .i64 0, .int .i64 0, .string ⟨#[]⟩], rowD T_api_Value u (keysV b)] := h
  rw [mk_func]
  have hkl : (keysV b).length = b.1.length := by unfold keysV sortV; rw [List.length_mergeSort, List.length_map]
  have hlen := (hx.wf i b hb).2
  refine h.act 3 rfl (fun B2 own base2 => dslices_DeleteFunc_s_api_Value_api_Value (by omega) (fun v => decide (cntV b v ≤ 0)) fun B3 base3 v _ => best1_g (base3 (base2 a)) hb (base3 (own (j := 0) (by decide) rfl)) (base3 (own (j := 1) (by decide) rfl)) v) fun u2 e' τ w5 hp h => ?_
  obtain ⟨rfl, rfl⟩ := hp
  have hf : ((keysV b).filter fun v => !decide (cntV b v ≤ 0)) = posV b := by
    unfold posV
    apply List.filter_congr
    intro v _
    rw [Bool.eq_iff_iff]
    simp
  rw [hf] at h
  have h : Rel B' w5 [cellD a2 T_p_aggregate_Acc #[ptr p], cellD i3 T_int #[.int .i64 i], cellD t4 T_api_Value #[.int .i64 0, .int .i64 0, .string ⟨#[]⟩], rowD T_api_Value u2 (posV b)] := h
  have hpl : (posV b).length ≤ 1000000 := by
    have := List.length_filter_le (fun v => decide (0 < cntV b v)) (keysV b)
    unfold posV
    omega
  rw [rowR.len (rowD.read (h.here (i := 3) rfl)) sl_s_api_Value, bin_eql, ifB_dec]
  unfold bestS at k
  refine ⟨fun c => ?_, fun c => ?_⟩
  · have hnil : posV b = [] := List.eq_nil_of_length_eq_zero (by omega)
    rw [hnil] at k
    refine h.ask (fun B2 own base2 => vInt_g 0) fun w6 h => ?_
    refine h.stAll 2 (ds := (vInt 0).cs.toArray) rfl ag_api_Value rfl rfl (fun v hv => Enc.one (vInt 0) v hv) fun w7 h => ?_
    rw [rv_ag h 2 rfl ag_api_Value rfl]
    exact k _ _ (h.take 0)
  have h := h.tick
  generalize tick w5 = w5 at *
  obtain ⟨⟨⟨av, hav⟩, ⟨sv, hsv⟩, ⟨bv, hbv⟩, ms⟩, hms, hr⟩ := accD.read a
  have c0 : cellD p T_aggregate_Acc #[av, .int .i64 x.count, sv, bv] B' := hr 0 _ rfl
  have c1 : rowD T_api_Agg av x.aggs B' := hr 1 _ rfl
  rw [h.ld 0 rfl sc_p_aggregate_Acc (o := 0) (v := ptr p) rfl]
  simp -zeta only [nil_ptr, field_addr f_aggregate_Acc_0, Nat.zero_add]
  rw [cellD.ld (h.hereB c0) sc_s_api_Agg (o := 0) (v := av) rfl, h.ld 1 rfl sc_int (o := 0) (v := .int .i64 i) rfl]
  obtain ⟨hgl, hgi⟩ := List.getElem?_eq_some_iff.1 hg
  obtain ⟨g3, o3, hix, hc⟩ := rowR.idx (P := Tryz.prog) (rowD.read c1) sl_s_api_Agg hgl
  rw [hgi] at hc
  have hc : cellsR g3 o3 g.cs B' := hc
  rw [hix, field_addr f_api_Agg_0, cellsR.ld (h.hereB hc) sc_int (j := 0) (v := .int .i64 g.kind) rfl, bin_eql, ifB_dec]
  obtain ⟨y, r, hyr⟩ : ∃ y r, posV b = y :: r := by
    cases hq : posV b with
    | nil => rw [hq] at c; exact absurd rfl c
    | cons y r => exact ⟨y, r, rfl⟩
  rw [hyr] at k h hpl
  simp only at k
  have fin : ∀ (w : World) (z : ValD), Rel B' w [cellD a2 T_p_aggregate_Acc #[ptr p], cellD i3 T_int #[.int .i64 i], cellD t4 T_api_Value #[.int .i64 0, .int .i64 0, .string ⟨#[]⟩], rowD T_api_Value u2 (y :: r)] → (∀ w', Rel B' w' [] → K z.v w') → upK Tryz.prog (sStore T_api_Value (ptr t4) (.agg z.cs.toArray)) w fun tu w7 => readV Tryz.prog (do loadVar T_api_Value (← asAddr (ptr t4))) w7 fun t => K t w7 := by
    intro w z h k
    refine h.stAll 2 (ds := z.cs.toArray) rfl ag_api_Value rfl rfl (fun v hv => Enc.one z v hv) fun w7 h => ?_
    rw [rv_ag h 2 rfl ag_api_Value rfl]
    exact k _ (h.take 0)
  have hrd := rowD.read (h.here (i := 3) rfl)
  refine ⟨fun c2 => ?_, fun c2 => ?_⟩
  · rw [if_pos c2] at k
    obtain ⟨g4, o4, hix, hc⟩ := rowR.idx (P := Tryz.prog) hrd sl_s_api_Value (i := 0) (by simp)
    have hc : (cellsR g4 o4 y.cs).here w5 := hc
    rw [show (Value.int .i64 0) = .int .i64 ((0 : Nat) : Int) from rfl, hix, cellsR.ldAg hc ag_api_Value rfl]
    exact fin _ y h fun w' h => k _ _ h
  · rw [if_neg c2] at k
    have hl1 : (y :: r).length = r.length + 1 := rfl
    rw [rowR.len hrd sl_s_api_Value, bin_sub, wrap_id (by omega) (by omega)]
    obtain ⟨g4, o4, hix, hc⟩ := rowR.idx (P := Tryz.prog) hrd sl_s_api_Value (i := r.length) (by simp)
    have hla : (y :: r)[r.length] = (y :: r).getLast (by simp) := by rw [List.getLast_eq_getElem]; rfl
    rw [hla] at hc
    have hc : (cellsR g4 o4 ((y :: r).getLast (by simp)).cs).here w5 := hc
    rw [show (((y :: r).length : Int) - 1) = ((r.length : Nat) : Int) by omega, hix, cellsR.ldAg hc ag_api_Value rfl]
    exact fin _ _ h fun w' h => k _ _ h
end
end Go.Proofs.YtoebncgnjbblgaaGreatDoor
/-
  Accumulators: Result, Rows, Empty. No condition.
-/
--@auto
namespace Go.Proofs.YtoebncgnjbblgaaGreatDoor
open Go.RowKit
set_option maxRecDepth 100000

theorem len_nilmap {P : Program} {T k E : TypeId} {w : World} {Kp : Value → Prop} (hT : P.underlying T = some (.map k E)) {U : TypeId} {bs : Array Bool} : readK P (sBlt .len #[T] U bs #[.map none]) w Kp = Kp (.int .i64 0) := readK_eq (vN_run (by
  simp [Builtin.len_, run_underlying hT, goInt]))
theorem len_mapE {P : Program} {T k E : TypeId} {w : World} {Kp : Value → Prop} {m c : Nat} {l : List EntV} (h : (mapE m l c).here w) (hT : P.underlying T = some (.map k E)) {U : TypeId} {bs : Array Bool} : readK P (sBlt .len #[T] U bs #[.map (some m)]) w Kp = Kp (.int .i64 l.length) := readK_eq (vN_run (by
  have hb : w.heap[m]? = some (.map (l.map entV).toArray c) := h.2
  have hg := run_getObj (P := P) hb (by intro a b f h; cases h)
  simp [Builtin.len_, run_underlying hT, hg, goInt]))
theorem resAt_bound {x : ACC} : (resultS x).length = x.aggs.length := by simp [resultS]
theorem rows_take {N : Nat} {x : ACC} (hx : GoodA N x) (i : Nat) : ((x.bags.take i).map rowsAt).sum ≤ i * N := by
  induction i with
  | zero => simp
  | succ i ih =>
    by_cases hi : i < x.bags.length
    · rw [List.take_succ_eq_append_getElem hi, List.map_append, List.sum_append, Nat.add_mul, Nat.one_mul]
      have : rowsAt x.bags[i] ≤ N := by
        cases hb : x.bags[i] with
        | none => exact Nat.zero_le _
        | some b => exact (hx.wf i b (by rw [List.getElem?_eq_getElem hi, hb])).2
      simp only [List.map_cons, List.map_nil, List.sum_cons, List.sum_nil, Nat.add_zero]
      omega
    · rw [List.take_of_length_le (by omega)]
      rw [List.take_of_length_le (by omega)] at ih
      rw [Nat.add_mul]
      omega
section
variable {B : Base} {w : World} {σ : List Dat} {p N : Nat} {x : ACC}
theorem Result_m (a : accD p x B) (hx : GoodA N x) (hN : N ≤ 1000000) (hk : Kinds x.aggs) : Makes Tryz.prog B (sCall F_aggregate_Acc_Result #[ptr p]) fun u τ => τ = [rowD T_api_Value u (resultS x)] := by
  refine Makes.intro fun B' w K base h k => ?_
  replace a := base a
  refine aggregate_Acc_Result.up (aggregate_Acc_Result.call ?_)
  unfold aggregate_Acc_Result.pt
  obtain ⟨⟨⟨av, hav⟩, ⟨sv, hsv⟩, ⟨bv, hbv⟩, ms⟩, hms, hr⟩ := accD.read a
  have c0 : cellD p T_aggregate_Acc #[av, .int .i64 x.count, sv, bv] B' := hr 0 _ rfl
  have c1 : rowD T_api_Agg av x.aggs B' := hr 1 _ rfl
  have c2 : rowD T_int sv x.sums B' := hr 2 _ rfl
  have hfew := hx.few
  simp -zeta only [nil_ptr, field_addr f_aggregate_Acc_0, field_addr f_aggregate_Acc_1, field_addr f_aggregate_Acc_2, Nat.zero_add]
  rw [cellD.ld (h.hereB c0) sc_s_api_Agg (o := 0) (v := av) rfl, rowR.len (rowD.read c1) sl_s_api_Agg]
  have h := h.addNil ValD T_api_Value
  refine LOOP_intro (fun y w' => ∃ (i : Nat) (u : Value), i ≤ x.aggs.length ∧ y = (u, .int .i64 i, ()) ∧ Rel B' w' [rowD T_api_Value u ((List.range i).map (resAt x))])
    (fun y _ => x.aggs.length - (match y.2.1 with | .int _ n => n.toNat | _ => 0)) ⟨0, .slice none 0 0, Nat.zero_le _, rfl, h⟩ ?_
  clear h
  rintro y w1 ⟨i, u, hi, rfl, h⟩ next hnext
  simp -zeta only [bin_lss, ifB_dec]
  refine ⟨fun hlt => ?_, fun hge => ?_⟩
  case refine_2 =>
    have : i = x.aggs.length := by omega
    subst this
    exact k _ _ _ rfl h
  have hil : i < x.aggs.length := by omega
  refine LETJ_intro fun J hJ => ?_
  replace hJ : ∀ (w' : World) (u' : Value), Rel B' w' [rowD T_api_Value u' ((List.range i).map (resAt x) ++ [resAt x i])] → J (u', ()) w' := by
    intro w' u' h
    refine hJ _ _ ?_
    show pureK _ _ _
    rw [bin_add, wrap_id (by omega) (by omega)]
    have e : (List.range i).map (resAt x) ++ [resAt x i] = (List.range (i + 1)).map (resAt x) := by rw [List.range_succ, List.map_append]; rfl
    rw [e] at h
    exact hnext _ _ ⟨i + 1, u', hil, rfl, h⟩ (by simp only; omega)
  clear hnext k
  obtain ⟨g, o, hix, hc⟩ := rowR.idx (P := Tryz.prog) (rowD.read c1) sl_s_api_Agg hil
  have hig : x.aggs[i]? = some x.aggs[i] := List.getElem?_eq_getElem hil
  have hkg := hk _ (List.getElem_mem hil)
  have hc : cellsR g o x.aggs[i].cs B' := hc
  rw [hix, cellsR.ldAg (h.hereB hc) ag_api_Agg rfl]
  have hres : resAt x i = (if x.aggs[i].kind = 0 then vInt x.count else if x.aggs[i].kind = 1 then vInt ((x.sums[i]?).getD 0) else match x.bags[i]? with
    | some (some b) => bestS x.aggs[i] b
    | _ => vInt 0) := by
    unfold resAt
    rw [hig] <;> rfl
  generalize hG : x.aggs[i] = G at *
  refine h.allocAg (ds := G.cs.toArray) z_api_Agg rfl ag_api_Agg rfl (fun v hv => Enc.one G v hv) fun a1 w2 h => ?_
  have hlr : ((List.range i).map (resAt x)).length = i := by simp
  have push : ∀ (w' : World) (z : ValD), resAt x i = z → Rel B' w' ([rowD T_api_Value u ((List.range i).map (resAt x))] ++ [cellD a1 T_api_Agg G.cs.toArray]) → upK Tryz.prog (sBuildSlice T_s_api_Value 1 #[(0, z.v)]) w' fun t32 w6 => upK Tryz.prog (sBlt .append #[T_s_api_Value, T_s_api_Value] T_s_api_Value #[false, false] #[u, t32]) w6 fun t33 w7 => J (t33, ()) w7 := by
    intro w' z hz h
    refine h.push1 (α := ValD) 0 rfl z sl_s_api_Value (by decide) (by omega) (by omega) fun v' w2 h => hJ w2 v' ?_
    rw [hz]
    exact h.take 1
  rw [field_addr f_api_Agg_0, Nat.zero_add, h.ld 1 rfl sc_int (o := 0) (v := .int .i64 G.kind) rfl, bin_eql, ifB_dec]
  refine ⟨fun e0 => ?_, fun e0 => ?_⟩
  · rw [if_pos e0] at hres
    rw [cellD.ld (h.hereB c0) sc_int (o := 1) (v := .int .i64 x.count) rfl]
    refine h.ask (fun B2 own base2 => vInt_g _) fun w3 h => ?_
    exact push _ _ hres h
  rw [if_neg e0] at hres
  rw [bin_eql, ifB_dec]
  refine ⟨fun e1 => ?_, fun e1 => ?_⟩
  · rw [if_pos e1] at hres
    have hsl : i < x.sums.length := by rw [hx.sums]; exact hil
    rw [List.getElem?_eq_getElem hsl] at hres
    rw [cellD.ld (h.hereB c0) sc_s_int (o := 2) (v := sv) rfl]
    obtain ⟨g3, o3, hix, hc⟩ := rowR.idx (P := Tryz.prog) (rowD.read c2) sl_s_int hsl
    rw [hix, cellsR.ld0 (h.hereB hc) sc_int (v := .int .i64 x.sums[i]) rfl]
    refine h.ask (fun B2 own base2 => vInt_g _) fun w3 h => ?_
    exact push _ _ hres h
  · rw [if_neg e1] at hres
    have hbl : i < x.bags.length := by rw [hx.bags]; exact hil
    obtain ⟨b0, hb0⟩ : ∃ b0, x.bags[i]? = some b0 := ⟨_, List.getElem?_eq_getElem hbl⟩
    have hso := hx.ord i G b0 hig hb0
    have ho : ordB G = true := by
      unfold ordB
      rw [Bool.or_eq_true, decide_eq_true_eq, decide_eq_true_eq]
      omega
    rw [ho] at hso
    obtain ⟨b, rfl⟩ := Option.isSome_iff_exists.1 hso
    rw [hb0] at hres
    refine h.ask (fun B2 own base2 => best_g (base2 a) hx hN hb0 hig) fun w3 h => ?_
    exact push _ _ hres h
theorem Rows_g (a : accD p x B) (hx : GoodA N x) (hN : N ≤ 1000000) : Gives Tryz.prog B (sCall F_aggregate_Acc_Rows #[ptr p]) (.int .i64 (rowsS x)) := by
  refine Gives.intro fun B' w K base h k => ?_
  replace a := base a
  refine aggregate_Acc_Rows.up (aggregate_Acc_Rows.call ?_)
  unfold aggregate_Acc_Rows.pt
  obtain ⟨⟨⟨av, hav⟩, ⟨sv, hsv⟩, ⟨bv, hbv⟩, ms⟩, hms, hr⟩ := accD.read a
  have c0 : cellD p T_aggregate_Acc #[av, .int .i64 x.count, sv, bv] B' := hr 0 _ rfl
  have c3 : rowD T_map_api_Value_int bv ms B' := hr 3 _ rfl
  have c4 : bagsD ms x.bags B' := hr 4 _ rfl
  have hms : ms.length = x.bags.length := hms
  have hfew := hx.few
  have hbags := hx.bags
  simp -zeta only [nil_ptr, field_addr f_aggregate_Acc_3, Nat.zero_add]
  rw [cellD.ld (h.hereB c0) sc_s_map_api_Value_int (o := 3) (v := bv) rfl, rowR.len (rowD.read c3) sl_s_map_api_Value_int]
  refine LOOP_intro (fun y w' => ∃ i : Nat, i ≤ ms.length ∧ y = (.int .i64 (((x.bags.take i).map rowsAt).sum : Nat), .int .i64 i, ()) ∧ Rel B' w' [])
    (fun y _ => ms.length - (match y.2.1 with | .int _ n => n.toNat | _ => 0)) ⟨0, Nat.zero_le _, rfl, h⟩ ?_
  clear h
  rintro y w1 ⟨i, hi, rfl, h⟩ next hnext
  simp -zeta only [bin_lss, ifB_dec]
  refine ⟨fun hlt => ?_, fun hge => ?_⟩
  case refine_2 =>
    have e : i = x.bags.length := by omega
    subst e
    rw [List.take_length]
    exact k _ _ h
  have hil : i < ms.length := by omega
  have hbl : i < x.bags.length := by omega
  obtain ⟨g3, o3, hix, hc⟩ := rowR.idx (P := Tryz.prog) (rowD.read c3) sl_s_map_api_Value_int hil
  have hsum : ((x.bags.take (i + 1)).map rowsAt).sum = ((x.bags.take i).map rowsAt).sum + rowsAt x.bags[i] := by
    rw [List.take_succ_eq_append_getElem hbl, List.map_append, List.sum_append]
    simp
  have hle := rows_take hx (i + 1)
  have hle2 : (i + 1) * N ≤ 1001 * 1000000 := Nat.mul_le_mul (by omega) hN
  have hd : bagD ms[i] x.bags[i] B' := starL.get c4 (j := i) (by rw [List.getElem?_zipWith, List.getElem?_eq_getElem hil, List.getElem?_eq_getElem hbl])
  rw [hix, cellsR.ld0 (h.hereB hc) sc_map_api_Value_int (v := .map ms[i].p) rfl]
  have hlen : ∀ Kp : Value → Prop, readK Tryz.prog (sBlt .len #[T_map_api_Value_int] T_int #[false] #[.map ms[i].p]) w1 Kp = Kp (.int .i64 (rowsAt x.bags[i])) := by
    intro Kp
    generalize ms[i] = M at hd
    generalize x.bags[i] = bo at hd
    obtain ⟨m⟩ := M
    cases m with
    | none =>
      cases bo with
      | none => exact len_nilmap U_map_api_Value_int
      | some b => exact hd.elim
    | some m =>
      cases bo with
      | none => exact hd.elim
      | some b =>
        have hd : mapE m b.1 b.2 B' := hd
        exact len_mapE (h.hereB hd) U_map_api_Value_int
  rw [hlen, bin_add, wrap_id (by omega) (by omega), bin_add, wrap_id (by omega) (by omega)]
  refine hnext _ _ ⟨i + 1, hil, ?_, h⟩ (by simp only; omega)
  rw [hsum]
  simp
theorem empty1_g (n : Int) : Gives Tryz.prog B (sCallV (.func (.func F_aggregate_Acc_Empty_1) #[] #[]) #[.int .i64 n]) (.bool (decide (n ≠ 0))) := by
  refine Gives.intro fun B' w K base h k => ?_
  refine call_v ?_
  show upK Tryz.prog (sCall F_aggregate_Acc_Empty_1 #[.int .i64 n]) w K
  refine aggregate_Acc_Empty_1.up (aggregate_Acc_Empty_1.call ?_)
  unfold aggregate_Acc_Empty_1.pt
  rw [bin_neq]
  simpa using k _ _ h
theorem Empty_g (a : accD p x B) (hx : GoodA N x) (hN : N ≤ 1000000) : Gives Tryz.prog B (sCall F_aggregate_Acc_Empty #[ptr p]) (.bool (emptyS x)) := by
  refine Gives.intro fun B' w K base h k => ?_
  replace a := base a
  refine aggregate_Acc_Empty.up (aggregate_Acc_Empty.call ?_)
  unfold aggregate_Acc_Empty.pt
  obtain ⟨⟨⟨av, hav⟩, ⟨sv, hsv⟩, ⟨bv, hbv⟩, ms⟩, hms, hr⟩ := accD.read a
  have c0 : cellD p T_aggregate_Acc #[av, .int .i64 x.count, sv, bv] B' := hr 0 _ rfl
  have c2 : rowD T_int sv x.sums B' := hr 2 _ rfl
  simp -zeta only [nil_ptr, field_addr f_aggregate_Acc_1, field_addr f_aggregate_Acc_2, Nat.zero_add]
  unfold emptyS at k
  rw [cellD.ld (h.hereB c0) sc_int (o := 1) (v := .int .i64 x.count) rfl, bin_eql, ifB_dec]
  refine ⟨fun e0 => ?_, fun e0 => ?_⟩
  case refine_2 =>
    rw [decide_eq_false e0, Bool.false_and] at k
    exact k _ _ h
  rw [decide_eq_true e0, Bool.true_and] at k
  refine h.ask (fun B2 own base2 => Rows_g (base2 a) hx hN) fun w1 h => ?_
  rw [bin_eql, ifB_dec]
  refine ⟨fun e1 => ?_, fun e1 => ?_⟩
  case refine_2 =>
    rw [decide_eq_false (fun hh => e1 (by rw [hh]; rfl)), Bool.false_and] at k
    exact k _ _ h
  rw [decide_eq_true (by omega), Bool.true_and] at k
  rw [cellD.ld (h.hereB c0) sc_s_int (o := 2) (v := sv) rfl]
  have hs := hx.sums
  have hf := hx.few
  refine h.ask (fun B2 own base2 => gslices_ContainsFunc_s_int_int (rowD.read (base2 c2)) (by omega) (fun n => decide (n ≠ 0)) fun B3 base3 n _ => empty1_g n) fun w2 h => ?_
  rw [un_not]
  exact k _ _ h
end
end Go.Proofs.YtoebncgnjbblgaaGreatDoor
