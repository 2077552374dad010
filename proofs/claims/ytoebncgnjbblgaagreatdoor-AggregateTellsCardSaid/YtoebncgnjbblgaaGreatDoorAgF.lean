/-
  The reference's accumulators, plain: lists of counted values. No condition.
-/
import Derived.Test.YtoebncgnjbblgaaGreatDoorAgO
namespace Go.Proofs.YtoebncgnjbblgaaGreatDoor
open Go.RowKit
set_option maxRecDepth 100000

abbrev CntD := D_errataref30_Counted
def getF (l : List CntD) (u : ValD) : Option Int := (l.find? fun x => decide (x.v_ = u)).map (·.n)
theorem getF_nil (u : ValD) : getF [] u = none := rfl
theorem getF_cons (x : CntD) (l : List CntD) (u : ValD) : getF (x :: l) u = if x.v_ = u then some x.n else getF l u := by
  unfold getF
  rw [List.find?_cons]
  by_cases c : x.v_ = u
  · rw [if_pos c, decide_eq_true c]; rfl
  · rw [if_neg c, decide_eq_false c]
theorem getF_none {l : List CntD} {u : ValD} (h : ∀ x ∈ l, x.v_ ≠ u) : getF l u = none := by
  induction l with
  | nil => rfl
  | cons x l ih => rw [getF_cons, if_neg (h x List.mem_cons_self)]; exact ih fun y hy => h y (List.mem_cons_of_mem _ hy)
theorem getF_some {l : List CntD} {u : ValD} {n : Int} (h : getF l u = some n) : ∃ x ∈ l, x.v_ = u ∧ x.n = n := by
  induction l with
  | nil => cases h
  | cons x l ih =>
    rw [getF_cons] at h
    by_cases c : x.v_ = u
    · rw [if_pos c] at h
      exact ⟨x, List.mem_cons_self, c, Option.some.inj h⟩
    · rw [if_neg c] at h
      obtain ⟨y, hy, h2⟩ := ih h
      exact ⟨y, List.mem_cons_of_mem _ hy, h2⟩
/-- A bag of the reference that is right. -/
structure BagF (l : List CntD) : Prop where
  ord : l.Pairwise fun a b => compareV a.v_ b.v_ < 0
  nz : ∀ x ∈ l, x.n ≠ 0
theorem BagF.nil : BagF [] := ⟨List.Pairwise.nil, fun x hx => by cases hx⟩
theorem BagF.tail {x : CntD} {l : List CntD} (h : BagF (x :: l)) : BagF l ∧ ∀ y ∈ l, compareV x.v_ y.v_ < 0 := by
  obtain ⟨h1, h2⟩ := List.pairwise_cons.1 h.ord
  exact ⟨⟨h2, fun y hy => h.nz y (List.mem_cons_of_mem _ hy)⟩, h1⟩
theorem cmpV_self (v : ValD) : compareV v v = 0 := (compareV_ord.eq v v).2 rfl
theorem cmpV_ne {a b : ValD} (h : compareV a b < 0) : a ≠ b := fun e => by rw [e, cmpV_self] at h; omega
/-- What the loop does with one element. -/
def withStep (v : ValD) (n : Int) (st : List CntD × Bool) (x : CntD) : List CntD × Bool :=
  let c := compareV v x.v_
  let s1 := if c < 0 ∧ st.2 = false then (st.1 ++ [⟨v, n⟩], true) else st
  let x1 : CntD := if c = 0 then ⟨x.v_, W64 (x.n + n)⟩ else x
  let d := if c = 0 then true else s1.2
  (if x1.n ≠ 0 then s1.1 ++ [x1] else s1.1, d)
def withL (v : ValD) (n : Int) (l : List CntD) : List CntD × Bool := l.foldl (withStep v n) ([], false)
def withS (l : List CntD) (v : ValD) (n : Int) : List CntD := if (withL v n l).2 = true then (withL v n l).1 else (withL v n l).1 ++ [⟨v, n⟩]
theorem withL_succ (v : ValD) (n : Int) {l : List CntD} {i : Nat} (h : i < l.length) : withL v n (l.take (i + 1)) = withStep v n (withL v n (l.take i)) l[i] := by
  unfold withL
  rw [List.take_add_one, List.getElem?_eq_getElem h, List.foldl_append]
  rfl
/-- The same, by recursion. -/
def withR (v : ValD) (n : Int) : List CntD → List CntD
  | [] => [⟨v, n⟩]
  | x :: l => if compareV v x.v_ < 0 then ⟨v, n⟩ :: x :: l else if compareV v x.v_ = 0 then (if W64 (x.n + n) ≠ 0 then ⟨x.v_, W64 (x.n + n)⟩ :: l else l) else x :: withR v n l
theorem withL_done {v : ValD} {n : Int} : ∀ {l : List CntD} {out : List CntD}, BagF l → (∀ y ∈ l, compareV v y.v_ < 0) → l.foldl (withStep v n) (out, true) = (out ++ l, true)
  | [], out, _, _ => by simp
  | x :: l, out, h, hv => by
    have h1 := hv x List.mem_cons_self
    have hx := h.nz x List.mem_cons_self
    have e : withStep v n (out, true) x = (out ++ [x], true) := by
      have hne : compareV v x.v_ ≠ 0 := by omega
      simp [withStep, hne, hx]
    rw [List.foldl_cons, e, withL_done h.tail.1 fun y hy => hv y (List.mem_cons_of_mem _ hy), List.append_assoc]
    rfl
theorem with_eq {v : ValD} {n : Int} : ∀ {l : List CntD} {out : List CntD}, BagF l → (let st := l.foldl (withStep v n) (out, false); if st.2 = true then st.1 else st.1 ++ [⟨v, n⟩]) = out ++ withR v n l
  | [], out, _ => by simp [withR]
  | x :: l, out, h => by
    have hx := h.nz x List.mem_cons_self
    have ht := h.tail
    rw [List.foldl_cons]
    by_cases c : compareV v x.v_ < 0
    · have e : withStep v n (out, false) x = (out ++ [⟨v, n⟩] ++ [x], true) := by
        have hne : compareV v x.v_ ≠ 0 := by omega
        simp [withStep, hne, hx, c]
      rw [e, withL_done ht.1 fun y hy => compareV_ord.strict (Int.le_of_lt c) (Int.le_of_lt (ht.2 y hy)) (.inl c)]
      simp only [if_true]
      rw [withR, if_pos c]
      simp
    · by_cases c0 : compareV v x.v_ = 0
      · have ev : v = x.v_ := (compareV_ord.eq _ _).1 c0
        have e : withStep v n (out, false) x = (if W64 (x.n + n) ≠ 0 then out ++ [⟨x.v_, W64 (x.n + n)⟩] else out, true) := by
          simp [withStep, c0]
        rw [e, withL_done ht.1 fun y hy => by rw [ev]; exact ht.2 y hy]
        simp only [if_true]
        rw [withR, if_neg c, if_pos c0]
        by_cases z : W64 (x.n + n) ≠ 0
        · rw [if_pos z, if_pos z]; simp
        · rw [if_neg z, if_neg z]
      · have e : withStep v n (out, false) x = (out ++ [x], false) := by
          simp [withStep, c0, hx, c]
        have := with_eq (v := v) (n := n) (out := out ++ [x]) ht.1
        rw [e, this, withR, if_neg c, if_neg c0]
        simp
theorem withS_eq {v : ValD} {n : Int} {l : List CntD} (h : BagF l) : withS l v n = withR v n l := by
  have := with_eq (v := v) (n := n) (out := []) h
  rw [List.nil_append] at this
  exact this
theorem withR_mem {v : ValD} {n : Int} : ∀ {l : List CntD} {x : CntD}, x ∈ withR v n l → x.v_ = v ∨ ∃ y ∈ l, y.v_ = x.v_
  | [], x, h => .inl (by simp [withR] at h; rw [h])
  | y :: l, x, h => by
    rw [withR] at h
    split at h
    · rcases List.mem_cons.1 h with rfl | h
      · exact .inl rfl
      · exact .inr ⟨x, h, rfl⟩
    · split at h
      · split at h
        · rcases List.mem_cons.1 h with rfl | h
          · exact .inr ⟨y, List.mem_cons_self, rfl⟩
          · exact .inr ⟨x, List.mem_cons_of_mem _ h, rfl⟩
        · exact .inr ⟨x, List.mem_cons_of_mem _ h, rfl⟩
      · rcases List.mem_cons.1 h with rfl | h
        · exact .inr ⟨x, List.mem_cons_self, rfl⟩
        · rcases withR_mem h with h | ⟨z, hz, e⟩
          · exact .inl h
          · exact .inr ⟨z, List.mem_cons_of_mem _ hz, e⟩
theorem withR_ok {v : ValD} {n : Int} (hn : n ≠ 0) (hi : inI n) : ∀ {l : List CntD}, BagF l → BagF (withR v n l) ∧ ∀ u, getF (withR v n l) u = if u = v then nz (W64 ((getF l v).getD 0 + n)) else getF l u
  | [], _ => by
    refine ⟨⟨by simp [withR], fun x hx => ?_⟩, fun u => ?_⟩
    · simp [withR] at hx
      rw [hx]
      exact hn
    · rw [withR, getF_cons, getF_nil, getF_nil]
      simp only
      by_cases c : u = v
      · rw [if_pos c.symm, if_pos c]
        show some n = nz (W64 (0 + n))
        rw [Int.zero_add, W_id hi]
        unfold nz
        rw [if_neg hn]
      · rw [if_neg (fun h => c h.symm), if_neg c]
  | x :: l, h => by
    have ht := h.tail
    rw [withR]
    by_cases c : compareV v x.v_ < 0
    · rw [if_pos c]
      have hall : ∀ y ∈ x :: l, compareV v y.v_ < 0 := fun y hy => by
        rcases List.mem_cons.1 hy with rfl | hy
        · exact c
        · exact compareV_ord.strict (Int.le_of_lt c) (Int.le_of_lt (ht.2 y hy)) (.inl c)
      refine ⟨⟨List.pairwise_cons.2 ⟨hall, h.ord⟩, fun y hy => ?_⟩, fun u => ?_⟩
      · rcases List.mem_cons.1 hy with rfl | hy
        · exact hn
        · exact h.nz y hy
      · rw [getF_cons]
        simp only
        by_cases e : u = v
        · rw [if_pos e.symm, if_pos e, getF_none fun y hy => (cmpV_ne (hall y hy)).symm]
          show some n = nz (W64 (0 + n))
          rw [Int.zero_add, W_id hi]
          unfold nz
          rw [if_neg hn]
        · rw [if_neg (fun h => e h.symm), if_neg e]
    · rw [if_neg c]
      by_cases c0 : compareV v x.v_ = 0
      · have ev : v = x.v_ := (compareV_ord.eq _ _).1 c0
        subst ev
        rw [if_pos c0]
        by_cases z : W64 (x.n + n) ≠ 0
        · rw [if_pos z]
          refine ⟨⟨List.pairwise_cons.2 ⟨ht.2, ht.1.ord⟩, fun y hy => ?_⟩, fun u => ?_⟩
          · rcases List.mem_cons.1 hy with rfl | hy
            · exact z
            · exact ht.1.nz y hy
          · rw [getF_cons, getF_cons, getF_cons]
            simp only
            by_cases e : u = x.v_
            · rw [if_pos e.symm, if_pos e, if_pos trivial]
              show _ = nz (W64 (x.n + n))
              unfold nz
              rw [if_neg z]
            · rw [if_neg (fun h => e h.symm), if_neg e, if_neg (fun h => e h.symm)]
        · rw [if_neg z]
          refine ⟨ht.1, fun u => ?_⟩
          rw [getF_cons, getF_cons]
          by_cases e : u = x.v_
          · rw [if_pos e, if_pos rfl, e, getF_none fun y hy => (cmpV_ne (ht.2 y hy)).symm]
            show _ = nz (W64 (x.n + n))
            unfold nz
            rw [if_pos (Classical.not_not.1 z)]
          · rw [if_neg e, if_neg (fun h => e h.symm)]
      · rw [if_neg c0]
        obtain ⟨h1, h2⟩ := withR_ok hn hi (v := v) ht.1
        have cx : compareV x.v_ v < 0 := by
          have := compareV_ord.anti v x.v_
          omega
        have nev : x.v_ ≠ v := cmpV_ne cx
        refine ⟨⟨List.pairwise_cons.2 ⟨fun y hy => ?_, h1.ord⟩, fun y hy => ?_⟩, fun u => ?_⟩
        · rcases withR_mem hy with e | ⟨z, hz, e⟩
          · rw [e]; exact cx
          · rw [← e]; exact ht.2 z hz
        · rcases List.mem_cons.1 hy with rfl | hy
          · exact h.nz y List.mem_cons_self
          · exact h1.nz y hy
        · rw [getF_cons, getF_cons, getF_cons, if_neg nev, h2]
          by_cases e : u = v
          · rw [if_pos e, if_pos e, if_neg (fun h => nev (h.trans e))]
          · rw [if_neg e, if_neg e]
/-- With, as one sees it from outside. -/
theorem withS_ok {v : ValD} {n : Int} (hn : n ≠ 0) (hi : inI n) {l : List CntD} (h : BagF l) : BagF (withS l v n) ∧ ∀ u, getF (withS l v n) u = if u = v then nz (W64 ((getF l v).getD 0 + n)) else getF l u := by
  rw [withS_eq h]
  exact withR_ok hn hi h
end Go.Proofs.YtoebncgnjbblgaaGreatDoor
/-
  The reference's accumulators, plain: they are those of the program. No condition.
-/
namespace Go.Proofs.YtoebncgnjbblgaaGreatDoor
open Go.RowKit
set_option maxRecDepth 100000

structure RF where
  aggs : List AggD
  n : Int
  sums : List Int
  bags : List (List CntD)
def refBag (b : Bag) : List CntD := (keysV b).map fun u => ⟨u, cntV b u⟩
def refO (b : Option Bag) : List CntD := match b with
  | none => []
  | some b => refBag b
/-- The reference's accumulator of what the program's holds. -/
def refOf (x : ACC) : RF := ⟨x.aggs, x.count, x.sums, x.bags.map refO⟩

theorem keysV_sorted {b : Bag} (h : WfE b.1 b.2) : (keysV b).Pairwise fun u v => compareV u v < 0 := by
  have hn : (keysV b).Nodup := keysV_nodup h
  have hs : (keysV b).Pairwise fun u v => compareV u v ≤ 0 := by
    have := sortV_sorted (b.1.map (·.1))
    exact this
  refine List.Pairwise.imp₂ (R := fun u v => compareV u v ≤ 0) (S := fun u v => u ≠ v) (fun u v h1 h2 => ?_) hs (List.nodup_iff_pairwise_ne.1 hn)
  have : compareV u v ≠ 0 := fun e => h2 ((compareV_ord.eq u v).1 e)
  omega
theorem refBag_ok {b : Bag} (h : WfE b.1 b.2) (hz : ∀ u ∈ keysV b, cntV b u ≠ 0) : BagF (refBag b) := by
  refine ⟨?_, fun x hx => ?_⟩
  · unfold refBag
    rw [List.pairwise_map]
    exact keysV_sorted h
  · obtain ⟨u, hu, rfl⟩ := List.mem_map.1 hx
    exact hz u hu
theorem refBag_get {b : Bag} (h : WfE b.1 b.2) (u : ValD) : getF (refBag b) u = getE u b.1 := by
  have key : ∀ l : List ValD, getF (l.map fun u => (⟨u, cntV b u⟩ : CntD)) u = if u ∈ l then some (cntV b u) else none := by
    intro l
    induction l with
    | nil => rfl
    | cons v l ih =>
      rw [List.map_cons, getF_cons, ih]
      simp only
      by_cases c : v = u
      · subst c; rw [if_pos rfl, if_pos List.mem_cons_self]
      · rw [if_neg c]
        by_cases m : u ∈ l
        · rw [if_pos m, if_pos (List.mem_cons_of_mem _ m)]
        · rw [if_neg m, if_neg (fun hh => (List.mem_cons.1 hh).elim (fun e => c e.symm) m)]
  unfold refBag
  rw [key]
  have hm : u ∈ keysV b ↔ getE u b.1 ≠ none := by
    unfold keysV sortV
    rw [(List.mergeSort_perm _ _).mem_iff, List.mem_map, Ne, getE_none]
    constructor
    · rintro ⟨e, he, rfl⟩ hh; exact hh e he rfl
    · intro hh
      exact Classical.byContradiction fun hno => hh fun e he hu => hno ⟨e, he, hu⟩
  cases hg : getE u b.1 with
  | none => rw [if_neg (fun hh => hm.1 hh hg)]
  | some n =>
    rw [if_pos (hm.2 (by rw [hg]; exact fun hh => by cases hh))]
    unfold cntV
    rw [hg]
    rfl
/-- Two right bags that say the same are the same. -/
theorem bagF_ext : ∀ {l m : List CntD}, BagF l → BagF m → (∀ u, getF l u = getF m u) → l = m
  | [], [], _, _, _ => rfl
  | [], y :: m, _, _, h => by have := h y.v_; rw [getF_cons, if_pos rfl] at this; cases this
  | x :: l, [], _, _, h => by have := h x.v_; rw [getF_cons, if_pos rfl] at this; cases this
  | x :: l, y :: m, hl, hm, h => by
    have tl := hl.tail
    have tm := hm.tail
    have hv : x.v_ = y.v_ := by
      refine Classical.byContradiction fun hne => ?_
      have h1 := h x.v_
      rw [getF_cons, if_pos rfl, getF_cons, if_neg (fun e => hne e.symm)] at h1
      obtain ⟨z, hz, e1, _⟩ := getF_some h1.symm
      have h2 := h y.v_
      rw [getF_cons, if_neg hne, getF_cons, if_pos rfl] at h2
      obtain ⟨z2, hz2, e2, _⟩ := getF_some h2
      have c1 := tm.2 z hz
      have c2 := tl.2 z2 hz2
      rw [e1] at c1
      rw [e2] at c2
      have := compareV_ord.anti x.v_ y.v_
      omega
    have hn : x.n = y.n := by
      have h1 := h x.v_
      rw [getF_cons, if_pos rfl, getF_cons, if_pos hv.symm] at h1
      exact Option.some.inj h1
    have e : x = y := by cases x; cases y; simp_all
    subst e
    rw [bagF_ext tl.1 tm.1 fun u => ?_]
    have h1 := h u
    rw [getF_cons, getF_cons] at h1
    by_cases c : x.v_ = u
    · subst c
      rw [getF_none fun z hz => (cmpV_ne (tl.2 z hz)).symm, getF_none fun z hz => (cmpV_ne (tm.2 z hz)).symm]
    · rwa [if_neg c, if_neg c] at h1

/-! ### What is done to it -/
def addAtF (row : List ValD) (n : Int) (X : RF) (i : Nat) : RF :=
  match X.aggs[i]? with
  | none => X
  | some g =>
    if g.kind = 1 then { X with sums := X.sums.modify i fun s => W64 (s + W64 (n * (atS row g.col).n)) }
    else if ordB g then { X with bags := X.bags.modify i fun l => withS l (atS row g.col) n }
    else X
def addKF (row : List ValD) (n : Int) (X : RF) (k : Nat) : RF := (List.range k).foldl (addAtF row n) { X with n := W64 (X.n + n) }
def addF (X : RF) (row : List ValD) (n : Int) : RF := if n = 0 then X else addKF row n X X.aggs.length
theorem addKF_succ (row : List ValD) (n : Int) (X : RF) (k : Nat) : addKF row n X (k + 1) = addAtF row n (addKF row n X k) k := by
  unfold addKF
  rw [List.range_succ, List.foldl_append]
  rfl
theorem addAtF_same (row : List ValD) (n : Int) (X : RF) (i : Nat) : (addAtF row n X i).aggs = X.aggs ∧ (addAtF row n X i).n = X.n ∧ (addAtF row n X i).sums.length = X.sums.length ∧ (addAtF row n X i).bags.length = X.bags.length := by
  unfold addAtF
  split
  · exact ⟨rfl, rfl, rfl, rfl⟩
  · split
    · exact ⟨rfl, rfl, by simp, rfl⟩
    · split
      · exact ⟨rfl, rfl, rfl, by simp⟩
      · exact ⟨rfl, rfl, rfl, rfl⟩
theorem addKF_same (row : List ValD) (n : Int) (X : RF) (k : Nat) : (addKF row n X k).aggs = X.aggs ∧ (addKF row n X k).n = W64 (X.n + n) ∧ (addKF row n X k).sums.length = X.sums.length ∧ (addKF row n X k).bags.length = X.bags.length := by
  induction k with
  | zero => exact ⟨rfl, rfl, rfl, rfl⟩
  | succ k ih =>
    obtain ⟨h1, h2, h3, h4⟩ := addAtF_same row n (addKF row n X k) k
    rw [addKF_succ]
    exact ⟨h1.trans ih.1, h2.trans ih.2.1, h3.trans ih.2.2.1, h4.trans ih.2.2.2⟩
def bagAtF (row : List ValD) (n : Int) (g : AggD) (l : List CntD) : List CntD := if g.kind = 1 then l else if ordB g then withS l (atS row g.col) n else l
theorem addAtF_get (row : List ValD) (n : Int) (X : RF) (i j : Nat) :
    (addAtF row n X i).sums[j]? = (if i = j then (X.sums[j]?).map fun s => match X.aggs[i]? with | some g => sumAt row n g s | none => s else X.sums[j]?) ∧
    (addAtF row n X i).bags[j]? = (if i = j then (X.bags[j]?).map fun b => match X.aggs[i]? with | some g => bagAtF row n g b | none => b else X.bags[j]?) := by
  unfold addAtF sumAt bagAtF
  cases hg : X.aggs[i]? with
  | none => by_cases c : i = j <;> simp [c]
  | some g =>
    by_cases h1 : g.kind = 1
    · by_cases c : i = j <;> simp [h1, c, List.getElem?_modify]
    · by_cases h2 : ordB g = true
      · by_cases c : i = j <;> simp [h1, h2, c, List.getElem?_modify]
      · have h2 : ordB g = false := by simpa using h2
        by_cases c : i = j <;> simp [h1, h2, c]
theorem addKF_get (row : List ValD) (n : Int) (X : RF) (k j : Nat) :
    (addKF row n X k).sums[j]? = (if j < k then (X.sums[j]?).map fun s => match X.aggs[j]? with | some g => sumAt row n g s | none => s else X.sums[j]?) ∧
    (addKF row n X k).bags[j]? = (if j < k then (X.bags[j]?).map fun b => match X.aggs[j]? with | some g => bagAtF row n g b | none => b else X.bags[j]?) := by
  induction k with
  | zero => exact ⟨rfl, rfl⟩
  | succ k ih =>
    rw [addKF_succ, (addAtF_get row n _ k j).1, (addAtF_get row n _ k j).2, (addKF_same row n X k).1, ih.1, ih.2]
    by_cases c : k = j
    · subst c
      rw [if_pos rfl, if_pos rfl, if_neg (Nat.lt_irrefl k), if_neg (Nat.lt_irrefl k), if_pos (Nat.lt_succ_self k), if_pos (Nat.lt_succ_self k)]
      exact ⟨rfl, rfl⟩
    · rw [if_neg c, if_neg c]
      by_cases c2 : j < k
      · rw [if_pos c2, if_pos c2, if_pos (by omega), if_pos (by omega)]; exact ⟨rfl, rfl⟩
      · rw [if_neg c2, if_neg c2, if_neg (by omega), if_neg (by omega)]; exact ⟨rfl, rfl⟩
/-- The reference's accumulator of these changes. -/
structure IsRef (aggs : List AggD) (L : List Chg) (X : RF) : Prop where
  same : X.aggs = aggs
  count : X.n = W64 (tot L fun _ => 1)
  slen : X.sums.length = aggs.length
  blen : X.bags.length = aggs.length
  sums : ∀ (i : Nat) (g : AggD), aggs[i]? = some g → X.sums[i]? = some (if g.kind = 1 then W64 (tot L (fSum g.col)) else 0)
  none_ : ∀ (i : Nat) (g : AggD), aggs[i]? = some g → ordB g = false → X.bags[i]? = some []
  bags : ∀ (i : Nat) (g : AggD) (l : List CntD), aggs[i]? = some g → ordB g = true → X.bags[i]? = some l → BagF l ∧ ∀ v, getF l v = nz (W64 (tot L (fCnt g.col v)))
def newF (aggs : List AggD) : RF := ⟨aggs, 0, List.replicate aggs.length 0, List.replicate aggs.length []⟩
theorem isRef_new (aggs : List AggD) : IsRef aggs [] (newF aggs) := by
  refine ⟨rfl, ?_, by simp [newF], by simp [newF], fun i g hg => ?_, fun i g hg _ => ?_, fun i g l hg _ hl => ?_⟩
  · rw [tot_nil, W_zero]; rfl
  · have hl : i < aggs.length := (List.getElem?_eq_some_iff.1 hg).1
    show (List.replicate aggs.length (0 : Int))[i]? = _
    rw [List.getElem?_replicate, if_pos hl, tot_nil, W_zero]
    split <;> rfl
  · have hl : i < aggs.length := (List.getElem?_eq_some_iff.1 hg).1
    show (List.replicate aggs.length ([] : List CntD))[i]? = _
    rw [List.getElem?_replicate, if_pos hl]
  · have hl : (List.replicate aggs.length ([] : List CntD))[i]? = some l := hl
    have := (List.mem_replicate.1 (List.mem_of_getElem? hl)).2
    subst this
    refine ⟨BagF.nil, fun v => ?_⟩
    rw [tot_nil, W_zero]
    rfl
theorem IsRef.add {aggs : List AggD} {L : List Chg} {X : RF} (h : IsRef aggs L X) (row : List ValD) {n : Int} (hn : inI n) : IsRef aggs (L ++ [(row, n)]) (addF X row n) := by
  unfold addF
  by_cases c0 : n = 0
  · rw [if_pos c0]
    subst c0
    have e : ∀ f, tot (L ++ [(row, 0)]) f = tot L f := fun f => by rw [tot_append, tot_one, Int.zero_mul, Int.add_zero]
    exact ⟨h.same, by rw [e]; exact h.count, h.slen, h.blen, fun i g hg => by rw [e]; exact h.sums i g hg, h.none_, fun i g l hg ho hl => by
      obtain ⟨h1, h2⟩ := h.bags i g l hg ho hl
      exact ⟨h1, fun v => by rw [e]; exact h2 v⟩⟩
  rw [if_neg c0]
  obtain ⟨s1, s2, s3, s4⟩ := addKF_same row n X X.aggs.length
  have lt : ∀ (i : Nat) (g : AggD), aggs[i]? = some g → X.aggs[i]? = some g ∧ i < X.aggs.length := fun i g hg => by
    rw [h.same]
    exact ⟨hg, (List.getElem?_eq_some_iff.1 hg).1⟩
  refine ⟨s1.trans h.same, ?_, s3.trans h.slen, s4.trans h.blen, fun i g hg => ?_, fun i g hg ho => ?_, fun i g l hg ho hl => ?_⟩
  · rw [s2, h.count, W_addl, tot_append, tot_one, Int.mul_one]
  · obtain ⟨hga, hil⟩ := lt i g hg
    rw [(addKF_get row n X _ i).1, if_pos hil, hga, h.sums i g hg]
    show some (sumAt row n g _) = _
    unfold sumAt
    by_cases c : g.kind = 1
    · rw [if_pos c, if_pos c, if_pos c, W_addr, W_addl, tot_append, tot_one]
      rfl
    · rw [if_neg c, if_neg c, if_neg c]
  · obtain ⟨hga, hil⟩ := lt i g hg
    rw [(addKF_get row n X _ i).2, if_pos hil, hga, h.none_ i g hg ho]
    show some (bagAtF row n g []) = _
    unfold bagAtF
    rw [ho]
    split <;> rfl
  · obtain ⟨hga, hil⟩ := lt i g hg
    rw [(addKF_get row n X _ i).2, if_pos hil, hga] at hl
    cases hb : X.bags[i]? with
    | none => rw [hb] at hl; cases hl
    | some l0 =>
      rw [hb] at hl
      have hl : bagAtF row n g l0 = l := by simpa using hl
      have k1 : g.kind ≠ 1 := fun k1 => by
        have : ordB g = false := by unfold ordB; rw [decide_eq_false (by omega), decide_eq_false (by omega)]; rfl
        rw [this] at ho
        cases ho
      unfold bagAtF at hl
      rw [if_neg k1, if_pos ho] at hl
      subst hl
      obtain ⟨h1, h2⟩ := h.bags i g l0 hg ho hb
      obtain ⟨h3, h4⟩ := withS_ok (v := atS row g.col) c0 hn h1
      refine ⟨h3, fun v => ?_⟩
      rw [h4, h2, h2, nz_getD, W_addl, tot_append, tot_one]
      by_cases e : v = atS row g.col
      · rw [if_pos e]
        subst e
        unfold fCnt
        rw [if_pos rfl, Int.mul_one]
      · rw [if_neg e]
        have : fCnt g.col v row = 0 := by unfold fCnt; rw [if_neg (fun hh => e hh.symm)]
        rw [this, Int.mul_zero, Int.add_zero]
/-- Both accumulators of the same changes: the one is the other's. -/
theorem IsRef.is {aggs : List AggD} {L : List Chg} {X : RF} {x : ACC} {N : Nat} (h : IsRef aggs L X) (hx : IsAcc aggs L x) (gx : GoodA N x) : X = refOf x := by
  obtain ⟨A, n, S, Bs⟩ := X
  have e1 : A = x.aggs := h.same.trans hx.same.symm
  have e2 : n = x.count := h.count.trans hx.count.symm
  have e3 : S = x.sums := by
    apply List.ext_getElem?
    intro i
    cases hg : aggs[i]? with
    | none =>
      have hl := List.getElem?_eq_none_iff.1 hg
      rw [List.getElem?_eq_none (by have := h.slen; simp only at this; omega), List.getElem?_eq_none (by rw [gx.sums, hx.same]; exact hl)]
    | some g => exact (h.sums i g hg).trans (hx.sums i g hg).symm
  have e4 : Bs = x.bags.map refO := by
    apply List.ext_getElem?
    intro i
    rw [List.getElem?_map]
    cases hg : aggs[i]? with
    | none =>
      have hl := List.getElem?_eq_none_iff.1 hg
      rw [List.getElem?_eq_none (by have := h.blen; simp only at this; omega), List.getElem?_eq_none (by rw [gx.bags, hx.same]; exact hl)]
      rfl
    | some g =>
      have hl : i < aggs.length := (List.getElem?_eq_some_iff.1 hg).1
      have hgx : x.aggs[i]? = some g := by rw [hx.same]; exact hg
      obtain ⟨b, hb⟩ : ∃ b, x.bags[i]? = some b := ⟨_, List.getElem?_eq_getElem (by rw [gx.bags, hx.same]; exact hl)⟩
      have o := gx.ord i g b hgx hb
      rw [hb]
      cases b with
      | none => exact h.none_ i g hg o.symm
      | some b =>
        have hwf := (gx.wf i b hb).1
        obtain ⟨l, hl⟩ : ∃ l, Bs[i]? = some l := ⟨_, List.getElem?_eq_getElem (by have := h.blen; simp only at this; omega)⟩
        obtain ⟨h1, h2⟩ := h.bags i g l hg o.symm hl
        rw [hl]
        show some l = some (refBag b)
        refine congrArg some (bagF_ext h1 (refBag_ok hwf fun u hu => ?_) fun u => ?_)
        · obtain ⟨k1, k2⟩ := hx.keys gx hg hb u
          rw [k2]
          exact k1.1 hu
        · rw [h2, refBag_get hwf, hx.bags i g b hg hb]
  subst e1 e2 e3 e4
  rfl

/-! ### Results -/
def encAtF (X : RF) (i : Nat) : Bs := match X.aggs[i]? with
  | none => []
  | some g => (if g.kind = 1 then encI ((X.sums[i]?).getD 0) else []) ++ (if ordB g then encI ((X.bags[i]?).getD []).length ++ ((X.bags[i]?).getD []).flatMap (fun x => encT (encV1 x.v_) ++ encI x.n) else [])
def encF (X : RF) : Bs := encI X.n ++ (List.range X.aggs.length).flatMap (encAtF X)
theorem encF_of {N : Nat} {x : ACC} (h : GoodA N x) : encF (refOf x) = encA x := by
  unfold encF encA
  show encI x.count ++ (List.range x.aggs.length).flatMap (encAtF (refOf x)) = _
  congr 1
  rw [List.flatMap_def, List.flatMap_def]
  congr 1
  apply List.map_congr_left
  intro i hi
  have hi : i < x.aggs.length := List.mem_range.1 hi
  unfold encAtF encAt
  show (match x.aggs[i]? with | none => [] | some g => _) = _
  rw [List.getElem?_eq_getElem hi]
  show (if x.aggs[i].kind = 1 then encI ((x.sums[i]?).getD 0) else []) ++ (if ordB x.aggs[i] then encI (((x.bags.map refO)[i]?).getD []).length ++ (((x.bags.map refO)[i]?).getD []).flatMap (fun x => encT (encV1 x.v_) ++ encI x.n) else []) = encSum x x.aggs[i] i ++ encOrd x x.aggs[i] i
  congr 1
  unfold encOrd
  by_cases o : ordB x.aggs[i] = true
  · rw [if_pos o, if_pos o]
    obtain ⟨b, hb⟩ : ∃ b, x.bags[i]? = some b := ⟨_, List.getElem?_eq_getElem (by rw [h.bags]; exact hi)⟩
    have o2 := h.ord i _ b (List.getElem?_eq_getElem hi) hb
    rw [o] at o2
    obtain ⟨b, rfl⟩ := Option.isSome_iff_exists.1 o2
    rw [List.getElem?_map, hb]
    show encI (refBag b).length ++ (refBag b).flatMap _ = encBag b
    unfold refBag encBag
    rw [List.length_map, keysV_len, List.flatMap_map]
    rfl
  · rw [if_neg o, if_neg o]
def bestF (g : AggD) (l : List CntD) (z : ValD) : ValD := l.foldl (fun v x => if 0 < x.n ∧ g.kind = 3 then x.v_ else v) z
def rowsF (X : RF) : Nat := (X.bags.map List.length).sum
theorem rowsF_of (x : ACC) : rowsF (refOf x) = rowsS x := by
  unfold rowsF rowsS
  show ((x.bags.map refO).map List.length).sum = _
  rw [List.map_map]
  congr 1
  apply List.map_congr_left
  intro b _
  cases b with
  | none => rfl
  | some b =>
    show (refBag b).length = b.1.length
    unfold refBag
    rw [List.length_map, keysV_len]
end Go.Proofs.YtoebncgnjbblgaaGreatDoor
/-
  The reference's accumulators, plain: results, merging. No condition.
-/
namespace Go.Proofs.YtoebncgnjbblgaaGreatDoor
open Go.RowKit
set_option maxRecDepth 100000

/-! ### Results -/
def resStep (g : AggD) (st : ValD × Bool) (x : CntD) : ValD × Bool := if 0 < x.n ∧ (st.2 = false ∨ g.kind = 3) then (x.v_, true) else st
def resZ (X : RF) (g : AggD) (i : Nat) : ValD := if g.kind = 1 then vInt ((X.sums[i]?).getD 0) else if g.kind = 0 then vInt X.n else vZero
def resAtF (X : RF) (i : Nat) : ValD := match X.aggs[i]? with
  | none => vZero
  | some g => (((X.bags[i]?).getD []).foldl (resStep g) (resZ X g i, false)).1
def resultF (X : RF) : List ValD := (List.range X.aggs.length).map (resAtF X)
theorem resStep_filter (g : AggD) : ∀ (l : List CntD) (st : ValD × Bool), l.foldl (resStep g) st = (l.filter fun x => decide (0 < x.n)).foldl (resStep g) st
  | [], _ => rfl
  | x :: l, st => by
    rw [List.foldl_cons, resStep_filter g l]
    by_cases c : 0 < x.n
    · rw [List.filter_cons_of_pos (by simpa using c), List.foldl_cons]
    · rw [List.filter_cons_of_neg (by simpa using c)]
      unfold resStep
      rw [if_neg (fun hh => c hh.1)]
theorem resStep_min {g : AggD} (hg : g.kind ≠ 3) : ∀ (l : List CntD) (v : ValD), l.foldl (resStep g) (v, true) = (v, true)
  | [], _ => rfl
  | x :: l, v => by
    rw [List.foldl_cons]
    have : resStep g (v, true) x = (v, true) := by
      unfold resStep
      rw [if_neg (fun hh => hh.2.elim (fun h => by cases h) hg)]
    rw [this]
    exact resStep_min hg l v
theorem resStep_max {g : AggD} (hg : g.kind = 3) : ∀ (l : List CntD) (st : ValD × Bool) (hl : l ≠ []), (∀ x ∈ l, 0 < x.n) → (l.foldl (resStep g) st).1 = (l.getLast hl).v_
  | [x], st, _, h => by
    show (resStep g st x).1 = x.v_
    unfold resStep
    rw [if_pos ⟨h x List.mem_cons_self, .inr hg⟩]
  | x :: y :: l, st, _, h => by
    rw [List.foldl_cons, resStep_max hg (y :: l) _ (List.cons_ne_nil _ _) fun z hz => h z (List.mem_cons_of_mem _ hz), List.getLast_cons_cons]
theorem resAtF_of {N : Nat} {x : ACC} (h : GoodA N x) (hk : Kinds x.aggs) {i : Nat} (hi : i < x.aggs.length) : resAtF (refOf x) i = resAt x i := by
  have hgi : x.aggs[i]? = some x.aggs[i] := List.getElem?_eq_getElem hi
  obtain ⟨b, hb⟩ : ∃ b, x.bags[i]? = some b := ⟨_, List.getElem?_eq_getElem (by rw [h.bags]; exact hi)⟩
  have o := h.ord i _ b hgi hb
  have kk := hk _ (List.getElem_mem hi)
  unfold resAtF resAt
  show (match x.aggs[i]? with | none => vZero | some g => ((((x.bags.map refO)[i]?).getD []).foldl (resStep g) (resZ (refOf x) g i, false)).1) = _
  rw [hgi, List.getElem?_map, hb]
  generalize hgg : x.aggs[i] = g at *
  show ((refO b).foldl (resStep g) (resZ (refOf x) g i, false)).1 = (if g.kind = 0 then vInt x.count else if g.kind = 1 then vInt ((x.sums[i]?).getD 0) else match some b with
    | some (some b) => bestS g b
    | _ => vInt 0)
  cases b with
  | none =>
    have o2 : ordB g = false := o.symm
    unfold ordB at o2
    rw [Bool.or_eq_false_iff, decide_eq_false_iff_not, decide_eq_false_iff_not] at o2
    show resZ (refOf x) g i = _
    unfold resZ
    by_cases k1 : g.kind = 1
    · rw [if_pos k1, if_neg (by omega), if_pos k1]; rfl
    · rw [if_neg k1, if_pos (by omega), if_pos (by omega)]; rfl
  | some b =>
    have o2 : ordB g = true := o.symm
    unfold ordB at o2
    rw [Bool.or_eq_true, decide_eq_true_eq, decide_eq_true_eq] at o2
    rw [if_neg (by omega), if_neg (by omega)]
    show ((refBag b).foldl (resStep g) (resZ (refOf x) g i, false)).1 = bestS g b
    have ez : resZ (refOf x) g i = vZero := by unfold resZ; rw [if_neg (by omega), if_neg (by omega)]
    rw [ez, resStep_filter]
    have ef : (refBag b).filter (fun x => decide (0 < x.n)) = (posV b).map fun u => (⟨u, cntV b u⟩ : CntD) := by
      unfold refBag posV
      rw [List.filter_map]
      rfl
    rw [ef]
    have hpos : ∀ u ∈ posV b, 0 < cntV b u := fun u hu => by
      unfold posV at hu
      exact of_decide_eq_true (List.mem_filter.1 hu).2
    unfold bestS
    cases hp : posV b with
    | nil => rfl
    | cons a r =>
      rw [hp] at hpos
      show (((a :: r).map fun u => (⟨u, cntV b u⟩ : CntD)).foldl (resStep g) (vZero, false)).1 = if g.kind = 2 then a else (a :: r).getLast (by simp)
      by_cases k2 : g.kind = 2
      · rw [if_pos k2, List.map_cons, List.foldl_cons]
        have : resStep g (vZero, false) ⟨a, cntV b a⟩ = (a, true) := by
          unfold resStep
          rw [if_pos ⟨hpos a List.mem_cons_self, .inl rfl⟩]
        rw [this, resStep_min (by omega)]
      · rw [if_neg k2, resStep_max (by omega) _ _ (by simp) fun z hz => ?_]
        · rw [List.getLast_map]
        · obtain ⟨u, hu, rfl⟩ := List.mem_map.1 hz
          exact hpos u hu
theorem resultF_of {N : Nat} {x : ACC} (h : GoodA N x) (hk : Kinds x.aggs) : resultF (refOf x) = resultS x := by
  unfold resultF resultS
  show (List.range x.aggs.length).map (resAtF (refOf x)) = _
  apply List.map_congr_left
  intro i hi
  exact resAtF_of h hk (List.mem_range.1 hi)

/-! ### Merging -/
def mergeBag (l m : List CntD) : List CntD := m.foldl (fun l x => withS l x.v_ x.n) l
theorem mergeBag_ok : ∀ {m l : List CntD}, BagF l → BagF m → (∀ x ∈ m, inI x.n) → BagF (mergeBag l m) ∧ ∀ u, getF (mergeBag l m) u = match getF m u with
    | none => getF l u
    | some k => nz (W64 ((getF l u).getD 0 + k))
  | [], l, hl, _, _ => ⟨hl, fun u => rfl⟩
  | x :: m, l, hl, hm, hi => by
    have tm := hm.tail
    obtain ⟨w1, w2⟩ := withS_ok (v := x.v_) (hm.nz x List.mem_cons_self) (hi x List.mem_cons_self) hl
    obtain ⟨h1, h2⟩ := mergeBag_ok w1 tm.1 fun y hy => hi y (List.mem_cons_of_mem _ hy)
    refine ⟨h1, fun u => ?_⟩
    show getF (mergeBag (withS l x.v_ x.n) m) u = _
    rw [h2 u, getF_cons]
    by_cases c : x.v_ = u
    · subst c
      rw [if_pos rfl, getF_none fun z hz => (cmpV_ne (tm.2 z hz)).symm]
      simp only
      rw [w2, if_pos rfl]
    · rw [if_neg c, w2, if_neg (fun h => c h.symm)]
def mergeAtF (Y X : RF) (i : Nat) : RF := { X with sums := X.sums.modify i fun s => W64 (s + (Y.sums[i]?).getD 0), bags := X.bags.modify i fun l => mergeBag l ((Y.bags[i]?).getD []) }
def mergeKF (Y X : RF) (k : Nat) : RF := (List.range k).foldl (mergeAtF Y) { X with n := W64 (X.n + Y.n) }
def mergeF (X Y : RF) : RF := mergeKF Y X X.aggs.length
theorem mergeKF_succ (Y X : RF) (k : Nat) : mergeKF Y X (k + 1) = mergeAtF Y (mergeKF Y X k) k := by
  unfold mergeKF
  rw [List.range_succ, List.foldl_append]
  rfl
theorem mergeKF_same (Y X : RF) (k : Nat) : (mergeKF Y X k).aggs = X.aggs ∧ (mergeKF Y X k).n = W64 (X.n + Y.n) ∧ (mergeKF Y X k).sums.length = X.sums.length ∧ (mergeKF Y X k).bags.length = X.bags.length := by
  induction k with
  | zero => exact ⟨rfl, rfl, rfl, rfl⟩
  | succ k ih =>
    rw [mergeKF_succ]
    refine ⟨ih.1, ih.2.1, ?_, ?_⟩
    · show ((mergeKF Y X k).sums.modify k _).length = _
      rw [List.length_modify]; exact ih.2.2.1
    · show ((mergeKF Y X k).bags.modify k _).length = _
      rw [List.length_modify]; exact ih.2.2.2
theorem mergeKF_get (Y X : RF) (k j : Nat) :
    (mergeKF Y X k).sums[j]? = (if j < k then (X.sums[j]?).map fun s => W64 (s + (Y.sums[j]?).getD 0) else X.sums[j]?) ∧
    (mergeKF Y X k).bags[j]? = (if j < k then (X.bags[j]?).map fun l => mergeBag l ((Y.bags[j]?).getD []) else X.bags[j]?) := by
  induction k with
  | zero => exact ⟨rfl, rfl⟩
  | succ k ih =>
    rw [mergeKF_succ]
    show ((mergeKF Y X k).sums.modify k fun s => W64 (s + (Y.sums[k]?).getD 0))[j]? = _ ∧ ((mergeKF Y X k).bags.modify k fun l => mergeBag l ((Y.bags[k]?).getD []))[j]? = _
    rw [List.getElem?_modify, List.getElem?_modify, ih.1, ih.2]
    by_cases c : k = j
    · subst c
      rw [if_neg (Nat.lt_irrefl k), if_neg (Nat.lt_irrefl k), if_pos (Nat.lt_succ_self k), if_pos (Nat.lt_succ_self k)]
      simp
    · by_cases c2 : j < k
      · rw [if_pos c2, if_pos c2, if_pos (by omega), if_pos (by omega)]; simp [c]
      · rw [if_neg c2, if_neg c2, if_neg (by omega), if_neg (by omega)]; simp [c]
theorem nz_in {t : Int} {n : Int} (h : nz (W64 t) = some n) : inI n := by
  unfold nz at h
  split at h
  · cases h
  · rw [← Option.some.inj h]; exact W_range _
theorem bagF_in {l : List CntD} {f : ValD → Int} (h : BagF l) (hf : ∀ v, getF l v = nz (W64 (f v))) : ∀ x ∈ l, inI x.n := by
  intro x hx
  have : ∀ {l : List CntD}, BagF l → x ∈ l → getF l x.v_ = some x.n := by
    intro l hl hx
    induction l with
    | nil => cases hx
    | cons y l ih =>
      rw [getF_cons]
      rcases List.mem_cons.1 hx with rfl | hx
      · rw [if_pos rfl]
      · rw [if_neg (cmpV_ne (hl.tail.2 x hx))]
        exact ih hl.tail.1 hx
  exact nz_in (t := f x.v_) ((hf _).symm.trans (this h hx))
theorem IsRef.merge {aggs : List AggD} {L M : List Chg} {X Y : RF} (h : IsRef aggs L X) (h' : IsRef aggs M Y) : IsRef aggs (L ++ M) (mergeF X Y) := by
  unfold mergeF
  obtain ⟨s1, s2, s3, s4⟩ := mergeKF_same Y X X.aggs.length
  have lt : ∀ (i : Nat) (g : AggD), aggs[i]? = some g → i < X.aggs.length := fun i g hg => by
    rw [h.same]
    exact (List.getElem?_eq_some_iff.1 hg).1
  refine ⟨s1.trans h.same, ?_, s3.trans h.slen, s4.trans h.blen, fun i g hg => ?_, fun i g hg ho => ?_, fun i g l hg ho hl => ?_⟩
  · rw [s2, h.count, h'.count, W_addl, W_addr, tot_append]
  · rw [(mergeKF_get Y X _ i).1, if_pos (lt i g hg), h.sums i g hg, h'.sums i g hg]
    show some (W64 ((if g.kind = 1 then _ else 0) + (if g.kind = 1 then _ else 0))) = _
    by_cases c : g.kind = 1
    · rw [if_pos c, if_pos c, if_pos c, W_addl, W_addr, tot_append]
    · rw [if_neg c, if_neg c, if_neg c]
      exact congrArg some W_zero
  · rw [(mergeKF_get Y X _ i).2, if_pos (lt i g hg), h.none_ i g hg ho, h'.none_ i g hg ho]
    rfl
  · rw [(mergeKF_get Y X _ i).2, if_pos (lt i g hg)] at hl
    have hil := lt i g hg
    rw [h.same] at hil
    obtain ⟨l0, hl0⟩ : ∃ l0, X.bags[i]? = some l0 := ⟨_, List.getElem?_eq_getElem (by rw [h.blen]; exact hil)⟩
    obtain ⟨m0, hm0⟩ : ∃ m0, Y.bags[i]? = some m0 := ⟨_, List.getElem?_eq_getElem (by rw [h'.blen]; exact hil)⟩
    rw [hl0, hm0] at hl
    have hl : mergeBag l0 m0 = l := by simpa using hl
    subst hl
    obtain ⟨a1, a2⟩ := h.bags i g l0 hg ho hl0
    obtain ⟨b1, b2⟩ := h'.bags i g m0 hg ho hm0
    obtain ⟨c1, c2⟩ := mergeBag_ok a1 b1 (bagF_in b1 b2)
    refine ⟨c1, fun v => ?_⟩
    rw [c2, b2, a2, tot_append]
    by_cases z : W64 (tot M (fCnt g.col v)) = 0
    · have e : nz (W64 (tot M (fCnt g.col v))) = none := by unfold nz; rw [if_pos z]
      rw [e]
      show nz _ = nz _
      rw [← W_addr, z, Int.add_zero]
    · have e : nz (W64 (tot M (fCnt g.col v))) = some (W64 (tot M (fCnt g.col v))) := by unfold nz; rw [if_neg z]
      rw [e]
      show nz (W64 ((nz _).getD 0 + _)) = _
      rw [nz_getD, W_addl, W_addr]

/-! ### Nothing is kept -/
theorem emptyS_enc {N : Nat} {x : ACC} (hf : FitA N x) (hN : N ≤ 1000000) (ha : Again x) (hz : ∀ (i : Nat) (g : AggD), x.aggs[i]? = some g → g.kind ≠ 1 → x.sums[i]? = some 0) : emptyS x = decide (encA x = encA (newS x.aggs)) := by
  have gn : GoodA 0 (newS x.aggs) := newS_good hf.good.few
  have nbag : ∀ (i : Nat) (b : Bag), (newS x.aggs).bags[i]? = some (some b) → b = ([], 0) := fun i b hb => by
    have hb : (x.aggs.map nb)[i]? = some (some b) := hb
    rw [List.getElem?_map] at hb
    cases hg : x.aggs[i]? with
    | none => rw [hg] at hb; cases hb
    | some g =>
      rw [hg] at hb
      have hb : nb g = some b := by simpa using hb
      unfold nb at hb
      split at hb
      · have hb : (([], 0) : Bag) = b := by simpa using hb
        exact hb.symm
      · cases hb
  have k0 : keysV ([], 0) = [] := by
    have := keysV_len ([], 0)
    exact List.eq_nil_of_length_eq_zero this
  have fn : FitA 0 (newS x.aggs) := ⟨gn, ⟨by show _ ≤ (0 : Int); omega, by show (0 : Int) ≤ _; omega⟩, fun i s hs => by
    have hs : (List.replicate x.aggs.length (0 : Int))[i]? = some s := hs
    have := (List.mem_replicate.1 (List.mem_of_getElem? hs)).2
    rw [this]
    exact ⟨by omega, by omega⟩, fun i b hb u hu => by rw [nbag i b hb, k0] at hu; cases hu⟩
  have an : Again (newS x.aggs) := by
    refine ⟨fun i b hb u hu => ?_, fun i b hb => ?_⟩
    · rw [nbag i b hb, k0] at hu
      cases hu
    · rw [nbag i b hb, k0]
      rfl
  rw [Bool.eq_iff_iff, decide_eq_true_eq]
  unfold emptyS
  rw [Bool.and_eq_true, Bool.and_eq_true, decide_eq_true_eq, decide_eq_true_eq, Bool.not_eq_true', List.any_eq_false]
  constructor
  · rintro ⟨h1, h2, h3⟩
    refine SameA.enc (x := x) (y := newS x.aggs) ⟨rfl, h1, ?_, fun i => ?_⟩
    · show x.sums = List.replicate x.aggs.length 0
      rw [List.eq_replicate_iff]
      refine ⟨hf.good.sums, fun s hs => ?_⟩
      have := h3 s hs
      simpa using this
    · cases hb : x.bags[i]? with
      | none => exact .inl ⟨rfl, List.getElem?_eq_none (by rw [gn.bags]; show x.aggs.length ≤ i; rw [← hf.good.bags]; exact List.getElem?_eq_none_iff.1 hb)⟩
      | some b =>
        have hi : i < x.aggs.length := by rw [← hf.good.bags]; exact (List.getElem?_eq_some_iff.1 hb).1
        have hg : x.aggs[i]? = some x.aggs[i] := List.getElem?_eq_getElem hi
        have o := hf.good.ord i _ b hg hb
        have en : (newS x.aggs).bags[i]? = some (nb x.aggs[i]) := by
          show (x.aggs.map nb)[i]? = _
          rw [List.getElem?_map, hg]
          rfl
        rw [en]
        unfold nb
        rw [← o]
        cases b with
        | none => exact .inr (.inl ⟨rfl, by simp⟩)
        | some b =>
          refine .inr (.inr ⟨b, ([], 0), rfl, by simp, ?_⟩)
          have hl : b.1.length = 0 := by
            have : ∀ {l : List Nat} {n : Nat}, l.sum = 0 → n ∈ l → n = 0 := by
              intro l n hs hn
              induction l with
              | nil => cases hn
              | cons a l ih =>
                rw [List.sum_cons] at hs
                rcases List.mem_cons.1 hn with rfl | hn
                · omega
                · exact ih (by omega) hn
            exact this h2 (List.mem_map.2 ⟨some b, List.mem_of_getElem? hb, rfl⟩)
          have hb1 : b.1 = [] := List.eq_nil_of_length_eq_zero hl
          refine ⟨?_, hl, ?_⟩
          · unfold keysV; rw [hb1]
          · funext v; unfold cntV; rw [hb1]
  · intro h
    obtain ⟨y, hy, iy⟩ := readN_enc rfl hf hN ha x.aggs.length (Nat.le_refl _)
    obtain ⟨y2, hy2, iy2⟩ := readN_enc (aggs := x.aggs) (x := newS x.aggs) rfl fn (by omega) an x.aggs.length (Nat.le_refl _)
    rw [h] at hy
    rw [hy] at hy2
    have e : y = y2 := by
      have := Option.some.inj hy2
      exact (Prod.mk.inj this).1
    subst e
    refine ⟨by rw [← iy.count, iy2.count]; rfl, ?_, fun s hs => ?_⟩
    · unfold rowsS
      refine sum_zero fun n hn => ?_
      obtain ⟨bo, hbo, rfl⟩ := List.mem_map.1 hn
      cases bo with
      | none => rfl
      | some b =>
        obtain ⟨i, hi, hb⟩ := List.getElem_of_mem hbo
        have hb' : x.bags[i]? = some (some b) := by rw [List.getElem?_eq_getElem hi, hb]
        have hil : i < x.aggs.length := by rw [← hf.good.bags]; exact hi
        obtain ⟨b2, q1, q2, q3⟩ := iy.bdone i hil b hb'
        have o := hf.good.ord i _ _ (List.getElem?_eq_getElem hil) hb'
        have hnb : (newS x.aggs).bags[i]? = some (some ([], 0)) := by
          show (x.aggs.map nb)[i]? = _
          rw [List.getElem?_map, List.getElem?_eq_getElem hil]
          show some (nb _) = _
          unfold nb
          rw [← o]
          rfl
        obtain ⟨b3, r1, r2, r3⟩ := iy2.bdone i hil _ hnb
        rw [q1] at r1
        have e : b2 = b3 := Option.some.inj (Option.some.inj r1)
        subst e
        have hk : keysV b = [] := List.eq_nil_iff_forall_not_mem.2 fun u hu => by
          have z1 := q3 u
          have z2 := r3 u
          rw [if_pos hu] at z1
          rw [k0, if_neg List.not_mem_nil, z1] at z2
          cases z2
        have := keysV_len b
        rw [hk] at this
        exact this.symm
    · obtain ⟨i, hi, hsi⟩ := List.getElem_of_mem hs
      have hil : i < x.aggs.length := by rw [← hf.good.sums]; exact hi
      have hg := List.getElem?_eq_getElem hil
      have hs' : x.sums[i]? = some s := by rw [List.getElem?_eq_getElem hi, hsi]
      by_cases c : x.aggs[i].kind = 1
      · have z1 := iy.sdone i hil _ hg
        have z2 := iy2.sdone i hil _ hg
        rw [z1, if_pos c, if_pos c, hs'] at z2
        have hn : (newS x.aggs).sums[i]? = some 0 := by
          show (List.replicate x.aggs.length (0 : Int))[i]? = _
          rw [List.getElem?_replicate, if_pos hil]
        rw [hn] at z2
        have : s = 0 := Option.some.inj z2
        simp [this]
      · have := hz i _ hg c
        rw [hs'] at this
        simp [Option.some.inj this]
end Go.Proofs.YtoebncgnjbblgaaGreatDoor
/-
  The reference's accumulators, plain: reading. No condition.
-/
namespace Go.Proofs.YtoebncgnjbblgaaGreatDoor
open Go.RowKit
set_option maxRecDepth 100000

/-- One entry may follow. -/
def nextOk (acc : List CntD) (v : ValD) : Prop := ∀ y, acc.getLast? = some y → compareV y.v_ v < 0
noncomputable def entC (s : RS) : Int := (intR (textR s).2).1
noncomputable def entS (s : RS) : RS := (intR (textR s).2).2
open Classical in
noncomputable def entsF : Nat → List CntD → Int → RS → Option (List CntD × Int × RS)
  | 0, acc, all, s => some (acc, all, s)
  | k + 1, acc, all, s => if s.rest = [] then some (acc, all, s) else match readV1 (textR s).1 with
    | none => none
    | some v => if vRight v = true ∧ entC s ≠ 0 ∧ nextOk acc v then entsF k (acc ++ [⟨v, entC s⟩]) (W64 (all + entC s)) (entS s) else none
noncomputable def sumFR (g : AggD) (X : RF) (i : Nat) (s : RS) : RF × RS := if g.kind = 1 then ({ X with sums := X.sums.set i (intR s).1 }, (intR s).2) else (X, s)
open Classical in
noncomputable def ordFR (g : AggD) (X : RF) (i : Nat) (s : RS) : Option (RF × RS) :=
  if ordB g = true then
    match entsF (natR s).1.toNat [] 0 (natR s).2 with
    | none => none
    | some q => if (q.1.length : Int) = (natR s).1 ∧ q.2.1 = X.n then some ({ X with bags := X.bags.set i q.1 }, q.2.2) else none
  else some (X, s)
noncomputable def readNF (aggs : List AggD) (t : Bs) : Nat → Option (RF × RS)
  | 0 => some ({ newF aggs with n := (intR ⟨t, false⟩).1 }, (intR ⟨t, false⟩).2)
  | k + 1 => match readNF aggs t k with
    | none => none
    | some q => match aggs[k]? with
      | none => none
      | some g => ordFR g (sumFR g q.1 k q.2).1 k (sumFR g q.1 k q.2).2
noncomputable def readF (aggs : List AggD) (t : Bs) : Option RF :=
  match readNF aggs t aggs.length with
  | none => none
  | some q => if doneR q.2 = true then some q.1 else none
theorem readNF_none {aggs : List AggD} {t : Bs} {k : Nat} (h : readNF aggs t k = none) : ∀ m, readNF aggs t (k + m) = none
  | 0 => h
  | m + 1 => by
    show readNF aggs t ((k + m) + 1) = none
    unfold readNF
    rw [readNF_none h m]
theorem readF_none {aggs : List AggD} {t : Bs} {k : Nat} (hk : k ≤ aggs.length) (h : readNF aggs t k = none) : readF aggs t = none := by
  have := readNF_none h (aggs.length - k)
  rw [show k + (aggs.length - k) = aggs.length by omega] at this
  unfold readF
  rw [this]

/-! ### What is right to be written -/
structure EntOk (x : CntD) : Prop where
  right : vRight x.v_ = true
  good : GoodVal x.v_
  n : inI x.n
/-- A right accumulator of the reference. -/
structure RefOk (aggs : List AggD) (X : RF) : Prop where
  same : X.aggs = aggs
  count : inI X.n
  slen : X.sums.length = aggs.length
  blen : X.bags.length = aggs.length
  sums : ∀ (i : Nat) (g : AggD), aggs[i]? = some g → ∃ s, X.sums[i]? = some s ∧ inI s ∧ (g.kind ≠ 1 → s = 0)
  none_ : ∀ (i : Nat) (g : AggD), aggs[i]? = some g → ordB g = false → X.bags[i]? = some []
  bags : ∀ (i : Nat) (g : AggD) (l : List CntD), aggs[i]? = some g → ordB g = true → X.bags[i]? = some l → BagF l ∧ (∀ x ∈ l, EntOk x) ∧ l.foldl (fun a x => W64 (a + x.n)) 0 = X.n
def encCnt (x : CntD) : Bs := encT (encV1 x.v_) ++ encI x.n
theorem EntOk.s {x : CntD} (h : EntOk x) : (encV1 x.v_).length ≤ 9223372036854775807 := by
  have := encV1_len h.good (right_s h.right)
  omega
theorem entsF_fore : ∀ (m acc : List CntD) (all : Int) (r : Bs), BagF (acc ++ m) → (∀ x ∈ m, EntOk x) → entsF m.length acc all ⟨m.flatMap encCnt ++ r, false⟩ = some (acc ++ m, m.foldl (fun a x => W64 (a + x.n)) all, ⟨r, false⟩)
  | [], acc, all, r, _, _ => by simp [entsF]
  | x :: m, acc, all, r, hb, hx => by
    have hx1 := hx x List.mem_cons_self
    have e : (x :: m).flatMap encCnt ++ r = encT (encV1 x.v_) ++ (encI x.n ++ (m.flatMap encCnt ++ r)) := by
      rw [List.flatMap_cons]
      unfold encCnt
      simp only [List.append_assoc]
    have hne : encT (encV1 x.v_) ++ (encI x.n ++ (m.flatMap encCnt ++ r)) ≠ [] := by
      have := encT_pos (encV1 x.v_)
      intro h
      rw [List.append_eq_nil_iff] at h
      rw [h.1] at this
      simp at this
    have t1 := textR_rd.fore (encV1 x.v_) (encI x.n ++ (m.flatMap encCnt ++ r)) hx1.s
    have t2 := intR_rd.fore x.n (m.flatMap encCnt ++ r) hx1.n
    have hn : x.n ≠ 0 := hb.nz x (List.mem_append_right _ List.mem_cons_self)
    have hnx : nextOk acc x.v_ := fun y hy => by
      have h1 := List.mem_of_getLast? hy
      exact (List.pairwise_append.1 hb.ord).2.2 y h1 x List.mem_cons_self
    have c1 : entC ⟨encT (encV1 x.v_) ++ (encI x.n ++ (m.flatMap encCnt ++ r)), false⟩ = x.n := by unfold entC; rw [t1, t2]
    have c2 : entS ⟨encT (encV1 x.v_) ++ (encI x.n ++ (m.flatMap encCnt ++ r)), false⟩ = ⟨m.flatMap encCnt ++ r, false⟩ := by unfold entS; rw [t1, t2]
    rw [e, List.length_cons, entsF, if_neg hne, t1]
    simp only
    rw [readV1_enc hx1.good]
    simp only
    rw [if_pos ⟨hx1.right, by rw [c1]; exact hn, hnx⟩, c1, c2]
    refine (entsF_fore m (acc ++ [x]) (W64 (all + x.n)) r (by rw [List.append_assoc]; exact hb) fun y hy => hx y (List.mem_cons_of_mem _ hy)).trans ?_
    simp
theorem entsF_back : ∀ (k : Nat) (acc : List CntD) (all : Int) (s : RS) (q : List CntD × Int × RS), BagF acc → entsF k acc all s = some q → q.2.2.bad = false → ∃ m, q.1 = acc ++ m ∧ BagF q.1 ∧ (∀ x ∈ m, EntOk x) ∧ q.2.1 = m.foldl (fun a x => W64 (a + x.n)) all ∧ s.bad = false ∧ s.rest = m.flatMap encCnt ++ q.2.2.rest
  | 0, acc, all, s, q, hb, h, hbad => by
    have e : (acc, all, s) = q := Option.some.inj h
    subst e
    exact ⟨[], by simp, hb, fun x hx => (by cases hx), rfl, hbad, rfl⟩
  | k + 1, acc, all, s, q, hb, h, hbad => by
    rw [entsF] at h
    split at h
    · have e : (acc, all, s) = q := Option.some.inj h
      subst e
      exact ⟨[], by simp, hb, fun x hx => (by cases hx), rfl, hbad, rfl⟩
    · split at h
      · cases h
      · rename_i v hv
        split at h
        · rename_i c
          obtain ⟨c1, c2, c3⟩ := c
          have hb' : BagF (acc ++ [⟨v, entC s⟩]) := by
            refine ⟨List.pairwise_append.2 ⟨hb.ord, List.pairwise_singleton _ _, fun a ha b hb2 => ?_⟩, fun x hx => ?_⟩
            · rw [List.mem_singleton.1 hb2]
              show compareV a.v_ v < 0
              have hne : acc ≠ [] := fun e => by rw [e] at ha; cases ha
              have hl := c3 (acc.getLast hne) (List.getLast?_eq_some_getLast hne)
              by_cases e : a = acc.getLast hne
              · rw [e]; exact hl
              · have : compareV a.v_ (acc.getLast hne).v_ < 0 := by
                  have hd := List.dropLast_concat_getLast hne
                  have hmem : a ∈ acc.dropLast := by
                    rw [← hd] at ha
                    rcases List.mem_append.1 ha with h1 | h1
                    · exact h1
                    · exact absurd (List.mem_singleton.1 h1) e
                  have hp := hb.ord
                  rw [← hd] at hp
                  exact (List.pairwise_append.1 hp).2.2 a hmem _ (List.mem_singleton.2 rfl)
                exact compareV_ord.strict (Int.le_of_lt this) (Int.le_of_lt hl) (.inl this)
            · rcases List.mem_append.1 hx with hx | hx
              · exact hb.nz x hx
              · rw [List.mem_singleton.1 hx]; exact c2
          obtain ⟨m, e1, e2, e3, e4, e5, e6⟩ := entsF_back k _ _ _ q hb' h hbad
          obtain ⟨i1, i2, i3⟩ := intR_rd.back (textR s).2 (show (entS s).bad = false from e5)
          obtain ⟨j1, j2, j3⟩ := textR_rd.back s i1
          obtain ⟨v1, v2⟩ := readV1_back hv
          refine ⟨⟨v, entC s⟩ :: m, by rw [e1]; simp, e2, fun x hx => ?_, e4, j1, ?_⟩
          · rcases List.mem_cons.1 hx with rfl | hx
            · exact ⟨c1, v2, i3⟩
            · exact e3 x hx
          · have e7 : (intR (textR s).2).2.rest = m.flatMap encCnt ++ q.2.2.rest := e6
            rw [j2, i2, e7, List.flatMap_cons, ← v1]
            unfold encCnt entC
            simp only [List.append_assoc]
        · cases h
theorem entsF_le : ∀ (k : Nat) (acc : List CntD) (all : Int) (s : RS) (q : List CntD × Int × RS), entsF k acc all s = some q → q.2.2.rest.length ≤ s.rest.length
  | 0, acc, all, s, q, h => by
    have e : (acc, all, s) = q := Option.some.inj h
    subst e
    exact Nat.le_refl _
  | k + 1, acc, all, s, q, h => by
    rw [entsF] at h
    split at h
    · have e : (acc, all, s) = q := Option.some.inj h
      subst e
      exact Nat.le_refl _
    · split at h
      · cases h
      · split at h
        · have h1 := entsF_le k _ _ _ q h
          have z1 := (textR_le s).2
          have z2 := intR_le (textR s).2
          unfold entS at h1
          omega
        · cases h
theorem encAtF_eq (X : RF) (i : Nat) : encAtF X i = match X.aggs[i]? with
  | none => []
  | some g => (if g.kind = 1 then encI ((X.sums[i]?).getD 0) else []) ++ (if ordB g then encI ((X.bags[i]?).getD []).length ++ ((X.bags[i]?).getD []).flatMap encCnt else []) := rfl
/-- What is being read: k aggregates are as wanted, the others empty. -/
structure PartF (aggs : List AggD) (X : RF) (k : Nat) (Y : RF) : Prop where
  same : Y.aggs = aggs
  n : Y.n = X.n
  slen : Y.sums.length = aggs.length
  blen : Y.bags.length = aggs.length
  sdone : ∀ j, j < k → Y.sums[j]? = X.sums[j]?
  srest : ∀ j, k ≤ j → Y.sums[j]? = (newF aggs).sums[j]?
  bdone : ∀ j, j < k → Y.bags[j]? = X.bags[j]?
  brest : ∀ j, k ≤ j → Y.bags[j]? = (newF aggs).bags[j]?
theorem newF_sum {aggs : List AggD} {j : Nat} (h : j < aggs.length) : (newF aggs).sums[j]? = some 0 := by
  show (List.replicate aggs.length (0 : Int))[j]? = _
  rw [List.getElem?_replicate, if_pos h]
theorem newF_bag {aggs : List AggD} {j : Nat} (h : j < aggs.length) : (newF aggs).bags[j]? = some [] := by
  show (List.replicate aggs.length ([] : List CntD))[j]? = _
  rw [List.getElem?_replicate, if_pos h]
theorem readNF_fore {aggs : List AggD} {X : RF} (hX : RefOk aggs X) (hN : ∀ (i : Nat) (l : List CntD), X.bags[i]? = some l → l.length ≤ 9223372036854775807) : ∀ k, k ≤ aggs.length → ∃ Y, readNF aggs (encF X) k = some (Y, ⟨((List.range aggs.length).drop k).flatMap (encAtF X), false⟩) ∧ PartF aggs X k Y
  | 0, _ => by
    have e : intR ⟨encF X, false⟩ = (X.n, ⟨(List.range aggs.length).flatMap (encAtF X), false⟩) := by
      unfold encF
      rw [hX.same]
      exact intR_rd.fore X.n _ hX.count
    refine ⟨{ newF aggs with n := X.n }, ?_, ⟨rfl, rfl, by simp [newF], by simp [newF], fun j hj => absurd hj (Nat.not_lt_zero j), fun j _ => rfl, fun j hj => absurd hj (Nat.not_lt_zero j), fun j _ => rfl⟩⟩
    rw [readNF, e, List.drop_zero]
  | k + 1, hk => by
    obtain ⟨Y, hY, inv⟩ := readNF_fore hX hN k (by omega)
    have hkl : k < aggs.length := by omega
    have hkg : aggs[k]? = some aggs[k] := List.getElem?_eq_getElem hkl
    have hkx : X.aggs[k]? = some aggs[k] := by rw [hX.same]; exact hkg
    have hd : (List.range aggs.length).drop k = k :: (List.range aggs.length).drop (k + 1) := by
      rw [List.drop_eq_getElem_cons (by simpa using hkl)]
      simp
    obtain ⟨s, hs1, hs2, hs3⟩ := hX.sums k _ hkg
    obtain ⟨l, hl⟩ : ∃ l, X.bags[k]? = some l := ⟨_, List.getElem?_eq_getElem (by rw [hX.blen]; exact hkl)⟩
    have hea : encAtF X k = (if aggs[k].kind = 1 then encI s else []) ++ (if ordB aggs[k] then encI l.length ++ l.flatMap encCnt else []) := by
      rw [encAtF_eq, hkx, hs1, hl]
      rfl
    generalize hr : ((List.range aggs.length).drop (k + 1)).flatMap (encAtF X) = rest at *
    rw [hd, List.flatMap_cons, hr, hea, List.append_assoc] at hY
    have hgo : readNF aggs (encF X) (k + 1) = ordFR aggs[k] (sumFR aggs[k] Y k ⟨(if aggs[k].kind = 1 then encI s else []) ++ ((if ordB aggs[k] then encI l.length ++ l.flatMap encCnt else []) ++ rest), false⟩).1 k (sumFR aggs[k] Y k ⟨(if aggs[k].kind = 1 then encI s else []) ++ ((if ordB aggs[k] then encI l.length ++ l.flatMap encCnt else []) ++ rest), false⟩).2 := by
      show (match readNF aggs (encF X) k with
        | none => none
        | some q => match aggs[k]? with
          | none => none
          | some g => ordFR g (sumFR g q.1 k q.2).1 k (sumFR g q.1 k q.2).2) = _
      rw [hY, hkg]
    have hsy : k < Y.sums.length := by rw [inv.slen]; exact hkl
    have hby : k < Y.bags.length := by rw [inv.blen]; exact hkl
    have hsum : ∃ Y1 : RF, sumFR aggs[k] Y k ⟨(if aggs[k].kind = 1 then encI s else []) ++ ((if ordB aggs[k] then encI l.length ++ l.flatMap encCnt else []) ++ rest), false⟩ = (Y1, ⟨(if ordB aggs[k] then encI l.length ++ l.flatMap encCnt else []) ++ rest, false⟩) ∧ Y1.n = Y.n ∧ Y1.bags = Y.bags ∧ Y1.sums.length = Y.sums.length ∧ (∀ j, j ≠ k → Y1.sums[j]? = Y.sums[j]?) ∧ Y1.sums[k]? = some s ∧ Y1.aggs = Y.aggs := by
      by_cases c : aggs[k].kind = 1
      · refine ⟨{ Y with sums := Y.sums.set k s }, ?_, rfl, rfl, by show (Y.sums.set k _).length = _; rw [List.length_set], fun j hj => ?_, ?_, rfl⟩
        · unfold sumFR
          rw [if_pos c, if_pos c, intR_rd.fore _ _ hs2]
        · show (Y.sums.set k _)[j]? = _
          rw [List.getElem?_set_ne (fun hh => hj hh.symm)]
        · show (Y.sums.set k _)[k]? = _
          rw [List.getElem?_set_self hsy]
      · refine ⟨Y, ?_, rfl, rfl, rfl, fun j _ => rfl, ?_, rfl⟩
        · unfold sumFR
          rw [if_neg c, if_neg c]
          rfl
        · rw [inv.srest k (Nat.le_refl _), newF_sum hkl, hs3 c]
    obtain ⟨Y1, e1, e2, e3, e4, e5, e6, e7⟩ := hsum
    rw [e1] at hgo
    simp only at hgo
    have hs' : ∀ j, j < k + 1 → Y1.sums[j]? = X.sums[j]? := fun j hj => by
      by_cases c : j = k
      · subst c; rw [e6, hs1]
      · rw [e5 j c]; exact inv.sdone j (by omega)
    have hsr : ∀ j, k + 1 ≤ j → Y1.sums[j]? = (newF aggs).sums[j]? := fun j hj => by rw [e5 j (by omega)]; exact inv.srest j (by omega)
    by_cases co : ordB aggs[k] = true
    · obtain ⟨b1, b2, b3⟩ := hX.bags k _ l hkg co hl
      have hin : inI (l.length : Int) := ⟨by omega, by have := hN k l hl; omega⟩
      have hro : ordFR aggs[k] Y1 k ⟨(if ordB aggs[k] then encI l.length ++ l.flatMap encCnt else []) ++ rest, false⟩ = some ({ Y1 with bags := Y1.bags.set k l }, ⟨rest, false⟩) := by
        unfold ordFR
        rw [if_pos co, if_pos co, List.append_assoc, natR_rd.fore (l.length : Int) _ ⟨by omega, hin⟩]
        simp only
        have := entsF_fore l [] 0 rest (by rw [List.nil_append]; exact b1) b2
        rw [Int.toNat_natCast, this]
        simp only [List.nil_append]
        rw [if_pos ⟨trivial, by rw [b3, e2, inv.n]⟩]
      rw [hro] at hgo
      refine ⟨_, hgo, ⟨by show Y1.aggs = _; rw [e7, inv.same], by show Y1.n = _; rw [e2, inv.n], by show Y1.sums.length = _; rw [e4, inv.slen], by show (Y1.bags.set k _).length = _; rw [List.length_set, e3, inv.blen], hs', hsr, fun j hj => ?_, fun j hj => ?_⟩⟩
      · show (Y1.bags.set k l)[j]? = _
        by_cases c : j = k
        · subst c
          rw [List.getElem?_set_self (by rw [e3]; exact hby), hl]
        · rw [List.getElem?_set_ne (fun hh => c hh.symm), e3]
          exact inv.bdone j (by omega)
      · show (Y1.bags.set k l)[j]? = _
        rw [List.getElem?_set_ne (by omega), e3]
        exact inv.brest j (by omega)
    · have hro : ordFR aggs[k] Y1 k ⟨(if ordB aggs[k] then encI l.length ++ l.flatMap encCnt else []) ++ rest, false⟩ = some (Y1, ⟨rest, false⟩) := by
        unfold ordFR
        rw [if_neg co, if_neg co]
        rfl
      rw [hro] at hgo
      refine ⟨_, hgo, ⟨by rw [e7, inv.same], by rw [e2, inv.n], by rw [e4, inv.slen], by rw [e3, inv.blen], hs', hsr, fun j hj => ?_, fun j hj => ?_⟩⟩
      · rw [e3]
        by_cases c : j = k
        · subst c
          rw [inv.brest j (Nat.le_refl _), newF_bag hkl]
          exact (hX.none_ j _ hkg (by simpa using co)).symm
        · exact inv.bdone j (by omega)
      · rw [e3]; exact inv.brest j (by omega)
theorem readF_fore {aggs : List AggD} {X : RF} (hX : RefOk aggs X) (hN : ∀ (i : Nat) (l : List CntD), X.bags[i]? = some l → l.length ≤ 9223372036854775807) : readF aggs (encF X) = some X := by
  obtain ⟨Y, hY, inv⟩ := readNF_fore hX hN aggs.length (Nat.le_refl _)
  have hYX : Y = X := by
    obtain ⟨A, n, S, Bg⟩ := Y
    obtain ⟨A2, n2, S2, Bg2⟩ := X
    have e1 : A = A2 := inv.same.trans hX.same.symm
    have e2 : n = n2 := inv.n
    have e3 : S = S2 := List.ext_getElem? fun i => by
      by_cases c : i < aggs.length
      · exact inv.sdone i c
      · rw [List.getElem?_eq_none (by have := inv.slen; simp only at this; omega), List.getElem?_eq_none (by have := hX.slen; simp only at this; omega)]
    have e4 : Bg = Bg2 := List.ext_getElem? fun i => by
      by_cases c : i < aggs.length
      · exact inv.bdone i c
      · rw [List.getElem?_eq_none (by have := inv.blen; simp only at this; omega), List.getElem?_eq_none (by have := hX.blen; simp only at this; omega)]
    subst e1 e2 e3 e4
    rfl
  unfold readF
  rw [hY, hYX]
  simp only
  rw [List.drop_of_length_le (by simp)]
  exact if_pos rfl
/-- What has been read, so far. -/
structure BackF (aggs : List AggD) (k : Nat) (Y : RF) : Prop where
  same : Y.aggs = aggs
  n : inI Y.n
  slen : Y.sums.length = aggs.length
  blen : Y.bags.length = aggs.length
  sums : ∀ (i : Nat) (g : AggD), aggs[i]? = some g → ∃ s, Y.sums[i]? = some s ∧ inI s ∧ (g.kind ≠ 1 → s = 0)
  none_ : ∀ (i : Nat) (g : AggD), aggs[i]? = some g → ordB g = false → Y.bags[i]? = some []
  rest : ∀ (i : Nat), k ≤ i → i < aggs.length → Y.bags[i]? = some []
  bags : ∀ (i : Nat) (g : AggD) (l : List CntD), i < k → aggs[i]? = some g → ordB g = true → Y.bags[i]? = some l → BagF l ∧ (∀ x ∈ l, EntOk x) ∧ l.foldl (fun a x => W64 (a + x.n)) 0 = Y.n
theorem encAtF_congr {X Y : RF} {j : Nat} (h1 : X.aggs = Y.aggs) (h2 : X.sums[j]? = Y.sums[j]?) (h3 : X.bags[j]? = Y.bags[j]?) : encAtF X j = encAtF Y j := by
  rw [encAtF_eq, encAtF_eq, h1, h2, h3]
theorem readNF_back {aggs : List AggD} {t : Bs} : ∀ (k : Nat) (q : RF × RS), k ≤ aggs.length → readNF aggs t k = some q → q.2.bad = false → BackF aggs k q.1 ∧ t = encI q.1.n ++ (List.range k).flatMap (encAtF q.1) ++ q.2.rest
  | 0, q, _, h, hb => by
    have e : ({ newF aggs with n := (intR ⟨t, false⟩).1 }, (intR ⟨t, false⟩).2) = q := Option.some.inj h
    subst e
    obtain ⟨i1, i2, i3⟩ := intR_rd.back ⟨t, false⟩ hb
    refine ⟨⟨rfl, i3, by simp [newF], by simp [newF], fun i g hg => ⟨0, newF_sum (List.getElem?_eq_some_iff.1 hg).1, ⟨by omega, by omega⟩, fun _ => rfl⟩, fun i g hg _ => newF_bag (List.getElem?_eq_some_iff.1 hg).1, fun i _ hi => newF_bag hi, fun i g l hi => absurd hi (Nat.not_lt_zero i)⟩, ?_⟩
    simp only [List.range_zero, List.flatMap_nil, List.append_nil]
    exact i2
  | k + 1, q, hk, h, hb => by
    have hkl : k < aggs.length := by omega
    have hkg : aggs[k]? = some aggs[k] := List.getElem?_eq_getElem hkl
    have hgo : readNF aggs t (k + 1) = (match readNF aggs t k with
        | none => none
        | some q => match aggs[k]? with
          | none => none
          | some g => ordFR g (sumFR g q.1 k q.2).1 k (sumFR g q.1 k q.2).2) := rfl
    rw [hgo, hkg] at h
    cases h0 : readNF aggs t k with
    | none => rw [h0] at h; cases h
    | some q0 =>
      rw [h0] at h
      obtain ⟨Y, s0⟩ := q0
      have h : ordFR aggs[k] (sumFR aggs[k] Y k s0).1 k (sumFR aggs[k] Y k s0).2 = some q := h
      -- the order part
      have hord : ∀ (Y1 : RF) (s1 : RS), ordFR aggs[k] Y1 k s1 = some q → Y1.aggs = aggs → Y1.bags.length = aggs.length → Y1.bags[k]? = some [] → s1.bad = false ∧ ∃ l, q.1 = { Y1 with bags := Y1.bags.set k l } ∧ (ordB aggs[k] = true → BagF l ∧ (∀ x ∈ l, EntOk x) ∧ l.foldl (fun a x => W64 (a + x.n)) 0 = Y1.n) ∧ (ordB aggs[k] = false → l = []) ∧ s1.rest = (if ordB aggs[k] then encI l.length ++ l.flatMap encCnt else []) ++ q.2.rest := by
        intro Y1 s1 ho ha hbl hbk
        unfold ordFR at ho
        by_cases co : ordB aggs[k] = true
        · rw [if_pos co] at ho
          split at ho
          · cases ho
          · rename_i z hz
            split at ho
            · rename_i c
              have e := Option.some.inj ho
              subst e
              obtain ⟨m, e1, e2, e3, e4, e5, e6⟩ := entsF_back _ [] 0 _ z BagF.nil hz hb
              obtain ⟨n1, n2, n3⟩ := natR_rd.back s1 e5
              rw [List.nil_append] at e1
              rw [← e1] at e3 e4 e6
              refine ⟨n1, z.1, rfl, fun _ => ⟨e2, e3, by rw [← e4]; exact c.2⟩, fun hh => (by rw [co] at hh; cases hh), ?_⟩
              rw [if_pos co, n2, e6, ← c.1, List.append_assoc]
            · cases ho
        · rw [if_neg co] at ho
          have e := Option.some.inj ho
          subst e
          refine ⟨hb, [], ?_, fun hh => absurd hh co, fun _ => rfl, ?_⟩
          · rw [set_same hbk]
          · rw [if_neg co, List.nil_append]
      have key : ∀ (Y1 : RF) (s1 : RS) (sk : Int), (sumFR aggs[k] Y k s0) = (Y1, s1) → Y1.aggs = Y.aggs → Y1.n = Y.n → Y1.bags = Y.bags → Y1.sums.length = Y.sums.length → (∀ j, j ≠ k → Y1.sums[j]? = Y.sums[j]?) → (BackF aggs k Y → Y1.sums[k]? = some sk ∧ (aggs[k].kind ≠ 1 → sk = 0)) → (aggs[k].kind = 1 → inI sk) → (s1.bad = false → s0.bad = false ∧ s0.rest = (if aggs[k].kind = 1 then encI sk else []) ++ s1.rest) → BackF aggs (k + 1) q.1 ∧ t = encI q.1.n ++ (List.range (k + 1)).flatMap (encAtF q.1) ++ q.2.rest := by
        intro Y1 s1 sk es ea en eb el eo esk eik ebk
        rw [es] at h
        simp only at h
        have s1b : s1.bad = false → s0.bad = false := fun hh => (ebk hh).1
        -- s1 is not bad
        have hs1 : s1.bad = false := by
          unfold ordFR at h
          by_cases co : ordB aggs[k] = true
          · rw [if_pos co] at h
            split at h
            · cases h
            · rename_i z hz
              split at h
              · have e := Option.some.inj h
                subst e
                obtain ⟨m, _, _, _, _, e5, _⟩ := entsF_back _ [] 0 _ z BagF.nil hz hb
                exact (natR_rd.back s1 e5).1
              · cases h
          · rw [if_neg co] at h
            have e := Option.some.inj h
            subst e
            exact hb
        obtain ⟨b0, r0⟩ := ebk hs1
        obtain ⟨inv, ht⟩ := readNF_back k (Y, s0) (by omega) h0 b0
        simp only at inv ht
        obtain ⟨k1, k2⟩ := esk inv
        obtain ⟨_, l, eq, o1, o2, o3⟩ := hord Y1 s1 h (ea.trans inv.same) (by rw [eb]; exact inv.blen) (by rw [eb]; exact inv.rest k (Nat.le_refl _) hkl)
        have hqa : q.1.aggs = aggs := by rw [eq]; exact ea.trans inv.same
        have hqn : q.1.n = Y.n := by rw [eq]; exact en
        have hqs : q.1.sums = Y1.sums := by rw [eq]
        have hqb : q.1.bags = Y.bags.set k l := by rw [eq, ← eb]
        have hbk : k < Y.bags.length := by rw [inv.blen]; exact hkl
        have hbl : q.1.bags[k]? = some l := by rw [hqb, List.getElem?_set_self hbk]
        have hbo : ∀ j, j ≠ k → q.1.bags[j]? = Y.bags[j]? := fun j hj => by rw [hqb, List.getElem?_set_ne (fun hh => hj hh.symm)]
        refine ⟨⟨hqa, by rw [hqn]; exact inv.n, by rw [hqs, el]; exact inv.slen, by rw [hqb, List.length_set]; exact inv.blen, fun i g hg => ?_, fun i g hg ho => ?_, fun i hi hil => ?_, fun i g l2 hi hg ho hl2 => ?_⟩, ?_⟩
        · rw [hqs]
          by_cases c : i = k
          · subst c
            rw [hkg] at hg
            have := Option.some.inj hg
            subst this
            refine ⟨sk, k1, ?_, k2⟩
            by_cases cc : aggs[i].kind = 1
            · exact eik cc
            · rw [k2 cc]; exact ⟨by omega, by omega⟩
          · rw [eo i c]; exact inv.sums i g hg
        · by_cases c : i = k
          · subst c
            rw [hkg] at hg
            have := Option.some.inj hg
            subst this
            rw [hbl, o2 ho]
          · rw [hbo i c]; exact inv.none_ i g hg ho
        · rw [hbo i (by omega)]; exact inv.rest i (by omega) hil
        · rw [hqn]
          by_cases c : i = k
          · subst c
            rw [hkg] at hg
            have := Option.some.inj hg
            subst this
            rw [hbl] at hl2
            have := Option.some.inj hl2
            subst this
            have := o1 ho
            rw [en] at this
            exact this
          · rw [hbo i c] at hl2
            exact inv.bags i g l2 (by omega) hg ho hl2
        · have hpre : (List.range k).flatMap (encAtF q.1) = (List.range k).flatMap (encAtF Y) := by
            rw [List.flatMap_def, List.flatMap_def]
            congr 1
            apply List.map_congr_left
            intro j hj
            have hj : j < k := List.mem_range.1 hj
            exact encAtF_congr (hqa.trans inv.same.symm) (by rw [hqs, eo j (by omega)]) (hbo j (by omega))
          have hat : encAtF q.1 k = (if aggs[k].kind = 1 then encI sk else []) ++ (if ordB aggs[k] then encI l.length ++ l.flatMap encCnt else []) := by
            rw [encAtF_eq, hqa, hkg, hqs, k1, hbl]
            rfl
          rw [List.range_succ, List.flatMap_append, List.flatMap_singleton, hpre, hat, hqn, ht, r0, o3]
          simp only [List.append_assoc]
      by_cases c : aggs[k].kind = 1
      · refine key { Y with sums := Y.sums.set k (intR s0).1 } (intR s0).2 (intR s0).1 (by unfold sumFR; rw [if_pos c]) rfl rfl rfl (by show (Y.sums.set k _).length = _; rw [List.length_set]) (fun j hj => by show (Y.sums.set k _)[j]? = _; rw [List.getElem?_set_ne (fun hh => hj hh.symm)]) (fun inv => ⟨by show (Y.sums.set k _)[k]? = _; rw [List.getElem?_set_self (by rw [inv.slen]; exact hkl)], fun hh => absurd c hh⟩) (fun _ => intR_in s0) fun hh => ?_
        obtain ⟨i1, i2, _⟩ := intR_rd.back s0 hh
        exact ⟨i1, by rw [if_pos c]; exact i2⟩
      · refine key Y s0 0 (by unfold sumFR; rw [if_neg c]) rfl rfl rfl rfl (fun j _ => rfl) (fun inv => ?_) (fun hh => absurd hh c) fun hh => ⟨hh, by rw [if_neg c, List.nil_append]⟩
        obtain ⟨s, z1, _, z3⟩ := inv.sums k _ hkg
        rw [z1, z3 c]
        exact ⟨rfl, fun _ => rfl⟩
theorem readF_back {aggs : List AggD} {t : Bs} {X : RF} (h : readF aggs t = some X) : RefOk aggs X ∧ encF X = t := by
  unfold readF at h
  split at h
  · cases h
  · rename_i q hq
    split at h
    · rename_i c
      have e := Option.some.inj h
      obtain ⟨d1, d2⟩ := done_end c
      obtain ⟨inv, ht⟩ := readNF_back aggs.length q (Nat.le_refl _) hq d1
      rw [e] at inv ht
      refine ⟨⟨inv.same, inv.n, inv.slen, inv.blen, inv.sums, inv.none_, fun i g l hg ho hl => inv.bags i g l (List.getElem?_eq_some_iff.1 hg).1 hg ho hl⟩, ?_⟩
      rw [ht, d2, List.append_nil]
      unfold encF
      rw [inv.same]
    · cases h
end Go.Proofs.YtoebncgnjbblgaaGreatDoor
/-
  The reference reads what the program reads. No condition.
-/
namespace Go.Proofs.YtoebncgnjbblgaaGreatDoor
open Go.RowKit
set_option maxRecDepth 100000

theorem fold_bag (b : Bag) : (refBag b).foldl (fun a x => W64 (a + x.n)) 0 = (keysV b).foldl (fun a u => W64 (a + cntV b u)) 0 := by
  unfold refBag
  rw [List.foldl_map]
/-- What the program's accumulator is, told of the reference's. -/
theorem refOk_of {N : Nat} {x : ACC} (hf : FitA N x) (ha : Again x) (hz : noZero x) (hs : ∀ (i : Nat) (g : AggD), x.aggs[i]? = some g → g.kind ≠ 1 → x.sums[i]? = some 0) : RefOk x.aggs (refOf x) := by
  refine ⟨rfl, hf.count, hf.good.sums, by show (x.bags.map refO).length = _; rw [List.length_map]; exact hf.good.bags, fun i g hg => ?_, fun i g hg ho => ?_, fun i g l hg ho hl => ?_⟩
  · have hi : i < x.aggs.length := (List.getElem?_eq_some_iff.1 hg).1
    obtain ⟨s, hs1⟩ : ∃ s, x.sums[i]? = some s := ⟨_, List.getElem?_eq_getElem (by rw [hf.good.sums]; exact hi)⟩
    refine ⟨s, hs1, hf.sum i s hs1, fun c => ?_⟩
    have := hs i g hg c
    rw [hs1] at this
    exact Option.some.inj this
  · have hi : i < x.aggs.length := (List.getElem?_eq_some_iff.1 hg).1
    obtain ⟨b, hb⟩ : ∃ b, x.bags[i]? = some b := ⟨_, List.getElem?_eq_getElem (by rw [hf.good.bags]; exact hi)⟩
    have o := hf.good.ord i g b hg hb
    show (x.bags.map refO)[i]? = _
    rw [List.getElem?_map, hb]
    cases b with
    | none => rfl
    | some b => rw [ho] at o; cases o
  · have hl : (x.bags.map refO)[i]? = some l := hl
    rw [List.getElem?_map] at hl
    cases hb : x.bags[i]? with
    | none => rw [hb] at hl; cases hl
    | some b =>
      rw [hb] at hl
      have hl : refO b = l := by simpa using hl
      have o := hf.good.ord i g b hg hb
      rw [ho] at o
      obtain ⟨b, rfl⟩ := Option.isSome_iff_exists.1 o
      subst hl
      have hwf := (hf.good.wf i b hb).1
      have hnz : ∀ u ∈ keysV b, cntV b u ≠ 0 := fun u hu => by
        unfold keysV sortV at hu
        rw [(List.mergeSort_perm _ _).mem_iff, List.mem_map] at hu
        obtain ⟨e, he, rfl⟩ := hu
        unfold cntV
        rw [getE_mem hwf.keys he]
        exact hz i b hb e he
      refine ⟨refBag_ok hwf hnz, fun y hy => ?_, ?_⟩
      · obtain ⟨u, hu, rfl⟩ := List.mem_map.1 hy
        have := hf.bag i b hb u hu
        exact ⟨ha.right i b hb u hu, this.1, this.2.2⟩
      · show (refBag b).foldl _ 0 = x.count
        rw [fold_bag]
        exact ha.total i b hb
/-- Reading what was written: the totals are as the count. -/
theorem readN_tot {aggs : List AggD} {N : Nat} {x : ACC} (hs : x.aggs = aggs) (hf : FitA N x) (hN : N ≤ 1000000) (hr : ∀ (i : Nat) (b : Bag), x.bags[i]? = some (some b) → ∀ u ∈ keysV b, vRight u = true) : ∀ (k : Nat) (y : ACC) (s : RS), k ≤ aggs.length → readN aggs (encA x) k = some (y, s) →
    y.count = x.count ∧ s = ⟨((List.range aggs.length).drop k).flatMap (encAt x), false⟩ ∧ ∀ (i : Nat) (b : Bag), i < k → x.bags[i]? = some (some b) → (keysV b).foldl (fun a u => W64 (a + cntV b u)) 0 = x.count
  | 0, y, s, _, h => by
    have e : intR ⟨encA x, false⟩ = (x.count, ⟨(List.range aggs.length).flatMap (encAt x), false⟩) := by
      unfold encA
      rw [hs]
      exact intR_rd.fore x.count _ hf.count
    rw [readN, e] at h
    have h := Option.some.inj h
    injection h with h1 h2
    subst h1 h2
    exact ⟨rfl, by rw [List.drop_zero], fun i b hi => absurd hi (Nat.not_lt_zero i)⟩
  | k + 1, y, s, hk, h => by
    have hkl : k < aggs.length := by omega
    have hkg : aggs[k]? = some aggs[k] := List.getElem?_eq_getElem hkl
    have hkx : x.aggs[k]? = some aggs[k] := by rw [hs]; exact hkg
    have hd : (List.range aggs.length).drop k = k :: (List.range aggs.length).drop (k + 1) := by
      rw [List.drop_eq_getElem_cons (by simpa using hkl)]
      simp
    have hgo : readN aggs (encA x) (k + 1) = (match readN aggs (encA x) k with
        | none => none
        | some q => match aggs[k]? with
          | none => none
          | some g => readOrd (encA x).length g (readSum g q.1 k q.2).1 k (readSum g q.1 k q.2).2) := rfl
    rw [hgo, hkg] at h
    cases h0 : readN aggs (encA x) k with
    | none => rw [h0] at h; cases h
    | some q0 =>
      obtain ⟨y0, s0⟩ := q0
      rw [h0] at h
      have h : readOrd (encA x).length aggs[k] (readSum aggs[k] y0 k s0).1 k (readSum aggs[k] y0 k s0).2 = some (y, s) := h
      obtain ⟨c0, e0, t0⟩ := readN_tot hs hf hN hr k y0 s0 (by omega) h0
      have hea : encAt x k = encSum x aggs[k] k ++ encOrd x aggs[k] k := by unfold encAt; rw [hkx]
      have htl : ((k :: (List.range aggs.length).drop (k + 1)).flatMap (encAt x)).length ≤ (encA x).length := by
        have := flat_drop_le (encAt x) (List.range aggs.length) k
        rw [hd] at this
        unfold encA
        rw [hs, List.length_append]
        omega
      generalize hrr : ((List.range aggs.length).drop (k + 1)).flatMap (encAt x) = rest at *
      rw [hd, List.flatMap_cons, hrr, hea, List.append_assoc] at e0
      rw [List.flatMap_cons, hrr, hea, List.append_assoc] at htl
      have hsx : k < x.sums.length := by rw [hf.good.sums, hs]; exact hkl
      have hsum : ∃ y1 : ACC, readSum aggs[k] y0 k s0 = (y1, ⟨encOrd x aggs[k] k ++ rest, false⟩) ∧ y1.count = y0.count := by
        by_cases c : aggs[k].kind = 1
        · have hi : inI ((x.sums[k]?).getD 0) := by
            rw [List.getElem?_eq_getElem hsx]
            exact hf.sum k _ (List.getElem?_eq_getElem hsx)
          have e : encSum x aggs[k] k = encI ((x.sums[k]?).getD 0) := by unfold encSum; rw [if_pos c]
          refine ⟨{ y0 with sums := y0.sums.set k ((x.sums[k]?).getD 0) }, ?_, rfl⟩
          unfold readSum
          rw [if_pos c, e0, e, intR_rd.fore _ _ hi]
        · have e : encSum x aggs[k] k = [] := by unfold encSum; rw [if_neg c]
          refine ⟨y0, ?_, rfl⟩
          unfold readSum
          rw [if_neg c, e0, e]
          rfl
      obtain ⟨y1, e1, e2⟩ := hsum
      rw [e1] at h
      simp only at h
      unfold readOrd at h
      by_cases co : ordB aggs[k] = true
      · rw [if_pos co] at h
        have hbx : k < x.bags.length := by rw [hf.good.bags, hs]; exact hkl
        obtain ⟨b0, hb0⟩ : ∃ b0, x.bags[k]? = some b0 := ⟨_, List.getElem?_eq_getElem hbx⟩
        have hso := hf.good.ord k aggs[k] b0 hkx hb0
        rw [co] at hso
        obtain ⟨b, rfl⟩ := Option.isSome_iff_exists.1 hso
        have heo : encOrd x aggs[k] k = encI b.1.length ++ (keysV b).flatMap (encE b) := by unfold encOrd; rw [if_pos co, hb0]; rfl
        have hlen := (hf.good.wf k b hb0).2
        have hkl2 := keysV_len b
        have hge := flat_ge (encE b) (keysV b) fun u _ => by
          have := encT_pos (encV1 u)
          unfold encE
          rw [List.length_append]
          omega
        rw [heo] at htl
        simp only [List.length_append] at htl
        have hmin : (min (b.1.length : Int) ((encA x).length : Int)).toNat = (keysV b).length := by omega
        have hre := readEnts_enc (cntV b) (keysV b) ([], 0) 0 rest fun u hu => ⟨hr k b hb0 u hu, (hf.bag k b hb0 u hu).1, (hf.bag k b hb0 u hu).2.1, (hf.bag k b hb0 u hu).2.2⟩
        have hfe : (keysV b).flatMap (fun u => encT (encV1 u) ++ encI (cntV b u)) = (keysV b).flatMap (encE b) := rfl
        rw [hfe] at hre
        rw [heo, List.append_assoc, natR_rd.fore (b.1.length : Int) _ ⟨by omega, ⟨by omega, by omega⟩⟩] at h
        simp only at h
        rw [hmin, hre] at h
        simp only at h
        split at h
        · rename_i c
          have h := Option.some.inj h
          injection h with h1 h2
          subst h1 h2
          refine ⟨by show y1.count = _; rw [e2, c0], rfl, fun i b2 hi hb2 => ?_⟩
          by_cases cc : i = k
          · subst cc
            rw [hb0] at hb2
            have := Option.some.inj (Option.some.inj hb2)
            subst this
            rw [c, e2, c0]
          · exact t0 i b2 (by omega) hb2
        · cases h
      · rw [if_neg co] at h
        have heo : encOrd x aggs[k] k = [] := by unfold encOrd; rw [if_neg co]
        rw [heo, List.nil_append] at h
        have h := Option.some.inj h
        injection h with h1 h2
        subst h1 h2
        refine ⟨by rw [e2, c0], rfl, fun i b2 hi hb2 => ?_⟩
        by_cases cc : i = k
        · subst cc
          have := hf.good.ord i _ _ hkx hb2
          exact absurd this.symm co
        · exact t0 i b2 (by omega) hb2
theorem readA_raw {aggs : List AggD} {t : Bs} {x : ACC} (h : readA aggs t = some x) : ∃ s, readN aggs t aggs.length = some (x, s) ∧ encA x = t ∧ noZero x := by
  unfold readA at h
  split at h
  · cases h
  · rename_i q hq
    split at h
    · rename_i c
      have e := Option.some.inj h
      subst e
      exact ⟨q.2, hq, c.2.1, c.2.2⟩
    · cases h
/-- What reading keeps: AccR, and sums of the others are 0. -/
structure ReadK (aggs : List AggD) (tl : Nat) (x : ACC) : Prop where
  acc : AccR aggs tl x
  zs : ∀ (i : Nat) (g : AggD), aggs[i]? = some g → g.kind ≠ 1 → x.sums[i]? = some 0
theorem readN_keep {aggs : List AggD} {t : Bs} : ∀ (k : Nat) (y : ACC) (s : RS), k ≤ aggs.length → readN aggs t k = some (y, s) → ReadK aggs t.length y
  | 0, y, s, _, h => by
    rw [readN] at h
    have h := Option.some.inj h
    injection h with h1 h2
    subst h1 h2
    refine ⟨accR_new (intR_in _), fun i g hg _ => ?_⟩
    show (List.replicate aggs.length (0 : Int))[i]? = _
    rw [List.getElem?_replicate, if_pos (List.getElem?_eq_some_iff.1 hg).1]
  | k + 1, y, s, hk, h => by
    have hkl : k < aggs.length := by omega
    have hkg : aggs[k]? = some aggs[k] := List.getElem?_eq_getElem hkl
    have hgo : readN aggs t (k + 1) = (match readN aggs t k with
        | none => none
        | some q => match aggs[k]? with
          | none => none
          | some g => readOrd t.length g (readSum g q.1 k q.2).1 k (readSum g q.1 k q.2).2) := rfl
    rw [hgo, hkg] at h
    cases h0 : readN aggs t k with
    | none => rw [h0] at h; cases h
    | some q0 =>
      obtain ⟨y0, s0⟩ := q0
      rw [h0] at h
      have h : readOrd t.length aggs[k] (readSum aggs[k] y0 k s0).1 k (readSum aggs[k] y0 k s0).2 = some (y, s) := h
      have r0 := readN_keep k y0 s0 (by omega) h0
      have r1 : ReadK aggs t.length (readSum aggs[k] y0 k s0).1 := by
        unfold readSum
        by_cases c : aggs[k].kind = 1
        · rw [if_pos c]
          refine ⟨r0.acc.sum k (intR_in s0), fun i g hg hne => ?_⟩
          show (y0.sums.set k _)[i]? = _
          have : k ≠ i := fun e => by
            subst e
            rw [hkg] at hg
            rw [Option.some.inj hg] at c
            exact hne c
          rw [List.getElem?_set_ne this]
          exact r0.zs i g hg hne
        · rw [if_neg c]; exact r0
      generalize readSum aggs[k] y0 k s0 = q1 at *
      obtain ⟨y1, s1⟩ := q1
      simp only at h r1
      unfold readOrd at h
      by_cases co : ordB aggs[k] = true
      · rw [if_pos co] at h
        split at h
        · cases h
        · rename_i q hq
          split at h
          · have h := Option.some.inj h
            injection h with h1 h2
            subst h1 h2
            obtain ⟨z1, z2⟩ := readEnts_ok _ BagR.nil hq
            refine ⟨r1.acc.bag hkg co (z1.mono ?_), r1.zs⟩
            have : (min (natR s1).1 (t.length : Int)).toNat ≤ t.length := by omega
            omega
          · cases h
      · rw [if_neg co] at h
        have h := Option.some.inj h
        injection h with h1 h2
        subst h1 h2
        exact r1
/-- What the program reads, the reference reads. -/
theorem readF_of {aggs : List AggD} {t : Bs} {x : ACC} (hl : aggs.length ≤ 1000) (ht : t.length ≤ 1000000) (h : readA aggs t = some x) : readF aggs t = some (refOf x) ∧ GoodA t.length x ∧ x.aggs = aggs := by
  obtain ⟨s, h1, h2, h3⟩ := readA_raw h
  have hk := readN_keep aggs.length x s (Nat.le_refl _) h1
  have hf := hk.acc.fit hl
  have hr : ∀ (i : Nat) (b : Bag), x.bags[i]? = some (some b) → ∀ u ∈ keysV b, vRight u = true := fun i b hb u hu => by
    have hB := hk.acc.bags i b hb
    unfold keysV sortV at hu
    rw [(List.mergeSort_perm _ _).mem_iff, List.mem_map] at hu
    obtain ⟨e, he, rfl⟩ := hu
    exact (hB.keys _ _ (getE_mem hB.wf.keys he)).1
  rw [← h2] at h1
  obtain ⟨_, _, tt⟩ := readN_tot hk.acc.same hf ht hr aggs.length x s (Nat.le_refl _) h1
  have ha : Again x := ⟨hr, fun i b hb => tt i b (by rw [← hk.acc.blen]; exact (List.getElem?_eq_some_iff.1 hb).1) hb⟩
  have hok := refOk_of hf ha h3 (by rw [hk.acc.same]; exact hk.zs)
  rw [hk.acc.same] at hok
  refine ⟨?_, hk.acc.good hl, hk.acc.same⟩
  have := readF_fore hok fun i l hi => by
    have hi : (x.bags.map refO)[i]? = some l := hi
    rw [List.getElem?_map] at hi
    cases hb : x.bags[i]? with
    | none => rw [hb] at hi; cases hi
    | some b =>
      rw [hb] at hi
      have hi : refO b = l := by simpa using hi
      subst hi
      cases b with
      | none => exact Nat.zero_le _
      | some b =>
        have h4 := (hf.good.wf i b hb).2
        have h5 := keysV_len b
        show (refBag b).length ≤ _
        unfold refBag
        rw [List.length_map]
        omega
  rw [encF_of hf.good, h2] at this
  exact this
/-- What the reference reads, the program reads. -/
def bagOf (l : List CntD) : Bag := (l.map (·.v_)).foldl (fun b u => setE u ((getF l u).getD 0) b.1 b.2) ([], 0)
theorem bagOf_ok {l : List CntD} (h : BagF l) : WfE (bagOf l).1 (bagOf l).2 ∧ (bagOf l).1.length ≤ l.length ∧ (∀ u, getE u (bagOf l).1 = getF l u) ∧ refBag (bagOf l) = l := by
  have h1 := foldSet_wf (fun u => (getF l u).getD 0) (l.map (·.v_)) ([], 0) WfE.nil
  have h2 : ∀ u, getE u (bagOf l).1 = getF l u := fun u => by
    unfold bagOf
    rw [foldSet_get _ _ _ WfE.nil]
    by_cases c : u ∈ l.map (·.v_)
    · rw [if_pos c]
      cases hg : getF l u with
      | none =>
        obtain ⟨x, hx, rfl⟩ := List.mem_map.1 c
        have : ∀ {l : List CntD}, x ∈ l → getF l x.v_ ≠ none := by
          intro l hx
          induction l with
          | nil => cases hx
          | cons y l ih =>
            rw [getF_cons]
            by_cases e : y.v_ = x.v_
            · rw [if_pos e]; exact fun hh => by cases hh
            · rw [if_neg e]
              rcases List.mem_cons.1 hx with rfl | hx
              · exact absurd rfl e
              · exact ih hx
        exact absurd hg (this hx)
      | some n => rfl
    · rw [if_neg c]
      rw [getF_none fun x hx e => c (List.mem_map.2 ⟨x, hx, e⟩)]
      rfl
  have hwf : WfE (bagOf l).1 (bagOf l).2 := h1.1
  have hcnt : ∀ u ∈ keysV (bagOf l), cntV (bagOf l) u ≠ 0 := fun u hu => by
    unfold keysV sortV at hu
    rw [(List.mergeSort_perm _ _).mem_iff, List.mem_map] at hu
    obtain ⟨e, he, rfl⟩ := hu
    have hg := getE_mem hwf.keys he
    rw [h2] at hg
    obtain ⟨x, hx, e1, e2⟩ := getF_some hg
    unfold cntV
    rw [h2, hg]
    show e.2.1 ≠ 0
    rw [← e2]
    exact h.nz x hx
  refine ⟨hwf, by have h3 := h1.2; rw [List.length_map] at h3; exact Nat.le_trans h3 (by simp), h2, bagF_ext (refBag_ok hwf hcnt) h fun u => by rw [refBag_get hwf, h2]⟩
def accOf (X : RF) : ACC := ⟨X.aggs, X.n, X.sums, List.zipWith (fun g l => if ordB g then some (bagOf l) else none) X.aggs X.bags⟩
theorem readA_of {aggs : List AggD} {t : Bs} {X : RF} (hl : aggs.length ≤ 1000) (ht : t.length ≤ 1000000) (h : readF aggs t = some X) : ∃ x, readA aggs t = some x := by
  obtain ⟨hX, he⟩ := readF_back h
  have hsm : aggs = X.aggs := hX.same.symm
  have hbag : ∀ (i : Nat) (g : AggD) (l : List CntD), X.aggs[i]? = some g → X.bags[i]? = some l → (accOf X).bags[i]? = some (if ordB g then some (bagOf l) else none) := fun i g l hg hb => by
    show (List.zipWith _ _ _)[i]? = _
    rw [List.getElem?_zipWith, hg, hb]
  have get : ∀ i : Nat, i < X.aggs.length → ∃ g l, X.aggs[i]? = some g ∧ X.bags[i]? = some l := fun i hi => ⟨_, _, List.getElem?_eq_getElem hi, List.getElem?_eq_getElem (by rw [hX.blen, ← hX.same]; exact hi)⟩
  have bl : (accOf X).bags.length = X.aggs.length := by
    show (List.zipWith _ _ _).length = _
    rw [List.length_zipWith, hX.blen, ← hX.same]
    omega
  have inv : ∀ (i : Nat) (b : Bag), (accOf X).bags[i]? = some (some b) → ∃ g l, X.aggs[i]? = some g ∧ X.bags[i]? = some l ∧ ordB g = true ∧ b = bagOf l ∧ BagF l ∧ (∀ x ∈ l, EntOk x) ∧ l.foldl (fun a x => W64 (a + x.n)) 0 = X.n := fun i b hb => by
    have hi : i < X.aggs.length := by rw [← bl]; exact (List.getElem?_eq_some_iff.1 hb).1
    obtain ⟨g, l, hg, hl2⟩ := get i hi
    rw [hbag i g l hg hl2] at hb
    by_cases o : ordB g = true
    · rw [if_pos o] at hb
      have hb := Option.some.inj (Option.some.inj hb)
      obtain ⟨b1, b2, b3⟩ := hX.bags i g l (by rw [hsm]; exact hg) o hl2
      exact ⟨g, l, hg, hl2, o, hb.symm, b1, b2, b3⟩
    · rw [if_neg o] at hb; cases hb
  have hlen : ∀ (i : Nat) (g : AggD) (l : List CntD), X.aggs[i]? = some g → X.bags[i]? = some l → ordB g = true → l.length ≤ t.length := fun i g l hg hl2 o => by
    have h1 : l.length ≤ (l.flatMap encCnt).length := flat_ge encCnt l fun x _ => by
      have := encT_pos (encV1 x.v_)
      unfold encCnt
      rw [List.length_append]
      omega
    have h2 : (l.flatMap encCnt).length ≤ (encAtF X i).length := by
      rw [encAtF_eq, hg, hl2]
      simp only [o, if_true, List.length_append, Option.getD_some]
      omega
    have h3 : (encAtF X i).length ≤ ((List.range X.aggs.length).flatMap (encAtF X)).length := by
      have hi : i ∈ List.range X.aggs.length := List.mem_range.2 (List.getElem?_eq_some_iff.1 hg).1
      clear he h2 h1
      generalize List.range X.aggs.length = L at hi
      induction L with
      | nil => cases hi
      | cons a L ih =>
        rw [List.flatMap_cons, List.length_append]
        rcases List.mem_cons.1 hi with rfl | hi
        · omega
        · have := ih hi; omega
    have h4 := congrArg List.length he
    unfold encF at h4
    rw [List.length_append] at h4
    omega
  have gx : GoodA t.length (accOf X) := by
    refine ⟨by show X.aggs.length ≤ _; rw [hX.same]; exact hl, by show X.sums.length = X.aggs.length; rw [hX.slen, hX.same], bl, fun i g b hg hb => ?_, fun i b hb => ?_⟩
    · have hi : i < X.aggs.length := (List.getElem?_eq_some_iff.1 hg).1
      obtain ⟨g2, l, hg2, hl2⟩ := get i hi
      have hg : X.aggs[i]? = some g := hg
      rw [hg] at hg2
      have := Option.some.inj hg2
      subst this
      rw [hbag i g l hg hl2] at hb
      rw [← Option.some.inj hb]
      by_cases o : ordB g = true
      · rw [if_pos o, o]; rfl
      · rw [if_neg o]; simpa using o
    · obtain ⟨g, l, hg, hl2, o, rfl, b1, b2, b3⟩ := inv i b hb
      obtain ⟨w1, w2, _, _⟩ := bagOf_ok b1
      have := hlen i g l hg hl2 o
      exact ⟨w1, by omega⟩
  have hin : ∀ (i : Nat) (b : Bag), (accOf X).bags[i]? = some (some b) → ∀ u ∈ keysV b, EntOk ⟨u, cntV b u⟩ := fun i b hb u hu => by
    obtain ⟨g, l, hg, hl2, o, rfl, b1, b2, b3⟩ := inv i b hb
    obtain ⟨w1, w2, w3, w4⟩ := bagOf_ok b1
    refine b2 _ ?_
    have hm : (⟨u, cntV (bagOf l) u⟩ : CntD) ∈ refBag (bagOf l) := List.mem_map.2 ⟨u, hu, rfl⟩
    rw [w4] at hm
    exact hm
  have fx : FitA t.length (accOf X) := by
    refine ⟨gx, hX.count, fun i s hs => ?_, fun i b hb u hu => ?_⟩
    · have hs : X.sums[i]? = some s := hs
      have hi : i < aggs.length := by rw [← hX.slen]; exact (List.getElem?_eq_some_iff.1 hs).1
      obtain ⟨s2, z1, z2, _⟩ := hX.sums i _ (List.getElem?_eq_getElem hi)
      rw [hs] at z1
      rw [Option.some.inj z1]
      exact z2
    · have := hin i b hb u hu
      exact ⟨this.good, right_s this.right, this.n⟩
  have ax : Again (accOf X) := by
    refine ⟨fun i b hb u hu => (hin i b hb u hu).right, fun i b hb => ?_⟩
    obtain ⟨g, l, hg, hl2, o, rfl, b1, b2, b3⟩ := inv i b hb
    obtain ⟨w1, w2, w3, w4⟩ := bagOf_ok b1
    rw [← fold_bag, w4]
    exact b3
  have nx : noZero (accOf X) := fun i b hb e he h0 => by
    obtain ⟨g, l, hg, hl2, o, rfl, b1, b2, b3⟩ := inv i b hb
    obtain ⟨w1, w2, w3, w4⟩ := bagOf_ok b1
    have hge := getE_mem w1.keys he
    rw [w3] at hge
    obtain ⟨x, hx, e1, e2⟩ := getF_some hge
    exact b1.nz x hx (e2.trans h0)
  have href : refOf (accOf X) = X := by
    have : (accOf X).bags.map refO = X.bags := List.ext_getElem? fun i => by
      rw [List.getElem?_map]
      by_cases hi : i < X.aggs.length
      · obtain ⟨g, l, hg, hl2⟩ := get i hi
        rw [hbag i g l hg hl2, hl2]
        by_cases o : ordB g = true
        · rw [if_pos o]
          obtain ⟨b1, _, _⟩ := hX.bags i g l (by rw [hsm]; exact hg) o hl2
          show some (refBag (bagOf l)) = _
          rw [(bagOf_ok b1).2.2.2]
        · rw [if_neg o]
          have := hX.none_ i g (by rw [hsm]; exact hg) (by simpa using o)
          rw [hl2] at this
          rw [this]
          rfl
      · rw [List.getElem?_eq_none (by rw [bl]; omega), List.getElem?_eq_none (by rw [hX.blen, ← hX.same]; omega)]
        rfl
    unfold refOf
    rw [this]
    rfl
  have hen : encA (accOf X) = t := by rw [← encF_of gx, href, he]
  obtain ⟨y, e1, iv⟩ := readN_enc (aggs := aggs) (x := accOf X) hX.same fx ht ax aggs.length (Nat.le_refl _)
  rw [hen] at e1
  have hk := readN_keep aggs.length y _ (Nat.le_refl _) e1
  have gy := hk.acc.good hl
  have hys : refOf y = X := by
    have y1 : y.aggs = X.aggs := hk.acc.same.trans hX.same.symm
    have y2 : y.count = X.n := iv.count
    have y3 : y.sums = X.sums := List.ext_getElem? fun i => by
      by_cases hi : i < aggs.length
      · have hg := List.getElem?_eq_getElem hi
        obtain ⟨s, z1, z2, z3⟩ := hX.sums i _ hg
        have := iv.sdone i hi _ hg
        rw [this, z1]
        by_cases c : aggs[i].kind = 1
        · rw [if_pos c]
          show some ((X.sums[i]?).getD 0) = _
          rw [z1]
          rfl
        · rw [if_neg c, z3 c]
      · rw [List.getElem?_eq_none (by rw [iv.slen]; omega), List.getElem?_eq_none (by rw [hX.slen]; omega)]
    have y4 : y.bags.map refO = X.bags := List.ext_getElem? fun i => by
      rw [List.getElem?_map]
      by_cases hi : i < aggs.length
      · have hi2 : i < X.aggs.length := by rw [hX.same]; exact hi
        obtain ⟨g, l, hg, hl2⟩ := get i hi2
        have hg' : aggs[i]? = some g := by rw [hsm]; exact hg
        rw [hl2]
        by_cases o : ordB g = true
        · obtain ⟨b1, _, _⟩ := hX.bags i g l hg' o hl2
          obtain ⟨w1, w2, w3, w4⟩ := bagOf_ok b1
          have hb := hbag i g l hg hl2
          rw [if_pos o] at hb
          obtain ⟨b2, q1, ⟨q2, _⟩, q3⟩ := iv.bdone i hi _ hb
          rw [q1]
          show some (refBag b2) = some l
          have hget : ∀ u, getE u b2.1 = getF l u := fun u => by
            rw [q3]
            have := refBag_get w1 u
            rw [w4] at this
            by_cases c : u ∈ keysV (bagOf l)
            · rw [if_pos c]
              have h1 : u ∈ (bagOf l).1.map (·.1) := by
                unfold keysV sortV at c
                rw [(List.mergeSort_perm _ _).mem_iff] at c
                exact c
              obtain ⟨e, he2, rfl⟩ := List.mem_map.1 h1
              unfold cntV
              rw [getE_mem w1.keys he2, this, getE_mem w1.keys he2]
              rfl
            · rw [if_neg c, this]
              cases hq : getE u (bagOf l).1 with
              | none => rfl
              | some n =>
                refine absurd ?_ c
                unfold keysV sortV
                rw [(List.mergeSort_perm _ _).mem_iff, List.mem_map]
                refine Classical.byContradiction fun hno => ?_
                rw [getE_none.2 fun e he2 hu => hno ⟨e, he2, hu⟩] at hq
                cases hq
          have hnz : ∀ u ∈ keysV b2, cntV b2 u ≠ 0 := fun u hu => by
            unfold keysV sortV at hu
            rw [(List.mergeSort_perm _ _).mem_iff, List.mem_map] at hu
            obtain ⟨e, he2, rfl⟩ := hu
            have hge := getE_mem q2.keys he2
            unfold cntV
            rw [hge]
            rw [hget] at hge
            obtain ⟨x, hx, e3, e4⟩ := getF_some hge
            show e.2.1 ≠ 0
            rw [← e4]
            exact b1.nz x hx
          rw [bagF_ext (refBag_ok q2 hnz) b1 fun u => by rw [refBag_get q2, hget]]
        · have o : ordB g = false := by simpa using o
          rw [iv.nil_ i g hg' o]
          have := hX.none_ i g hg' o
          rw [hl2] at this
          rw [this]
          rfl
      · rw [List.getElem?_eq_none (by rw [iv.blen]; omega), List.getElem?_eq_none (by rw [hX.blen]; omega)]
        rfl
    unfold refOf
    rw [y1, y2, y3, y4]
  have ny : noZero y := fun i b hb e he2 h0 => by
    have hi : i < aggs.length := by rw [← iv.blen]; exact (List.getElem?_eq_some_iff.1 hb).1
    have hwf := (gy.wf i b hb).1
    have hr : X.bags[i]? = some (refBag b) := by
      rw [← hys]
      show (y.bags.map refO)[i]? = _
      rw [List.getElem?_map, hb]
      rfl
    have o : ordB aggs[i] = true := by
      have := gy.ord i aggs[i] _ (by rw [hk.acc.same]; exact List.getElem?_eq_getElem hi) hb
      exact this.symm
    obtain ⟨b1, _, _⟩ := hX.bags i _ _ (List.getElem?_eq_getElem hi) o hr
    have hge := getE_mem hwf.keys he2
    rw [← refBag_get hwf] at hge
    obtain ⟨x, hx, e3, e4⟩ := getF_some hge
    exact b1.nz x hx (e4.trans h0)
  refine ⟨y, readA_ok e1 ⟨?_, ?_, ny⟩⟩
  · rw [List.drop_of_length_le (by simp)]
    rfl
  · rw [← encF_of gy, hys, he]
end Go.Proofs.YtoebncgnjbblgaaGreatDoor
