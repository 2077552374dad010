/-
  Maps of one's own: lookups, updates, deletions, ranges. No condition.
-/
import Derived.Test.YtoebncgnjbblgaaGreatDoorPlus
import Derived.Maps.RangeRun
namespace Go.Proofs.YtoebncgnjbblgaaGreatDoor
open Go.RowKit

/-- An entry: key, value, stamp. -/
abbrev Ent (κ ν : Type) := κ × ν × Nat

section
variable {κ ν : Type} [Enc κ] [Enc ν] [DecidableEq κ]
def entV (e : Ent κ ν) : MapEntry := { key := Enc.val e.1, val := Enc.val e.2.1, born := e.2.2 }
def findE (x : κ) : List (Ent κ ν) → Nat → Option (Nat × ν)
  | [], _ => none
  | e :: l, i => if x = e.1 then some (i, e.2.1) else findE x l (i + 1)
def getE (x : κ) (l : List (Ent κ ν)) : Option ν := (findE x l 0).map (·.2)
end

structure KeyTy (P : Program) (k : TypeId) (κ : Type) [Enc κ] [DecidableEq κ] : Prop where
  chk : ∀ (e : Bool) (x : κ) (w : World), (Instr.checkKey e 10000 k (Enc.val x)).run P w = .ok () w
  find : ∀ {ν : Type} [Enc ν] (x : κ) (l : List (Ent κ ν)) (w : World), (Instr.findKey k (Enc.val x) (l.map entV)).run P w = .ok ((findE x l 0).map fun p => (p.1, Enc.val p.2)) w
  bits : ∀ x : κ, Instr.sameBits 10000 (Enc.val x) (Enc.val x) = true

theorem KeyTy.int {P : Program} {k : TypeId} (hk : P.underlying k = some (.int .i64)) : KeyTy P k Int where
  chk e x w := by
    show (Instr.checkKey e (9999 + 1) k (.int .i64 x)).run P w = _
    unfold Instr.checkKey
    rw [Sem.run_bind, run_underlying hk]
    rfl
  find {ν} _ x l w := by
    have key : ∀ (l : List (Ent Int ν)) (i : Nat), Instr.findNow (.int .i64) (.int .i64 x) (l.map entV) i = some ((findE x l i).map fun p => (p.1, Enc.val p.2)) := by
      intro l
      induction l with
      | nil => intro i; rfl
      | cons e l ih =>
        intro i
        simp only [List.map_cons, Instr.findNow, findE]
        have : Instr.sameNow (.int .i64) (.int .i64 x) (entV e).key = some (x == e.1) := by simp [Instr.sameNow, entV, Enc.val]
        rw [this]
        by_cases h : x = e.1
        · rw [if_pos h, beq_iff_eq.2 h]; rfl
        · rw [if_neg h, beq_eq_false_iff_ne.2 h]; exact ih (i + 1)
    unfold Instr.findKey
    rw [Sem.run_bind, run_underlying hk]
    simp only [Result.andThen_ok]
    rw [show (Enc.val x : Value) = .int .i64 x from rfl, key l 0]
    rfl
  bits x := by
    show Instr.sameBits (9999 + 1) (.int .i64 x) (.int .i64 x) = true
    simp [Instr.sameBits]

def ckB (P : Program) (t : TypeId) : Bool :=
  match P.underlying t with
  | some (.int _) => true
  | some .bool => true
  | some .string => true
  | _ => false
theorem check_sc {P : Program} {e : Bool} {n : Nat} {t : TypeId} {v : Value} {w : World} (h : ckB P t = true) : (Instr.checkKey e (n + 1) t v).run P w = .ok () w := by
  unfold ckB at h
  unfold Instr.checkKey
  split at h
  · rename_i hu; rw [Sem.run_bind, run_underlying hu]; rfl
  · rename_i hu; rw [Sem.run_bind, run_underlying hu]; rfl
  · rename_i hu; rw [Sem.run_bind, run_underlying hu]; rfl
  · cases h

theorem KeyTy.agg {P : Program} {k : TypeId} {κ : Type} [Enc κ] [DecidableEq κ] {fs : Array Field} (hk : P.underlying k = some (.struct fs)) (hv : ∀ x : κ, Enc.val x = .agg (Enc.cells x).toArray)
    (hf : (fs.toList.all fun f => ckB P f.type && scB P f.type && Nat.blt f.offset (Enc.sz κ)) = true)
    (heq : ∀ (x y : κ) (w : World), (Op.equal k (Enc.val x) (Enc.val y)).run P w = .ok (decide (x = y)) w) (hb : ∀ x : κ, Instr.sameBits 10000 (Enc.val x) (Enc.val x) = true) : KeyTy P k κ where
  chk e x w := by
    rw [hv x]
    show (Instr.checkKey e (9999 + 1) k (.agg _)).run P w = _
    unfold Instr.checkKey
    rw [Sem.run_bind, run_underlying hk]
    simp only [Result.andThen_ok]
    rw [← Array.forIn_toList]
    have hf := List.all_eq_true.1 hf
    generalize fs.toList = L at hf ⊢
    induction L with
    | nil => rfl
    | cons f L ih =>
      have h1 := hf f List.mem_cons_self
      simp only [Bool.and_eq_true] at h1
      have hlt : f.offset < Enc.sz κ := by simpa using h1.2
      have hp : (part f.type (Enc.cells x).toArray f.offset).run P w = .ok ((Enc.cells x)[f.offset]'(by rw [Enc.len]; exact hlt)) w := part_sc h1.1.2 (by simp [Enc.len, hlt])
      have ih := ih fun g hg => hf g (List.mem_cons_of_mem _ hg)
      rw [List.forIn_cons]
      by_cases hn : f.name = "_"
      · simp only [hn, ne_eq, not_true_eq_false, if_false, pure_bind]
        exact ih
      · simp only [hn, ne_eq, not_false_eq_true, if_true, bind_assoc, pure_bind]
        rw [Sem.run_bind, hp]
        simp only [Result.andThen_ok]
        rw [Sem.run_bind, check_sc h1.1.1]
        simp only [Result.andThen_ok]
        exact ih
  find {ν} _ x l w := by
    have ask : ∀ (l : List (Ent κ ν)) (i : Nat), (Instr.findAsking k (Enc.val x) (l.map entV) i).run P w = .ok ((findE x l i).map fun p => (p.1, Enc.val p.2)) w := by
      intro l
      induction l with
      | nil => intro i; rfl
      | cons e l ih =>
        intro i
        simp only [List.map_cons, Instr.findAsking, findE]
        rw [Sem.run_bind, show (entV e).key = Enc.val e.1 from rfl, heq]
        simp only [Result.andThen_ok]
        by_cases h : x = e.1
        · rw [if_pos h, decide_eq_true h]; rfl
        · rw [if_neg h, decide_eq_false h]; exact ih (i + 1)
    unfold Instr.findKey
    rw [Sem.run_bind, run_underlying hk]
    simp only [Result.andThen_ok]
    cases l with
    | nil => rfl
    | cons e l =>
      have : Instr.findNow (.struct fs) (Enc.val x) ((e :: l).map entV) 0 = none := by
        simp only [List.map_cons, Instr.findNow]
        have : Instr.sameNow (.struct fs) (Enc.val x) (entV e).key = none := by rw [hv x]; rfl
        rw [this]
      rw [this]
      exact ask (e :: l) 0
  bits := hb

/-! ### What happens to the entries -/
section
variable {κ ν : Type} [DecidableEq κ]
/-- The entry of a key: there, or new with the zero value. -/
def entryE (x : κ) (z : ν) (l : List (Ent κ ν)) (c : Nat) : List (Ent κ ν) × Nat × Nat × ν :=
  match findE x l 0 with
  | some (i, v) => (l, c, ((l[i]?).map (·.2.2)).getD 0, v)
  | none => (l ++ [(x, z, c)], c + 1, c, z)
def setE (x : κ) (y : ν) (l : List (Ent κ ν)) (c : Nat) : List (Ent κ ν) × Nat :=
  match findE x l 0 with
  | some (i, _) => (l.modify i fun e => (e.1, y, e.2.2), c)
  | none => (l ++ [(x, y, c)], c + 1)
def storeE (b : Nat) (y : ν) (l : List (Ent κ ν)) : List (Ent κ ν) :=
  match l.findIdx? fun e => e.2.2 == b with
  | some i => l.modify i fun e => (e.1, y, e.2.2)
  | none => l
def delE (x : κ) (l : List (Ent κ ν)) : List (Ent κ ν) :=
  match findE x l 0 with
  | some (i, _) => l.eraseIdx i
  | none => l
/-- Keys once each, stamps once each and below the clock. -/
structure WfE (l : List (Ent κ ν)) (c : Nat) : Prop where
  keys : (l.map (·.1)).Nodup
  stamps : (l.map (·.2.2)).Nodup
  below : ∀ e ∈ l, e.2.2 < c

theorem findE_shift (x : κ) (l : List (Ent κ ν)) : ∀ i, findE x l i = (findE x l 0).map fun p => (p.1 + i, p.2) := by
  induction l with
  | nil => intro i; rfl
  | cons e l ih =>
    intro i
    simp only [findE]
    by_cases h : x = e.1
    · simp [h]
    · rw [if_neg h, if_neg h, ih (i + 1), ih (0 + 1), Option.map_map]
      congr 1
      funext p
      simp only [Function.comp_apply]
      congr 1
      omega
theorem findE_some {x : κ} {l : List (Ent κ ν)} {i : Nat} {v : ν} (h : findE x l 0 = some (i, v)) : ∃ hi : i < l.length, l[i].1 = x ∧ l[i].2.1 = v := by
  induction l generalizing i with
  | nil => cases h
  | cons e l ih =>
    simp only [findE] at h
    by_cases hx : x = e.1
    · rw [if_pos hx] at h
      cases h
      exact ⟨by simp, hx.symm, rfl⟩
    · rw [if_neg hx, findE_shift] at h
      rw [Option.map_eq_some_iff] at h
      obtain ⟨⟨j, u⟩, h1, h2⟩ := h
      simp only [Prod.mk.injEq] at h2
      obtain ⟨rfl, rfl⟩ := h2
      obtain ⟨h3, h4⟩ := ih h1
      exact ⟨by simp; omega, h4⟩
theorem findE_none {x : κ} {l : List (Ent κ ν)} (h : findE x l 0 = none) : ∀ e ∈ l, e.1 ≠ x := by
  induction l with
  | nil => intro e he; cases he
  | cons e l ih =>
    simp only [findE] at h
    by_cases hx : x = e.1
    · rw [if_pos hx] at h; cases h
    · rw [if_neg hx, findE_shift, Option.map_eq_none_iff] at h
      intro e' he
      rcases List.mem_cons.1 he with rfl | he
      · exact fun e => hx e.symm
      · exact ih h e' he
theorem getE_none {x : κ} {l : List (Ent κ ν)} : getE x l = none ↔ ∀ e ∈ l, e.1 ≠ x := by
  unfold getE
  rw [Option.map_eq_none_iff]
  refine ⟨findE_none, fun h => ?_⟩
  cases hf : findE x l 0 with
  | none => rfl
  | some p =>
    obtain ⟨h1, h2, _⟩ := findE_some (i := p.1) (v := p.2) hf
    exact absurd h2 (h _ (List.getElem_mem h1))
theorem getE_mem {l : List (Ent κ ν)} (hn : (l.map (·.1)).Nodup) {e : Ent κ ν} (he : e ∈ l) : getE e.1 l = some e.2.1 := by
  unfold getE
  cases hf : findE e.1 l 0 with
  | none => exact absurd rfl (findE_none hf e he)
  | some p =>
    obtain ⟨h1, h2, h3⟩ := findE_some (i := p.1) (v := p.2) hf
    obtain ⟨j, hj, rfl⟩ := List.getElem_of_mem he
    have hij : p.1 = j := by
      have := (List.nodup_iff_pairwise_ne.1 hn)
      rw [List.pairwise_iff_getElem] at this
      rcases Nat.lt_trichotomy p.1 j with h | h | h
      · exact absurd (by rw [List.getElem_map, List.getElem_map]; exact h2) (this p.1 j (by simpa using h1) (by simpa using hj) h)
      · exact h
      · exact absurd (by rw [List.getElem_map, List.getElem_map]; exact h2.symm) (this j p.1 (by simpa using hj) (by simpa using h1) h)
    simp only [Option.map_some, Option.some.injEq]
    rw [← h3]
    congr 3
theorem getE_append {x : κ} {l : List (Ent κ ν)} {k : κ} {v : ν} {b : Nat} : getE x (l ++ [(k, v, b)]) = (getE x l).or (if x = k then some v else none) := by
  induction l with
  | nil =>
    simp only [getE, List.nil_append, findE]
    by_cases h : x = k <;> simp [h]
  | cons e l ih =>
    unfold getE at ih ⊢
    simp only [List.cons_append, findE]
    by_cases h : x = e.1
    · simp [h]
    · rw [if_neg h, if_neg h, findE_shift x (l ++ _), findE_shift x l, Option.map_map, Option.map_map]
      exact ih
theorem getE_modify {x k : κ} {l : List (Ent κ ν)} {i : Nat} {y : ν} (hn : (l.map (·.1)).Nodup) (hi : i < l.length) (hk : l[i].1 = k) : getE x (l.modify i fun e => (e.1, y, e.2.2)) = if x = k then some y else getE x l := by
  have hn' : ((l.modify i fun e => (e.1, y, e.2.2)).map (·.1)).Nodup := by
    have : (l.modify i fun e => (e.1, y, e.2.2)).map (·.1) = l.map (·.1) := by
      apply List.ext_getElem (by simp)
      intro j h1 h2
      simp only [List.getElem_map, List.getElem_modify]
      split <;> rfl
    rw [this]; exact hn
  by_cases h : x = k
  · rw [if_pos h]
    have hm : ((l[i].1, y, l[i].2.2) : Ent κ ν) ∈ l.modify i fun e => (e.1, y, e.2.2) := by
      rw [List.mem_iff_getElem]
      exact ⟨i, by simpa using hi, by simp⟩
    have := getE_mem hn' hm
    rw [h, ← hk]
    exact this
  · rw [if_neg h]
    cases hg : getE x l with
    | none =>
      rw [getE_none] at hg ⊢
      intro e he
      obtain ⟨j, hj, rfl⟩ := List.getElem_of_mem he
      rw [List.getElem_modify]
      have hj' : j < l.length := by simpa using hj
      have := hg l[j] (List.getElem_mem hj')
      split <;> exact this
    | some v =>
      have hx : ∃ e ∈ l, e.1 = x ∧ e.2.1 = v := by
        unfold getE at hg
        rw [Option.map_eq_some_iff] at hg
        obtain ⟨⟨j, u⟩, h1, h2⟩ := hg
        obtain ⟨h3, h4, h5⟩ := findE_some h1
        exact ⟨_, List.getElem_mem h3, h4, h5.trans h2⟩
      obtain ⟨e, he, rfl, rfl⟩ := hx
      obtain ⟨j, hj, rfl⟩ := List.getElem_of_mem he
      have hij : i ≠ j := by
        rintro rfl
        exact h hk
      have hm : l[j] ∈ l.modify i fun e => (e.1, y, e.2.2) := by
        rw [List.mem_iff_getElem]
        exact ⟨j, by simpa using hj, by rw [List.getElem_modify, if_neg hij]⟩
      exact getE_mem hn' hm

theorem setE_get {x k : κ} {y : ν} {l : List (Ent κ ν)} {c : Nat} (hn : (l.map (·.1)).Nodup) : getE x (setE k y l c).1 = if x = k then some y else getE x l := by
  unfold setE
  cases hf : findE k l 0 with
  | none =>
    show getE x (l ++ [(k, y, c)]) = _
    rw [getE_append]
    have := findE_none hf
    by_cases h : x = k
    · subst h
      rw [if_pos rfl, if_pos rfl, getE_none.2 this]; rfl
    · rw [if_neg h, if_neg h]; simp
  | some p =>
    obtain ⟨h1, h2, _⟩ := findE_some (i := p.1) (v := p.2) hf
    exact getE_modify hn h1 h2
omit [DecidableEq κ] in
theorem modify_keys {l : List (Ent κ ν)} {i : Nat} {y : ν} : (l.modify i fun e => (e.1, y, e.2.2)).map (·.1) = l.map (·.1) := by
  apply List.ext_getElem (by simp)
  intro j h1 h2
  simp only [List.getElem_map, List.getElem_modify]
  split <;> rfl
omit [DecidableEq κ] in
theorem modify_stamps {l : List (Ent κ ν)} {i : Nat} {y : ν} : (l.modify i fun e => (e.1, y, e.2.2)).map (·.2.2) = l.map (·.2.2) := by
  apply List.ext_getElem (by simp)
  intro j h1 h2
  simp only [List.getElem_map, List.getElem_modify]
  split <;> rfl
omit [DecidableEq κ] in
theorem WfE.nil : WfE ([] : List (Ent κ ν)) 0 := ⟨List.nodup_nil, List.nodup_nil, fun e he => by cases he⟩
omit [DecidableEq κ] in
theorem WfE.modify {l : List (Ent κ ν)} {c : Nat} (h : WfE l c) {i : Nat} {y : ν} : WfE (l.modify i fun e => (e.1, y, e.2.2)) c := by
  refine ⟨by rw [modify_keys]; exact h.keys, by rw [modify_stamps]; exact h.stamps, fun e he => ?_⟩
  have hm : e.2.2 ∈ (l.modify i fun e => (e.1, y, e.2.2)).map (·.2.2) := List.mem_map_of_mem he
  rw [modify_stamps] at hm
  obtain ⟨e', he', h1⟩ := List.mem_map.1 hm
  rw [← h1]
  exact h.below e' he'
omit [DecidableEq κ] in
theorem WfE.push {l : List (Ent κ ν)} {c : Nat} (h : WfE l c) {x : κ} {y : ν} (hx : ∀ e ∈ l, e.1 ≠ x) : WfE (l ++ [(x, y, c)]) (c + 1) := by
  refine ⟨?_, ?_, fun e he => ?_⟩
  · rw [List.map_append, List.nodup_append]
    refine ⟨h.keys, by simp, fun a ha b hb => ?_⟩
    obtain ⟨e, he, rfl⟩ := List.mem_map.1 ha
    simp at hb
    subst hb
    exact hx e he
  · rw [List.map_append, List.nodup_append]
    refine ⟨h.stamps, by simp, fun a ha b hb => ?_⟩
    obtain ⟨e, he, rfl⟩ := List.mem_map.1 ha
    simp at hb
    subst hb
    exact Nat.ne_of_lt (h.below e he)
  · rcases List.mem_append.1 he with he | he
    · exact Nat.lt_succ_of_lt (h.below e he)
    · simp at he
      subst he
      exact Nat.lt_succ_self c
theorem WfE.set {l : List (Ent κ ν)} {c : Nat} (h : WfE l c) (x : κ) (y : ν) : WfE (setE x y l c).1 (setE x y l c).2 := by
  unfold setE
  cases hf : findE x l 0 with
  | none => exact h.push (findE_none hf)
  | some p => exact h.modify
/-- A key that is there: the clock stays, and so do keys and stamps. -/
theorem setE_there {x : κ} {y : ν} {l : List (Ent κ ν)} {c : Nat} (h : ∃ e ∈ l, e.1 = x) : (setE x y l c).2 = c ∧ (setE x y l c).1.map (·.1) = l.map (·.1) ∧ (setE x y l c).1.map (·.2.2) = l.map (·.2.2) := by
  unfold setE
  cases hf : findE x l 0 with
  | none =>
    obtain ⟨e, he, h1⟩ := h
    exact absurd h1 (findE_none hf e he)
  | some p => exact ⟨rfl, modify_keys, modify_stamps⟩
theorem delE_eq {x : κ} {l : List (Ent κ ν)} (hn : (l.map (·.1)).Nodup) : delE x l = l.filter fun e => decide (e.1 ≠ x) := by
  unfold delE
  cases hf : findE x l 0 with
  | none =>
    refine (List.filter_eq_self.2 fun e he => ?_).symm
    exact decide_eq_true (p := e.1 ≠ x) (findE_none hf e he)
  | some p =>
    obtain ⟨h1, h2, h3⟩ := findE_some (i := p.1) (v := p.2) hf
    clear h3
    show l.eraseIdx p.1 = _
    generalize p.1 = i at h1 h2
    clear hf
    induction l generalizing i with
    | nil => simp at h1
    | cons e l ih =>
      rw [List.map_cons, List.nodup_cons] at hn
      cases i with
      | zero =>
        have h2 : e.1 = x := h2
        rw [List.eraseIdx_cons_zero, List.filter_cons, if_neg (by simp [h2])]
        refine (List.filter_eq_self.2 fun e' he' => decide_eq_true (p := e'.1 ≠ x) fun h3 => ?_).symm
        exact hn.1 (h2 ▸ h3 ▸ List.mem_map_of_mem he')
      | succ i =>
        have h1' : i < l.length := by simpa using h1
        have h2 : l[i].1 = x := by simpa using h2
        rw [List.eraseIdx_cons_succ, List.filter_cons, if_pos (decide_eq_true (p := e.1 ≠ x) fun h3 => hn.1 (by rw [h3, ← h2]; exact List.mem_map_of_mem (List.getElem_mem h1'))), ih hn.2 i h1' h2]
omit [DecidableEq κ] in
theorem WfE.filter {l : List (Ent κ ν)} {c : Nat} (h : WfE l c) (p : Ent κ ν → Bool) : WfE (l.filter p) c :=
  ⟨h.keys.sublist (List.filter_sublist.map _), h.stamps.sublist (List.filter_sublist.map _), fun e he => h.below e (List.mem_filter.1 he).1⟩
theorem WfE.getE_iff {l : List (Ent κ ν)} {c : Nat} (h : WfE l c) {x : κ} {v : ν} : getE x l = some v ↔ ∃ b, (x, v, b) ∈ l := by
  constructor
  · intro hg
    unfold getE at hg
    rw [Option.map_eq_some_iff] at hg
    obtain ⟨⟨j, u⟩, h1, h2⟩ := hg
    obtain ⟨h3, h4, h5⟩ := findE_some h1
    have h2 : u = v := h2
    subst h2
    subst h4
    subst h5
    exact ⟨_, List.getElem_mem h3⟩
  · rintro ⟨b, hb⟩
    exact getE_mem h.keys hb
theorem filter_get {l : List (Ent κ ν)} {c : Nat} (h : WfE l c) (p : κ → Bool) (x : κ) : getE x (l.filter fun e => p e.1) = if p x = true then getE x l else none := by
  by_cases hp : p x = true
  · rw [if_pos hp]
    cases hg : getE x l with
    | none =>
      rw [getE_none] at hg ⊢
      exact fun e he => hg e (List.mem_filter.1 he).1
    | some v =>
      rw [(h.filter _).getE_iff]
      obtain ⟨b, hb⟩ := h.getE_iff.1 hg
      exact ⟨b, List.mem_filter.2 ⟨hb, hp⟩⟩
  · rw [if_neg hp, getE_none]
    rintro e he rfl
    exact hp (List.mem_filter.1 he).2
/-- 'm[k] = y' in two steps: the entry, then the store. -/
theorem entry_store {x : κ} {y z : ν} {l : List (Ent κ ν)} {c : Nat} (h : WfE l c) : storeE (entryE x z l c).2.2.1 y (entryE x z l c).1 = (setE x y l c).1 ∧ (entryE x z l c).2.1 = (setE x y l c).2 := by
  unfold entryE setE
  cases hf : findE x l 0 with
  | none =>
    refine ⟨?_, rfl⟩
    show storeE c y (l ++ [(x, z, c)]) = l ++ [(x, y, c)]
    unfold storeE
    have : (l ++ [(x, z, c)]).findIdx? (fun e => e.2.2 == c) = some l.length := by
      rw [List.findIdx?_eq_some_iff_getElem]
      refine ⟨by simp, by simp, fun j hj => ?_⟩
      rw [List.getElem_append_left hj]
      have := h.below _ (List.getElem_mem hj)
      simp
      omega
    rw [this]
    apply List.ext_getElem (by simp)
    intro j h1 h2
    rw [List.getElem_modify]
    by_cases hj : l.length = j
    · subst hj; simp
    · rw [if_neg hj, List.getElem_append_left (by simp at h2; omega), List.getElem_append_left (by simp at h2; omega)]
  | some p =>
    refine ⟨?_, rfl⟩
    obtain ⟨h1, h2, h3⟩ := findE_some (i := p.1) (v := p.2) hf
    show storeE ((l[p.1]?.map (·.2.2)).getD 0) y l = l.modify p.1 _
    rw [List.getElem?_eq_getElem h1]
    unfold storeE
    have : l.findIdx? (fun e => e.2.2 == ((some l[p.1]).map (·.2.2)).getD 0) = some p.1 := by
      rw [List.findIdx?_eq_some_iff_getElem]
      refine ⟨h1, by simp, fun j hj => ?_⟩
      have := List.nodup_iff_pairwise_ne.1 h.stamps
      rw [List.pairwise_iff_getElem] at this
      have := this j p.1 (by simp; omega) (by simpa using h1) hj
      simpa using this
    rw [this]
end
section
variable {κ ν : Type} [DecidableEq κ]
/-- The entry with a stamp gets a value: what 'm[k] = y' does where the entry is there. -/
theorem setE_map {l : List (Ent κ ν)} {c : Nat} (h : WfE l c) {e : Ent κ ν} (he : e ∈ l) (y : ν) : (setE e.1 y l c).1 = l.map (fun e' => if e'.2.2 = e.2.2 then (e'.1, y, e'.2.2) else e') ∧ (setE e.1 y l c).2 = c := by
  refine ⟨?_, (setE_there ⟨e, he, rfl⟩).1⟩
  obtain ⟨j, hj, rfl⟩ := List.getElem_of_mem he
  unfold setE
  cases hf : findE l[j].1 l 0 with
  | none => exact absurd rfl (findE_none hf _ he)
  | some p =>
    obtain ⟨h1, h2, _⟩ := findE_some (i := p.1) (v := p.2) hf
    have hn := List.nodup_iff_pairwise_ne.1 h.keys
    have hs := List.nodup_iff_pairwise_ne.1 h.stamps
    rw [List.pairwise_map, List.pairwise_iff_getElem] at hn hs
    have hij : p.1 = j := by
      rcases Nat.lt_trichotomy p.1 j with h | h | h
      · exact absurd h2 (hn p.1 j h1 hj h)
      · exact h
      · exact absurd h2.symm (hn j p.1 hj h1 h)
    show l.modify p.1 _ = _
    rw [hij]
    apply List.ext_getElem (by simp)
    intro q q1 q2
    have hq : q < l.length := by simpa using q1
    rw [List.getElem_modify, List.getElem_map]
    by_cases e : j = q
    · subst e; rw [if_pos rfl, if_pos rfl]
    · rw [if_neg e, if_neg]
      intro hh
      rcases Nat.lt_trichotomy q j with h | h | h
      · exact hs q j hq hj h hh
      · exact e h.symm
      · exact hs j q hj hq h hh.symm
end
theorem contains_push {seen : Array Nat} {b x : Nat} : (seen.push b).contains x = (seen.contains x || decide (x = b)) := by
  rw [Bool.eq_iff_iff]; simp

theorem map_erase {α β : Type} (f : α → β) : ∀ (l : List α) (i : Nat), (l.map f).eraseIdx i = (l.eraseIdx i).map f
  | [], _ => by simp
  | a :: l, 0 => by simp
  | a :: l, i + 1 => by simp [map_erase f l i]
theorem WfE.eq_of_key {κ ν : Type} {l : List (Ent κ ν)} {c : Nat} (h : WfE l c) {x e : Ent κ ν} (hx : x ∈ l) (he : e ∈ l) (hk : x.1 = e.1) : x = e := by
  obtain ⟨i, hi, rfl⟩ := List.getElem_of_mem hx
  obtain ⟨j, hj, rfl⟩ := List.getElem_of_mem he
  have hn := List.nodup_iff_pairwise_ne.1 h.keys
  rw [List.pairwise_map, List.pairwise_iff_getElem] at hn
  rcases Nat.lt_trichotomy i j with h | h | h
  · exact absurd hk (hn i j hi hj h)
  · subst h; rfl
  · exact absurd hk.symm (hn j i hj hi h)
theorem WfE.eq_of_stamp {κ ν : Type} {l : List (Ent κ ν)} {c : Nat} (h : WfE l c) {x e : Ent κ ν} (hx : x ∈ l) (he : e ∈ l) (hk : x.2.2 = e.2.2) : x = e := by
  obtain ⟨i, hi, rfl⟩ := List.getElem_of_mem hx
  obtain ⟨j, hj, rfl⟩ := List.getElem_of_mem he
  have hn := List.nodup_iff_pairwise_ne.1 h.stamps
  rw [List.pairwise_map, List.pairwise_iff_getElem] at hn
  rcases Nat.lt_trichotomy i j with h | h | h
  · exact absurd hk (hn i j hi hj h)
  · subst h; rfl
  · exact absurd hk.symm (hn j i hj hi h)
/-- How many entries an iterator has not handed out. -/
def unseenE {κ ν : Type} (l : List (Ent κ ν)) (seen : Array Nat) : Nat := (l.filter fun e => !seen.contains e.2.2).length
theorem filter_length_lt {α : Type} {p q : α → Bool} {l : List α} (hpq : ∀ x ∈ l, p x = true → q x = true) {e : α} (he : e ∈ l) (h1 : p e = false) (h2 : q e = true) : (l.filter p).length < (l.filter q).length := by
  induction l with
  | nil => cases he
  | cons a l ih =>
    have hle : ∀ l : List α, (∀ x ∈ l, p x = true → q x = true) → (l.filter p).length ≤ (l.filter q).length := by
      intro l
      induction l with
      | nil => intro _; exact Nat.le_refl _
      | cons a l ih =>
        intro h
        have := ih fun x hx => h x (List.mem_cons_of_mem _ hx)
        have ha := h a List.mem_cons_self
        rw [List.filter_cons, List.filter_cons]
        by_cases hp : p a = true
        · rw [if_pos hp, if_pos (ha hp)]; simp only [List.length_cons]; omega
        · rw [if_neg hp]
          split
          · simp only [List.length_cons]; omega
          · exact this
    have hr := hle l fun x hx => hpq x (List.mem_cons_of_mem _ hx)
    rw [List.filter_cons, List.filter_cons]
    rcases List.mem_cons.1 he with rfl | he
    · rw [if_neg (by rw [h1]; decide), if_pos h2]
      simp only [List.length_cons]; omega
    · have := ih (fun x hx => hpq x (List.mem_cons_of_mem _ hx)) he
      have ha := hpq a List.mem_cons_self
      by_cases hp : p a = true
      · rw [if_pos hp, if_pos (ha hp)]; simp only [List.length_cons]; omega
      · rw [if_neg hp]
        split
        · simp only [List.length_cons]; omega
        · exact this
theorem unseen_push {κ ν : Type} {l : List (Ent κ ν)} {seen : Array Nat} {e : Ent κ ν} (he : e ∈ l) (hs : seen.contains e.2.2 = false) : unseenE l (seen.push e.2.2) < unseenE l seen := by
  refine filter_length_lt (fun x _ hx => ?_) he (by simp [contains_push]) (by rw [hs]; rfl)
  rw [contains_push] at hx
  cases hc : seen.contains x.2.2
  · rfl
  · rw [hc] at hx; simp at hx
def seenOf (w : World) (it : Nat) : Array Nat := match w.heap[it]? with
  | some (.mapIter _ _ s _) => s
  | _ => #[]
/-! ### Maps as things -/
section
variable {κ ν : Type} [Enc κ] [Enc ν]
/-- A map of one's own: its entries, as they lie, and its clock. -/
def mapE (m : Nat) (l : List (Ent κ ν)) (c : Nat) : Dat := ⟨fun B => B.keep m ∧ B.W.heap[m]? = some (.map (l.map entV).toArray c), fun {B B'} hl ⟨h1, h2⟩ => by
  obtain ⟨h3, h4⟩ := hl m h1 (Array.getElem?_eq_some_iff.1 h2).1
  exact ⟨h3, h4.trans h2⟩⟩
/-- An iterator over it. -/
def iterE (it m since : Nat) (seen : Array Nat) (last : Nat) : Dat := ⟨fun B => B.keep it ∧ B.W.heap[it]? = some (.mapIter (some m) since seen last), fun {B B'} hl ⟨h1, h2⟩ => by
  obtain ⟨h3, h4⟩ := hl it h1 (Array.getElem?_eq_some_iff.1 h2).1
  exact ⟨h3, h4.trans h2⟩⟩
end
theorem seenOf_eq {B : Base} {w : World} {σ : List Dat} {j it m since last : Nat} {seen : Array Nat} (h : Rel B w σ) (hj : σ[j]? = some (iterE it m since seen last)) : seenOf w it = seen := by
  have : w.heap[it]? = some (.mapIter (some m) since seen last) := (h.here hj).2
  unfold seenOf
  rw [this]
abbrev mapV (m : Nat) : Value := .map (some m)

section
variable {P : Program} {K : Value → World → Prop} {Kp : Value → Prop} {B : Base} {w : World} {σ : List Dat} {T k E : TypeId} {m c : Nat} {κ ν : Type} [Enc κ] [Enc ν] [DecidableEq κ] {l : List (Ent κ ν)}

theorem Rel.setObj (h : Rel B w σ) (i : Nat) {d e : Dat} {r : Nat} {o : Obj} (hi : σ[i]? = some e) (he : ∀ B : Base, e B → B.keep r ∧ r < B.W.heap.size) (hd : ∀ B : Base, B.keep r → B.W.heap[r]? = some o → d B) : Rel B { w with heap := w.heap.setIfInBounds r o } (σ.set i d) := by
  obtain ⟨cc, h⟩ := h
  obtain ⟨hk, hs⟩ := he _ (h.own i e hi)
  have hk : cc r = i + 1 := hk
  have hs : r < w.heap.size := hs
  refine ⟨cc, h.step hi ⟨rfl, rfl, rfl, by simp, fun _ _ => rfl, fun j hj hT => ?_⟩ (hd _ hk (by simp [hs]))⟩
  have hjr : r ≠ j := by rintro rfl; exact hT hk
  exact Array.getElem?_setIfInBounds_ne hjr
omit [DecidableEq κ] in
theorem mapE.lt {B : Base} (h : mapE m l c B) : B.keep m ∧ m < B.W.heap.size := ⟨h.1, (Array.getElem?_eq_some_iff.1 h.2).1⟩
theorem iterE.lt {B : Base} {it m since last : Nat} {seen : Array Nat} (h : iterE it m since seen last B) : B.keep it ∧ it < B.W.heap.size := ⟨h.1, (Array.getElem?_eq_some_iff.1 h.2).1⟩
theorem run_getObj {r : Nat} {o : Obj} (h : w.heap[r]? = some o) (hn : ∀ a b f, o ≠ .cells a b f) : (getObj r).run P w = .ok o w := by
  unfold getObj
  simp only [Sem.run, h]
theorem run_setObj {r : Nat} {o o' : Obj} (h : w.heap[r]? = some o) (hn : ∀ a b f, o ≠ .cells a b f) : (setObj r o').run P w = .ok () { w with heap := w.heap.setIfInBounds r o' } := by
  unfold Go.setObj
  simp only [Sem.run, h]

theorem Rel.mkMap (h : Rel B w σ) (κ ν : Type) [Enc κ] [Enc ν] (k : ∀ m w', Rel B w' (σ ++ [mapE m ([] : List (Ent κ ν)) 0]) → K (mapV m) w') : upK P (sMkMap T none) w K := by
  obtain ⟨cc, h⟩ := h
  refine upK_of (v := .map (some w.heap.size)) (w' := w.alloc (.map #[] 0)) (vN_run ?_) (k _ _ ⟨paint cc w.heap.size (σ.length + 1), h.push (Step.alloc nobody cc w _ _) ⟨by simp [paint], heap_alloc_new w _⟩⟩)
  rfl

theorem look_run (hb : w.heap[m]? = some (.map (l.map entV).toArray c)) (hT : P.underlying T = some (.map k E)) (hk : KeyTy P k κ) (z : ν) (hz : (P.info? E).bind (·.zero) = some (Enc.val z)) (x : κ) (ok : Bool) :
    (Instr.lookup T (.map (some m)) (Enc.val x) ok).run P w = .ok (if ok then .tuple #[Enc.val ((getE x l).getD z), .bool (getE x l).isSome] else Enc.val ((getE x l).getD z)) w := by
  have hzr : (zeroValue E).run P w = .ok (Enc.val z) w := by
    cases hi : P.info? E with
    | none => rw [hi] at hz; cases hz
    | some i =>
      rw [hi] at hz
      simp only [Option.bind_some] at hz
      simp [zeroValue, typeInfo, hi, hz]
  unfold Instr.lookup
  rw [Sem.run_bind, run_underlying hT]
  simp only [Result.andThen_ok]
  rw [Sem.run_bind]
  simp only [bind_assoc, pure_bind]
  rw [run_getObj hb (by intro a b f h; cases h)]
  simp only [Result.andThen_ok]
  rw [Sem.run_bind, hk.chk]
  simp only [Result.andThen_ok]
  rw [Sem.run_bind, hk.find]
  simp only [Result.andThen_ok]
  unfold getE
  cases hf : findE x l 0 with
  | none => simp [hzr]
  | some p => simp

theorem mapE.look {w : World} (h : (mapE m l c).here w) (hT : P.underlying T = some (.map k E)) (hk : KeyTy P k κ) (z : ν) (hz : (P.info? E).bind (·.zero) = some (Enc.val z)) (x : κ) {xv yv : Value} (hx : xv = Enc.val x := by rfl) (hy : yv = Enc.val ((getE x l).getD z) := by rfl) :
    readK P (sLookup T (.map (some m)) xv false) w Kp = Kp yv := by
  subst hx hy
  exact readK_eq (vN_run (look_run h.2 hT hk z hz x false))
theorem Rel.lookup (h : Rel B w σ) (i : Nat) (hi : σ[i]? = some (mapE m l c)) (hT : P.underlying T = some (.map k E)) (hk : KeyTy P k κ) (z : ν) (hz : (P.info? E).bind (·.zero) = some (Enc.val z)) (x : κ) {xv yv : Value} (hx : xv = Enc.val x := by rfl) (hy : yv = Enc.val ((getE x l).getD z) := by rfl) :
    readK P (sLookup T (.map (some m)) xv false) w Kp = Kp yv := by
  subst hx hy
  exact readK_eq (vN_run (look_run (h.here hi).2 hT hk z hz x false))
theorem Rel.lookupOk (h : Rel B w σ) (i : Nat) (hi : σ[i]? = some (mapE m l c)) (hT : P.underlying T = some (.map k E)) (hk : KeyTy P k κ) (z : ν) (hz : (P.info? E).bind (·.zero) = some (Enc.val z)) (x : κ) {xv yv : Value} (hx : xv = Enc.val x := by rfl) (hy : yv = Enc.val ((getE x l).getD z) := by rfl) :
    readK P (sLookup T (.map (some m)) xv true) w Kp = Kp (.tuple #[yv, .bool (getE x l).isSome]) := by
  subst hx hy
  exact readK_eq (vN_run (look_run (h.here hi).2 hT hk z hz x true))

theorem Rel.mapUpd (h : Rel B w σ) (i : Nat) (hi : σ[i]? = some (mapE m l c)) (hT : P.underlying T = some (.map k E)) (hk : KeyTy P k κ) (x : κ) (y : ν) {xv yv : Value} (kk : ∀ w', Rel B w' (σ.set i (mapE m (setE x y l c).1 (setE x y l c).2)) → K undef w') (hx : xv = Enc.val x := by rfl) (hy : yv = Enc.val y := by rfl) :
    upK P (sMapUpd T (.map (some m)) xv yv) w K := by
  subst hx hy
  have hb := (h.here hi).2
  have hb : w.heap[m]? = some (.map (l.map entV).toArray c) := hb
  refine upK_skip (w' := { w with heap := w.heap.setIfInBounds m (.map ((setE x y l c).1.map entV).toArray (setE x y l c).2) }) (uN_run ?_) (kk _ (h.setObj i hi (fun B hb => mapE.lt hb) fun B h1 h2 => ⟨h1, h2⟩))
  unfold Instr.mapUpdate
  rw [Sem.run_bind, run_underlying hT]
  simp only [Result.andThen_ok]
  rw [Sem.run_bind, run_getObj hb (by intro a b f h; cases h)]
  simp only [Result.andThen_ok]
  rw [Sem.run_bind, hk.chk]
  simp only [Result.andThen_ok]
  rw [Sem.run_bind, hk.find]
  simp only [Result.andThen_ok]
  unfold setE
  cases hf : findE x l 0 with
  | none =>
    simp only [Option.map_none]
    rw [run_setObj hb (by intro a b f h; cases h)]
    congr 4
    simp [entV]
  | some p =>
    obtain ⟨h1, h2, _⟩ := findE_some (i := p.1) (v := p.2) hf
    simp only [Option.map_some]
    have e1 : (((l.map entV).toArray[p.1]?).map (·.key)).getD (Enc.val x) = Enc.val x := by simp [h1, entV, h2]
    have e2 : (Instr.keyThatStays (Enc.val x) (Enc.val x)).run P w = .ok (Enc.val x) w := by
      unfold Instr.keyThatStays
      rw [if_pos (hk.bits x)]
      rfl
    rw [e1, Sem.run_bind, e2]
    simp only [Result.andThen_ok]
    rw [run_setObj hb (by intro a b f h; cases h)]
    congr 4
    apply Array.ext'
    rw [Array.toList_modify]
    apply List.ext_getElem (by simp)
    intro j hj1 hj2
    simp only [List.getElem_modify, List.getElem_map, List.getElem_toArray]
    split
    · rename_i e; subst e; simp [entV, h2]
    · rfl

theorem Rel.mapEntry (h : Rel B w σ) (i : Nat) (hi : σ[i]? = some (mapE m l c)) (hT : P.underlying T = some (.map k E)) (hk : KeyTy P k κ) (z : ν) (hz : (P.info? E).bind (·.zero) = some (Enc.val z)) (x : κ) {xv : Value}
    (kk : ∀ w', Rel B w' (σ.set i (mapE m (entryE x z l c).1 (entryE x z l c).2.1)) → K (.tuple #[Enc.val (entryE x z l c).2.2.2, .int .i64 (entryE x z l c).2.2.1]) w') (hx : xv = Enc.val x := by rfl) :
    upK P (sMapEntry T (.map (some m)) xv) w K := by
  subst hx
  have hb := (h.here hi).2
  have hb : w.heap[m]? = some (.map (l.map entV).toArray c) := hb
  have hzr : (zeroValue E).run P w = .ok (Enc.val z) w := by
    cases hi : P.info? E with
    | none => rw [hi] at hz; cases hz
    | some i =>
      rw [hi] at hz
      simp only [Option.bind_some] at hz
      simp [zeroValue, typeInfo, hi, hz]
  refine upK_of (w' := { w with heap := w.heap.setIfInBounds m (.map ((entryE x z l c).1.map entV).toArray (entryE x z l c).2.1) }) (vN_run ?_) (kk _ (h.setObj i hi (fun B hb => mapE.lt hb) fun B h1 h2 => ⟨h1, h2⟩))
  unfold Instr.mapEntry
  rw [Sem.run_bind, run_underlying hT]
  simp only [Result.andThen_ok]
  rw [Sem.run_bind, run_getObj hb (by intro a b f h; cases h)]
  simp only [Result.andThen_ok]
  rw [Sem.run_bind, hk.chk]
  simp only [Result.andThen_ok]
  rw [Sem.run_bind, hk.find]
  simp only [Result.andThen_ok]
  unfold entryE
  cases hf : findE x l 0 with
  | none =>
    simp only [Option.map_none]
    rw [Sem.run_bind, hzr]
    simp only [Result.andThen_ok]
    rw [Sem.run_bind, run_setObj hb (by intro a b f h; cases h)]
    simp [entV, goInt]
  | some p =>
    obtain ⟨h1, h2, _⟩ := findE_some (i := p.1) (v := p.2) hf
    simp only [Option.map_some]
    have e1 : (((l.map entV).toArray[p.1]?).map (·.key)).getD (Enc.val x) = Enc.val x := by simp [h1, entV, h2]
    have e2 : (Instr.keyThatStays (Enc.val x) (Enc.val x)).run P w = .ok (Enc.val x) w := by
      unfold Instr.keyThatStays
      rw [if_pos (hk.bits x)]
      rfl
    rw [e1, Sem.run_bind, e2]
    simp only [Result.andThen_ok]
    rw [Sem.run_bind, run_setObj hb (by intro a b f h; cases h)]
    have e3 : ((l.map entV).toArray.modify p.1 fun e => { e with key := Enc.val x }) = (l.map entV).toArray := by
      apply Array.ext'
      rw [Array.toList_modify]
      apply List.ext_getElem (by simp)
      intro j hj1 hj2
      simp only [List.getElem_modify, List.getElem_map, List.getElem_toArray]
      split
      · rename_i e; subst e; simp [entV, h2]
      · rfl
    simp only [Result.andThen_ok, e3]
    simp [goInt, h1, entV]

omit [DecidableEq κ] in
theorem Rel.entryStore (h : Rel B w σ) (i : Nat) (hi : σ[i]? = some (mapE m l c)) {b : Nat} (hin : ∃ e ∈ l, e.2.2 = b) (y : ν) {yv : Value} (kk : ∀ w', Rel B w' (σ.set i (mapE m (storeE b y l) c)) → K undef w') (hy : yv = Enc.val y := by rfl) :
    upK P (sEntryStore T (.map (some m)) (.int .i64 b) yv) w K := by
  subst hy
  have hb := (h.here hi).2
  have hb : w.heap[m]? = some (.map (l.map entV).toArray c) := hb
  refine upK_skip (w' := { w with heap := w.heap.setIfInBounds m (.map ((storeE b y l).map entV).toArray c) }) (uN_run ?_) (kk _ (h.setObj i hi (fun B hb => mapE.lt hb) fun B h1 h2 => ⟨h1, h2⟩))
  unfold Instr.entryStore
  rw [Sem.run_bind, run_getObj hb (by intro a b f h; cases h)]
  simp only [Result.andThen_ok]
  have hA : (asInt (.int .i64 b)).run P w = .ok (b : Int) w := by simp [asInt, asIntOf]
  rw [Sem.run_bind, hA]
  simp only [Result.andThen_ok]
  have hf : (l.map entV).toArray.findIdx? (fun e => (e.born : Int) == (b : Int)) = l.findIdx? fun e => e.2.2 == b := by
    simp only [List.findIdx?_toArray, List.findIdx?_map]
    congr 1
    funext e
    simp only [Function.comp_apply, entV]
    rw [Bool.eq_iff_iff]
    simp
    omega
  rw [hf]
  unfold storeE
  cases hfi : l.findIdx? fun e => e.2.2 == b with
  | none =>
    obtain ⟨e, he, h1⟩ := hin
    have := List.findIdx?_eq_none_iff.1 hfi e he
    simp [h1] at this
  | some j =>
    simp only []
    rw [run_setObj hb (by intro a b f h; cases h)]
    congr 4
    apply Array.ext'
    rw [Array.toList_modify]
    apply List.ext_getElem (by simp)
    intro q hj1 hj2
    simp only [List.getElem_modify, List.getElem_map, List.getElem_toArray]
    split <;> rfl

theorem Rel.delete (h : Rel B w σ) (i : Nat) (hi : σ[i]? = some (mapE m l c)) (hT : P.underlying T = some (.map k E)) (hk : KeyTy P k κ) (x : κ) {xv : Value} {U : TypeId} {bs : Array Bool} (kk : ∀ w', Rel B w' (σ.set i (mapE m (delE x l) c)) → K (.tuple #[]) w') (hx : xv = Enc.val x := by rfl) :
    upK P (sBlt .delete #[T, k] U bs #[.map (some m), xv]) w K := by
  subst hx
  have hb := (h.here hi).2
  have hb : w.heap[m]? = some (.map (l.map entV).toArray c) := hb
  refine upK_of (v := .tuple #[]) (w' := { w with heap := w.heap.setIfInBounds m (.map ((delE x l).map entV).toArray c) }) (vN_run ?_) (kk _ (h.setObj i hi (fun B hb => mapE.lt hb) fun B h1 h2 => ⟨h1, h2⟩))
  unfold Builtin.delete_
  simp only [List.getElem?_toArray, List.getElem?_cons_zero, List.getElem?_cons_succ]
  rw [Sem.run_bind, run_underlying hT]
  simp only [Result.andThen_ok]
  rw [Sem.run_bind]
  rw [run_getObj hb (by intro a b f h; cases h)]
  simp only [Result.andThen_ok]
  rw [Sem.run_bind, hk.chk]
  simp only [Result.andThen_ok]
  rw [Sem.run_bind, hk.find]
  simp only [Result.andThen_ok]
  unfold delE
  cases hf : findE x l 0 with
  | none =>
    simp only [Option.map_none]
    rw [Sem.run_bind, run_setObj hb (by intro a b f h; cases h)]
    rfl
  | some p =>
    obtain ⟨h1, h2, _⟩ := findE_some (i := p.1) (v := p.2) hf
    simp only [Option.map_some]
    have : ((l.map entV).toArray.eraseIdxIfInBounds p.1) = ((l.eraseIdx p.1).map entV).toArray := by
      apply Array.ext'
      simp [Array.eraseIdxIfInBounds, h1, map_erase]
    rw [Sem.run_bind, run_setObj hb (by intro a b f h; cases h), this]
    rfl

omit [DecidableEq κ] in
theorem len_map (h : Rel B w σ) (i : Nat) (hi : σ[i]? = some (mapE m l c)) (hT : P.underlying T = some (.map k E)) {U : TypeId} {bs : Array Bool} : readK P (sBlt .len #[T] U bs #[.map (some m)]) w Kp = Kp (.int .i64 l.length) := readK_eq (vN_run (by
  have hb : w.heap[m]? = some (.map (l.map entV).toArray c) := (h.here hi).2
  have hg := run_getObj (P := P) hb (by intro a b f h; cases h)
  simp [Builtin.len_, run_underlying hT, hg, goInt]))

omit [DecidableEq κ] in
theorem Rel.range (h : Rel B w σ) (i : Nat) (hi : σ[i]? = some (mapE m l c)) (hT : P.underlying T = some (.map k E)) (kk : ∀ it w', Rel B w' (σ ++ [iterE it m c #[] c]) → K (.pointer (some ⟨it, 0, none⟩)) w') : upK P (sRange T (.map (some m))) w K := by
  have hb : w.heap[m]? = some (.map (l.map entV).toArray c) := (h.here hi).2
  have hrun := run_range_map (P := P) w T k E m _ c hT hb
  obtain ⟨cc, h⟩ := h
  refine upK_of (vN_run hrun) (kk _ _ ⟨paint cc w.heap.size (σ.length + 1), h.push (Step.alloc nobody cc w _ _) ⟨by simp [paint], heap_alloc_new w _⟩⟩)

omit [DecidableEq κ] in
theorem Rel.next (h : Rel B w σ) (i j it : Nat) {seen : Array Nat} (hi : σ[i]? = some (mapE m l c)) (hj : σ[j]? = some (iterE it m c seen c)) (hb : ∀ e ∈ l, e.2.2 < c)
    (k0 : ∀ w', (∀ e ∈ l, seen.contains e.2.2 = true) → Rel B w' σ → K (.tuple #[.bool false]) w')
    (k1 : ∀ e w', e ∈ l → seen.contains e.2.2 = false → Rel B w' (σ.set j (iterE it m c (seen.push e.2.2) c)) → K (.tuple #[.bool true, Enc.val e.1, Enc.val e.2.1]) w') : upK P (sNext (.pointer (some ⟨it, 0, none⟩)) false T) w K := by
  have hm : w.heap[m]? = some (.map (l.map entV).toArray c) := (h.here hi).2
  have hit : w.heap[it]? = some (.mapIter (some m) c seen c) := (h.here hj).2
  have hold : ∀ x ∈ (l.map entV).toArray.toList, x.born < c := by
    intro x hx
    have hx : x ∈ l.map entV := by simpa only [List.toList_toArray] using hx
    obtain ⟨e, he, rfl⟩ := List.mem_map.1 hx
    exact hb e he
  rcases run_next_at (P := P) w T it m c c seen _ c hit hm hold (Nat.le_refl _) with ⟨h0, hr⟩ | ⟨x, hx, w1, hw, hr⟩
  · refine upK_of (vN_run hr) (k0 w (fun e he => ?_) h)
    have he0 : leftOf (l.map entV).toArray seen = #[] := Array.eq_empty_of_size_eq_zero h0
    cases hc : seen.contains e.2.2 with
    | true => rfl
    | false =>
      have : entV e ∈ (leftOf (l.map entV).toArray seen) := by
        unfold leftOf
        rw [Array.mem_filter]
        refine ⟨by simp; exact ⟨e.1, e.2.1, e.2.2, he, rfl⟩, ?_⟩
        show (!seen.contains e.2.2) = true
        rw [hc]; rfl
      rw [he0] at this
      simp at this
  · have hx' : x ∈ leftOf (l.map entV).toArray seen := by simpa using hx
    unfold leftOf at hx'
    rw [Array.mem_filter] at hx'
    obtain ⟨hx1, hx2⟩ := hx'
    obtain ⟨e, he, rfl⟩ := List.mem_map.1 (List.mem_toArray.1 hx1)
    have hns : seen.contains e.2.2 = false := by
      have : (!seen.contains e.2.2) = true := hx2
      simpa using this
    have h1 : Rel B w1 σ := by
      rcases hw with rfl | rfl
      · exact h
      · exact h.tick
    exact upK_of (vN_run hr) (k1 e _ he hns (h1.setObj j hj (fun B hb => iterE.lt hb) fun B h1 h2 => ⟨h1, h2⟩))

omit [DecidableEq κ] in
theorem Rel.entry (h : Rel B w σ) (i j it : Nat) {seen : Array Nat} (hi : σ[i]? = some (mapE m l c)) {e : Ent κ ν} (hj : σ[j]? = some (iterE it m c (seen.push e.2.2) c)) (he : e ∈ l) (hn : (l.map (·.2.2)).Nodup)
    (kk : ∀ w', Rel B w' σ → K (.tuple #[Enc.val e.1, Enc.val e.2.1]) w') : upK P (sEntry (.pointer (some ⟨it, 0, none⟩))) w K := by
  have hm : w.heap[m]? = some (.map (l.map entV).toArray c) := (h.here hi).2
  have hit : w.heap[it]? = some (.mapIter (some m) c (seen.push e.2.2) c) := (h.here hj).2
  have := run_entry_at (P := P) w it m c seen (l.map entV).toArray c (entV e) hit hm (by simp; exact ⟨e.1, e.2.1, e.2.2, he, rfl⟩) (by simpa [Function.comp_def, entV] using hn)
  exact upK_of (vN_run this) (kk w h)

/-! ### maps.Clone -/
omit [Enc κ] [Enc ν] [DecidableEq κ] in
theorem run_equalIn_map_nil (d : Nat) (hT : P.underlying T = some (.map k E)) : (Op.equalIn (d + 1) T (.map (some m)) (.map none)).run P w = .ok false w := by simp [Op.equalIn, run_underlying hT]
omit [Enc κ] [Enc ν] [DecidableEq κ] in
theorem eql_map_nil {xo yo : Operand} (hT : P.underlying T = some (.map k E)) : pureK P (sBin .eql T xo yo (.map (some m)) (.map none)) Kp = Kp (.bool false) := pureK_eq fun w => sBin_eq rfl (by
  have h2 : (Op.equal T (.map (some m)) (.map none)).run P w = .ok false w := run_equalIn_map_nil 9999 hT
  simp only [binOp]
  simp [h2])
end
end Go.Proofs.YtoebncgnjbblgaaGreatDoor
