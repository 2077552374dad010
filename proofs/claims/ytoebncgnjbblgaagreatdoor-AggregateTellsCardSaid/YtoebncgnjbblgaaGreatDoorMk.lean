/-
  make and append where the capacity matters. No condition.
-/
import Derived.Test.YtoebncgnjbblgaaGreatDoorPlus
namespace Go.Proofs.YtoebncgnjbblgaaGreatDoor
open Go.RowKit

section
variable {α : Type} [Enc α] {P : Program} {K : Value → World → Prop} {w : World} {T E : TypeId} {by_ : Nat} {c : Nat → Nat} {t u : Nat}
theorem mk_sliceV {m n : Nat} (x : α) (hT : sliceB P T E (Enc.sz α) by_ = true) (hx : ((P.info? E).bind (·.zero)).map (·.cells) = some (Enc.cells x).toArray) (hmn : m ≤ n) (hn : n * by_ ≤ 140737488355328) (hn1 : n ≤ 140737488355328)
    (k : ∀ c' g w', Step nobody c w c' w' → RowO c' t w' E (.slice (some ⟨g, 0, none⟩) m n) (List.replicate m x) → K (.slice (some ⟨g, 0, none⟩) m n) w') : upK P (sMkSlice T (.int .i64 m) (.int .i64 n)) w K := by
  obtain ⟨hu, i, z, hinfo, hz, hs, hby, hzs⟩ := sliceB_spec hT
  have hzc : z.cells = (Enc.cells x).toArray := by simpa [hinfo, hz] using hx
  have hw : IntKind.wrap .i64 (n : Int) = n := IntWalk.i64_in _ (by omega)
  have hwm : IntKind.wrap .i64 (m : Int) = m := IntWalk.i64_in _ (by omega)
  have h1 : ¬ ((n : Int) < 0) := by omega
  have h1m : ¬ ((m : Int) < 0) := by omega
  have hmn' : ¬ ((n : Int) < (m : Int)) := by omega
  have hm : by_ * n ≤ 140737488355328 := by rw [Nat.mul_comm]; exact hn
  have hmm : by_ * m ≤ 140737488355328 := Nat.le_trans (Nat.mul_le_mul_left _ hmn) hm
  have h2 : ¬ ((281474976710656 : Int) < (by_ : Int) * (n : Int)) := by
    have : ((by_ * n : Nat) : Int) ≤ 140737488355328 := by omega
    rw [Int.natCast_mul] at this
    omega
  have h2m : ¬ ((281474976710656 : Int) < (by_ : Int) * (m : Int)) := by
    have : ((by_ * m : Nat) : Int) ≤ 140737488355328 := by omega
    rw [Int.natCast_mul] at this
    omega
  have h3 : ¬ (140737488355328 < n * by_) := by omega
  have hcells : ∀ z0 : Array Value, (n = 0 → z0 = #[]) → (n ≠ 0 → z0 = z.cells) → ((Array.range (n * Enc.sz α)).map (z0[· % z0.size]!)).toList = flat (List.replicate n x) := by
    intro z0 _ hz1
    by_cases hn0 : n = 0
    · subst hn0; simp [flat]
    · rw [hz1 hn0]
      apply List.ext_getElem?
      intro j
      by_cases hj : j < n * Enc.sz α
      · have hp : 0 < Enc.sz α := Enc.pos
        have hq : j / Enc.sz α < n := Nat.div_lt_of_lt_mul (by rw [Nat.mul_comm]; exact hj)
        have hr : j % Enc.sz α < Enc.sz α := Nat.mod_lt _ hp
        have := flat_get (l := List.replicate n x) (i := j / Enc.sz α) (by simpa using hq) (f := j % Enc.sz α) (v := (Enc.cells x)[j % Enc.sz α]'(by rw [Enc.len]; exact hr)) (by simp)
        rw [Nat.mul_comm (j / Enc.sz α), Nat.div_add_mod] at this
        rw [this]
        simp [hj, hzs, hzc, Enc.len]
        rw [List.getElem?_eq_getElem (by rw [Enc.len]; exact hr)]
        rfl
      · rw [List.getElem?_eq_none (by simp; omega), List.getElem?_eq_none (by rw [flat_length]; simp; omega)]
  have hrun : ∃ cur : Array Value, cur.toList = flat (List.replicate n x) ∧ (Instr.makeSlice T (.int .i64 m) (.int .i64 n)).run P w = .ok (.slice (some ⟨w.heap.size, 0, none⟩) m n) (w.alloc (.cells cur E)) := by
    by_cases hn0 : n = 0
    · subst hn0
      obtain rfl : m = 0 := by omega
      refine ⟨_, hcells #[] (fun _ => rfl) (fun h => absurd rfl h), ?_⟩
      simp [Instr.makeSlice, run_underlying hu, asInt, asIntOf, typeInfo, hinfo, hby, show IntKind.wrap .i64 0 = 0 from rfl, askRoom, roomBytes, sizeOf, hs, newRow]
    · refine ⟨_, hcells z.cells (fun h => absurd h hn0) (fun _ => rfl), ?_⟩
      simp [Instr.makeSlice, run_underlying hu, asInt, asIntOf, typeInfo, hinfo, hby, hw, hwm, h1, h1m, h2, h2m, h3, hmn', hmn, askRoom, roomBytes, sizeOf, hs, newRow, hn0, zeroValue, hz, Nat.ne_of_gt (Enc.pos (α := α))]
      intro h
      rcases Nat.mul_eq_zero.1 h with h | h
      · exact absurd h hn0
      · exact absurd h (Nat.ne_of_gt Enc.pos)
  obtain ⟨cur, hc, hrun⟩ := hrun
  have hb := Blk.alloc (n := t) c w E cur
  have hcs : cur.size = n * Enc.sz α := by rw [← Array.length_toList, hc, flat_length]; simp
  refine upK_of (vN_run hrun) (k (paint c w.heap.size t) _ _ (Step.alloc nobody c w t _) (RowO.mk_ hb (by simp) hmn (by unfold maxLen; omega) hcs ?_))
  rw [hc, flat_take, List.take_replicate, Nat.min_eq_left hmn]
end
section
variable {α : Type} [Enc α] {P : Program} {K : Value → World → Prop} {B : Base} {w : World} {σ : List Dat} {T E : TypeId} {by_ : Nat} {l : List α} {v : Value}
/-- 'make([]T, n)': its capacity is n. -/
theorem Rel.mkSliceV (h : Rel B w σ) {n : Nat} (x : α) (hT : sliceB P T E (Enc.sz α) by_ = true) (hx : ((P.info? E).bind (·.zero)).map (·.cells) = some (Enc.cells x).toArray) (hn : n * by_ ≤ 140737488355328) (hn1 : n ≤ 140737488355328)
    (k : ∀ g w', Rel B w' (σ ++ [rowD E (.slice (some ⟨g, 0, none⟩) n n) (List.replicate n x)]) → K (.slice (some ⟨g, 0, none⟩) n n) w') : upK P (sMkSlice T (.int .i64 n) (.int .i64 n)) w K := by
  obtain ⟨c, h⟩ := h
  exact mk_sliceV (c := c) (t := σ.length + 1) x hT hx (Nat.le_refl _) hn hn1 fun c' g w' st hr => k g w' ⟨c', h.push st hr.rowD⟩
end
section
variable {α : Type} [Enc α] {P : Program} {K : Value → World → Prop} {w : World} {T E : TypeId} {by_ : Nat} {c : Nat → Nat} {t u : Nat}
theorem zeroCells_flat (x : α) (n : Nat) : (Builtin.zeroCells (Enc.cells x).toArray n).toList = flat (List.replicate n x) := by
  unfold Builtin.zeroCells
  apply List.ext_getElem?
  intro j
  have hl : (Enc.cells x).toArray.size = Enc.sz α := by simp [Enc.len]
  by_cases hj : j < n * Enc.sz α
  · have hp : 0 < Enc.sz α := Enc.pos
    have hq : j / Enc.sz α < n := Nat.div_lt_of_lt_mul (by rw [Nat.mul_comm]; exact hj)
    have hr : j % Enc.sz α < Enc.sz α := Nat.mod_lt _ hp
    have := flat_get (l := List.replicate n x) (i := j / Enc.sz α) (by simpa using hq) (f := j % Enc.sz α) (v := (Enc.cells x)[j % Enc.sz α]'(by rw [Enc.len]; exact hr)) (by simp)
    rw [Nat.mul_comm (j / Enc.sz α), Nat.div_add_mod] at this
    rw [this]
    simp [hj, Enc.len]
    try (rw [List.getElem?_eq_getElem (by rw [Enc.len]; exact hr)]; rfl)
  · rw [List.getElem?_eq_none (by simp [Enc.len]; omega), List.getElem?_eq_none (by rw [flat_length]; simp; omega)]
/-- 'append(s, make([]T, m)...)' where there is no room. -/
theorem append_zeros {v : Value} {l : List α} {Tn : TypeId} (hT : sliceB P T E (Enc.sz α) by_ = true) (hTn : P.underlying Tn = some (.int .i64)) {a : Option Addr} {cap : Nat} (hv : v = .slice a l.length cap) (h1 : RowR c u w v l) (x : α)
    (hx : ((P.info? E).bind (·.zero)).map (·.cells) = some (Enc.cells x).toArray) {m : Nat} (h0 : 0 < m) (hcap : cap < l.length + m)
    (hbytes : (l.length + m) * by_ ≤ 140737488355328) (h63 : l.length + m ≤ 140737488355328) {U : TypeId} {bs : Array Bool}
    (k : ∀ c' g cp w', l.length + m ≤ cp → Step nobody c w c' w' → RowO c' t w' E (.slice (some ⟨g, 0, none⟩) (l.length + m) cp) (l ++ List.replicate m x) → K (.slice (some ⟨g, 0, none⟩) (l.length + m) cp) w') : upK P (sBlt .append #[T, Tn] U bs #[v, .int .i64 m]) w K := by
  obtain ⟨hu, i, z, hinfo, hz, hs, hby, hzs⟩ := sliceB_spec hT
  have hzc : z.cells = (Enc.cells x).toArray := by simpa [hinfo, hz] using hx
  subst hv
  have hn : ¬ (l.length + m ≤ cap) := by omega
  have hm0 : m ≠ 0 := by omega
  have h63' : ¬ (9223372036854775807 < ((l.length : Int) + (m : Int))) := by omega
  have h48 : Builtin.nextslicecap (l.length + m) cap * by_ ≤ 281474976710656 := growslice_fits (by omega) hbytes
  have h48' : ¬ (281474976710656 < Builtin.nextslicecap (l.length + m) cap * by_) := by omega
  have hge := grownCap_ge w (l.length + m) cap E
  have hmx := grownCap_le_maxLen w (l.length + m) cap E (by unfold maxLen; omega)
  have hw : IntKind.i64.wrap (m : Int) = m := IntWalk.i64_in _ (by omega)
  have hneg : ¬ ((m : Int) < 0) := by omega
  have hmb : m * by_ ≤ 140737488355328 := Nat.le_trans (Nat.mul_le_mul_right _ (by omega)) hbytes
  have h48i : ¬ (281474976710656 < (m : Int) * (by_ : Int)) := by
    rw [← Int.natCast_mul]
    omega
  have hrun : (Builtin.append_ #[T, Tn] U #[.slice a l.length cap, .int .i64 m]).run P w =
      .ok (.slice (some ⟨w.heap.size, 0, none⟩) (l.length + m) (grownCap w (l.length + m) cap E))
        (w.drew.alloc (.cells ((flat l).toArray ++ Builtin.zeroCells z.cells m ++ Builtin.zeroCells z.cells (grownCap w (l.length + m) cap E - (l.length + m))) E)) := by
    have f1 := (h1.tick).first (P := P)
    rw [tick_eq] at f1
    simp [Builtin.append_, run_underlying hu, run_underlying hTn, sizeOf, typeInfo, zeroValue, hinfo, hz, hs, asInt, asIntOf, hw, hm0, hneg, hn, h63', hby, h48', h48i, f1, grownCap, Question.forced, newRow]
    intro hz0
    exact absurd hz0 (Nat.mul_ne_zero hm0 (Nat.ne_of_gt Enc.pos))
  refine upK_of (vN_run hrun) (k (paint c w.heap.size t) _ _ _ hge ?_ ?_)
  · exact (Step.tick nobody c w).trans (Step.alloc nobody c w.drew t _)
  · have hl : (l ++ List.replicate m x).length = l.length + m := by simp
    refine ⟨⟨by rw [flat_length], .inr ⟨w.heap.size, _, _, by rw [hl], Nat.zero_le _, heap_alloc_new w.drew _, by rw [hl]; exact hge, hmx, ?_, ?_⟩⟩, fun g hg => ?_⟩
    · simp only [Array.size_append, List.size_toArray, size_zeroCells, hzs, flat_length, ← Nat.add_mul]
      congr 1
      omega
    · simp only [Array.toList_append, List.append_assoc]
      rw [hzc, zeroCells_flat, ← List.append_assoc, ← flat_append]
      rw [← flat_length]
      exact List.take_left
    · simp [Value.ownBlock] at hg
      subst hg
      simp [paint]
end
section
variable {α : Type} [Enc α] {P : Program} {K : Value → World → Prop} {Kp : Value → Prop} {B : Base} {w : World} {σ : List Dat} {T E : TypeId} {by_ : Nat} {l : List α} {v : Value}
theorem cap_slice {U S E : TypeId} {bs : Array Bool} {x : Option Addr} {n c : Nat} (h : P.underlying S = some (.slice E)) :
    readK P (sBlt .cap #[S] U bs #[.slice x n c]) w Kp = Kp (.int .i64 c) := readK_eq (vN_run (by
  simp [Builtin.cap_, run_underlying h, goInt]))
theorem Rel.appendZeros (h : Rel B w σ) {Tn : TypeId} (hT : sliceB P T E (Enc.sz α) by_ = true) (hTn : P.underlying Tn = some (.int .i64)) {a : Option Addr} {cap : Nat} (hv : v = .slice a l.length cap) (r : Rd B σ [] v l) (x : α)
    (hx : ((P.info? E).bind (·.zero)).map (·.cells) = some (Enc.cells x).toArray) {m : Nat} (h0 : 0 < m) (hcap : cap < l.length + m)
    (hbytes : (l.length + m) * by_ ≤ 140737488355328) (h63 : l.length + m ≤ 140737488355328) {U : TypeId} {bs : Array Bool}
    (k : ∀ g cp w', l.length + m ≤ cp → Rel B w' (σ ++ [rowD E (.slice (some ⟨g, 0, none⟩) (l.length + m) cp) (l ++ List.replicate m x)]) → K (.slice (some ⟨g, 0, none⟩) (l.length + m) cp) w') : upK P (sBlt .append #[T, Tn] U bs #[v, .int .i64 m]) w K := by
  obtain ⟨c, h⟩ := h
  obtain ⟨u1, r1⟩ := h.rds r
  exact append_zeros (c := c) (t := σ.length + 1) hT hTn hv r1 x hx h0 hcap hbytes h63 fun c' g cp w' hc st hr => k g cp w' hc ⟨c', h.push st hr.rowD⟩
end
end Go.Proofs.YtoebncgnjbblgaaGreatDoor
