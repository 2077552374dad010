/-
  More rules: min and max, 'make', 'copy', stores into elements of rows of one's own. No condition.
-/
import Derived.Test.YtoebncgnjbblgaaGreatDoorRules
namespace Go.Proofs.YtoebncgnjbblgaaGreatDoor
open Go.RowKit

theorem wrap_id {n : Int} (h : -9223372036854775808 ≤ n) (h' : n ≤ 9223372036854775807) : IntKind.wrap .i64 n = n := IntWalk.i64_in _ ⟨h, h'⟩
abbrev ptr (b : Nat) : Value := .pointer (some ⟨b, 0, none⟩)
instance : Enc Int where
  sz := 1
  cells x := [.int .i64 x]
  val x := .int .i64 x
  pos := by omega
  len _ := rfl
  one _ v hv := by
    simp only [List.mem_cons, List.not_mem_nil, or_false] at hv
    rcases hv with rfl
    rfl
  cells_val _ := rfl

theorem row_slice {α : Type} [Enc α] {c : Nat → Nat} {t : Nat} {w : World} {E : TypeId} {v : Value} {l : List α} (h : RowO c t w E v l) : v.oneCell' = true := by
  obtain ⟨a, cap, rfl, _⟩ := h.slice
  rfl

theorem ne_nil_open {α : Type} [Enc α] {c : Nat → Nat} {t : Nat} {w : World} {E : TypeId} {v : Value} {l : List α} (h : RowO c t w E v l) (hv : v ≠ .slice none 0 0) : ∃ g cap, v = .slice (some ⟨g, 0, none⟩) l.length cap := by
  rcases h.cases with ⟨rfl, rfl⟩ | ⟨g, cap, cur, rfl, _⟩
  · exact absurd rfl hv
  · exact ⟨g, cap, rfl⟩

theorem and_low (a : Int) (k : Nat) (hk : k ≤ 62) (m : Int) (hm : m = 2 ^ k - 1) : IntKind.wrap .i64 (BitVec.ofInt IntKind.i64.bits a &&& BitVec.ofInt IntKind.i64.bits m).toNat = a % 2 ^ k := by
  subst hm
  show IntKind.wrap .i64 (((BitVec.ofInt 64 a &&& BitVec.ofInt 64 (2 ^ k - 1)).toNat : Nat) : Int) = _
  have hp : (2 : Nat) ^ k ≤ 2 ^ 62 := Nat.pow_le_pow_right (by omega) hk
  have hpos : 0 < (2 : Nat) ^ k := Nat.pow_pos (by omega)
  have h2 : ((2 : Int) ^ k) = ((2 ^ k : Nat) : Int) := by simp
  have hk2 : ((2 : Int) ^ k - 1) = ((2 ^ k - 1 : Nat) : Int) := by rw [h2]; omega
  have h1 : (BitVec.ofInt 64 (2 ^ k - 1)).toNat = 2 ^ k - 1 := by
    rw [hk2, BitVec.toNat_ofInt]
    omega
  have h3 : (BitVec.ofInt 64 a &&& BitVec.ofInt 64 (2 ^ k - 1)).toNat = (a % 2 ^ 64).toNat % 2 ^ k := by
    rw [BitVec.toNat_and, h1, Nat.and_two_pow_sub_one_eq_mod, BitVec.toNat_ofInt]
    rfl
  rw [h3]
  have hlt : (a % 2 ^ 64).toNat % 2 ^ k < 2 ^ k := Nat.mod_lt _ hpos
  have hd : ((2 : Int) ^ k) ∣ 2 ^ 64 := ⟨2 ^ (64 - k), by rw [← Int.pow_add]; congr 1; omega⟩
  rw [wrap_id (by omega) (by omega)]
  rw [Int.natCast_emod, Int.toNat_of_nonneg (Int.emod_nonneg _ (by decide)), ← h2]
  exact Int.emod_emod_of_dvd _ hd
theorem and_lo (k : Nat) (hk : k ≤ 62) (a : Int) (m : Int) (hm : m = 2 ^ k - 1) : IntKind.wrap .i64 (BitVec.ofInt IntKind.i64.bits a &&& BitVec.ofInt IntKind.i64.bits m).toNat = a % 2 ^ k := and_low a k hk m hm
def T1 : Nat → Prop := fun x => 1 ≤ x
theorem T1_two (i j : Nat) (hi : 1 ≤ i) (hj : 1 ≤ j) : ∀ x, two i j x → T1 x := fun x e => by rcases e with e | e <;> (show 1 ≤ x; omega)
theorem T1_only (i : Nat) (hi : 1 ≤ i) : ∀ x, only i x → T1 x := fun x (e : x = i) => (show 1 ≤ x by omega)

section
variable {P : Program} {K : Value → Prop} {w : World} {k : IntKind} {a b : Int}
theorem is_of {s : Sem Next} {v : Value} (h : ∀ {K : Value → Prop}, readK P s w K = K v) : Is P s v w := by
  obtain ⟨u, h1, rfl⟩ := (h (K := fun x => x = v)).mpr rfl
  exact h1
theorem blt_min {ts : Array TypeId} {U : TypeId} {bs : Array Bool} : pureK P (sBlt .min ts U bs #[.int k a, .int k b]) K = K (.int k (min a b)) := pureK_eq fun w => by
  refine vN_run ?_
  have e : min a b = if b < a then b else a := by omega
  simp [Builtin.min_, Builtin.min2, e]
theorem blt_max {ts : Array TypeId} {U : TypeId} {bs : Array Bool} : pureK P (sBlt .max ts U bs #[.int k a, .int k b]) K = K (.int k (max a b)) := pureK_eq fun w => by
  refine vN_run ?_
  have e : max a b = if b > a then b else a := by omega
  simp [Builtin.max_, Builtin.max2, e]
theorem bin_xor {T : TypeId} {xo yo : Operand} : pureK P (sBin .xor T xo yo (.int k a) (.int k b)) K = K (.int k (k.wrap (BitVec.ofInt k.bits a ^^^ BitVec.ofInt k.bits b).toNat)) := pureK_eq fun w => by cases k <;> rfl
end

section
variable {α : Type} [Enc α] {P : Program} {K : Value → World → Prop} {Kp : Value → Prop} {w : World} {T E : TypeId} {by_ : Nat} {c : Nat → Nat} {t u : Nat}

theorem flat_set {l : List α} {i : Nat} (hi : i < l.length) (x : α) : flat (l.set i x) = (flat l).take (i * Enc.sz α) ++ Enc.cells x ++ (flat l).drop ((i + 1) * Enc.sz α) := by
  rw [flat_take, flat_drop, List.set_eq_take_append_cons_drop, if_pos hi, flat_append, flat_cons, List.append_assoc]

theorem flat_set_cell {l : List α} {i : Nat} (hi : i < l.length) (x : α) {f : Nat} {v : Value} (hf : f < Enc.sz α) (hx : Enc.cells x = (Enc.cells l[i]).set f v) : flat (l.set i x) = (flat l).set (i * Enc.sz α + f) v := by
  have e : flat l = (flat l).take (i * Enc.sz α) ++ (Enc.cells l[i] ++ (flat l).drop ((i + 1) * Enc.sz α)) := by
    rw [flat_take, flat_drop, ← flat_cons, List.getElem_cons_drop, ← flat_append, List.take_append_drop]
  have hl : ((flat l).take (i * Enc.sz α)).length = i * Enc.sz α := by
    rw [List.length_take, flat_length, Nat.min_eq_left (Nat.mul_le_mul_right _ (Nat.le_of_lt hi))]
  rw [flat_set hi]
  conv => rhs; rw [e]
  rw [List.set_append_right _ _ (by omega), hl, Nat.add_sub_cancel_left, List.set_append_left _ _ (by rw [Enc.len]; exact hf), ← hx, List.append_assoc]

theorem take_splice {β : Type} (L M : List β) (a n : Nat) (h : a + M.length ≤ n) (h2 : n ≤ L.length) : (L.take a ++ M ++ L.drop (a + M.length)).take n = (L.take n).take a ++ M ++ (L.take n).drop (a + M.length) := by
  have e : (L.take a ++ M).length = a + M.length := by rw [List.length_append, List.length_take, Nat.min_eq_left (by omega)]
  rw [List.take_append, List.take_of_length_le (by omega), e, List.drop_take, List.take_take, Nat.min_eq_left (by omega)]

theorem RowO.open_ {v : Value} {l : List α} (h : RowO c t w E v l) (hl : l ≠ []) : ∃ g cap, v = .slice (some ⟨g, 0, none⟩) l.length cap := by
  rcases h.cases with ⟨rfl, rfl⟩ | ⟨g, cap, cur, rfl, _⟩
  · exact absurd rfl hl
  · exact ⟨g, cap, rfl⟩

theorem idx_own {g n cap i : Nat} (hT : sliceB P T E (Enc.sz α) by_ = true) (hi : i < n) : pureK P (sIdxAddr T (.slice (some ⟨g, 0, none⟩) n cap) (.int .i64 i)) Kp = Kp (.pointer (some ⟨g, i * Enc.sz α, none⟩)) := pureK_eq fun w => by
  obtain ⟨hu, i', z, hinfo, hz, hs, hb, hzs⟩ := sliceB_spec hT
  refine vN_run ?_
  simp [Instr.indexAt, asIntOf, run_underlying hu, sizeOf, typeInfo, hinfo, hs, hi, addr_add]

theorem RowO.inv {g n cap : Nat} {l : List α} (h : RowO c t w E (.slice (some ⟨g, 0, none⟩) n cap) l) : n = l.length ∧ ∃ cur, Blk c t w g E cur ∧ l.length ≤ cap ∧ cap ≤ maxLen ∧ cur.size = cap * Enc.sz α ∧ cur.toList.take (l.length * Enc.sz α) = flat l := by
  rcases h.cases with ⟨h, _⟩ | ⟨g', cap', cur, h, hb, h1, h2, h3, h4⟩
  · cases h
  · cases h
    exact ⟨rfl, cur, hb, h1, h2, h3, h4⟩

theorem RowO.elem {g n cap i : Nat} {l : List α} (h : RowO c t w E (.slice (some ⟨g, 0, none⟩) n cap) l) (hi : i < l.length) : Cells c t w g (i * Enc.sz α) (Enc.cells l[i]) := by
  obtain ⟨rfl, cur, hb, h1, h2, h3, h4⟩ := h.inv
  refine ⟨hb.1, hb.lt, fun j v hv => ?_⟩
  have := flat_get hi hv
  rw [← h4] at this
  refine hb.cell ?_
  rw [List.getElem?_take] at this
  split at this
  · simpa using this
  · cases this

theorem RowO.set_sc {g n cap i f o : Nat} {v' : Value} {l : List α} {T' : TypeId} (x : α) (h : RowO c t w E (.slice (some ⟨g, 0, none⟩) n cap) l) (hi : i < l.length) (ho : o = i * Enc.sz α + f) (hf : f < Enc.sz α)
    (hx : Enc.cells x = (Enc.cells l[i]).set f v') (hs : scB P T' = true) (h1 : v'.oneCell' = true)
    (k : ∀ w', Step (only t) c w c w' → RowO c t w' E (.slice (some ⟨g, 0, none⟩) n cap) (l.set i x) → K undef w') : upK P (sStore T' (.pointer (some ⟨g, o, none⟩)) v') w K := by
  obtain ⟨rfl, cur, hb, h1', h2, h3, h4⟩ := h.inv
  subst ho
  have hlt : i * Enc.sz α + f < l.length * Enc.sz α := by
    have := Nat.mul_le_mul_right (Enc.sz α) (show i + 1 ≤ l.length from hi)
    rw [Nat.add_mul, Nat.one_mul] at this
    omega
  have hle : l.length * Enc.sz α ≤ cap * Enc.sz α := Nat.mul_le_mul_right _ h1'
  refine st_sc hs hb (by omega) h1 fun hb' st => k _ st (RowO.mk_ hb' (by simp) h1' h2 (by simp [h3]) ?_)
  rw [flat_set_cell hi x hf hx, ← h4]
  simp only [Array.toList_setIfInBounds]
  rw [List.take_set]

theorem RowO.set_ag {g n cap i m : Nat} {ds : Array Value} {l : List α} {T' : TypeId} (x : α) (h : RowO c t w E (.slice (some ⟨g, 0, none⟩) n cap) l) (hi : i < l.length) (ht : agB P T' m = true) (hm : m = Enc.sz α) (hd : ds.toList = Enc.cells x)
    (k : ∀ w', Step (only t) c w c w' → RowO c t w' E (.slice (some ⟨g, 0, none⟩) n cap) (l.set i x) → K undef w') : upK P (sStore T' (.pointer (some ⟨g, i * Enc.sz α, none⟩)) (.agg ds)) w K := by
  obtain ⟨rfl, cur, hb, h1', h2, h3, h4⟩ := h.inv
  subst hm
  have hsz : ds.size = Enc.sz α := by rw [← Array.length_toList, hd, Enc.len]
  have hlt : i * Enc.sz α + Enc.sz α ≤ l.length * Enc.sz α := by
    have := Nat.mul_le_mul_right (Enc.sz α) (show i + 1 ≤ l.length from hi)
    rw [Nat.add_mul, Nat.one_mul] at this
    exact this
  have hle : l.length * Enc.sz α ≤ cap * Enc.sz α := Nat.mul_le_mul_right _ h1'
  refine st_ag ht hb hsz (by omega) (fun v hv => Enc.one x v (by rw [← hd]; simpa using hv)) fun w' hb' st => k w' st (RowO.mk_ hb' (by simp) h1' h2 ?_ ?_)
  · simp only [List.size_toArray, List.length_append, List.length_take, List.length_drop, Array.length_toList, hsz]
    omega
  · rw [flat_set hi, hd, ← h4]
    have e : (i + 1) * Enc.sz α = i * Enc.sz α + (Enc.cells x).length := by rw [Enc.len, Nat.add_mul, Nat.one_mul]
    rw [e, show i * Enc.sz α + Enc.sz α = i * Enc.sz α + (Enc.cells x).length by rw [Enc.len]]
    exact take_splice _ _ _ _ (by rw [Enc.len]; exact hlt) (Nat.le_trans hle (Nat.le_of_eq (h3.symm.trans Array.length_toList.symm)))

/-- 'make([]T, m, n)' -/
theorem mk_slice2 {m n : Nat} (x : α) (hT : sliceB P T E (Enc.sz α) by_ = true) (hx : ((P.info? E).bind (·.zero)).map (·.cells) = some (Enc.cells x).toArray) (hmn : m ≤ n) (hn : n * by_ ≤ 140737488355328) (hn1 : n ≤ 140737488355328)
    (k : ∀ c' v w', Step nobody c w c' w' → RowO c' t w' E v (List.replicate m x) → v ≠ .slice none 0 0 → K v w') : upK P (sMkSlice T (.int .i64 m) (.int .i64 n)) w K := by
  obtain ⟨hu, i, z, hinfo, hz, hs, hby, hzs⟩ := sliceB_spec hT
  have hzc : z.cells = (Enc.cells x).toArray := by simpa [hinfo, hz] using hx
  have hw : IntKind.wrap .i64 (n : Int) = n := IntWalk.i64_in _ (by omega)
  have hwm : IntKind.wrap .i64 (m : Int) = m := IntWalk.i64_in _ (by omega)
  have h1 : ¬ ((n : Int) < 0) := by omega
  have h1m : ¬ ((m : Int) < 0) := by omega
  have hmn' : ¬ ((n : Int) < (m : Int)) := by omega
  have hm : by_ * n ≤ 140737488355328 := by rw [Nat.mul_comm]; exact hn
  have hmm : by_ * m ≤ 140737488355328 := Nat.le_trans (Nat.mul_le_mul_left _ hmn) hm
  have h2 : ¬ ((281474976710656 : Int) < (by_ : Int) * (n : Int)) := by
    have : ((by_ * n : Nat) : Int) ≤ 140737488355328 := by omega
    rw [Int.natCast_mul] at this
    omega
  have h2m : ¬ ((281474976710656 : Int) < (by_ : Int) * (m : Int)) := by
    have : ((by_ * m : Nat) : Int) ≤ 140737488355328 := by omega
    rw [Int.natCast_mul] at this
    omega
  have h3 : ¬ (140737488355328 < n * by_) := by omega
  have hcells : ∀ z0 : Array Value, (n = 0 → z0 = #[]) → (n ≠ 0 → z0 = z.cells) → ((Array.range (n * Enc.sz α)).map (z0[· % z0.size]!)).toList = flat (List.replicate n x) := by
    intro z0 _ hz1
    by_cases hn0 : n = 0
    · subst hn0; simp [flat]
    · rw [hz1 hn0]
      apply List.ext_getElem?
      intro j
      by_cases hj : j < n * Enc.sz α
      · have hp : 0 < Enc.sz α := Enc.pos
        have hq : j / Enc.sz α < n := Nat.div_lt_of_lt_mul (by rw [Nat.mul_comm]; exact hj)
        have hr : j % Enc.sz α < Enc.sz α := Nat.mod_lt _ hp
        have := flat_get (l := List.replicate n x) (i := j / Enc.sz α) (by simpa using hq) (f := j % Enc.sz α) (v := (Enc.cells x)[j % Enc.sz α]'(by rw [Enc.len]; exact hr)) (by simp)
        rw [Nat.mul_comm (j / Enc.sz α), Nat.div_add_mod] at this
        rw [this]
        simp [hj, hzs, hzc, Enc.len]
        rw [List.getElem?_eq_getElem (by rw [Enc.len]; exact hr)]
        rfl
      · rw [List.getElem?_eq_none (by simp; omega), List.getElem?_eq_none (by rw [flat_length]; simp; omega)]
  have hrun : ∃ cur : Array Value, cur.toList = flat (List.replicate n x) ∧ (Instr.makeSlice T (.int .i64 m) (.int .i64 n)).run P w = .ok (.slice (some ⟨w.heap.size, 0, none⟩) m n) (w.alloc (.cells cur E)) := by
    by_cases hn0 : n = 0
    · subst hn0
      obtain rfl : m = 0 := by omega
      refine ⟨_, hcells #[] (fun _ => rfl) (fun h => absurd rfl h), ?_⟩
      simp [Instr.makeSlice, run_underlying hu, asInt, asIntOf, typeInfo, hinfo, hby, show IntKind.wrap .i64 0 = 0 from rfl, askRoom, roomBytes, sizeOf, hs, newRow]
    · refine ⟨_, hcells z.cells (fun h => absurd h hn0) (fun _ => rfl), ?_⟩
      simp [Instr.makeSlice, run_underlying hu, asInt, asIntOf, typeInfo, hinfo, hby, hw, hwm, h1, h1m, h2, h2m, h3, hmn', hmn, askRoom, roomBytes, sizeOf, hs, newRow, hn0, zeroValue, hz, Nat.ne_of_gt (Enc.pos (α := α))]
      intro h
      rcases Nat.mul_eq_zero.1 h with h | h
      · exact absurd h hn0
      · exact absurd h (Nat.ne_of_gt Enc.pos)
  obtain ⟨cur, hc, hrun⟩ := hrun
  have hb := Blk.alloc (n := t) c w E cur
  have hcs : cur.size = n * Enc.sz α := by rw [← Array.length_toList, hc, flat_length]; simp
  refine upK_of (vN_run hrun) (k (paint c w.heap.size t) _ _ (Step.alloc nobody c w t _) (RowO.mk_ hb (by simp) hmn (by unfold maxLen; omega) hcs ?_) (by simp))
  rw [hc, flat_take, List.take_replicate, Nat.min_eq_left hmn]
/-- 'make([]T, n)' -/
theorem mk_slice {n : Nat} (x : α) (hT : sliceB P T E (Enc.sz α) by_ = true) (hx : ((P.info? E).bind (·.zero)).map (·.cells) = some (Enc.cells x).toArray) (hn : n * by_ ≤ 140737488355328) (hn1 : n ≤ 140737488355328)
    (k : ∀ c' v w', Step nobody c w c' w' → RowO c' t w' E v (List.replicate n x) → v ≠ .slice none 0 0 → K v w') : upK P (sMkSlice T (.int .i64 n) (.int .i64 n)) w K := mk_slice2 x hT hx (Nat.le_refl _) hn hn1 k

/-- 'copy' into a block of one's own. -/
theorem copy_own {g o dl dc : Nat} {cur : Array Value} {v2 : Value} {l2 : List α} {T2 : TypeId} (hT : sliceB P T E (Enc.sz α) by_ = true) (hb : Blk c t w g E cur) (h2 : RowR c u w v2 l2) (hfit : o + (l2.take dl).length * Enc.sz α ≤ cur.size) {U : TypeId} {bs : Array Bool}
    (k : ∀ w', Step (only t) c w c w' → Blk c t w' g E (cur.toList.take o ++ flat (l2.take dl) ++ cur.toList.drop (o + (l2.take dl).length * Enc.sz α)).toArray → K (.int .i64 (l2.take dl).length) w') :
    upK P (sBlt .copy #[T, T2] U bs #[.slice (some ⟨g, o, none⟩) dl dc, v2]) w K := by
  obtain ⟨hu, i, z, hinfo, hz, hs, hby, hzs⟩ := sliceB_spec hT
  have hst := run_storeCells_at P g o E (flat (l2.take dl)) 0 cur w hb.2 (by rw [flat_length]; simpa using hfit) (flat_one _)
  simp only [Nat.add_zero, flat_length] at hst
  have hlen : (l2.take dl).length = Nat.min l2.length dl := by rw [List.length_take]; exact Nat.min_comm _ _
  have hf : (Builtin.firstCells (Enc.sz α) (Nat.min l2.length dl) v2).run P w = .ok (flat (l2.take dl)).toArray w := by
    obtain ⟨a, cap, rfl, hc, h⟩ := h2
    rcases h with rfl | ⟨g, o, rfl, h⟩
    · cases a with
      | none => simp [Builtin.firstCells, flat]
      | some a =>
        have : Nat.min 0 dl = 0 := Nat.zero_min _
        simp [Builtin.firstCells, loadCells, loadCellsFrom, flat, this]
    · unfold Builtin.firstCells
      dsimp only
      rw [← hlen, ← flat_length]
      refine run_loadCells_list w _ _ fun j v hv => ?_
      rw [addr_add]
      refine h.2.2 j v ?_
      rw [← flat_take, List.getElem?_take] at hv
      split at hv
      · exact hv
      · cases hv
  refine upK_of (v := .int .i64 (l2.take dl).length) (vN_run ?_) (k _ (hb.stepRow _) (hb.setRow _))
  rw [hlen] at hst ⊢
  simp [Builtin.copy_, run_underlying hu, sizeOf, typeInfo, hinfo, hs, h2.lenOf w, hf, hst, goInt]

/-- 'copy(own[lo:], src)': the row after it. -/
theorem copy_part {g n cap lo : Nat} {l l2 : List α} {v2 : Value} {T2 : TypeId} {a : Option Addr} {dc : Nat} (hT : sliceB P T E (Enc.sz α) by_ = true) (h : RowO c t w E (.slice (some ⟨g, 0, none⟩) n cap) l) (h2 : RowR c u w v2 l2)
    (hlo : lo ≤ l.length) (ha : a = some ⟨g, lo * Enc.sz α, none⟩ ∨ lo = l.length ∧ a = some ⟨g, 0, none⟩) {U : TypeId} {bs : Array Bool}
    (k : ∀ w', Step (only t) c w c w' → RowO c t w' E (.slice (some ⟨g, 0, none⟩) n cap) (l.take lo ++ l2.take (l.length - lo) ++ l.drop (lo + (l2.take (l.length - lo)).length)) → K (.int .i64 (l2.take (l.length - lo)).length) w') :
    upK P (sBlt .copy #[T, T2] U bs #[.slice a (n - lo) dc, v2]) w K := by
  obtain ⟨rfl, cur, hb, h1', hm, h3, h4⟩ := h.inv
  have hle : l.length * Enc.sz α ≤ cap * Enc.sz α := Nat.mul_le_mul_right _ h1'
  have hll : (l2.take (l.length - lo)).length ≤ l.length - lo := List.length_take_le _ _
  have hmul : (lo + (l2.take (l.length - lo)).length) * Enc.sz α ≤ l.length * Enc.sz α := Nat.mul_le_mul_right _ (by omega)
  have hmul' := hmul
  rw [Nat.add_mul] at hmul'
  rcases ha with rfl | ⟨rfl, rfl⟩
  · refine copy_own hT hb h2 (by omega) fun w' st hb' => k w' st (RowO.mk_ hb' (by simp; omega) h1' hm ?_ ?_)
    · simp only [List.size_toArray, List.length_append, List.length_take, List.length_drop, Array.length_toList, flat_length]
      rw [List.length_take] at hmul'
      omega
    · have e := take_splice cur.toList (flat (l2.take (l.length - lo))) (lo * Enc.sz α) (l.length * Enc.sz α) (by rw [flat_length]; exact hmul') (Nat.le_trans hle (Nat.le_of_eq (h3.symm.trans Array.length_toList.symm)))
      rw [flat_length] at e
      refine e.trans ?_
      rw [h4, flat_take, ← Nat.add_mul, flat_drop, flat_append, flat_append]
  · have hz : l2.take (l.length - l.length) = [] := by simp
    refine copy_own hT hb h2 (by rw [hz]; simp) fun w' st hb' => ?_
    have e : (cur.toList.take 0 ++ flat (l2.take (l.length - l.length)) ++ cur.toList.drop (0 + (l2.take (l.length - l.length)).length * Enc.sz α)).toArray = cur := by
      rw [hz]; simp [flat]
    rw [e] at hb'
    refine k w' st ?_
    have e2 : l.take l.length ++ l2.take (l.length - l.length) ++ l.drop (l.length + (l2.take (l.length - l.length)).length) = l := by rw [hz]; simp
    rw [e2]
    exact RowO.mk_ hb' rfl h1' hm h3 h4

/-- 'own[lo:]' -/
theorem cut_own {g n cap lo : Nat} (hT : sliceB P T E (Enc.sz α) by_ = true) (h1 : lo ≤ n) (h2 : n ≤ cap) : ∃ a, (a = some ⟨g, lo * Enc.sz α, none⟩ ∨ lo = n ∧ a = some ⟨g, 0, none⟩) ∧
    ∀ {Kp : Value → Prop}, pureK P (sSlice T (.slice (some ⟨g, 0, none⟩) n cap) (some (.int .i64 lo)) none none) Kp = Kp (.slice a (n - lo) (cap - lo)) := by
  refine ⟨_, ?_, fun {Kp} => pureK_eq fun w => slice_run (lo := lo) (hi := n) hT Bnd.some Bnd.none h1 h2 w⟩
  split
  · right; exact ⟨by omega, rfl⟩
  · left; simp [addr_add]

/-- An element of one cell, read. -/
theorem RowR.at_sc {v : Value} {l : List α} (h : RowR c t w v l) (hT : sliceB P T E (Enc.sz α) by_ = true) {i : Nat} (hi : i < l.length) {T' : TypeId} (hs : scB P T' = true) {x : Value} (hx : Enc.cells l[i] = [x]) :
    ∃ p, (∀ {Kp : Value → Prop}, pureK P (sIdxAddr T v (.int .i64 i)) Kp = Kp p) ∧ (∀ {Kp : Value → Prop}, readK P (sLoad T' p) w Kp = Kp x) := by
  obtain ⟨g, o, _, _, h1, h2⟩ := h.idx hT hi
  exact ⟨_, h1, fun {Kp} => ld_sc hs (h2 0 x (by rw [hx]; rfl))⟩

theorem fold_off (l : List Value) : ∀ (k off : Nat) (cs : Array Value) (i : Nat), off + k + l.length ≤ cs.size →
    ((l.zipIdx k).foldl (fun cs (x : Value × Nat) => cs.setIfInBounds (off + x.2) x.1) cs)[i]? = if off + k ≤ i ∧ i < off + k + l.length then l[i - (off + k)]? else cs[i]? := by
  induction l with
  | nil => intro k off cs i _; simp; intro h1 h2; omega
  | cons v l ih =>
    intro k off cs i h
    simp only [List.length_cons] at h
    simp only [List.zipIdx_cons, List.foldl_cons]
    rw [ih (k + 1) off _ i (by simp; omega)]
    by_cases hik : i = off + k
    · subst hik
      simp [show off + k < cs.size by omega]
      omega
    · by_cases h1 : off + (k + 1) ≤ i ∧ i < off + (k + 1) + l.length
      · rw [if_pos h1, if_pos (by simp only [List.length_cons]; omega), show i - (off + k) = (i - (off + (k + 1))) + 1 by omega, List.getElem?_cons_succ]
      · rw [if_neg h1, if_neg (by simp only [List.length_cons]; omega), Array.getElem?_setIfInBounds_ne (by omega)]

theorem fold_size (l : List (Value × Nat)) : ∀ (off : Nat) (cs : Array Value), (l.foldl (fun cs (x : Value × Nat) => cs.setIfInBounds (off + x.2) x.1) cs).size = cs.size := by
  induction l with
  | nil => intro off cs; rfl
  | cons v l ih => intro off cs; simp only [List.foldl_cons]; rw [ih]; simp

theorem fill_seq (l : List α) : ∀ (k : Nat) (cs : Array Value), (k + l.length) * Enc.sz α ≤ cs.size →
    ∃ cs', Instr.fill (fun i => some (i * Enc.sz α, Enc.sz α)) cs ((l.zipIdx k).map fun p => (p.2, Enc.val p.1)) = some cs' ∧ cs'.size = cs.size ∧ ∀ j, cs'[j]? = if k * Enc.sz α ≤ j ∧ j < (k + l.length) * Enc.sz α then (flat l)[j - k * Enc.sz α]? else cs[j]? := by
  induction l with
  | nil => intro k cs _; exact ⟨cs, rfl, rfl, fun j => by simp; intro h1 h2; omega⟩
  | cons x l ih =>
    intro k cs h
    have hv : (Enc.val x).cells.size = Enc.sz α := by rw [Enc.cells_val]; simp [Enc.len]
    simp only [List.length_cons] at h
    have hk1 : (k + 1) * Enc.sz α = k * Enc.sz α + Enc.sz α := by rw [Nat.add_mul, Nat.one_mul]
    have hkl : (k + (l.length + 1)) * Enc.sz α = k * Enc.sz α + Enc.sz α + l.length * Enc.sz α := by rw [Nat.add_mul, Nat.add_mul, Nat.one_mul]; omega
    obtain ⟨cs', h1, h2, h3⟩ := ih (k + 1) ((Enc.val x).cells.zipIdx.foldl (fun cs (x : Value × Nat) => cs.setIfInBounds (k * Enc.sz α + x.2) x.1) cs) (by
      rw [← Array.foldl_toList, fold_size, show k + 1 + l.length = k + (l.length + 1) by omega]; exact h)
    refine ⟨cs', ?_, ?_, fun j => ?_⟩
    · simp only [List.zipIdx_cons, List.map_cons]
      unfold Instr.fill
      dsimp only
      rw [if_neg (by simp [hv]; omega)]
      exact h1
    · rw [h2, ← Array.foldl_toList, fold_size]
    · rw [h3, ← Array.foldl_toList, Array.toList_zipIdx, fold_off _ 0 (k * Enc.sz α) cs j (by simp [hv]; omega)]
      have hvl : (Enc.val x).cells.toList = Enc.cells x := by rw [Enc.cells_val]
      rw [hvl, Enc.len, flat_cons, show k + 1 + l.length = k + (l.length + 1) by omega, List.length_cons, hk1, hkl]
      by_cases c1 : k * Enc.sz α + Enc.sz α ≤ j ∧ j < k * Enc.sz α + Enc.sz α + l.length * Enc.sz α
      · rw [if_pos c1, if_pos ⟨by omega, c1.2⟩, List.getElem?_append_right (by rw [Enc.len]; omega), Enc.len]
        congr 1
        omega
      · rw [if_neg c1]
        by_cases c2 : k * Enc.sz α + 0 ≤ j ∧ j < k * Enc.sz α + 0 + Enc.sz α
        · rw [if_pos c2, if_pos ⟨by omega, by omega⟩, List.getElem?_append_left (by rw [Enc.len]; omega)]
          congr 1
        · rw [if_neg c2, if_neg (by omega)]

/-- A literal slice. -/
theorem buildN (l : List α) {n : Nat} {ps : Array (Nat × Value)} (hT : sliceB P T E (Enc.sz α) by_ = true) (hn : n = l.length) (h0 : 0 < n) (hsz : n * Enc.sz α ≤ 16777216) (hps : ps = ((l.zipIdx 0).map fun p => (p.2, Enc.val p.1)).toArray)
    (k : ∀ c' v w', Step nobody c w c' w' → RowO c' t w' E v l → K v w') : upK P (sBuildSlice T n ps) w K := by
  obtain ⟨hu, i, z, hinfo, hz, hs, hby, hzs⟩ := sliceB_spec hT
  subst hn hps
  have hpos : 0 < Enc.sz α := Enc.pos
  obtain ⟨cs', h1, h2, h3⟩ := fill_seq l 0 ((Array.range (l.length * Enc.sz α)).map (z.cells[· % z.cells.size]!)) (by simp)
  have hne : ¬ (l.length * Enc.sz α = 0) := by
    intro h
    rcases Nat.mul_eq_zero.1 h with h | h <;> omega
  have hcs : cs' = (flat l).toArray := by
    apply Array.ext_getElem?
    intro j
    rw [h3 j]
    by_cases hj : j < l.length * Enc.sz α
    · rw [if_pos ⟨by omega, by simpa using hj⟩]; simp
    · rw [if_neg (by simp; omega), Array.getElem?_eq_none (by simp; omega), Array.getElem?_eq_none (by simp [flat_length]; omega)]
  refine upK_of (v := .slice (some ⟨w.heap.size, 0, none⟩) l.length l.length) (w' := w.alloc (.cells (flat l).toArray E)) (vN_run ?_) (k (paint c w.heap.size t) _ _ (Step.alloc nobody c w t _) ?_)
  · rw [hcs] at h1
    simp [Instr.buildSlice, run_underlying hu, sizeOf, typeInfo, hinfo, hs, zeroValue, hz, Nat.not_lt.2 hsz, newRow, hne, h1]
  · refine ⟨⟨by rw [flat_length], .inr ⟨w.heap.size, l.length, _, rfl, Nat.zero_le _, heap_alloc_new w _, Nat.le_refl _, ?_, by simp [flat_length], ?_⟩⟩, fun g hg => ?_⟩
    · have : l.length ≤ l.length * Enc.sz α := Nat.le_mul_of_pos_right _ hpos
      unfold maxLen; omega
    · rw [List.take_of_length_le (by simp [flat_length])]
    · simp [Value.ownBlock] at hg
      subst hg
      simp [paint]
end
end Go.Proofs.YtoebncgnjbblgaaGreatDoor
