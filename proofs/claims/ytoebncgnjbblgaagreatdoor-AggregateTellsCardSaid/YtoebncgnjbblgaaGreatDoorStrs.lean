/-
  Strings and rows of bytes: parts of strings, their bytes, copies of strings into rows, conversions. No condition.
-/
import Derived.Test.YtoebncgnjbblgaaGreatDoorPlus
import Derived.Laws.BytesString
namespace Go.Proofs.YtoebncgnjbblgaaGreatDoor
open Go.RowKit

instance : Enc UInt8 where
  sz := 1
  cells x := [.int .u8 x.toNat]
  val x := .int .u8 x.toNat
  pos := by omega
  len _ := rfl
  one _ v hv := by
    simp only [List.mem_cons, List.not_mem_nil, or_false] at hv
    rcases hv with rfl
    rfl
  cells_val _ := rfl

/-- The bytes of a string. -/
abbrev bl (s : ByteArray) : List UInt8 := s.data.toList
abbrev ofL (l : List UInt8) : ByteArray := ⟨l.toArray⟩
theorem bl_ofL (l : List UInt8) : bl (ofL l) = l := rfl
theorem ofL_bl (s : ByteArray) : ofL (bl s) = s := by
  obtain ⟨⟨l⟩⟩ := s
  rfl
theorem bl_length (s : ByteArray) : (bl s).length = s.size := by
  obtain ⟨⟨l⟩⟩ := s
  rfl
theorem bl_inj {s t : ByteArray} (h : bl s = bl t) : s = t := by rw [← ofL_bl s, h, ofL_bl]
theorem ofL_size (l : List UInt8) : (ofL l).size = l.length := rfl
theorem extract_bl (s : ByteArray) (lo hi : Nat) : s.extract lo hi = ofL (((bl s).take hi).drop lo) := by
  apply bl_inj
  show (s.extract lo hi).data.toList = ((bl s).take hi).drop lo
  rw [ByteArray.data_extract, Array.toList_extract, List.extract_eq_take_drop]
  rw [List.drop_take]

section
variable {P : Program} {Kp : Value → Prop} {T : TypeId} {s : ByteArray} {w : World}
/-- 's[lo:hi]' of a string. -/
theorem str_cut {lo hi : Nat} {lov hiv : Option Value} (hT : P.underlying T = some .string) (hlo : Bnd lov 0 lo) (hhi : Bnd hiv s.size hi) (h1 : lo ≤ hi) (h2 : hi ≤ s.size) :
    pureK P (sSlice T (.string s) lov hiv none) Kp = Kp (.string (ofL (((bl s).take hi).drop lo))) := pureK_eq fun w => by
  rw [← extract_bl]
  refine vN_run ?_
  rcases hlo with ⟨rfl, rfl⟩ | rfl <;> rcases hhi with ⟨rfl, rfl⟩ | rfl <;>
    simp [Instr.sliceAt, Instr.slice, run_underlying hT, Instr.sliceBounds, Instr.sliceBound, asIntOf, h1, h2]
/-- 's[i]' of a string. -/
theorem str_idx {i : Nat} (hT : P.underlying T = some .string) (hi : i < s.size) : pureK P (sIdx T (.string s) (.int .i64 i)) Kp = Kp (.int .u8 ((bl s)[i]'(by rw [bl_length]; exact hi)).toNat) := pureK_eq fun w => by
  refine vN_run ?_
  have h0 : (0 : Int) ≤ i := by omega
  have hg : s[i]? = some ((bl s)[i]'(by rw [bl_length]; exact hi)) := by
    rw [getElem?_pos s i hi]
    congr 1
  simp [Instr.index, asIntOf, run_underlying hT, hg]
theorem str_len {U : TypeId} {bs : Array Bool} (hT : P.underlying T = some .string) : readK P (sBlt .len #[T] U bs #[.string s]) w Kp = Kp (.int .i64 (bl s).length) := by
  rw [len_string hT, bl_length]
end

/-! ### Copies of strings -/
section
variable {P : Program} {K : Value → World → Prop} {w : World} {T E : TypeId} {by_ : Nat} {c : Nat → Nat} {t : Nat}
theorem copy_str {g n cap lo : Nat} {l : List UInt8} {s : ByteArray} {T2 : TypeId} {a : Option Addr} {dc : Nat} (hT : sliceB P T E 1 by_ = true) (h : RowO c t w E (.slice (some ⟨g, 0, none⟩) n cap) l)
    (hlo : lo ≤ l.length) (ha : a = some ⟨g, lo * 1, none⟩ ∨ lo = l.length ∧ a = some ⟨g, 0, none⟩) {U : TypeId} {bs : Array Bool}
    (k : ∀ w', Step (only t) c w c w' → RowO c t w' E (.slice (some ⟨g, 0, none⟩) n cap) (l.take lo ++ (bl s).take (l.length - lo) ++ l.drop (lo + ((bl s).take (l.length - lo)).length)) → K (.int .i64 ((bl s).take (l.length - lo)).length) w') :
    upK P (sBlt .copy #[T, T2] U bs #[.slice a (n - lo) dc, .string s]) w K := by
  obtain ⟨hu, i, z, hinfo, hz, hs, hby, hzs⟩ := sliceB_spec hT
  obtain ⟨rfl, cur, hb, h1', hm, h3, h4⟩ := h.inv
  have h3 : cur.size = cap := by rw [h3]; exact Nat.mul_one cap
  have h4 : cur.toList.take l.length = flat l := by rw [← h4]; congr 1; exact (Nat.mul_one _).symm
  have hlen : ((bl s).take (l.length - lo)).length = Nat.min s.size (l.length - lo) := by rw [List.length_take, bl_length]; exact Nat.min_comm _ _
  have hf : (Builtin.firstCells 1 (Nat.min s.size (l.length - lo)) (.string s)).run P w = .ok (flat ((bl s).take (l.length - lo))).toArray w := by
    unfold Builtin.firstCells
    rw [Sem.run_pure]
    congr 1
    apply Array.ext'
    rw [extract_bl, Array.toList_map]
    have e : ∀ l : List UInt8, flat l = l.map fun b => Value.int .u8 (b.toNat : Int) := by
      intro l
      induction l with
      | nil => rfl
      | cons a l ih => rw [flat_cons, ih]; rfl
    rw [e]
    show List.map _ ((((bl s).take (Nat.min s.size (l.length - lo))).drop 0)) = _
    rw [List.drop_zero]
    congr 1
    have : Nat.min s.size (l.length - lo) = min (l.length - lo) (bl s).length := by rw [bl_length]; exact Nat.min_comm _ _
    rw [this, ← List.take_take, List.take_length]
  have hll : ((bl s).take (l.length - lo)).length ≤ l.length - lo := List.length_take_le _ _
  have hfl : (flat ((bl s).take (l.length - lo))).length = ((bl s).take (l.length - lo)).length := by rw [flat_length]; exact Nat.mul_one _
  rcases ha with rfl | ⟨rfl, rfl⟩
  · have hst := run_storeCells_at P g (lo * 1) E (flat ((bl s).take (l.length - lo))) 0 cur w hb.2 (by rw [hfl]; omega) (flat_one _)
    simp only [Nat.add_zero, Nat.mul_one] at hst ⊢
    rw [hfl] at hst
    refine upK_of (v := .int .i64 ((bl s).take (l.length - lo)).length) (vN_run ?_) (k _ (hb.stepRow (cur.toList.take lo ++ flat ((bl s).take (l.length - lo)) ++ cur.toList.drop (lo + ((bl s).take (l.length - lo)).length)).toArray) (RowO.mk_ (hb.setRow _) (by simp; omega) h1' hm ?_ ?_))
    · rw [hlen] at hst ⊢
      simp [Builtin.copy_, run_underlying hu, sizeOf, typeInfo, hinfo, hs, Builtin.lenOf, hf, hst, goInt]
    · show _ = cap * 1
      simp only [List.size_toArray, List.length_append, List.length_take, List.length_drop, Array.length_toList, hfl]
      rw [List.length_take] at hll
      omega
    · show List.take (l.length * 1) _ = _
      rw [Nat.mul_one]
      have e := take_splice cur.toList (flat ((bl s).take (l.length - lo))) lo l.length (by rw [hfl]; omega) (by simp; omega)
      rw [hfl] at e
      refine e.trans ?_
      have ft : ∀ (k : Nat) (l : List UInt8), (flat l).take k = flat (l.take k) := fun k l => by rw [← flat_take]; congr 1; exact (Nat.mul_one k).symm
      have fd : ∀ (k : Nat) (l : List UInt8), (flat l).drop k = flat (l.drop k) := fun k l => by rw [← flat_drop]; congr 1; exact (Nat.mul_one k).symm
      rw [h4, ft, fd, flat_append, flat_append]
  · have hz0 : (bl s).take (l.length - l.length) = [] := by simp
    rw [hz0] at hf hlen
    refine upK_of (v := .int .i64 ((bl s).take (l.length - l.length)).length) (w' := w) (vN_run ?_) (k w (Step.refl _ c w) ?_)
    · rw [hz0]
      have hn : Nat.min s.size (l.length - l.length) = 0 := by rw [Nat.sub_self]; exact Nat.min_zero _
      rw [hn] at hf
      simp [Builtin.copy_, run_underlying hu, sizeOf, typeInfo, hinfo, hs, Builtin.lenOf, hf, goInt, storeCells, flat, show Nat.min s.size 0 = 0 from Nat.min_zero _]
    · have e2 : l.take l.length ++ (bl s).take (l.length - l.length) ++ l.drop (l.length + ((bl s).take (l.length - l.length)).length) = l := by rw [hz0]; simp
      rw [e2]
      exact h
theorem Rel.copyStr {B : Base} {σ : List Dat} (h : Rel B w σ) (i : Nat) {g n cap lo : Nat} {l : List UInt8} {s : ByteArray} {T2 : TypeId} {a : Option Addr} {dc : Nat} (hi : σ[i]? = some (rowD E (.slice (some ⟨g, 0, none⟩) n cap) l)) (hT : sliceB P T E 1 by_ = true)
    (hlo : lo ≤ l.length) (ha : a = some ⟨g, lo * 1, none⟩ ∨ lo = l.length ∧ a = some ⟨g, 0, none⟩) {U : TypeId} {bs : Array Bool}
    (k : ∀ w', Rel B w' (σ.set i (rowD E (.slice (some ⟨g, 0, none⟩) n cap) (l.take lo ++ (bl s).take (l.length - lo) ++ l.drop (lo + ((bl s).take (l.length - lo)).length)))) → K (.int .i64 ((bl s).take (l.length - lo)).length) w') :
    upK P (sBlt .copy #[T, T2] U bs #[.slice a (n - lo) dc, .string s]) w K := by
  obtain ⟨c, h⟩ := h
  exact copy_str hT (rowD.own (h.own i _ hi)) hlo ha fun w' st hr => k w' ⟨c, h.step hi st hr.rowD⟩
end

/-! ### Conversions -/
theorem foldl_bytes (l : List UInt8) : ∀ s : ByteArray, (l.map fun b => (b.toNat : Int)).foldl (fun r n => r.push (UInt8.ofNat n.toNat)) s = ofL (bl s ++ l) := by
  induction l with
  | nil => intro s; simp [ofL_bl]
  | cons a l ih =>
    intro s
    rw [List.map_cons, List.foldl_cons, ih]
    congr 1
    have : UInt8.ofNat (a.toNat : Int).toNat = a := by simp
    rw [this]
    simp [bl, ByteArray.push]
theorem flat_bytes (l : List UInt8) : flat l = (l.map fun b => (b.toNat : Int)).map (Value.int .u8) := by
  induction l with
  | nil => rfl
  | cons a l ih => rw [flat_cons, ih]; rfl
section
variable {P : Program} {K : Value → World → Prop} {B : Base} {w : World} {σ : List Dat} {S D E : TypeId}
/-- 'string(b)' -/
theorem conv_row {v : Value} {l : List UInt8} (hr : rowR v l ⟨w, fun _ => True⟩) (hS : P.underlying S = some (.slice E)) (hE : P.underlying E = some (.int .u8)) (hD : P.underlying D = some .string) : (sConv S D v).run P w = .ok (.value (.string (ofL l))) w := by
  obtain ⟨a, cap, rfl, hc, h⟩ := hr
  refine vN_run ?_
  rw [run_convert_bytes_string w S D E a _ cap hS hE hD]
  rcases h with rfl | ⟨g, o, rfl, h⟩
  · cases a with
    | none => simp [Conv.bytesToString]; rfl
    | some a =>
      show (Conv.bytesToString (.slice (some a) 0 cap)).run P w = _
      rw [run_bytesToString w a 0 cap [] (by simp [loadCells, loadCellsFrom])]
      rfl
  · have hl : (loadCells ⟨g, o, none⟩ l.length).run P w = .ok ((l.map fun b => (b.toNat : Int)).map (Value.int .u8)).toArray w := by
      have := run_loadCells_list (P := P) w ⟨g, o, none⟩ (flat l) fun j v hv => by rw [addr_add]; exact h.2.2 j v hv
      have e : (flat l).length = l.length := by rw [flat_length]; exact Nat.mul_one _
      rw [e, flat_bytes] at this
      exact this
    rw [run_bytesToString w _ l.length cap _ hl, foldl_bytes]
    rfl
theorem Rel.toStr (h : Rel B w σ) {v : Value} {l : List UInt8} (r : Rd B σ [] v l) (hS : P.underlying S = some (.slice E)) (hE : P.underlying E = some (.int .u8)) (hD : P.underlying D = some .string) (k : K (.string (ofL l)) w) : upK P (sConv S D v) w K :=
  upK_of (conv_row (h.rd r) hS hE hD) k
end

/-! ### '[]byte(s)': a row whose end bears a mark -/
/-- A row of bytes of one's own that may bear the mark of a conversion behind its end. -/
def bytesZ (E : TypeId) (v : Value) (l : List UInt8) : Dat := ⟨fun B => ∃ g cap cur fz, v = .slice (some ⟨g, 0, none⟩) l.length cap ∧ B.keep g ∧ B.W.heap[g]? = some (.cells cur E fz) ∧ l.length ≤ cap ∧ cap ≤ maxLen ∧ cur.size = cap ∧ cur.toList.take l.length = flat l ∧ (fz.1 = fz.2 ∨ cur.size ≤ fz.1),
  fun {B B'} hl ⟨g, cap, cur, fz, h1, h2, h3, h4⟩ => by
    obtain ⟨h5, h6⟩ := hl g h2 (Array.getElem?_eq_some_iff.1 h3).1
    exact ⟨g, cap, cur, fz, h1, h5, h6.trans h3, h4⟩⟩
section
variable {P : Program} {K : Value → World → Prop} {Kp : Value → Prop} {B : Base} {w : World} {σ : List Dat} {S D E T : TypeId} {by_ : Nat}
theorem bytesZ.read {v : Value} {l : List UInt8} (h : bytesZ E v l B) : rowR v l B := by
  obtain ⟨g, cap, cur, fz, rfl, h2, h3, h4, h5, h6, h7, h8⟩ := h
  refine ⟨_, cap, rfl, h4, .inr ⟨g, 0, rfl, h2, (Array.getElem?_eq_some_iff.1 h3).1, fun j v hv => ?_⟩⟩
  rw [← h7, List.getElem?_take] at hv
  split at hv
  · rw [Nat.zero_add]
    simp only [World.cell?, h3]
    simpa using hv
  · cases hv
theorem Rel.fromStr (h : Rel B w σ) {s : ByteArray} (hS : P.underlying S = some .string) (hD : P.underlying D = some (.slice E)) (hE : P.underlying E = some (.int .u8)) (hs : s.size ≤ 9223372036854775807) (k : ∀ v w', Rel B w' (σ ++ [bytesZ E v (bl s)]) → K v w') :
    upK P (sConv S D (.string s)) w K := by
  obtain ⟨c, h⟩ := h
  have hcap : ∃ cap, s.size ≤ cap ∧ cap ≤ maxLen ∧ (choose (.appendCap s.size 0 E)).run P w = .ok cap w.drew := by
    refine ⟨s.size + w.tape w.drawn (.appendCap s.size 0 E) % (2 ^ 63 - s.size), by omega, ?_, ?_⟩
    · have : w.tape w.drawn (.appendCap s.size 0 E) % (2 ^ 63 - s.size) < 2 ^ 63 - s.size := Nat.mod_lt _ (by omega)
      unfold maxLen
      omega
    · simp only [choose, Sem.run, Question.forced, Bool.false_eq_true, if_false, Question.cut]
      rfl
  obtain ⟨cap, h1, h2, hrun⟩ := hcap
  have e0 : (s.data.map fun b => (Value.int .u8 (b.toNat : Int))) = (flat (bl s)).toArray := by
    rw [flat_bytes]
    apply Array.ext'
    simp
  let cur : Array Value := (flat (bl s)).toArray ++ Array.replicate (cap - s.size) (.int .u8 0)
  have hfl : (flat (bl s)).length = s.size := by rw [flat_length, bl_length]; exact Nat.mul_one _
  have hcs : cur.size = cap := by simp [cur, hfl]; omega
  have hc : (sConv S D (.string s)).run P w = .ok (.value (.slice (some ⟨w.heap.size, 0, none⟩) s.size cap)) (w.drew.alloc (.cells cur E (cap, cap + 1))) := by
    refine vN_run ?_
    unfold convert
    rw [Sem.run_bind, run_underlying hS]
    simp only [Result.andThen_ok]
    rw [Sem.run_bind, run_underlying hD]
    simp only [Result.andThen_ok]
    rw [Sem.run_bind, run_underlying hE]
    simp only [Result.andThen_ok]
    unfold Conv.stringToBytes
    rw [Sem.run_bind, hrun]
    simp only [Result.andThen_ok, e0]
    rw [Sem.run_bind]
    have hn : (newRow E cur).run P w.drew = .ok ⟨w.heap.size, 0, none⟩ (w.drew.alloc (.cells cur E)) := by simp [newRow]
    rw [show (flat (bl s)).toArray ++ Array.replicate (cap - s.size) (Value.int .u8 0) = cur from rfl, hn]
    simp only [Result.andThen_ok]
    have hsh : (w.drew.alloc (.cells cur E)).shape? w.heap.size = some (E, cap) := by
      have : (w.drew.alloc (.cells cur E)).heap[w.heap.size]? = some (.cells cur E) := heap_alloc_new w.drew _
      simp only [World.shape?, this, hcs]
    have hfr : (w.drew.alloc (.cells cur E)).freeze { block := w.heap.size, off := cap } 1 = w.drew.alloc (.cells cur E (cap, cap + 1)) := by
      unfold World.freeze
      rw [if_neg (by decide)]
      simp only [World.alloc]
      congr 1
      apply Array.ext_getElem?
      intro j
      rw [Array.getElem?_modify]
      have hs : w.drew.heap.size = w.heap.size := rfl
      by_cases hj : w.heap.size = j
      · subst hj
        have e : ∀ o : Obj, (w.drew.heap.push o)[w.heap.size]? = some o := fun o => Array.getElem?_push_size
        rw [if_pos rfl, e, e]
        rfl
      · rw [if_neg hj, Array.getElem?_push, Array.getElem?_push]
        simp [hs, Ne.symm hj]
    have hm : (markStringish ⟨w.heap.size, 0, none⟩).run P (w.drew.alloc (.cells cur E)) = .ok () (w.drew.alloc (.cells cur E (cap, cap + 1))) := by
      simp only [markStringish, shape, Sem.run_bind, Sem.run, hsh, Result.andThen_ok]
      show Result.ok () (World.freeze _ _ _) = _
      rw [hfr]
    rw [Sem.run_bind, hm]
    rfl
  refine upK_of hc (k _ _ ⟨paint c w.heap.size (σ.length + 1), h.push ((Step.tick nobody c w).trans (Step.alloc nobody c w.drew _ _)) ?_⟩)
  refine ⟨w.heap.size, cap, cur, (cap, cap + 1), by rw [bl_length], by simp [paint], heap_alloc_new w.drew _, by rw [bl_length]; exact h1, h2, hcs, ?_, .inr (by rw [hcs]; exact Nat.le_refl _)⟩
  simp only [cur, Array.toList_append]
  rw [bl_length, ← hfl]
  exact List.take_left

theorem Rel.openZ (h : Rel B w σ) {i : Nat} {v : Value} {l : List UInt8} (hi : σ[i]? = some (bytesZ E v l)) : ∃ g cap, v = .slice (some ⟨g, 0, none⟩) l.length cap := by
  obtain ⟨g, cap, cur, fz, rfl, _⟩ := h.here hi
  exact ⟨g, cap, rfl⟩
theorem not_frozen {fz : Nat × Nat} {g o n : Nat} {cur : Array Value} (h : w.heap[g]? = some (.cells cur E fz)) (hf : fz.1 = fz.2 ∨ cur.size ≤ fz.1) (ho : o < cur.size) : w.frozen? ⟨g, o, none⟩ = false := by
  obtain ⟨lo, hi⟩ := fz
  simp only [World.frozen?, h]
  rcases hf with hf | hf
  · have hf : lo = hi := hf
    subst hf
    simp
  · have hf : cur.size ≤ lo := hf
    simp
    omega
/-- One byte of such a row is stored. -/
theorem Rel.setZ (h : Rel B w σ) (i : Nat) {g n cap j : Nat} {l : List UInt8} (hi : σ[i]? = some (bytesZ E (.slice (some ⟨g, 0, none⟩) n cap) l)) (x : UInt8) (hj : j < l.length) (hs : scB P T = true) {xv : Value}
    (k : ∀ w', Rel B w' (σ.set i (bytesZ E (.slice (some ⟨g, 0, none⟩) n cap) (l.set j x))) → K undef w') (hx : xv = .int .u8 x.toNat := by rfl) : upK P (sStore T (.pointer (some ⟨g, j, none⟩)) xv) w K := by
  subst hx
  obtain ⟨c, h⟩ := h
  obtain ⟨g', cap', cur, fz, he, h2, h3, h4, h5, h6, h7, h8⟩ := h.own i _ hi
  cases he
  have h2 : c g = i + 1 := h2
  have h3 : w.heap[g]? = some (.cells cur E fz) := h3
  have hjc : j < cur.size := by omega
  have hc : w.cell? ⟨g, j, none⟩ = some cur[j] := by simp [World.cell?, h3, hjc]
  have hf := not_frozen (n := 0) h3 h8 hjc
  refine upK_skip (w' := w.setCell ⟨g, j, none⟩ (.int .u8 x.toNat)) (uN_run ?_) (k _ ⟨c, h.step hi ⟨rfl, rfl, rfl, by simp [World.setCell], fun _ _ => rfl, fun q hq hT => Below.heap_setCell w ⟨g, j, none⟩ _ q (by rintro rfl; exact hT h2)⟩ ?_⟩)
  · have e1 := size_sc (P := P) (w := w) hs
    simp [Instr.storeAt, Instr.sureAddr, storeVar, Sem.run_bind, e1, Value.cells, storeCells, store, Sem.run, hc, hf, Addr.add]
  · refine ⟨g, cap, cur.setIfInBounds j (.int .u8 x.toNat), fz, by simp, h2, ?_, by simpa using h4, h5, by simpa using h6, ?_, by simpa using h8⟩
    · simp [World.setCell, Array.getElem?_modify, h3]
    · simp only [Array.toList_setIfInBounds, List.length_set]
      rw [List.take_set, h7]
      have := flat_set_cell (l := l) hj x (f := 0) (v := .int .u8 x.toNat) (by decide) rfl
      rw [this]
      congr 1
      exact (Nat.mul_one j).symm
/-- 'append(b, x)' -/
theorem Rel.pushZ (h : Rel B w σ) (i : Nat) {v : Value} {l : List UInt8} (hi : σ[i]? = some (bytesZ E v l)) (x : UInt8) (hT : sliceB P T E 1 1 = true) (hl : l.length + 1 ≤ 140737488355328) {U : TypeId} {bs : Array Bool} {K' : Value → World → Prop} {xv : Value}
    (k : ∀ v' w', Rel B w' (σ.set i (bytesZ E v' (l ++ [x]))) → K' v' w') (hx : xv = .int .u8 x.toNat := by rfl) :
    upK P (sBuildSlice T 1 #[(0, xv)]) w fun t w1 => upK P (sBlt .append #[T, T] U bs #[v, t]) w1 fun v' w2 => K' v' w2 := by
  have hlt : i < σ.length := by
    rcases Nat.lt_or_ge i σ.length with hl | hl
    · exact hl
    · rw [List.getElem?_eq_none hl] at hi; cases hi
  refine h.build1 (α := UInt8) x hT (by decide) (fun t w1 h1 => ?_) hx
  have hi1 : (σ ++ [rowD E t [x]])[i]? = some (bytesZ E v l) := by rw [List.getElem?_append_left hlt]; exact hi
  have hsrc : RowR (fun _ => 0) 0 w1 t [x] := rowR.here_row (rowD.read (h1.here (i := σ.length) (d := rowD E t [x]) (by rw [List.getElem?_append_right (Nat.le_refl _)]; simp)))
  have done : ∀ v' w2, Rel B w2 ((σ ++ [rowD E t [x]]).set i (bytesZ E v' (l ++ [x]))) → K' v' w2 := fun v' w2 h2 => k v' w2 (by
    rw [List.set_append_left _ _ hlt] at h2
    exact h2.drop)
  obtain ⟨hu, i', z, hinfo, hz, hs, hby, hzs⟩ := sliceB_spec hT
  obtain ⟨c, h1⟩ := h1
  obtain ⟨g, cap, cur, fz, rfl, h2, h3, h4, h5, h6, h7, h8⟩ := h1.own i _ hi1
  have h2 : c g = i + 1 := h2
  have h3 : w1.heap[g]? = some (.cells cur E fz) := h3
  have f2 := hsrc.first (P := P)
  have hfx : (flat [x]) = [.int .u8 x.toNat] := rfl
  have hfl : (flat l).length = l.length := by rw [flat_length]; exact Nat.mul_one _
  by_cases hroom : l.length + 1 ≤ cap
  · have hjc : l.length < cur.size := by omega
    have hc : w1.cell? ⟨g, l.length, none⟩ = some cur[l.length] := by simp [World.cell?, h3, hjc]
    have hf := not_frozen (n := 0) h3 h8 hjc
    refine upK_of (v := .slice (some ⟨g, 0, none⟩) (l.length + 1) cap) (w' := w1.setCell ⟨g, l.length, none⟩ (.int .u8 x.toNat)) (vN_run ?_) (done _ _ ⟨c, h1.step hi1 ⟨rfl, rfl, rfl, by simp [World.setCell], fun _ _ => rfl, fun q hq hT => Below.heap_setCell w1 ⟨g, l.length, none⟩ _ q (by rintro rfl; exact hT h2)⟩ ?_⟩)
    · have f2' : (Builtin.firstCells 1 1 t).run P w1 = .ok #[.int .u8 x.toNat] w1 := f2
      have l2 : (Builtin.lenOf t).run P w1 = .ok 1 w1 := hsrc.lenOf w1
      simp [Builtin.append_, run_underlying hu, sizeOf, typeInfo, hinfo, hs, show Enc.sz UInt8 = 1 from rfl, l2, hroom, f2', addr_add, storeCells, store, Sem.run, hc, hf]
    · refine ⟨g, cap, cur.setIfInBounds l.length (.int .u8 x.toNat), fz, by simp, h2, ?_, by simp; omega, h5, by simpa using h6, ?_, by simpa using h8⟩
      · simp [World.setCell, Array.getElem?_modify, h3]
      · simp only [Array.toList_setIfInBounds, List.length_append, List.length_singleton]
        rw [flat_append, ← h7, hfx]
        apply List.ext_getElem
        · simp; omega
        · intro q hq1 hq2
          simp only [List.getElem_take, List.getElem_set]
          by_cases hql : l.length = q
          · subst hql
            rw [if_pos rfl, List.getElem_append_right (by simp; omega)]
            simp [Nat.min_eq_left (show l.length ≤ cur.toList.length by simp; omega)]
          · rw [if_neg hql, List.getElem_append_left (by simp at hq2 ⊢; omega), List.getElem_take]
  · have hn : ¬ (l.length + 1 ≤ cap) := hroom
    have h63' : ¬ (9223372036854775807 < ((l.length : Int) + 1)) := by omega
    have h48 : Builtin.nextslicecap (l.length + 1) cap * 1 ≤ 281474976710656 := growslice_fits (by omega) (by omega)
    have h48' : ¬ (281474976710656 < Builtin.nextslicecap (l.length + 1) cap) := by omega
    have hge := grownCap_ge w1 (l.length + 1) cap E
    have hmx := grownCap_le_maxLen w1 (l.length + 1) cap E (by unfold maxLen; omega)
    have f1 : (Builtin.firstCells 1 l.length (.slice (some ⟨g, 0, none⟩) l.length cap)).run P w1.drew = .ok (flat l).toArray w1.drew := by
      have : rowR (.slice (some ⟨g, 0, none⟩) l.length cap) l ⟨w1.drew, fun _ => True⟩ := bytesZ.read (E := E) ⟨g, cap, cur, fz, rfl, trivial, h3, h4, h5, h6, h7, h8⟩
      exact (rowR.here_row (w := w1.drew) this).first
    have f2' : (Builtin.firstCells 1 1 t).run P w1.drew = .ok #[.int .u8 x.toNat] w1.drew := (hsrc.tick).first
    have l2 : (Builtin.lenOf t).run P w1 = .ok 1 w1 := hsrc.lenOf w1
    have hrun : (Builtin.append_ #[T, T] U #[.slice (some ⟨g, 0, none⟩) l.length cap, t]).run P w1 =
        .ok (.slice (some ⟨w1.heap.size, 0, none⟩) (l.length + 1) (grownCap w1 (l.length + 1) cap E))
          (w1.drew.alloc (.cells ((flat l).toArray ++ #[.int .u8 x.toNat] ++ Builtin.zeroCells z.cells (grownCap w1 (l.length + 1) cap E - (l.length + 1))) E)) := by
      simp [Builtin.append_, run_underlying hu, sizeOf, typeInfo, hinfo, hs, show Enc.sz UInt8 = 1 from rfl, l2, hn, h63', hby, h48', f1, f2', grownCap, Question.forced, zeroValue, hz, newRow]
    refine upK_of (vN_run hrun) (done _ _ ⟨paint c w1.heap.size (i + 1), h1.step hi1 ((Step.none (T := only (i + 1)) ((Step.tick nobody c w1).trans (Step.alloc nobody c w1.drew (i + 1) _)))) ?_⟩)
    refine ⟨w1.heap.size, _, _, (0, 0), by rw [List.length_append]; rfl, by simp [paint], heap_alloc_new w1.drew _, by rw [List.length_append]; exact hge, hmx, ?_, ?_, .inl rfl⟩
    · have hz1 : z.cells.size = 1 := hzs
      simp only [Array.size_append, List.size_toArray, size_zeroCells, hz1, hfl, Nat.mul_one]
      simp
      omega
    · have e : ((flat l).toArray ++ #[Value.int .u8 x.toNat] ++ Builtin.zeroCells z.cells (grownCap w1 (l.length + 1) cap E - (l.length + 1))).toList = flat (l ++ [x]) ++ (Builtin.zeroCells z.cells (grownCap w1 (l.length + 1) cap E - (l.length + 1))).toList := by
        rw [flat_append, hfx]
        simp
      rw [e]
      have : (l ++ [x]).length = (flat (l ++ [x])).length := by rw [flat_length]; exact (Nat.mul_one _).symm
      rw [this]
      exact List.take_left
end
end Go.Proofs.YtoebncgnjbblgaaGreatDoor
