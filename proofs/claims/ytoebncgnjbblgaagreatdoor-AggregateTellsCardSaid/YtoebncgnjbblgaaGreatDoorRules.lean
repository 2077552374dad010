/-
  Rules for the operations of this seat's reckoned conditions, over any program. No condition.
-/
import Derived.Test.YtoebncgnjbblgaaGreatDoorMem
namespace Go.Proofs.YtoebncgnjbblgaaGreatDoor
open Go.RowKit

section
variable {P : Program} {K : Value → Prop} {w : World}

theorem pureK_eq {s : Sem Next} {v : Value} (h : ∀ w, s.run P w = .ok (.value v) w) : pureK P s K = K v :=
  propext ⟨fun ⟨u, h1, h2⟩ => by
    have e1 := h1 default
    rw [h default] at e1
    injection e1 with e1
    injection e1 with e1
    exact e1 ▸ h2, fun h2 => ⟨v, h, h2⟩⟩
theorem readK_eq {s : Sem Next} {v : Value} (h : s.run P w = .ok (.value v) w) : readK P s w K = K v :=
  propext ⟨fun ⟨u, h1, h2⟩ => by
    rw [h] at h1
    injection h1 with e1
    injection e1 with e1
    exact e1 ▸ h2, fun h2 => ⟨v, h, h2⟩⟩
theorem vN_run {s : Sem Value} {v : Value} {w' : World} (h : s.run P w = .ok v w') : (vN s).run P w = .ok (.value v) w' := by
  unfold vN
  rw [Sem.run_bind, h]
  rfl
theorem uN_run {s : Sem Unit} {w' : World} (h : s.run P w = .ok () w') : (uN s).run P w = .ok .skip w' := by
  unfold uN
  rw [Sem.run_bind, h]
  rfl
theorem vN_pure (v : Value) : (vN (pure v)).run P w = .ok (.value v) w := rfl

theorem ifB_bool {b : Bool} {A B : Prop} : ifB (.bool b) A B = ((b = true → A) ∧ (b = false → B)) :=
  propext ⟨fun ⟨c, e, h⟩ => by
    injection e with e
    subst e
    cases b <;> exact ⟨fun hb => by simp_all, fun hb => by simp_all⟩, fun ⟨h1, h2⟩ => ⟨b, rfl, by cases b; exact h2 rfl; exact h1 rfl⟩⟩
theorem ifB_true {A B : Prop} : ifB (.bool true) A B = A := by rw [ifB_bool]; simp
theorem ifB_false {A B : Prop} : ifB (.bool false) A B = B := by rw [ifB_bool]; simp
theorem ifB_dec {p : Prop} [Decidable p] {A B : Prop} : ifB (.bool (decide p)) A B = ((p → A) ∧ (¬ p → B)) := by rw [ifB_bool]; simp
theorem ifB_not {b : Bool} {A B : Prop} : ifB (.bool (!b)) A B = ifB (.bool b) B A := by
  rw [ifB_bool, ifB_bool]; cases b <;> simp

/-! ### Integers, bools, strings -/
variable {T : TypeId} {xo yo : Operand} {k : IntKind} {a b : Int} {s t : ByteArray} {p q : Bool}

theorem bin_add : pureK P (sBin .add T xo yo (.int k a) (.int k b)) K = K (.int k (k.wrap (a + b))) := pureK_eq fun w => by cases k <;> rfl
theorem bin_sub : pureK P (sBin .sub T xo yo (.int k a) (.int k b)) K = K (.int k (k.wrap (a - b))) := pureK_eq fun w => by cases k <;> rfl
theorem bin_mul : pureK P (sBin .mul T xo yo (.int k a) (.int k b)) K = K (.int k (k.wrap (a * b))) := pureK_eq fun w => by cases k <;> rfl
theorem bin_quo (h : b ≠ 0) : pureK P (sBin .quo T xo yo (.int k a) (.int k b)) K = K (.int k (k.wrap (a.tdiv b))) := pureK_eq fun w => by
  have : (Op.intDiv .quo k a b : Sem Value) = pure (.int k (k.wrap (a.tdiv b))) := by simp [Op.intDiv, h]
  cases k <;> (show (vN (Op.intDiv .quo _ a b)).run P w = _; rw [this]; rfl)
theorem bin_rem (h : b ≠ 0) : pureK P (sBin .rem T xo yo (.int k a) (.int k b)) K = K (.int k (a.tmod b)) := pureK_eq fun w => by
  have : (Op.intDiv .rem k a b : Sem Value) = pure (.int k (a.tmod b)) := by simp [Op.intDiv, h]
  cases k <;> (show (vN (Op.intDiv .rem _ a b)).run P w = _; rw [this]; rfl)
theorem bin_lss : pureK P (sBin .lss T xo yo (.int k a) (.int k b)) K = K (.bool (decide (a < b))) := pureK_eq fun w => by cases k <;> rfl
theorem bin_leq : pureK P (sBin .leq T xo yo (.int k a) (.int k b)) K = K (.bool (decide (a ≤ b))) := pureK_eq fun w => by cases k <;> rfl
theorem bin_gtr : pureK P (sBin .gtr T xo yo (.int k a) (.int k b)) K = K (.bool (decide (b < a))) := pureK_eq fun w => by cases k <;> rfl
theorem bin_geq : pureK P (sBin .geq T xo yo (.int k a) (.int k b)) K = K (.bool (decide (b ≤ a))) := pureK_eq fun w => by cases k <;> rfl
theorem bin_eql : pureK P (sBin .eql T xo yo (.int k a) (.int k b)) K = K (.bool (decide (a = b))) := pureK_eq fun w => by cases k <;> rfl
theorem bin_neq : pureK P (sBin .neq T xo yo (.int k a) (.int k b)) K = K (.bool (!decide (a = b))) := pureK_eq fun w => by cases k <;> rfl
theorem bin_and : pureK P (sBin .and T xo yo (.int k a) (.int k b)) K = K (.int k (k.wrap (BitVec.ofInt k.bits a &&& BitVec.ofInt k.bits b).toNat)) := pureK_eq fun w => by cases k <;> rfl
theorem bin_or : pureK P (sBin .or T xo yo (.int k a) (.int k b)) K = K (.int k (k.wrap (BitVec.ofInt k.bits a ||| BitVec.ofInt k.bits b).toNat)) := pureK_eq fun w => by cases k <;> rfl
theorem bin_shr {j : IntKind} (h : 0 ≤ b) : pureK P (sBin .shr T xo yo (.int k a) (.int j b)) K = K (.int k (a.fdiv (2 ^ min b.toNat k.bits))) := pureK_eq fun w => by
  have : (Op.shift .shr k a j b : Sem Value) = pure (.int k (a.fdiv (2 ^ min b.toNat k.bits))) := by simp [Op.shift, Int.not_lt.2 h]
  show (vN (Op.shift .shr k a j b)).run P w = _
  rw [this]; rfl
theorem bin_shl {j : IntKind} (h : 0 ≤ b) : pureK P (sBin .shl T xo yo (.int k a) (.int j b)) K = K (.int k (k.wrap (a * 2 ^ min b.toNat k.bits))) := pureK_eq fun w => by
  have : (Op.shift .shl k a j b : Sem Value) = pure (.int k (k.wrap (a * 2 ^ min b.toNat k.bits))) := by simp [Op.shift, Int.not_lt.2 h]
  show (vN (Op.shift .shl k a j b)).run P w = _
  rw [this]; rfl
theorem bin_eql_str : pureK P (sBin .eql T xo yo (.string s) (.string t)) K = K (.bool (s.toList == t.toList)) := pureK_eq fun w => rfl
theorem bin_neq_str : pureK P (sBin .neq T xo yo (.string s) (.string t)) K = K (.bool (!(s.toList == t.toList))) := pureK_eq fun w => rfl
theorem un_not : pureK P (sUn .not (.bool p)) K = K (.bool (!p)) := pureK_eq fun w => rfl
theorem un_neg : pureK P (sUn .neg (.int k a)) K = K (.int k (k.wrap (0 - a))) := pureK_eq fun w => by cases k <;> rfl
theorem sBin_eq {op : BinOp} {x y : Value} {v : Value} {w : World} (hg : (eqGuard op T xo yo x y).run P w = .ok () w) (h : (binOp op T x y).run P w = .ok v w) : (sBin op T xo yo x y).run P w = .ok (.value v) w := by
  unfold sBin
  refine vN_run ?_
  rw [Sem.run_bind, hg]
  exact h
theorem bin_eql_bool (h : P.underlying T = some .bool) : pureK P (sBin .eql T xo yo (.bool p) (.bool q)) K = K (.bool (p == q)) := pureK_eq fun w => sBin_eq rfl (run_eql_bool w T p q h)
theorem bin_neq_bool (h : P.underlying T = some .bool) : pureK P (sBin .neq T xo yo (.bool p) (.bool q)) K = K (.bool (!(p == q))) := pureK_eq fun w => sBin_eq rfl (run_neq_bool w T p q h)
theorem bin_eql_ptr_nil {x : Addr} (h : P.underlying T = some (.pointer (P.pointee T))) : pureK P (sBin .eql T xo yo (.pointer (some x)) (.pointer none)) K = K (.bool false) := pureK_eq fun w => sBin_eq rfl (run_eql_pointer_nil w T (some x) h)
theorem bin_neq_ptr_nil {x : Addr} (h : P.underlying T = some (.pointer (P.pointee T))) : pureK P (sBin .neq T xo yo (.pointer (some x)) (.pointer none)) K = K (.bool true) := pureK_eq fun w => sBin_eq rfl (run_neq_pointer_nil w T (some x) h)

theorem run_equalIn_slice_nil (d : Nat) {E : TypeId} {x : Option Addr} {n c : Nat} (h : P.underlying T = some (.slice E)) (w : World) : (Op.equalIn (d + 1) T (.slice x n c) (.slice none 0 0)).run P w = .ok x.isNone w := by
  cases x <;> simp [Op.equalIn, run_underlying h]
theorem bin_eql_slice_nil {E : TypeId} {x : Option Addr} {n c : Nat} (h : P.underlying T = some (.slice E)) : pureK P (sBin .eql T xo yo (.slice x n c) (.slice none 0 0)) K = K (.bool x.isNone) := pureK_eq fun w => sBin_eq rfl (by
  have := run_equalIn_slice_nil (P := P) (T := T) 9999 (x := x) (n := n) (c := c) h w
  have h2 : (Op.equal T (.slice x n c) (.slice none 0 0)).run P w = .ok x.isNone w := this
  simp only [binOp]
  simp [h2])
theorem bin_neq_slice_nil {E : TypeId} {x : Option Addr} {n c : Nat} (h : P.underlying T = some (.slice E)) : pureK P (sBin .neq T xo yo (.slice x n c) (.slice none 0 0)) K = K (.bool (!x.isNone)) := pureK_eq fun w => sBin_eq rfl (by
  have := run_equalIn_slice_nil (P := P) (T := T) 9999 (x := x) (n := n) (c := c) h w
  have h2 : (Op.equal T (.slice x n c) (.slice none 0 0)).run P w = .ok x.isNone w := this
  simp only [binOp]
  simp [h2])

/-! ### Addresses, tuples -/
theorem nil_ptr {x : Addr} : pureK P (sNil (.pointer (some x))) K = K (.pointer (some x)) := pureK_eq fun w => rfl
theorem ext_2_0 {u v : Value} : pureK P (sExtract (.tuple #[u, v]) 0) K = K u := pureK_eq fun w => rfl
theorem ext_2_1 {u v : Value} : pureK P (sExtract (.tuple #[u, v]) 1) K = K v := pureK_eq fun w => rfl
theorem ext_3_0 {u v x : Value} : pureK P (sExtract (.tuple #[u, v, x]) 0) K = K u := pureK_eq fun w => rfl
theorem ext_3_1 {u v x : Value} : pureK P (sExtract (.tuple #[u, v, x]) 1) K = K v := pureK_eq fun w => rfl
theorem ext_3_2 {u v x : Value} : pureK P (sExtract (.tuple #[u, v, x]) 2) K = K x := pureK_eq fun w => rfl
theorem ext_4_0 {u v x y : Value} : pureK P (sExtract (.tuple #[u, v, x, y]) 0) K = K u := pureK_eq fun w => rfl
theorem ext_4_1 {u v x y : Value} : pureK P (sExtract (.tuple #[u, v, x, y]) 1) K = K v := pureK_eq fun w => rfl
theorem ext_4_2 {u v x y : Value} : pureK P (sExtract (.tuple #[u, v, x, y]) 2) K = K x := pureK_eq fun w => rfl
theorem ext_4_3 {u v x y : Value} : pureK P (sExtract (.tuple #[u, v, x, y]) 3) K = K y := pureK_eq fun w => rfl

def fieldB (P : Program) (T : TypeId) (f off : Nat) : Bool :=
  match P.underlying T with
  | some (.struct fs) => match fs[f]? with
    | some fd => fd.offset == off && (match P.info? fd.type with
      | some i => i.size != 0
      | none => false)
    | none => false
  | _ => false

theorem field_addr {f off g o : Nat} (h : fieldB P T f off = true) : pureK P (sFieldAddr T (.pointer (some ⟨g, o, none⟩)) f) K = K (.pointer (some ⟨g, o + off, none⟩)) := pureK_eq fun w => by
  refine vN_run ?_
  unfold fieldB at h
  split at h
  · rename_i fs hu
    split at h
    · rename_i fd hf
      simp only [Bool.and_eq_true, beq_iff_eq] at h
      obtain ⟨rfl, h⟩ := h
      split at h
      · rename_i i hi
        have hz : i.size ≠ 0 := by simpa using h
        have hadd : (⟨g, o, none⟩ : Addr).add fd.offset = ⟨g, o + fd.offset, none⟩ := by unfold Addr.add; split <;> simp_all
        simp [Instr.fieldAt, run_underlying hu, hf, Instr.sureAddr, fieldPlace, sizeOf, typeInfo, hi, hz, hadd]
      · cases h
    · cases h
  · cases h

def scB (P : Program) (T : TypeId) : Bool :=
  match P.underlying T with
  | some (.struct _) => false
  | some (.array _ _) => false
  | some _ => match P.info? T with
    | some i => i.size == 1
    | none => false
  | none => false
def agB (P : Program) (T : TypeId) (n : Nat) : Bool :=
  match P.underlying T with
  | some (.struct _) => match P.info? T with
    | some i => i.size == n
    | none => false
  | _ => false

theorem isAgg_sc (h : scB P T = true) : (isAgg T).run P w = .ok false w := by
  unfold scB at h
  split at h
  · cases h
  · cases h
  · rename_i d h1 h2 hu
    unfold isAgg
    rw [Sem.run_bind, run_underlying hu]
    cases d <;> first | rfl | (exact (h1 _ rfl).elim) | (exact (h2 _ _ rfl).elim)
  · cases h
theorem size_sc (h : scB P T = true) : (sizeOf T).run P w = .ok 1 w := by
  unfold scB at h
  split at h
  · cases h
  · cases h
  · split at h
    · rename_i i hi
      simp at h
      simp [sizeOf, typeInfo, hi, h]
    · cases h
  · cases h
theorem isAgg_ag {n : Nat} (h : agB P T n = true) : (isAgg T).run P w = .ok true w := by
  unfold agB at h
  split at h
  · rename_i fs hu
    unfold isAgg
    rw [Sem.run_bind, run_underlying hu]
    rfl
  · cases h
theorem size_ag {n : Nat} (h : agB P T n = true) : (sizeOf T).run P w = .ok n w := by
  unfold agB at h
  split at h
  · split at h
    · rename_i i hi
      simp at h
      simp [sizeOf, typeInfo, hi, h]
    · cases h
  · cases h

theorem run_load_sc {x : Addr} {v : Value} (h : scB P T = true) (hc : w.cell? x = some v) : (sLoad T (.pointer (some x))).run P w = .ok (.value v) w := by
  refine vN_run ?_
  unfold Instr.loadAt Instr.sureAddr loadVar
  simp only [pure_bind]
  rw [Sem.run_bind, isAgg_sc h]
  simp only [Result.andThen_ok, Bool.false_eq_true, if_false]
  simp [load, Sem.run, hc]
theorem ld_sc {x : Addr} {v : Value} (h : scB P T = true) (hc : w.cell? x = some v) : readK P (sLoad T (.pointer (some x))) w K = K v := readK_eq (run_load_sc h hc)
theorem run_load_ag {n g o : Nat} {vs : List Value} (h : agB P T n = true) (hn : vs.length = n) (hc : ∀ j v, vs[j]? = some v → w.cell? ⟨g, o + j, none⟩ = some v) :
    (sLoad T (.pointer (some ⟨g, o, none⟩))).run P w = .ok (.value (.agg vs.toArray)) w := by
  refine vN_run ?_
  unfold Instr.loadAt Instr.sureAddr loadVar
  simp only [pure_bind]
  rw [Sem.run_bind, isAgg_ag h]
  simp only [Result.andThen_ok, if_true]
  rw [Sem.run_bind, size_ag h]
  simp only [Result.andThen_ok]
  rw [Sem.run_bind, ← hn, run_loadCells_list (P := P) w ⟨g, o, none⟩ vs (fun j v hv => by
    have hadd : (⟨g, o, none⟩ : Addr).add j = ⟨g, o + j, none⟩ := by unfold Addr.add; split <;> simp_all
    rw [hadd]; exact hc j v hv)]
  rfl
theorem ld_ag {n g o : Nat} {vs : List Value} (h : agB P T n = true) (hn : vs.length = n) (hc : ∀ j v, vs[j]? = some v → w.cell? ⟨g, o + j, none⟩ = some v) :
    readK P (sLoad T (.pointer (some ⟨g, o, none⟩))) w K = K (.agg vs.toArray) := readK_eq (run_load_ag h hn hc)

theorem len_slice {U S E : TypeId} {bs : Array Bool} {x : Option Addr} {n c : Nat} (h : P.underlying S = some (.slice E)) :
    readK P (sBlt .len #[S] U bs #[.slice x n c]) w K = K (.int .i64 n) := readK_eq (vN_run (by
  simp [Builtin.len_, run_underlying h, goInt]))
theorem len_string {U S : TypeId} {bs : Array Bool} (h : P.underlying S = some .string) :
    readK P (sBlt .len #[S] U bs #[.string s]) w K = K (.int .i64 s.size) := readK_eq (vN_run (by
  simp [Builtin.len_, run_underlying h, goInt]))

theorem part_sc {cs : Array Value} {off : Nat} {v : Value} (h : scB P T = true) (hv : cs[off]? = some v) : (part T cs off).run P w = .ok v w := by
  unfold part
  rw [Sem.run_bind, isAgg_sc h]
  simp [hv]

/-- A field of a struct that is a value, of one cell. -/
def fldB (P : Program) (T : TypeId) (f off : Nat) : Bool :=
  match P.underlying T with
  | some (.struct fs) => match fs[f]? with
    | some fd => fd.offset == off && scB P fd.type
    | none => false
  | _ => false
theorem field_sc {f off : Nat} {cs : Array Value} {v : Value} (h : fldB P T f off = true) (hv : cs[off]? = some v) : pureK P (sField T (.agg cs) f) K = K v := pureK_eq fun w => by
  refine vN_run ?_
  unfold fldB at h
  split at h
  · rename_i fs hu
    split at h
    · rename_i fd hf
      simp only [Bool.and_eq_true, beq_iff_eq] at h
      obtain ⟨rfl, h⟩ := h
      unfold Instr.field
      rw [Sem.run_bind, run_underlying hu]
      simp only [Result.andThen_ok, hf]
      rw [Sem.run_bind]
      exact part_sc h hv
    · cases h
  · cases h

/-- Two structs of plain fields, compared. 'eqs': the fields' answers. -/
def plainFields (P : Program) : List Field → List Value → List Value → Option Bool
  | [], [], [] => some true
  | f :: fs, x :: xs, y :: ys => match f.name != "_" && scB P f.type with
    | true => match P.underlying f.type, x, y with
      | some (.int _), .int _ a, .int _ b => (plainFields P fs xs ys).map (decide (a = b) && ·)
      | some .bool, .bool a, .bool b => (plainFields P fs xs ys).map (decide (a = b) && ·)
      | some .string, .string a, .string b => (plainFields P fs xs ys).map ((a.toList == b.toList) && ·)
      | _, _, _ => none
    | false => none
  | _, _, _ => none
end

/-- A conversion between integer types. -/
theorem conv_int {P : Program} {K : Value → World → Prop} {w : World} {S D : TypeId} {k k' : IntKind} {d : TypeDesc} {n : Int} (hS : P.underlying S = some d) (hD : P.underlying D = some (.int k')) :
    upK P (sConv S D (.int k n)) w K = K (.int k' (k'.wrap n)) w := by
  have hr : (sConv S D (.int k n)).run P w = .ok (.value (.int k' (k'.wrap n))) w := by
    refine vN_run ?_
    unfold convert
    rw [Sem.run_bind, run_underlying hS]
    simp only [Result.andThen_ok]
    rw [Sem.run_bind, run_underlying hD]
    rfl
  unfold upK
  rw [hr]
  rfl

/-! ### What changes memory -/
section
variable {P : Program} {K : Value → World → Prop} {w : World} {T : TypeId} {c : Nat → Nat} {t u : Nat}

theorem upK_of {s : Sem Next} {v : Value} {w' : World} (h : s.run P w = .ok (.value v) w') (k : K v w') : upK P s w K := by
  unfold upK
  rw [h]
  exact k
theorem upK_skip {s : Sem Next} {w' : World} (h : s.run P w = .ok .skip w') (k : K undef w') : upK P s w K := by
  unfold upK
  rw [h]
  exact k

theorem setCells_row {P : Program} (g o : Nat) (E : TypeId) (vs : List Value) (i : Nat) (cur : Array Value) (w : World) (hg : w.heap[g]? = some (.cells cur E (0, 0))) (hl : o + i + vs.length ≤ cur.size)
    (h1 : ∀ v ∈ vs, v.oneCell' = true) : (storeCells ⟨g, o, none⟩ vs i).run P w = .ok () (w.setRow g (cur.toList.take (o + i) ++ vs ++ cur.toList.drop (o + i + vs.length)).toArray) :=
  run_storeCells_at P g o E vs i cur w hg hl h1

/-- A store of one cell into a block of one's own. -/
theorem st_sc {b o : Nat} {E : TypeId} {cs : Array Value} {v : Value} (h : scB P T = true) (hb : Blk c t w b E cs) (ho : o < cs.size) (h1 : v.oneCell' = true)
    (k : Blk c t (w.setCell ⟨b, o, none⟩ v) b E (cs.setIfInBounds o v) → Step (only t) c w c (w.setCell ⟨b, o, none⟩ v) → K undef (w.setCell ⟨b, o, none⟩ v)) :
    upK P (sStore T (.pointer (some ⟨b, o, none⟩)) v) w K := by
  refine upK_skip (w' := w.setCell ⟨b, o, none⟩ v) (uN_run ?_) (k (hb.set o v) (hb.step o v))
  have hv : v.cells = #[v] := by cases v <;> first | rfl | cases h1
  unfold Instr.storeAt Instr.sureAddr storeVar
  simp only [pure_bind]
  rw [Sem.run_bind, size_sc h]
  simp only [Result.andThen_ok, hv]
  have hc : w.cell? ⟨b, o, none⟩ = some cs[o] := hb.cell (by simp [ho])
  have hf := hb.free o
  rw [if_neg (by simp)]
  cases v <;> first | (simp [storeCells, store, Sem.run, hc, hf, Addr.add]; done) | cases h1

/-- A store of a struct into a block of one's own. -/
theorem st_ag {n b o : Nat} {E : TypeId} {cs ds : Array Value} (h : agB P T n = true) (hb : Blk c t w b E cs) (hn : ds.size = n) (ho : o + n ≤ cs.size) (h1 : ∀ v ∈ ds, v.oneCell' = true)
    (k : ∀ w', Blk c t w' b E (cs.toList.take o ++ ds.toList ++ cs.toList.drop (o + n)).toArray → Step (only t) c w c w' → K undef w') :
    upK P (sStore T (.pointer (some ⟨b, o, none⟩)) (.agg ds)) w K := by
  subst hn
  refine upK_skip (w' := w.setRow b (cs.toList.take o ++ ds.toList ++ cs.toList.drop (o + ds.size)).toArray) (uN_run ?_) (k _ (hb.setRow _) (hb.stepRow _))
  unfold Instr.storeAt Instr.sureAddr storeVar
  simp only [pure_bind]
  rw [Sem.run_bind, size_ag h]
  simp only [Result.andThen_ok, Value.cells, ne_eq, not_true, if_false]
  have := setCells_row (P := P) b o E ds.toList 0 cs w hb.2 (by simpa using ho) (fun v hv => h1 v (by simpa using hv))
  simpa using this

/-- A new variable with a value ('&T{..}', a variable that is moved to the heap). -/
theorem box_of {v : Value} (k : ∀ c' w', c' = paint c w.heap.size t → Blk c' t w' w.heap.size T v.cells → Step nobody c w c' w' → K (.pointer (some ⟨w.heap.size, 0, none⟩)) w') :
    upK P (sBox T v) w K := by
  refine upK_of (w' := w.alloc (.cells v.cells T)) (vN_run ?_) (k _ _ rfl (Blk.alloc c w T v.cells) (Step.alloc nobody c w t _))
  rfl

def zeroB (P : Program) (T : TypeId) (z : Value → Bool) : Bool :=
  match P.info? T with
  | some i => match i.zero with
    | some v => z v
    | none => false
  | none => false

theorem alloc_of {z : Value} (hz : (P.info? T).bind (·.zero) = some z) (k : ∀ c' w', c' = paint c w.heap.size t → Blk c' t w' w.heap.size T z.cells → Step nobody c w c' w' → K (.pointer (some ⟨w.heap.size, 0, none⟩)) w') :
    upK P (sAlloc T) w K := by
  refine upK_of (w' := w.alloc (.cells z.cells T)) (vN_run ?_) (k _ _ rfl (Blk.alloc c w T z.cells) (Step.alloc nobody c w t _))
  cases hi : P.info? T with
  | none => rw [hi] at hz; cases hz
  | some i =>
    rw [hi] at hz
    simp only [Option.bind_some] at hz
    have hzr : (zeroValue T).run P w = .ok z w := by simp [zeroValue, typeInfo, hi, hz]
    unfold Instr.alloc
    rw [Sem.run_bind, hzr]
    rfl
end

/-! ### Slices -/

def sliceB (P : Program) (T E : TypeId) (sz by_ : Nat) : Bool :=
  match P.underlying T with
  | some (.slice E') => Nat.beq E' E && (match P.info? E with
    | some i => Nat.beq i.size sz && Nat.beq i.bytes by_ && (match i.zero with
      | some z => Nat.beq z.cells.size sz && z.cells.toList.all (·.oneCell')
      | none => false)
    | none => false)
  | _ => false

theorem sliceB_spec {P : Program} {T E : TypeId} {sz by_ : Nat} (h : sliceB P T E sz by_ = true) :
    P.underlying T = some (.slice E) ∧ ∃ i z, P.info? E = some i ∧ i.zero = some z ∧ i.size = sz ∧ i.bytes = by_ ∧ z.cells.size = sz := by
  unfold sliceB at h
  split at h
  · rename_i E' hu
    simp only [Bool.and_eq_true] at h
    obtain ⟨h1, h2⟩ := h
    have := Nat.eq_of_beq_eq_true h1
    subst this
    refine ⟨hu, ?_⟩
    split at h2
    · rename_i i hi
      simp only [Bool.and_eq_true] at h2
      obtain ⟨⟨h2, h3⟩, h4⟩ := h2
      split at h4
      · rename_i z hz
        simp only [Bool.and_eq_true] at h4
        exact ⟨i, z, hi, hz, Nat.eq_of_beq_eq_true h2, Nat.eq_of_beq_eq_true h3, Nat.eq_of_beq_eq_true h4.1⟩
      · cases h4
    · cases h2
  · cases h

theorem sliceB_one {P : Program} {T E : TypeId} {sz by_ : Nat} (h : sliceB P T E sz by_ = true) {i : TypeInfo} {z : Value} (hi : P.info? E = some i) (hz : i.zero = some z) : ∀ v ∈ z.cells.toList, v.oneCell' = true := by
  unfold sliceB at h
  split at h
  · rename_i E' hu
    simp only [Bool.and_eq_true] at h
    obtain ⟨h1, h2⟩ := h
    have := Nat.eq_of_beq_eq_true h1
    subst this
    rw [hi] at h2
    dsimp only at h2
    rw [hz] at h2
    simp only [Bool.and_eq_true] at h2
    exact List.all_eq_true.1 h2.2.2
  · cases h

section
variable {α : Type} [Enc α] {P : Program} {K : Value → World → Prop} {Kp : Value → Prop} {w : World} {T E : TypeId} {by_ : Nat} {c : Nat → Nat} {t u : Nat}

theorem addr_add (g o k : Nat) : (⟨g, o, none⟩ : Addr).add k = ⟨g, o + k, none⟩ := by unfold Addr.add; split <;> simp_all

/-- An element's address. -/
theorem RowR.idx {v : Value} {l : List α} (h : RowR c t w v l) (hT : sliceB P T E (Enc.sz α) by_ = true) {i : Nat} (hi : i < l.length) :
    ∃ g o, c g = t ∧ g < w.heap.size ∧ (∀ {Kp : Value → Prop}, pureK P (sIdxAddr T v (.int .i64 i)) Kp = Kp (.pointer (some ⟨g, o, none⟩))) ∧ (∀ j u, (Enc.cells l[i])[j]? = some u → w.cell? ⟨g, o + j, none⟩ = some u) := by
  obtain ⟨a, cap, rfl, hc, h⟩ := h
  rcases h with rfl | ⟨g, o, rfl, h⟩
  · simp at hi
  · obtain ⟨hu, i', z, hinfo, hz, hs, hb, hzs⟩ := sliceB_spec hT
    refine ⟨g, o + i * Enc.sz α, h.1, h.2.1, fun {Kp} => pureK_eq fun w => vN_run ?_, fun j u hj => ?_⟩
    · simp [Instr.indexAt, asIntOf, run_underlying hu, sizeOf, typeInfo, hinfo, hs, hi, addr_add]
    · rw [Nat.add_assoc]
      exact h.2.2 _ _ (flat_get hi hj)

theorem RowR.len_eq {v : Value} {l : List α} (h : RowR c t w v l) (hT : sliceB P T E (Enc.sz α) by_ = true) {U : TypeId} {bs : Array Bool} :
    readK P (sBlt .len #[T] U bs #[v]) w Kp = Kp (.int .i64 l.length) := by
  obtain ⟨a, cap, rfl, _⟩ := h
  exact len_slice (sliceB_spec hT).1

theorem RowR.first {v : Value} {l : List α} (h : RowR c t w v l) : (Builtin.firstCells (Enc.sz α) l.length v).run P w = .ok (flat l).toArray w := by
  obtain ⟨a, cap, rfl, hc, h⟩ := h
  rcases h with rfl | ⟨g, o, rfl, h⟩
  · cases a with
    | none => rfl
    | some a => simp [Builtin.firstCells, loadCells, loadCellsFrom, flat]
  · unfold Builtin.firstCells
    dsimp only
    rw [← flat_length]
    exact run_loadCells_list w _ _ fun j v hv => by rw [addr_add]; exact h.2.2 j v hv

theorem RowR.lenOf {v : Value} {l : List α} (h : RowR c t w v l) (w' : World) : (Builtin.lenOf v).run P w' = .ok l.length w' := by
  obtain ⟨a, cap, rfl, _⟩ := h
  rfl

/-- What 'append' comes to where there is room. -/
theorem append_room {v2 : Value} {l2 : List α} {g n cap : Nat} {cur : Array Value} (hT : sliceB P T E (Enc.sz α) by_ = true) (hb : Blk c t w g E cur) (h2 : RowR c u w v2 l2) (hcap : n + l2.length ≤ cap) (hsz : cur.size = cap * Enc.sz α) {U : TypeId} {bs : Array Bool}
    (k : ∀ w', Step (only t) c w c w' → Blk c t w' g E (cur.toList.take (n * Enc.sz α) ++ flat l2 ++ cur.toList.drop ((n + l2.length) * Enc.sz α)).toArray → K (.slice (some ⟨g, 0, none⟩) (n + l2.length) cap) w') :
    upK P (sBlt .append #[T, T] U bs #[.slice (some ⟨g, 0, none⟩) n cap, v2]) w K := by
  obtain ⟨hu, i, z, hinfo, hz, hs, hby, hzs⟩ := sliceB_spec hT
  have hfit : n * Enc.sz α + (flat l2).length ≤ cur.size := by rw [flat_length, hsz, ← Nat.add_mul]; exact Nat.mul_le_mul_right _ hcap
  have hst := run_storeCells_at P g (n * Enc.sz α) E (flat l2) 0 cur w hb.2 (by simpa using hfit) (flat_one l2)
  refine upK_of (w' := w.setRow g (cur.toList.take (n * Enc.sz α) ++ flat l2 ++ cur.toList.drop ((n + l2.length) * Enc.sz α)).toArray) (vN_run ?_) (k _ (hb.stepRow _) (hb.setRow _))
  simp only [Nat.add_zero, flat_length, ← Nat.add_mul] at hst
  simp [Builtin.append_, run_underlying hu, sizeOf, typeInfo, hinfo, hs, h2.lenOf w, hcap, h2.first, addr_add, hst]

/-- What 'append' comes to where there is none. -/
theorem append_grow {v v2 : Value} {l l2 : List α} (hT : sliceB P T E (Enc.sz α) by_ = true) {a : Option Addr} {cap : Nat} (hv : v = .slice a l.length cap) (h1 : RowR c u w v l) {u2 : Nat} (h2 : RowR c u2 w v2 l2) (hcap : cap < l.length + l2.length)
    (hbytes : (l.length + l2.length) * by_ ≤ 140737488355328) (h63 : l.length + l2.length ≤ 140737488355328) {U : TypeId} {bs : Array Bool}
    (k : ∀ c' v' w', Step nobody c w c' w' → RowO c' t w' E v' (l ++ l2) → K v' w') : upK P (sBlt .append #[T, T] U bs #[v, v2]) w K := by
  obtain ⟨hu, i, z, hinfo, hz, hs, hby, hzs⟩ := sliceB_spec hT
  subst hv
  have hn : ¬ (l.length + l2.length ≤ cap) := by omega
  have h63' : ¬ (9223372036854775807 < ((l.length : Int) + (l2.length : Int))) := by omega
  have h48 : Builtin.nextslicecap (l.length + l2.length) cap * by_ ≤ 281474976710656 := growslice_fits (by omega) hbytes
  have h48' : ¬ (281474976710656 < Builtin.nextslicecap (l.length + l2.length) cap * by_) := by omega
  have hge := grownCap_ge w (l.length + l2.length) cap E
  have hmx := grownCap_le_maxLen w (l.length + l2.length) cap E (by unfold maxLen; omega)
  have hrun : (Builtin.append_ #[T, T] U #[.slice a l.length cap, v2]).run P w =
      .ok (.slice (some ⟨w.heap.size, 0, none⟩) (l.length + l2.length) (grownCap w (l.length + l2.length) cap E))
        (w.drew.alloc (.cells ((flat l).toArray ++ (flat l2).toArray ++ Builtin.zeroCells z.cells (grownCap w (l.length + l2.length) cap E - (l.length + l2.length))) E)) := by
    have f1 := (h1.tick).first (P := P)
    have f2 := (h2.tick).first (P := P)
    rw [tick_eq] at f1 f2
    simp [Builtin.append_, run_underlying hu, sizeOf, typeInfo, hinfo, hs, h2.lenOf w, hn, h63', hby, h48', f1, f2, grownCap, Question.forced, zeroValue, hz, newRow]
    congr 2
    apply Array.ext'
    simp [List.append_assoc]
  refine upK_of (vN_run hrun) (k (paint c w.heap.size t) _ _ ?_ ?_)
  · exact (Step.tick nobody c w).trans (Step.alloc nobody c w.drew t _)
  · refine ⟨⟨by rw [flat_length], .inr ⟨w.heap.size, _, _, by rw [List.length_append], Nat.zero_le _, heap_alloc_new w.drew _, by rw [List.length_append]; exact hge, hmx, ?_, ?_⟩⟩, fun g hg => ?_⟩
    · simp only [Array.size_append, List.size_toArray, size_zeroCells, hzs, flat_length, ← Nat.add_mul]
      congr 1
      omega
    · simp only [Array.toList_append, List.append_assoc]
      rw [← List.append_assoc, ← flat_append, List.length_append, ← List.length_append, ← flat_length]
      exact List.take_left
    · simp [Value.ownBlock] at hg
      subst hg
      simp [paint]

/-- 'append(own, src...)' -/
theorem append_own {v v2 : Value} {l l2 : List α} (hT : sliceB P T E (Enc.sz α) by_ = true) (h : RowO c t w E v l) (h2 : RowR c u w v2 l2)
    (hbytes : (l.length + l2.length) * by_ ≤ 140737488355328) (h63 : l.length + l2.length ≤ 140737488355328) {U : TypeId} {bs : Array Bool}
    (k : ∀ c' v' w', Step (only t) c w c' w' → RowO c' t w' E v' (l ++ l2) → K v' w') : upK P (sBlt .append #[T, T] U bs #[v, v2]) w K := by
  have grow : ∀ a cap, v = .slice a l.length cap → cap < l.length + l2.length → upK P (sBlt .append #[T, T] U bs #[v, v2]) w K := fun a cap hv hc =>
    append_grow (t := t) hT hv h.read h2 hc hbytes h63 fun c' v' w' s r => k c' v' w' s.none r
  rcases h.cases with ⟨rfl, rfl⟩ | ⟨g, cap, cur, rfl, hb, hc, hm, hs, htk⟩
  · cases l2 with
    | cons x l2 => exact grow none 0 rfl (by simp)
    | nil =>
      obtain ⟨hu, i, z, hinfo, hz, hsz, hby, hzs⟩ := sliceB_spec hT
      refine upK_of (v := .slice none 0 0) (w' := w) (vN_run ?_) (k c _ w (Step.refl _ c w) (RowO.nil c t w E))
      have f := h2.first (P := P)
      have l0 := h2.lenOf (P := P) w
      simp only [List.length_nil] at f l0
      simp [Builtin.append_, run_underlying hu, sizeOf, typeInfo, hinfo, hsz, l0, f]
  · by_cases hroom : l.length + l2.length ≤ cap
    · refine append_room hT hb h2 hroom hs fun w' s hb' => k c _ w' s ?_
      have hlen : l.length * Enc.sz α ≤ cur.size := by rw [hs]; exact Nat.mul_le_mul_right _ hc
      have hlen2 : (l.length + l2.length) * Enc.sz α ≤ cur.size := by rw [hs]; exact Nat.mul_le_mul_right _ hroom
      refine RowO.mk_ hb' (by simp) hroom hm ?_ ?_
      · simp only [List.size_toArray, List.length_append, List.length_take, List.length_drop, Array.length_toList, flat_length]
        rw [Nat.add_mul] at hlen2 ⊢
        omega
      · rw [htk, ← flat_append, ← List.length_append, ← flat_length]
        exact List.take_left
    · exact grow _ cap rfl (by omega)

/-- A bound of a slice expression: not written, or a number. -/
def Bnd (o : Option Value) (dflt : Nat) (n : Nat) : Prop := (o = none ∧ n = dflt) ∨ o = some (.int .i64 n)
theorem Bnd.none {d : Nat} : Bnd none d d := .inl ⟨rfl, rfl⟩
theorem Bnd.some {d n : Nat} : Bnd (some (.int .i64 n)) d n := .inr rfl

theorem slice_run {a : Option Addr} {len cap lo hi : Nat} {lov hiv : Option Value} (hT : sliceB P T E (Enc.sz α) by_ = true) (hlo : Bnd lov 0 lo) (hhi : Bnd hiv len hi) (h1 : lo ≤ hi) (h2 : hi ≤ cap) (w : World) :
    (sSlice T (.slice a len cap) lov hiv none).run P w = .ok (.value (.slice (if cap = lo then a else a.map (·.add (lo * Enc.sz α))) (hi - lo) (cap - lo))) w := by
  obtain ⟨hu, i, z, hinfo, hz, hs, hby, hzs⟩ := sliceB_spec hT
  refine vN_run ?_
  rcases hlo with ⟨rfl, rfl⟩ | rfl <;> rcases hhi with ⟨rfl, rfl⟩ | rfl <;>
    simp [Instr.sliceAt, Instr.slice, run_underlying hu, Instr.sliceBounds, Instr.sliceBound, asIntOf, h1, h2, sizeOf, typeInfo, hinfo, hs]

/-- 's[lo:hi:max]', for its bounds alone. -/
theorem slice3 {a : Option Addr} {len cap lo hi mx : Nat} (hT : sliceB P T E (Enc.sz α) by_ = true) (h1 : lo ≤ hi) (h2 : hi ≤ mx) (h3 : mx ≤ cap) :
    pureK P (sSlice T (.slice a len cap) (some (.int .i64 lo)) (some (.int .i64 hi)) (some (.int .i64 mx))) Kp = Kp (.slice (if mx = lo then a else a.map (·.add (lo * Enc.sz α))) (hi - lo) (mx - lo)) := pureK_eq fun w => by
  obtain ⟨hu, i, z, hinfo, hz, hs, hby, hzs⟩ := sliceB_spec hT
  refine vN_run ?_
  simp [Instr.sliceAt, Instr.slice, run_underlying hu, Instr.sliceBounds, Instr.sliceBound, asIntOf, h1, h2, h3, sizeOf, typeInfo, hinfo, hs]

/-- 's[lo:hi]' of a slice that is read. -/
theorem RowR.cut {v : Value} {l : List α} (h : RowR c t w v l) (hT : sliceB P T E (Enc.sz α) by_ = true) {lo hi : Nat} {lov hiv : Option Value} (hlo : Bnd lov 0 lo) (hhi : Bnd hiv l.length hi) (h1 : lo ≤ hi) (h2 : hi ≤ l.length) :
    ∃ v', (∀ {Kp : Value → Prop}, pureK P (sSlice T v lov hiv none) Kp = Kp v') ∧ RowR c t w v' ((l.take hi).drop lo) := by
  obtain ⟨a, cap, rfl, hc, h⟩ := h
  refine ⟨_, fun {Kp} => pureK_eq fun w => slice_run hT hlo hhi h1 (by omega) w, ?_⟩
  have hlen : ((l.take hi).drop lo).length = hi - lo := by simp; omega
  refine ⟨_, cap - lo, by rw [hlen], by rw [hlen]; omega, ?_⟩
  rcases h with rfl | ⟨g, o, rfl, h⟩
  · left; simp
  · by_cases he : cap = lo
    · left
      exact List.eq_nil_of_length_eq_zero (by rw [hlen]; omega)
    · right
      refine ⟨g, o + lo * Enc.sz α, ?_, ?_⟩
      · simp [he, addr_add]
      · have := (h.take (hi * Enc.sz α)).drop (lo * Enc.sz α)
        rw [flat_take, flat_drop] at this
        exact this

/-- 's[:k]' of a slice of one's own, up to its length: still one's own. -/
theorem RowO.front {v : Value} {l : List α} (h : RowO c t w E v l) (hT : sliceB P T E (Enc.sz α) by_ = true) {hi : Nat} {lov hiv : Option Value} (hlo : Bnd lov 0 0) (hhi : Bnd hiv l.length hi) (h2 : hi ≤ l.length) :
    ∃ v', (∀ {Kp : Value → Prop}, pureK P (sSlice T v lov hiv none) Kp = Kp v') ∧ RowO c t w E v' (l.take hi) := by
  have hlen : (l.take hi).length = hi := by simp; omega
  rcases h.cases with ⟨rfl, rfl⟩ | ⟨g, cap, cur, rfl, hb, hc, hm, hs, htk⟩
  · have : hi = 0 := by simpa using h2
    subst this
    exact ⟨_, fun {Kp} => pureK_eq fun w => slice_run (len := 0) hT hlo hhi (Nat.le_refl _) (Nat.le_refl _) w, RowO.nil c t w E⟩
  · refine ⟨_, fun {Kp} => pureK_eq fun w => slice_run hT hlo hhi (Nat.zero_le _) (by omega) w, ?_⟩
    have e : (if cap = 0 then (some (⟨g, 0, none⟩ : Addr)) else (some (⟨g, 0, none⟩ : Addr)).map (·.add (0 * Enc.sz α))) = some ⟨g, 0, none⟩ := by simp [addr_add]
    rw [e, Nat.sub_zero, Nat.sub_zero]
    refine RowO.mk_ hb (by rw [hlen]) (by omega) hm hs ?_
    rw [← flat_take, ← htk, List.take_take]
    congr 1
    rw [Nat.min_eq_left (Nat.mul_le_mul_right _ h2)]

/-- 'clear' of cells in a block of one's own. -/
theorem clear_own {g o n cap : Nat} {cur : Array Value} (hT : sliceB P T E (Enc.sz α) by_ = true) (hb : Blk c t w g E cur) (hfit : o + n * Enc.sz α ≤ cur.size) {U : TypeId} {bs : Array Bool}
    (k : ∀ w' cur', Step (only t) c w c w' → Blk c t w' g E cur' → cur'.size = cur.size → cur'.toList.take o = cur.toList.take o → K (.tuple #[]) w') :
    upK P (sBlt .clear #[T] U bs #[.slice (some ⟨g, o, none⟩) n cap]) w K := by
  obtain ⟨hu, i, z, hinfo, hz, hs, hby, hzs⟩ := sliceB_spec hT
  by_cases hn : n = 0
  · subst hn
    refine upK_of (w' := w) (vN_run ?_) (k w cur (Step.refl _ c w) hb rfl rfl)
    simp [Builtin.clear_, run_underlying hu]
  · have hzl : (Builtin.zeroCells z.cells n).toList.length = n * Enc.sz α := by simp [size_zeroCells, hzs]
    have h1 : ∀ v ∈ (Builtin.zeroCells z.cells n).toList, v.oneCell' = true := by
      intro v hv
      have hone := sliceB_one hT hinfo hz
      unfold Builtin.zeroCells at hv
      simp only [Array.toList_map, List.mem_map] at hv
      obtain ⟨j, hj, rfl⟩ := hv
      have hpos : 0 < z.cells.size := by rw [hzs]; exact Enc.pos
      have hlt : j % z.cells.size < z.cells.size := Nat.mod_lt _ hpos
      rw [getElem!_pos z.cells (j % z.cells.size) hlt]
      exact hone _ (by simp)
    have hst := run_storeCells_at P g o E (Builtin.zeroCells z.cells n).toList 0 cur w hb.2 (by rw [hzl]; simpa using hfit) h1
    simp only [Nat.add_zero, hzl] at hst
    refine upK_of (w' := w.setRow g (cur.toList.take o ++ (Builtin.zeroCells z.cells n).toList ++ cur.toList.drop (o + n * Enc.sz α)).toArray) (vN_run ?_) (k _ _ (hb.stepRow _) (hb.setRow _) ?_ ?_)
    · cases n with
      | zero => exact absurd rfl hn
      | succ n => simp [Builtin.clear_, run_underlying hu, zeroValue, typeInfo, hinfo, hz, hst]
    · simp only [List.size_toArray, List.length_append, List.length_take, List.length_drop, Array.length_toList, hzl]
      omega
    · simp only [List.append_assoc]
      rw [List.take_append_of_le_length (by simp; omega), List.take_take, Nat.min_self]

/-- A literal slice with no element, and with one. -/
theorem build0 (hT : sliceB P T E (Enc.sz α) by_ = true) (k : ∀ c' v w', Step nobody c w c' w' → RowO c' t w' E v ([] : List α) → v ≠ .slice none 0 0 → K v w') : upK P (sBuildSlice T 0 #[]) w K := by
  obtain ⟨hu, i, z, hinfo, hz, hs, hby, hzs⟩ := sliceB_spec hT
  refine upK_of (v := .slice (some ⟨w.heap.size, 0, none⟩) 0 0) (w' := w.alloc (.cells #[] E)) (vN_run ?_) (k (paint c w.heap.size t) _ _ (Step.alloc nobody c w t _) ?_ (by simp))
  · simp [Instr.buildSlice, run_underlying hu, sizeOf, typeInfo, hinfo, hs, Instr.fill, newRow, show Array.range 0 = #[] from by simp]
  · refine ⟨⟨by simp [flat], .inr ⟨w.heap.size, 0, #[], rfl, Nat.zero_le _, heap_alloc_new w _, Nat.le_refl _, by unfold maxLen; omega, by simp, by simp [flat]⟩⟩, fun g hg => ?_⟩
    simp [Value.ownBlock] at hg
    subst hg
    simp [paint]

theorem fold_set (l : List Value) : ∀ (k : Nat) (cs : Array Value) (i : Nat), k + l.length ≤ cs.size →
    ((l.zipIdx k).foldl (fun cs (x : Value × Nat) => cs.setIfInBounds (0 + x.2) x.1) cs)[i]? = if k ≤ i ∧ i < k + l.length then l[i - k]? else cs[i]? := by
  induction l with
  | nil => intro k cs i _; simp; intro h1 h2; omega
  | cons v l ih =>
    intro k cs i h
    simp only [List.length_cons] at h
    simp only [List.zipIdx_cons, List.foldl_cons]
    rw [ih (k + 1) _ i (by simp; omega)]
    by_cases hik : i = k
    · subst hik
      simp [show i < cs.size by omega]
      omega
    · by_cases h1 : k + 1 ≤ i ∧ i < k + 1 + l.length
      · rw [if_pos h1, if_pos (by simp only [List.length_cons]; omega), show i - k = (i - (k + 1)) + 1 by omega, List.getElem?_cons_succ]
      · rw [if_neg h1, if_neg (by simp only [List.length_cons]; omega), Array.getElem?_setIfInBounds_ne (by omega)]

theorem fill_one (place : Nat → Option (Nat × Nat)) (cells : Array Value) (v : Value) (hp : place 0 = some (0, v.cells.size)) (hs : cells.size = v.cells.size) : Instr.fill place cells [(0, v)] = some v.cells := by
  unfold Instr.fill
  simp only [hp]
  rw [if_neg (by simp [hs])]
  unfold Instr.fill
  congr 1
  apply Array.ext_getElem?
  intro i
  rw [← Array.foldl_toList, Array.toList_zipIdx]
  have := fold_set v.cells.toList 0 cells i (by simp [hs])
  rw [this]
  split
  · simp
  · rename_i h
    rw [Array.getElem?_eq_none, Array.getElem?_eq_none]
    · simp at h; omega
    · simp at h; omega

theorem build1 (x : α) (hT : sliceB P T E (Enc.sz α) by_ = true) (hsz : Enc.sz α ≤ 16777216) (k : ∀ c' v w', Step nobody c w c' w' → RowO c' t w' E v [x] → K v w') : upK P (sBuildSlice T 1 #[(0, Enc.val x)]) w K := by
  obtain ⟨hu, i, z, hinfo, hz, hs, hby, hzs⟩ := sliceB_spec hT
  have hv : (Enc.val x).cells.size = Enc.sz α := by rw [Enc.cells_val]; simp [Enc.len]
  have hpos : 0 < Enc.sz α := Enc.pos
  refine upK_of (v := .slice (some ⟨w.heap.size, 0, none⟩) 1 1) (w' := w.alloc (.cells (Enc.val x).cells E)) (vN_run ?_) (k (paint c w.heap.size t) _ _ (Step.alloc nobody c w t _) ?_)
  · have hf := fill_one (fun i => some (i * Enc.sz α, Enc.sz α)) ((Array.range (Enc.sz α)).map (z.cells[· % z.cells.size]!)) (Enc.val x) (by simp [hv]) (by simp [hv])
    simp [Instr.buildSlice, run_underlying hu, sizeOf, typeInfo, hinfo, hs, zeroValue, hz, Nat.not_lt.2 hsz, Nat.ne_of_gt hpos, hf, newRow]
  · refine ⟨⟨by rw [flat_length], .inr ⟨w.heap.size, 1, _, rfl, Nat.zero_le _, heap_alloc_new w _, Nat.le_refl _, by unfold maxLen; omega, by rw [hv]; omega, ?_⟩⟩, fun g hg => ?_⟩
    · rw [List.take_of_length_le (by simp [hv]), Enc.cells_val]
      simp [flat]
    · simp [Value.ownBlock] at hg
      subst hg
      simp [paint]
end

end Go.Proofs.YtoebncgnjbblgaaGreatDoor
