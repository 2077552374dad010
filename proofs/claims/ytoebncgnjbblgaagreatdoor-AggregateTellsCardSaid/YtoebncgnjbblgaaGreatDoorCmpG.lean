/-
  value.Compare over every world: it draws and lays blocks, no more. No condition.
-/
import Derived.Test.YtoebncgnjbblgaaGreatDoorValC
import Derived.Sort.Grow
import Derived.Deep.Draws
namespace Go.Proofs.YtoebncgnjbblgaaGreatDoor
open Go.RowKit
set_option maxRecDepth 100000

section
variable {B : Base} {w : World} {σ : List Dat} {K : Value → World → Prop}
theorem compare_x (a b : ByteArray) (k : K (.int .i64 (Go.Lib.compareBytes (bl a) (bl b))) w) : upK Tryz.prog (sCall F_strings_Compare #[.string a, .string b]) w K := by
  refine strings_Compare.up (Calls.mono (sCompare a b w) ?_)
  rintro e w' ⟨rfl, rfl⟩
  exact k
theorem notNaN_x (n : Int) (k : K (.bool false) w) : upK Tryz.prog (sCall F_cmp_isNaN_int #[.int .i64 n]) w K := by
  refine cmp_isNaN_int.up (cmp_isNaN_int.call ?_)
  unfold cmp_isNaN_int.pt
  rw [bin_neq, decide_eq_true rfl, Bool.not_true]
  exact k
theorem cmpI_x (a b : Int) (k : K (.int .i64 (cmpI a b)) w) : upK Tryz.prog (sCall F_cmp_Compare_int #[.int .i64 a, .int .i64 b]) w K := by
  refine cmp_Compare_int.up (cmp_Compare_int.call ?_)
  unfold cmp_Compare_int.pt
  refine notNaN_x a (notNaN_x b ?_)
  unfold cmpI at k
  rw [ifB_false, ifB_false, bin_lss, ifB_dec]
  refine ⟨fun c => ?_, fun c => ?_⟩
  · rw [if_pos c] at k; exact k
  rw [if_neg c] at k
  rw [bin_gtr, ifB_dec]
  refine ⟨fun c2 => ?_, fun c2 => ?_⟩
  · rw [if_pos c2] at k; exact k
  · rw [if_neg c2] at k; exact k
theorem or_x {v : Value} {l : List Int} (h : Rel B w σ) (r : rowR v l B) (hl : l.length ≤ 1000) (k : K (.int .i64 (orI l)) w) : upK Tryz.prog (sCall F_cmp_Or_int #[v]) w K := by
  refine cmp_Or_int.up (cmp_Or_int.call ?_)
  unfold cmp_Or_int.pt
  simp -zeta only [rowR.len r sl_s_int]
  refine LOOP_intro (fun x w' => ∃ i : Nat, i ≤ l.length ∧ x = (.int .i64 i, ()) ∧ orI (l.drop i) = orI l ∧ w' = w) (fun x _ => l.length - (match x.1 with | .int _ n => n.toNat | _ => 0))
    ⟨0, Nat.zero_le _, rfl, rfl, rfl⟩ ?_
  rintro x w1 ⟨i, hi, rfl, ho, rfl⟩ next hnext
  simp -zeta only [bin_lss, ifB_dec]
  refine ⟨fun hlt => ?_, fun hge => ?_⟩
  · have hil : i < l.length := by omega
    obtain ⟨q, q1, q2⟩ := rowR.at_sc r h sl_s_int hil sc_int (x := .int .i64 l[i]) rfl
    rw [List.drop_eq_getElem_cons hil, orI] at ho
    rw [q1, q2, bin_neq, ifB_not, ifB_dec]
    refine ⟨fun c => ?_, fun c => ?_⟩
    · rw [if_neg (fun hh => hh c)] at ho
      rw [bin_add, wrap_id (by omega) (by omega)]
      exact hnext _ _ ⟨i + 1, hil, rfl, ho, rfl⟩ (by simp only; omega)
    · rw [if_pos c] at ho
      rw [← ho] at k
      exact k
  · have : i = l.length := by omega
    subst this
    rw [List.drop_length, orI] at ho
    rw [← ho] at k
    exact k

/-- A world that has grown: numbers drawn, blocks laid behind. -/
def Grown (w w' : World) : Prop := ∃ q os, w' = Go.Sort.grow (w.drewN q) os
theorem Grown.refl (w : World) : Grown w w := ⟨0, #[], by rw [Go.Sort.grow_empty]; rfl⟩
theorem Grown.alloc {w w' : World} (h : Grown w w') (o : Obj) : Grown w (w'.alloc o) := by
  obtain ⟨q, os, rfl⟩ := h
  exact ⟨q, _, by rw [Go.Sort.alloc_eq_grow, Go.Sort.grow_grow]⟩
theorem Grown.tick {w w' : World} (h : Grown w w') : Grown w (tick w') := by
  obtain ⟨q, os, rfl⟩ := h
  exact ⟨q + 1, os, rfl⟩
theorem Rel.boxW (h : Rel B w σ) {T : TypeId} {v : Value} (k : ∀ b, Rel B (w.alloc (.cells v.cells T)) (σ ++ [cellD b T v.cells]) → K (.pointer (some ⟨b, 0, none⟩)) (w.alloc (.cells v.cells T))) : upK Tryz.prog (sBox T v) w K := by
  obtain ⟨c, h⟩ := h
  refine upK_of (w' := w.alloc (.cells v.cells T)) (vN_run ?_) (k _ ⟨paint c w.heap.size (σ.length + 1), h.push (Step.alloc nobody c w _ _) (Blk.alloc c w T v.cells).cellD⟩)
  rfl
theorem Rel.buildW {α : Type} [Enc α] {T E : TypeId} {by_ : Nat} (h : Rel B w σ) (l : List α) {n : Nat} {ps : Array (Nat × Value)} (hT : sliceB Tryz.prog T E (Enc.sz α) by_ = true) (hn : n = l.length) (h0 : 0 < n) (hsz' : n * Enc.sz α ≤ 16777216) (hps : ps = ((l.zipIdx 0).map fun p => (p.2, Enc.val p.1)).toArray)
    (k : ∀ v o, Rel B (w.alloc o) (σ ++ [rowD E v l]) → K v (w.alloc o)) : upK Tryz.prog (sBuildSlice T n ps) w K := by
  obtain ⟨cc, h⟩ := h
  obtain ⟨hu, i, z, hinfo, hz, hs, hby, hzs⟩ := sliceB_spec hT
  subst hn hps
  have hpos : 0 < Enc.sz α := Enc.pos
  obtain ⟨cs', h1, h2, h3⟩ := fill_seq l 0 ((Array.range (l.length * Enc.sz α)).map (z.cells[· % z.cells.size]!)) (by simp)
  have hne : ¬ (l.length * Enc.sz α = 0) := by
    intro h
    rcases Nat.mul_eq_zero.1 h with h | h <;> omega
  have hcs : cs' = (flat l).toArray := by
    apply Array.ext_getElem?
    intro j
    rw [h3 j]
    by_cases hj : j < l.length * Enc.sz α
    · rw [if_pos ⟨by omega, by simpa using hj⟩]; simp
    · rw [if_neg (by simp; omega), Array.getElem?_eq_none (by simp; omega), Array.getElem?_eq_none (by simp [flat_length]; omega)]
  refine upK_of (v := .slice (some ⟨w.heap.size, 0, none⟩) l.length l.length) (w' := w.alloc (.cells (flat l).toArray E)) (vN_run ?_) (k _ _ ⟨paint cc w.heap.size (σ.length + 1), h.push (Step.alloc nobody cc w _ _) (RowO.rowD ?_)⟩)
  · rw [hcs] at h1
    simp [Instr.buildSlice, run_underlying hu, sizeOf, typeInfo, hinfo, hs, zeroValue, hz, Nat.not_lt.2 hsz', newRow, hne, h1]
  · refine ⟨⟨by rw [flat_length], .inr ⟨w.heap.size, l.length, _, rfl, Nat.zero_le _, heap_alloc_new w _, Nat.le_refl _, ?_, by simp [flat_length], ?_⟩⟩, fun g hg => ?_⟩
    · have : l.length ≤ l.length * Enc.sz α := Nat.le_mul_of_pos_right _ hpos
      unfold maxLen; omega
    · rw [List.take_of_length_le (by simp [flat_length])]
    · simp [Value.ownBlock] at hg
      subst hg
      simp [paint]

theorem compareV_x (a b : ValD) (w : World) : Calls Tryz.prog F_value_Compare #[.agg a.cs.toArray, .agg b.cs.toArray] w fun e w' => e = .returned (.int .i64 (compareV a b)) ∧ Grown w w' := by
  have key : Calls Tryz.prog F_value_Compare #[.agg a.cs.toArray, .agg b.cs.toArray] w (retK fun v w' => v = .int .i64 (compareV a b) ∧ Grown w w') := by
    refine value_Compare.call ?_
    unfold value_Compare.pt
    have h : Rel ⟨w, fun _ => False⟩ w [] := ⟨fun _ => 1, rfl, rfl, rfl, Nat.le_refl _, fun _ hk => hk.elim, fun _ hk => hk.elim, fun i d hi => by simp at hi⟩
    have g := Grown.refl w
    refine h.boxW fun o h => ?_
    replace g := g.alloc (.cells (Value.agg a.cs.toArray).cells T_api_Value)
    generalize w.alloc (.cells (Value.agg a.cs.toArray).cells T_api_Value) = w1 at *
    refine h.boxW fun o2 h => ?_
    replace g := g.alloc (.cells (Value.agg b.cs.toArray).cells T_api_Value)
    generalize w1.alloc (.cells (Value.agg b.cs.toArray).cells T_api_Value) = w2 at *
    have h := h.tick
    replace g := g.tick
    have h : Rel ⟨w, fun _ => False⟩ (tick w2) [cellD o T_api_Value a.cs.toArray, cellD o2 T_api_Value b.cs.toArray] := h
    generalize tick w2 = w3 at *
    simp -zeta only [field_addr f_api_Value_0, field_addr f_api_Value_1, field_addr f_api_Value_2, Nat.add_zero, Nat.zero_add, h.ld 0 rfl sc_int (o := 0) rfl, h.ld 0 rfl sc_int (o := 1) rfl, h.ld 0 rfl sc_string (o := 2) rfl, h.ld 1 rfl sc_int (o := 0) rfl, h.ld 1 rfl sc_int (o := 1) rfl, h.ld 1 rfl sc_string (o := 2) rfl]
    refine cmpI_x _ _ ⟨h.is 1 rfl sc_string (o := 2) rfl, h.is 0 rfl sc_string (o := 2) rfl, h.is 1 rfl sc_int (o := 1) rfl, h.is 0 rfl sc_int (o := 1) rfl, ?_⟩
    refine cmpI_x _ _ ⟨h.is 1 rfl sc_string (o := 2) rfl, h.is 0 rfl sc_string (o := 2) rfl, ?_⟩
    refine compare_x _ _ ?_
    refine h.buildW [cmpI a.kind b.kind, cmpI a.n b.n, Go.Lib.compareBytes (bl a.s) (bl b.s)] sl_s_int rfl (by decide) (by decide) rfl fun u ob h => ?_
    replace g := g.alloc ob
    generalize w3.alloc ob = w4 at *
    obtain ⟨B', h', _, own, _⟩ := h.frz
    refine or_x h' (rowD.read (own (i := 2) rfl)) (show 3 ≤ 1000 by omega) ?_
    have e : orI [cmpI a.kind b.kind, cmpI a.n b.n, Go.Lib.compareBytes (bl a.s) (bl b.s)] = compareV a b := by
      unfold compareV
      simp only [orI]
      split
      · rfl
      · split
        · rfl
        · split
          · rfl
          · rename_i hz; exact (Decidable.of_not_not hz).symm
    rw [e]
    exact ⟨rfl, g⟩
  refine Calls.mono key fun e w' he => ?_
  cases e with
  | returned v => obtain ⟨rfl, h⟩ := he; exact ⟨rfl, h⟩
  | panicked c => exact he.elim
  | outgrown => exact he.elim
end
end Go.Proofs.YtoebncgnjbblgaaGreatDoor
