/-
  strings.Builder: WriteByte (its condition is in Pt2: tools/more.sh). No condition.
-/
import Derived.Test.YtifhbaphlmhoeaaGreatDoorWireA
import Derived.Test.YtifhbaphlmhoeaaGreatDoorPt2
import Derived.Lib.FrozenHead2
namespace Go.Proofs.YtifhbaphlmhoeaaGreatDoor
open Go.RowKit
set_option maxRecDepth 100000

section
variable {B : Base} {w : World}
theorem build_at {P : Program} {T E : TypeId} {by_ : Nat} {α : Type} [Enc α] {K : Value → World → Prop} (x : α) (hT : sliceB P T E (Enc.sz α) by_ = true) (hsz : Enc.sz α ≤ 16777216) (k : K (.slice (some ⟨w.heap.size, 0, none⟩) 1 1) (w.alloc (.cells (Enc.val x).cells E))) : upK P (sBuildSlice T 1 #[(0, Enc.val x)]) w K := by
  obtain ⟨hu, i, z, hinfo, hz, hs, hby, hzs⟩ := sliceB_spec hT
  have hv : (Enc.val x).cells.size = Enc.sz α := by rw [Enc.cells_val]; simp [Enc.len]
  have hpos : 0 < Enc.sz α := Enc.pos
  refine upK_of (v := .slice (some ⟨w.heap.size, 0, none⟩) 1 1) (w' := w.alloc (.cells (Enc.val x).cells E)) (vN_run ?_) k
  have hf := fill_one (fun i => some (i * Enc.sz α, Enc.sz α)) ((Array.range (Enc.sz α)).map (z.cells[· % z.cells.size]!)) (Enc.val x) (by simp [hv]) (by simp [hv])
  simp [Instr.buildSlice, run_underlying hu, sizeOf, typeInfo, hinfo, hs, zeroValue, hz, Nat.not_lt.2 hsz, Nat.ne_of_gt hpos, hf, newRow]
theorem build_byte {c : UInt8} {K : Value → World → Prop} (k : K (.slice (some ⟨w.heap.size, 0, none⟩) 1 1) (w.alloc (.cells #[.int .u8 c.toNat] T_uint8))) : upK Tryz.prog (sBuildSlice T_s_uint8 1 #[(0, .int .u8 c.toNat)]) w K :=
  build_at (α := UInt8) c sl_s_uint8 (by decide) k
theorem bByte {lo b : Nat} {bs : List Value} {c : UInt8} {K : Value → World → Prop} (h : Lib.IsBuilderF T_strings_Builder T_uint8 lo b bs w) (hlen : bs.length + 1 ≤ 140737488355328) (hlo : lo ≤ w.heap.size)
    (k : ∀ w', Lib.BuilderAtF T_strings_Builder T_uint8 lo b (.pointer (some ⟨b, 0, none⟩)) (bs ++ [.int .u8 c.toNat]) w' → Below lo w w' → K .nilIface w') : upK Tryz.prog (sCall F_strings_Builder_WriteByte #[.pointer (some ⟨b, 0, none⟩), .int .u8 c.toNat]) w K := by
  obtain ⟨i0, hi, hz0, hz1, hz2⟩ := info_parts (show (Tryz.prog.info? T_uint8).map (fun i => (i.zero, i.size, i.bytes)) = some (some (.int .u8 0), 1, 1) by kernel_rfl)
  refine strings_Builder_WriteByte.up (strings_Builder_WriteByte.call ?_)
  unfold strings_Builder_WriteByte.pt
  refine bCheck h fun w1 h1 hb1 => ?_
  obtain ⟨hB, v, hbk, hown, hne⟩ := h1
  have c1 : w1.cell? ⟨b, 1, none⟩ = some v := by rw [Lib.cell_of_heap hbk]; rfl
  simp -zeta only [nil_ptr, field_addr f_strings_Builder_1, Nat.zero_add, ld_sc sc_s_uint8 c1]
  have hlt : b < w1.heap.size := (Array.getElem?_eq_some_iff.1 hbk).1
  refine build_byte ?_
  have hs1 := hb1.size
  have ho2 := hown.alloc (.cells #[.int .u8 c.toNat] T_uint8)
  have hnew := heap_alloc_new w1 (.cells #[.int .u8 c.toNat] T_uint8)
  have hbk2 : (w1.alloc (.cells #[.int .u8 c.toNat] T_uint8)).heap[b]? = some (.cells #[.pointer (some ⟨b, 0, none⟩), v] T_strings_Builder (0, 0)) := (heap_alloc_old w1 _ hlt).trans hbk
  have hb2 : Below lo w (w1.alloc (.cells #[.int .u8 c.toNat] T_uint8)) := hb1.grown (World.grownBy_alloc w1 _ none) (by omega) (fun k hk => by cases hk)
  have hsz2 := hb2.size
  obtain ⟨v', w3, hr, hown', hgrow, _⟩ := run_append_ownF (P := Tryz.prog) (w1.alloc (.cells #[.int .u8 c.toNat] T_uint8)) lo T_s_uint8 T_s_uint8 T_uint8 i0 (.int .u8 0) 1 1 U_s_uint8 hi hz0 hz1 hz2 rfl (by decide) v bs.length bs ho2
    ⟨w1.heap.size, 0, none⟩ 1 1 [.int .u8 c.toNat] rfl (fun j u hj => by
      cases j with
      | zero =>
        simp at hj
        subst hj
        show (w1.alloc _).cell? ⟨w1.heap.size, 0 + 0, none⟩ = _
        rw [Lib.cell_of_heap hnew]
        rfl
      | succ j => simp at hj) (fun u hu => by rw [List.mem_singleton] at hu; subst hu; rfl) (by unfold maxLen; omega) (by omega) (by omega)
  refine upK_of (vN_run hr) ?_
  have hb3 : w3.heap[b]? = some (.cells #[.pointer (some ⟨b, 0, none⟩), v] T_strings_Builder (0, 0)) := by
    rw [hgrow.block b (by have := (Array.getElem?_eq_some_iff.1 hbk2).1; exact this) (fun e => hne e.symm)]
    exact hbk2
  have h1c : v'.oneCell' = true := by
    rcases hown'.2 with ⟨hv, _⟩ | ⟨g, cap, cur, fz, hv, _⟩ <;> rw [hv] <;> rfl
  refine st_sc (c := fun _ => 0) (t := 0) sc_s_uint8 (cs := #[.pointer (some ⟨b, 0, none⟩), v]) ⟨rfl, hb3⟩ (by show 1 < 2; omega) h1c fun _ _ => ?_
  refine k _ (Lib.BuilderAtF.put (T := T_strings_Builder) (e := T_uint8) hB hb3 (bs' := bs ++ [.int .u8 c.toNat]) (by simpa using hown') (by decide)) ?_
  exact (hb2.grown hgrow (by omega) (fun k hk => (ho2.lt k hk).1)).setCell (p := ⟨b, 1, none⟩) hB _
theorem Rel.bldByte {lo b : Nat} {l : Bs} {c : UInt8} {K : Value → World → Prop} (h : Rel B w [bldD lo b l]) (hlo : B.W.heap.size ≤ lo) (hlen : l.length + 1 ≤ 140737488355328)
    (k : ∀ w', Rel B w' [bldD lo b (l ++ [c])] → K .nilIface w') : upK Tryz.prog (sCall F_strings_Builder_WriteByte #[.pointer (some ⟨b, 0, none⟩), .int .u8 c.toNat]) w K := by
  have hs := h.bldLo
  refine bByte (bldD.is (h.here (i := 0) rfl)) (by rw [byteCells_len]; exact hlen) hs fun w' h1 h2 => ?_
  refine k _ (h.bldStep hlo hs h2 (.inr ?_))
  have : Lib.byteCells (l ++ [c]) = Lib.byteCells l ++ [.int .u8 c.toNat] := by simp [Lib.byteCells]
  rw [this]
  exact h1
end
end Go.Proofs.YtifhbaphlmhoeaaGreatDoor
