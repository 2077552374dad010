/-
  slices.Sort and slices.Compact at []int: the shelf's contracts at this seat's program. No condition.
-/
import Derived.Shelf.Lay
import Derived.Shelf.Sort.Plain
import Derived.Ground.NamesProg
import Derived.Ground.Names2Prog
import Derived.Shelf.Slices.CompactI
import Derived.Shelf.Slices.In.SortNone
import Derived.Test.YtefinemhfgdpdaaGreatDoorProg
import Derived.Test.YtefinemhfgdpdaaGreatDoorSpA
import Derived.Test.YtefinemhfgdpdaaGreatDoorLib
import Derived.Lib.RowBridge
import Derived.Shelf.SlIterI.Nil
import Derived.Ground.GgzProg
import Derived.Test.YtefinemhfgdpdaaGreatDoorWireP
--@auto
namespace Go.Proofs
open Go.Shelf
shelf_lay Lays.n189 Nm 189 at Tryz as Tryz.laysSortInt -- F_slices_Sort_s_int_int
end Go.Proofs
/-
  slices.Sort and slices.Compact at []int: what they do to a row of one's own. No condition.
-/
--@auto
namespace Go.Proofs.YtefinemhfgdpdaaGreatDoor
open Go.RowKit
set_option maxRecDepth 100000

theorem flat_int (l : List Int) : flat l = l.map (Value.int .i64) := by
  induction l with
  | nil => rfl
  | cons a l ih => rw [flat_cons, ih]; rfl

section
variable {B : Base} {w : World} {σ : List Dat} {E : TypeId}
theorem Rel.putRow (h : Rel B w σ) (i : Nat) {g cap m n : Nat} {os : Array Obj} {l l' : List Int} (hi : σ[i]? = some (rowD E (.slice (some ⟨g, 0, none⟩) l.length cap) l)) (hl : l'.length = l.length) (hm : m ≤ l.length) :
    Rel B (Go.Sort.grow (Go.Sort.putRow (Value.int .i64) (Go.Sort.ahead w n) g 0 l'.toArray) os) (σ.set i (rowD E (.slice (some ⟨g, 0, none⟩) m cap) (l'.take m))) := by
  obtain ⟨c, h⟩ := h
  obtain ⟨_, cur, hb, h1, hmx, h3, h4⟩ := (rowD.own (h.own i _ hi)).inv
  have hlt := hb.lt
  have h3' : cur.size = cap := by rw [h3]; exact Nat.mul_one cap
  have hg : (Go.Sort.grow (Go.Sort.putRow (Value.int .i64) (Go.Sort.ahead w n) g 0 l'.toArray) os).heap[g]? = some (.cells (Go.Sort.putCells (Value.int .i64) 0 l'.toArray cur) E (0, 0)) := by
    rw [Go.Sort.heap_grow_old _ _ (by simpa using hlt)]
    show (w.heap.modify g _)[g]? = _
    rw [Array.getElem?_modify, if_pos rfl, hb.2]
    rfl
  refine ⟨paint c w.heap.size 0, h.step hi ⟨rfl, rfl, rfl, ?_, fun k hk => by simp [paint, hk], fun k hk ht => ?_⟩ (RowO.rowD (RowO.mk_ (cur := Go.Sort.putCells (Value.int .i64) 0 l'.toArray cur) ⟨by simp [paint, hlt, hb.1], hg⟩ ?_ (Nat.le_trans hm h1) hmx ?_ ?_))⟩
  · rw [Go.Sort.size_grow, Go.Sort.size_putRow]
    exact Nat.le_add_right _ _
  · rw [Go.Sort.heap_grow_old _ _ (by simpa using hk)]
    show (w.heap.modify g _)[k]? = _
    rw [Array.getElem?_modify, if_neg]
    rintro rfl
    exact ht hb.1
  · rw [List.length_take]; omega
  · rw [← h3]; simp [Go.Sort.putCells]
  · rw [flat_int]
    have hcs : (Go.Sort.putCells (Value.int .i64) 0 l'.toArray cur).size = cap := by simp [Go.Sort.putCells, h3']
    have h1' : (Enc.sz Int) = 1 := rfl
    rw [h1', Nat.mul_one]
    apply List.ext_getElem
    · simp [hcs]; omega
    · intro k hk1 hk2
      have hk : k < m := by
        rw [List.length_take] at hk1
        omega
      have hkl : k < l'.length := by omega
      simp [Go.Sort.putCells, hkl]

theorem holdsInt {c : Nat → Nat} {t g cap : Nat} {cur : Array Value} {l : List Int} (hb : Blk c t w g E cur) (h1 : l.length ≤ cap) (h3 : cur.size = cap * Enc.sz Int) (h4 : cur.toList.take (l.length * Enc.sz Int) = flat l) : Go.Sort.Holds (Value.int .i64) w g 0 l.toArray := by
  intro j hj
  have hj' : j < l.length := by simpa using hj
  refine ⟨?_, hb.free _⟩
  rw [Nat.zero_add]
  refine hb.cell ?_
  have e : (cur.toList.take (l.length * Enc.sz Int))[j]? = (flat l)[j]? := by rw [h4]
  have h1' : (Enc.sz Int) = 1 := rfl
  rw [h1', Nat.mul_one, List.getElem?_take_of_lt hj', flat_int] at e
  rw [Array.getElem?_toList] at e
  rw [e]
  simp [hj']

abbrev sortI (l : List Int) : List Int := l.mergeSort fun x y => decide (x ≤ y)
theorem sortI_mem {l : List Int} {x : Int} : x ∈ sortI l ↔ x ∈ l := (List.mergeSort_perm l _).mem_iff
theorem sortI_length (l : List Int) : (sortI l).length = l.length := (List.mergeSort_perm l _).length_eq

theorem SortInt_d {v : Value} {l : List Int} (hl : l.length ≤ 1000000000) : Does Tryz.prog B (rowD T_int v l) (sCall F_slices_Sort_s_int_int #[v]) fun u e' τ => u = .tuple #[] ∧ e' = rowD T_int v (sortI l) ∧ τ = [] := by
  refine Does.intro fun B' w K base h k => ?_
  rcases Nat.eq_zero_or_pos l.length with h0 | h0
  · have hl0 : l = [] := List.length_eq_zero_iff.1 h0
    subst hl0
    have hv : ∃ p cap, v = .slice p 0 cap := by
      rcases h.here (i := 0) rfl with ⟨rfl, _⟩ | ⟨g, cap, _, rfl, _⟩
      · exact ⟨_, _, rfl⟩
      · exact ⟨_, _, rfl⟩
    obtain ⟨p, cap, rfl⟩ := hv
    refine slices_Sort_s_int_int.up ?_
    refine Calls.mono (Any.slices_Sort_int_none Tryz.laysSortInt p cap w) fun e w' he => ?_
    obtain ⟨rfl, rfl⟩ := he
    have e : sortI [] = [] := by simp [sortI]
    exact k _ _ [] _ ⟨rfl, rfl, rfl⟩ (by rw [e]; exact h)
  · obtain ⟨g, cap, rfl⟩ := h.open_ (i := 0) rfl h0
    obtain ⟨c, h'⟩ := h
    obtain ⟨_, cur, hb, h1, hmx, h3, h4⟩ := (rowD.own (h'.own 0 _ rfl)).inv
    refine slices_Sort_s_int_int.up ?_
    refine Calls.mono (Any.slices_Sort_int Tryz.laysSortInt g 0 cap l w (holdsInt hb h1 h3 h4) hb.lt (by omega)) fun e w' he => ?_
    obtain ⟨rfl, n, os, rfl⟩ := he
    have := Rel.putRow (B := B') (σ := [rowD T_int (.slice (some ⟨g, 0, none⟩) l.length cap) l]) ⟨c, h'⟩ 0 (m := l.length) (n := n) (os := os) (l' := sortI l) rfl (sortI_length l) (Nat.le_refl _)
    rw [List.take_of_length_le (by rw [sortI_length]; exact Nat.le_refl _)] at this
    exact k _ _ [] _ ⟨rfl, rfl, rfl⟩ this

end

theorem compact_mem {l : List Int} {x : Int} (h : x ∈ l) : x ∈ Lib.compact l := by
  unfold Lib.compact Lib.compactUpTo
  have main : ∀ n (hn : n < l.length), l[n] ∈ ((List.range l.length).filter (Lib.keeps l.toArray)).map (l.toArray[·]!) := by
    intro n
    induction n with
    | zero =>
      intro hn
      refine List.mem_map.2 ⟨0, List.mem_filter.2 ⟨List.mem_range.2 hn, Lib.keeps_lt_one _ 0 (by omega)⟩, by simp [hn]⟩
    | succ n ih =>
      intro hn
      by_cases e : l[n + 1] = l[n]'(by omega)
      · rw [e]; exact ih (by omega)
      · refine List.mem_map.2 ⟨n + 1, List.mem_filter.2 ⟨List.mem_range.2 hn, Lib.keeps_pos ?_⟩, by simp [hn]⟩
        have hn' : n < l.length := by omega
        simpa [hn, hn'] using e
  obtain ⟨n, hn, rfl⟩ := List.getElem_of_mem h
  exact main n hn
end Go.Proofs.YtefinemhfgdpdaaGreatDoor
/-
  maps.Keys and slices.Collect at int keys: the shelf's contracts at this seat's program. No condition.
-/
namespace Go.Proofs
open Go.Shelf
shelf_lay_g SlLaysZI.n7 Ggz 7 at Tryz 52 as Tryz.laysKeysI
shelf_lay_g SlLaysZI.n8 Ggz 8 at Tryz 92 as Tryz.laysCollectI
theorem Tryz.entersKeysI : ∀ args w, (callFunc 94 args).run Tryz.prog w = .ok (.enter 94 args) w := enters_of Tryz.func94 (by kernel_rfl) rfl
end Go.Proofs
/-
  maps.Keys and slices.Collect at int keys, over a map of one's own. No condition.
-/
namespace Go.Proofs.YtefinemhfgdpdaaGreatDoor
open Go.RowKit
set_option maxRecDepth 100000

section
variable {B : Base}
theorem keysI_m (m : Nat) : Makes Tryz.prog B (sCall F_maps_Keys_map_int_int_int_int #[mapV m]) fun u τ => ∃ b, u = .func (.func F_maps_Keys_map_int_int_int_int_1) #[] #[ptr b] ∧ τ = [cellD b T_map_int_int #[mapV m]] := by
  refine Makes.intro fun B' w K base h k => ?_
  refine maps_Keys_map_int_int_int_int.up (maps_Keys_map_int_int_int_int.call ?_)
  unfold maps_Keys_map_int_int_int_int.pt
  refine h.box fun b w1 h => ?_
  simp -zeta only [mk_func]
  exact k _ _ _ ⟨b, rfl, rfl⟩ h
theorem inI_wf {n : Int} (h : inI n) : (Lit.int .i64 n).wf = true := by
  unfold Lit.wf
  simp only [Bool.and_eq_true, decide_eq_true_eq]
  exact ⟨h.1, h.2⟩
abbrev anyR : Value → Option (DataW Unit × List MemPlace) := fun _ => some (.nil, [])
theorem keysI_rd {e : Ent Int Int} (h : inI e.1) : Go.WideElems.rd Tryz.prog T_int anyR (entV e) = some (.int .i64 e.1, .nil) := by
  unfold Go.WideElems.rd
  have : keyOf Tryz.prog T_int (entV e).key = some (.int .i64 e.1) := Go.Maps.keyOf_int_mk U_int (inI_wf h)
  rw [this]
  rfl
theorem keysI_perm {l : List (Ent Int Int)} (hr : ∀ e ∈ l, inI e.1) :
    (Go.intKeys (DataW.map (((l.map entV).toArray.toList.map (Go.WideElems.rg Tryz.prog T_int anyR)).foldr DataW.insert []))).Perm (l.map (·.1)) := by
  show (List.map (fun p : Lit × DataW Unit => Go.intOf p.1) _).Perm _
  refine (List.Perm.map _ (Go.WideShapes.sorted_perm _)).trans ?_
  rw [List.map_map]
  show (List.map _ (l.map entV)).Perm _
  rw [List.map_map]
  refine List.Perm.of_eq (List.map_congr_left fun e he => ?_)
  show Go.intOf (Go.WideElems.rg Tryz.prog T_int anyR (entV e)).1 = e.1
  unfold Go.WideElems.rg
  rw [keysI_rd (hr e he)]
  rfl
theorem collectI_m {m b c : Nat} {l : List (Ent Int Int)} (hb : cellD b T_map_int_int #[mapV m] B) (hm : mapE m l c B) (hw : WfE l c) (hr : ∀ e ∈ l, inI e.1) (hl : l.length ≤ 1000000) :
    Makes Tryz.prog B (sCall F_slices_Collect_int #[.func (.func F_maps_Keys_map_int_int_int_int_1) #[] #[ptr b]]) fun u τ => ∃ ss, ss.Perm (l.map (·.1)) ∧ τ = [rowD T_int u ss] := by
  refine Makes.intro fun B' w K base h k => ?_
  have hb := h.hereB (base hb)
  have hm := h.hereB (base hm)
  have hb2 : w.heap[b]? = some (.cells #[mapV m] T_map_int_int (0, 0)) := hb.2
  have hm2 : w.heap[m]? = some (.map (l.map entV).toArray c) := hm.2
  have hsz : (l.map entV).toArray.size = l.length := by simp
  have hown : w.ownsMap Tryz.prog T_int anyR m l.length (DataW.map (((l.map entV).toArray.toList.map (Go.WideElems.rg Tryz.prog T_int anyR)).foldr DataW.insert [])) := by
    refine ⟨_, c, hm2, ⟨by rw [hsz]; unfold maxLen; omega, ⟨fun x hx => ?_, ?_, ?_⟩, fun x hx => ?_⟩, by rw [hsz]; exact Nat.le_refl _, rfl⟩
    · obtain ⟨e, he, rfl⟩ := List.mem_map.1 (show x ∈ l.map entV from hx)
      exact hw.below e he
    · show (List.map _ (l.map entV)).Nodup
      rw [List.map_map]
      exact hw.stamps
    · show (List.map _ (l.map entV)).Nodup
      rw [List.map_map]
      have : (l.map (Enc.val ∘ fun e : Ent Int Int => e.1)).Nodup := by
        rw [← List.map_map]
        exact hw.keys.map (f := (Enc.val : Int → Value)) (fun a b hab e => hab (by injection e))
      exact this
    · obtain ⟨e, he, rfl⟩ := List.mem_map.1 (show x ∈ l.map entV from hx)
      exact ⟨_, keysI_rd (hr e he)⟩
  have hlen : Go.Maps.size (DataW.map (((l.map entV).toArray.toList.map (Go.WideElems.rg (H := Unit) Tryz.prog T_int anyR)).foldr DataW.insert [])) = l.length := by
    show (List.foldr DataW.insert [] _).length = _
    rw [(Go.WideShapes.sorted_perm _).length_eq]
    simp
  have hseq := AnyZI.keys_gives (ρ := Tryz.laysKeysI_ren) { Tryz.laysKeysI with } Fence.wide 1 trivial rfl (Nat.le_refl _) b m l.length _ w (Array.getElem?_eq_some_iff.1 hb2).1 (cellD.here_cell hb (o := 0) rfl) hown
  have cS := AnyZI.collect_in Tryz.laysCollectI Fence.wide 3 trivial trivial rfl (Nat.le_refl _) F_maps_Keys_map_int_int_int_int_1 #[ptr b] trivial Tryz.entersKeysI _ _ (by rw [hlen]; unfold maxLen; omega) (by rw [hlen]; omega) w hseq
  refine slices_Collect_int.up (Calls.mono (callsIn_wide.1 cS) ?_)
  rintro e w' ⟨v, ss, rfl, hS, hrow, _, hbl⟩
  refine k v _ w' ⟨ss, hS.trans (keysI_perm hr), rfl⟩ ?_
  obtain ⟨cc, h⟩ := h
  refine ⟨paint cc w.heap.size 1, h.push ⟨hbl.os, hbl.tape, hbl.output, hbl.size, fun j hj => if_pos hj, fun j hj _ => hbl.block j hj⟩ ?_⟩
  rcases hrow.2 with ⟨rfl, h0⟩ | ⟨g, cap, cur, rfl, hbase, hg, h1, h2, h3, h4⟩
  · exact .inl ⟨rfl, List.eq_nil_of_length_eq_zero h0⟩
  · refine .inr ⟨g, cap, cur, rfl, ⟨if_neg (by omega), hg⟩, h1, h2, h3, ?_⟩
    rw [flat_int]
    exact h4
end
end Go.Proofs.YtefinemhfgdpdaaGreatDoor
