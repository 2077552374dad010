/-
  slices.Sort and slices.Compact at []int: the shelf's contracts at this seat's program. No condition.
-/
import Derived.Shelf.Lay
import Derived.Shelf.Sort.Plain
import Derived.Ground.NamesProg
import Derived.Ground.Names2Prog
import Derived.Shelf.Slices.CompactI
import Derived.Shelf.Slices.In.SortNone
import Derived.Test.YtefinemhfgdpdaaGreatDoorProg
import Derived.Test.YtefinemhfgdpdaaGreatDoorSpA
import Derived.Test.YtefinemhfgdpdaaGreatDoorLib
import Derived.Lib.RowBridge
import Derived.Shelf.SlIterI.Nil
import Derived.Ground.GgzProg
import Derived.Test.YtefinemhfgdpdaaGreatDoorWireP
--@auto
namespace Go.Proofs
open Go.Shelf
def Tryz.laysSortInt_ren : Go.Shelf.Ren := ⟨fun | 189 => 93 | 125 => 126 | 257 => 125 | 128 => 148 | 129 => 149 | 294 => 139 | 295 => 140 | 296 => 141 | 297 => 142 | 298 => 143 | 299 => 144 | 216 => 145 | 300 => 146 | 301 => 147 | 328 => 163 | 329 => 164 | 330 => 165 | 331 => 166 | 332 => 167 | 215 => 168 | 343 => 185 | n => n, fun | 28 => 80 | 3 => 3 | 46 => 143 | 0 => 0 | 51 => 161 | 53 => 163 | 4 => 4 | 183 => 155 | 182 => 154 | 131 => 136 | 5 => 5 | 9 => 9 | 218 => 171 | 222 => 175 | 228 => 192 | 229 => 193 | n => n, fun | n => n⟩
theorem Tryz.laysSortInt : Go.Proofs.Lays.n189 Tryz.prog Tryz.laysSortInt_ren := {
  mixed := by kernel_rfl
  f125 := Tryz.func126.trans (congrArg some (by kernel_rfl))
  f128 := Tryz.func148.trans (congrArg some (by kernel_rfl))
  f129 := Tryz.func149.trans (congrArg some (by kernel_rfl))
  f189 := Tryz.func93.trans (congrArg some (by kernel_rfl))
  f215 := Tryz.func168.trans (congrArg some (by kernel_rfl))
  f216 := Tryz.func145.trans (congrArg some (by kernel_rfl))
  f257 := Tryz.func125.trans (congrArg some (by kernel_rfl))
  f294 := Tryz.func139.trans (congrArg some (by kernel_rfl))
  f295 := Tryz.func140.trans (congrArg some (by kernel_rfl))
  f296 := Tryz.func141.trans (congrArg some (by kernel_rfl))
  f297 := Tryz.func142.trans (congrArg some (by kernel_rfl))
  f298 := Tryz.func143.trans (congrArg some (by kernel_rfl))
  f299 := Tryz.func144.trans (congrArg some (by kernel_rfl))
  f300 := Tryz.func146.trans (congrArg some (by kernel_rfl))
  f301 := Tryz.func147.trans (congrArg some (by kernel_rfl))
  f328 := Tryz.func163.trans (congrArg some (by kernel_rfl))
  f329 := Tryz.func164.trans (congrArg some (by kernel_rfl))
  f330 := Tryz.func165.trans (congrArg some (by kernel_rfl))
  f331 := Tryz.func166.trans (congrArg some (by kernel_rfl))
  f332 := Tryz.func167.trans (congrArg some (by kernel_rfl))
  f343 := Tryz.func185.trans (congrArg some (by kernel_rfl))
  t0 := Tryz.underlying0
  a0 := Tryz.isAgg0
  z0 := Tryz.sizeOf0
  v0 := Tryz.zeroValue0
  t3 := Tryz.underlying3
  a3 := Tryz.isAgg3
  z3 := Tryz.sizeOf3
  v3 := Tryz.zeroValue3
  t4 := Tryz.underlying4
  a4 := Tryz.isAgg4
  z4 := Tryz.sizeOf4
  v4 := Tryz.zeroValue4
  t5 := Tryz.underlying5
  a5 := Tryz.isAgg5
  z5 := Tryz.sizeOf5
  v5 := Tryz.zeroValue5
  t9 := Tryz.underlying9
  a9 := Tryz.isAgg9
  z9 := Tryz.sizeOf9
  v9 := Tryz.zeroValue9
  t28 := Tryz.underlying80
  a28 := Tryz.isAgg80
  z28 := Tryz.sizeOf80
  v28 := Tryz.zeroValue80
  t46 := Tryz.underlying143
  a46 := Tryz.isAgg143
  z46 := Tryz.sizeOf143
  v46 := Tryz.zeroValue143
  t51 := Tryz.underlying161
  a51 := Tryz.isAgg161
  z51 := Tryz.sizeOf161
  v51 := Tryz.zeroValue161
  t53 := Tryz.underlying163
  a53 := Tryz.isAgg163
  z53 := Tryz.sizeOf163
  v53 := Tryz.zeroValue163
  t131 := Tryz.underlying136
  a131 := Tryz.isAgg136
  z131 := Tryz.sizeOf136
  v131 := Tryz.zeroValue136
  t182 := Tryz.underlying154
  a182 := Tryz.isAgg154
  z182 := Tryz.sizeOf154
  v182 := Tryz.zeroValue154
  t183 := Tryz.underlying155
  a183 := Tryz.isAgg155
  z183 := Tryz.sizeOf155
  v183 := Tryz.zeroValue155
  t218 := Tryz.underlying171
  a218 := Tryz.isAgg171
  z218 := Tryz.sizeOf171
  v218 := Tryz.zeroValue171
  t222 := Tryz.underlying175
  a222 := Tryz.isAgg175
  z222 := Tryz.sizeOf175
  v222 := Tryz.zeroValue175
  t228 := Tryz.underlying192
  a228 := Tryz.isAgg192
  z228 := Tryz.sizeOf192
  v228 := Tryz.zeroValue192
  t229 := Tryz.underlying193
  a229 := Tryz.isAgg193
  z229 := Tryz.sizeOf193
  v229 := Tryz.zeroValue193 }
end Go.Proofs
/-
  slices.Sort and slices.Compact at []int: what they do to a row of one's own. No condition.
-/
--@auto
namespace Go.Proofs.YtefinemhfgdpdaaGreatDoor
open Go.RowKit
set_option maxRecDepth 100000

theorem flat_int (l : List Int) : flat l = l.map (Value.int .i64) := by
  induction l with
  | nil => rfl
  | cons a l ih => rw [flat_cons, ih]; rfl

section
variable {B : Base} {w : World} {σ : List Dat} {E : TypeId}
theorem Rel.putRow (h : Rel B w σ) (i : Nat) {g cap m n : Nat} {os : Array Obj} {l l' : List Int} (hi : σ[i]? = some (rowD E (.slice (some ⟨g, 0, none⟩) l.length cap) l)) (hl : l'.length = l.length) (hm : m ≤ l.length) :
    Rel B (Go.Sort.grow (Go.Sort.putRow (Value.int .i64) (Go.Sort.ahead w n) g 0 l'.toArray) os) (σ.set i (rowD E (.slice (some ⟨g, 0, none⟩) m cap) (l'.take m))) := by
  obtain ⟨c, h⟩ := h
  obtain ⟨_, cur, hb, h1, hmx, h3, h4⟩ := (rowD.own (h.own i _ hi)).inv
  have hlt := hb.lt
  have h3' : cur.size = cap := by rw [h3]; exact Nat.mul_one cap
  have hg : (Go.Sort.grow (Go.Sort.putRow (Value.int .i64) (Go.Sort.ahead w n) g 0 l'.toArray) os).heap[g]? = some (.cells (Go.Sort.putCells (Value.int .i64) 0 l'.toArray cur) E (0, 0)) := by
    rw [Go.Sort.heap_grow_old _ _ (by simpa using hlt)]
    show (w.heap.modify g _)[g]? = _
    rw [Array.getElem?_modify, if_pos rfl, hb.2]
    rfl
  refine ⟨paint c w.heap.size 0, h.step hi ⟨rfl, rfl, rfl, ?_, fun k hk => by simp [paint, hk], fun k hk ht => ?_⟩ (RowO.rowD (RowO.mk_ (cur := Go.Sort.putCells (Value.int .i64) 0 l'.toArray cur) ⟨by simp [paint, hlt, hb.1], hg⟩ ?_ (Nat.le_trans hm h1) hmx ?_ ?_))⟩
  · rw [Go.Sort.size_grow, Go.Sort.size_putRow]
    exact Nat.le_add_right _ _
  · rw [Go.Sort.heap_grow_old _ _ (by simpa using hk)]
    show (w.heap.modify g _)[k]? = _
    rw [Array.getElem?_modify, if_neg]
    rintro rfl
    exact ht hb.1
  · rw [List.length_take]; omega
  · rw [← h3]; simp [Go.Sort.putCells]
  · rw [flat_int]
    have hcs : (Go.Sort.putCells (Value.int .i64) 0 l'.toArray cur).size = cap := by simp [Go.Sort.putCells, h3']
    have h1' : (Enc.sz Int) = 1 := rfl
    rw [h1', Nat.mul_one]
    apply List.ext_getElem
    · simp [hcs]; omega
    · intro k hk1 hk2
      have hk : k < m := by
        rw [List.length_take] at hk1
        omega
      have hkl : k < l'.length := by omega
      simp [Go.Sort.putCells, hkl]

theorem holdsInt {c : Nat → Nat} {t g cap : Nat} {cur : Array Value} {l : List Int} (hb : Blk c t w g E cur) (h1 : l.length ≤ cap) (h3 : cur.size = cap * Enc.sz Int) (h4 : cur.toList.take (l.length * Enc.sz Int) = flat l) : Go.Sort.Holds (Value.int .i64) w g 0 l.toArray := by
  intro j hj
  have hj' : j < l.length := by simpa using hj
  refine ⟨?_, hb.free _⟩
  rw [Nat.zero_add]
  refine hb.cell ?_
  have e : (cur.toList.take (l.length * Enc.sz Int))[j]? = (flat l)[j]? := by rw [h4]
  have h1' : (Enc.sz Int) = 1 := rfl
  rw [h1', Nat.mul_one, List.getElem?_take_of_lt hj', flat_int] at e
  rw [Array.getElem?_toList] at e
  rw [e]
  simp [hj']

abbrev sortI (l : List Int) : List Int := l.mergeSort fun x y => decide (x ≤ y)
theorem sortI_mem {l : List Int} {x : Int} : x ∈ sortI l ↔ x ∈ l := (List.mergeSort_perm l _).mem_iff
theorem sortI_length (l : List Int) : (sortI l).length = l.length := (List.mergeSort_perm l _).length_eq

theorem SortInt_d {v : Value} {l : List Int} (hl : l.length ≤ 1000000000) : Does Tryz.prog B (rowD T_int v l) (sCall F_slices_Sort_s_int_int #[v]) fun u e' τ => u = .tuple #[] ∧ e' = rowD T_int v (sortI l) ∧ τ = [] := by
  refine Does.intro fun B' w K base h k => ?_
  rcases Nat.eq_zero_or_pos l.length with h0 | h0
  · have hl0 : l = [] := List.length_eq_zero_iff.1 h0
    subst hl0
    have hv : ∃ p cap, v = .slice p 0 cap := by
      rcases h.here (i := 0) rfl with ⟨rfl, _⟩ | ⟨g, cap, _, rfl, _⟩
      · exact ⟨_, _, rfl⟩
      · exact ⟨_, _, rfl⟩
    obtain ⟨p, cap, rfl⟩ := hv
    refine slices_Sort_s_int_int.up ?_
    refine Calls.mono (Any.slices_Sort_int_none Tryz.laysSortInt p cap w) fun e w' he => ?_
    obtain ⟨rfl, rfl⟩ := he
    have e : sortI [] = [] := by simp [sortI]
    exact k _ _ [] _ ⟨rfl, rfl, rfl⟩ (by rw [e]; exact h)
  · obtain ⟨g, cap, rfl⟩ := h.open_ (i := 0) rfl h0
    obtain ⟨c, h'⟩ := h
    obtain ⟨_, cur, hb, h1, hmx, h3, h4⟩ := (rowD.own (h'.own 0 _ rfl)).inv
    refine slices_Sort_s_int_int.up ?_
    refine Calls.mono (Any.slices_Sort_int Tryz.laysSortInt g 0 cap l w (holdsInt hb h1 h3 h4) hb.lt (by omega)) fun e w' he => ?_
    obtain ⟨rfl, n, os, rfl⟩ := he
    have := Rel.putRow (B := B') (σ := [rowD T_int (.slice (some ⟨g, 0, none⟩) l.length cap) l]) ⟨c, h'⟩ 0 (m := l.length) (n := n) (os := os) (l' := sortI l) rfl (sortI_length l) (Nat.le_refl _)
    rw [List.take_of_length_le (by rw [sortI_length]; exact Nat.le_refl _)] at this
    exact k _ _ [] _ ⟨rfl, rfl, rfl⟩ this

end

theorem compact_mem {l : List Int} {x : Int} (h : x ∈ l) : x ∈ Lib.compact l := by
  unfold Lib.compact Lib.compactUpTo
  have main : ∀ n (hn : n < l.length), l[n] ∈ ((List.range l.length).filter (Lib.keeps l.toArray)).map (l.toArray[·]!) := by
    intro n
    induction n with
    | zero =>
      intro hn
      refine List.mem_map.2 ⟨0, List.mem_filter.2 ⟨List.mem_range.2 hn, Lib.keeps_lt_one _ 0 (by omega)⟩, by simp [hn]⟩
    | succ n ih =>
      intro hn
      by_cases e : l[n + 1] = l[n]'(by omega)
      · rw [e]; exact ih (by omega)
      · refine List.mem_map.2 ⟨n + 1, List.mem_filter.2 ⟨List.mem_range.2 hn, Lib.keeps_pos ?_⟩, by simp [hn]⟩
        have hn' : n < l.length := by omega
        simpa [hn, hn'] using e
  obtain ⟨n, hn, rfl⟩ := List.getElem_of_mem h
  exact main n hn
end Go.Proofs.YtefinemhfgdpdaaGreatDoor
/-
  maps.Keys and slices.Collect at int keys: the shelf's contracts at this seat's program. No condition.
-/
namespace Go.Proofs
open Go.Shelf
def Tryz.laysKeysI_ren : Go.Shelf.Ren := ⟨fun | 7 => 52 | 10 => 94 | n => n, fun | 23 => 61 | 26 => 3 | 3 => 3 | 28 => 83 | 0 => 0 | 27 => 82 | 33 => 73 | 4 => 4 | n => n, fun | n => n⟩
theorem Tryz.laysKeysI : Go.Proofs.SlLaysZI.n7 Tryz.prog Tryz.laysKeysI_ren := {
  mixed := by kernel_rfl
  f7 := ⟨Tryz.f52.name, by decide, Tryz.func52.trans (congrArg some (by kernel_rfl))⟩
  f10 := ⟨Tryz.f94.name, by decide, Tryz.func94.trans (congrArg some (by kernel_rfl))⟩
  t0 := Tryz.underlying0
  a0 := Tryz.isAgg0
  z0 := Tryz.sizeOf0
  v0 := Tryz.zeroValue0
  t4 := Tryz.underlying4
  a4 := Tryz.isAgg4
  z4 := Tryz.sizeOf4
  v4 := Tryz.zeroValue4
  t23 := Tryz.underlying61
  a23 := Tryz.isAgg61
  z23 := Tryz.sizeOf61
  v23 := Tryz.zeroValue61
  t26 := Tryz.underlying3
  a26 := Tryz.isAgg3
  z26 := Tryz.sizeOf3
  v26 := Tryz.zeroValue3
  t27 := Tryz.underlying82
  a27 := Tryz.isAgg82
  z27 := Tryz.sizeOf82
  v27 := Tryz.zeroValue82
  t28 := Tryz.underlying83
  a28 := Tryz.isAgg83
  z28 := Tryz.sizeOf83
  v28 := Tryz.zeroValue83
  t33 := Tryz.underlying73
  a33 := Tryz.isAgg73
  z33 := Tryz.sizeOf73
  v33 := Tryz.zeroValue73 }
def Tryz.laysCollectI_ren : Go.Shelf.Ren := ⟨fun | 8 => 92 | 11 => 124 | n => n, fun | 26 => 3 | 28 => 83 | 24 => 80 | 0 => 0 | 33 => 73 | 4 => 4 | n => n, fun | n => n⟩
theorem Tryz.laysCollectI : Go.Proofs.SlLaysZI.n8 Tryz.prog Tryz.laysCollectI_ren := {
  mixed := by kernel_rfl
  f8 := ⟨Tryz.f92.name, by decide, Tryz.func92.trans (congrArg some (by kernel_rfl))⟩
  f11 := ⟨Tryz.f124.name, by decide, Tryz.func124.trans (congrArg some (by kernel_rfl))⟩
  t0 := Tryz.underlying0
  a0 := Tryz.isAgg0
  z0 := Tryz.sizeOf0
  v0 := Tryz.zeroValue0
  t24 := Tryz.underlying80
  a24 := Tryz.isAgg80
  z24 := Tryz.sizeOf80
  v24 := Tryz.zeroValue80
  t26 := Tryz.underlying3
  a26 := Tryz.isAgg3
  z26 := Tryz.sizeOf3
  v26 := Tryz.zeroValue3
  t28 := Tryz.underlying83
  a28 := Tryz.isAgg83
  z28 := Tryz.sizeOf83
  v28 := Tryz.zeroValue83
  i26 := by kernel_rfl }
theorem Tryz.entersKeysI : ∀ args w, (callFunc 94 args).run Tryz.prog w = .ok (.enter 94 args) w := enters_of Tryz.func94 (by kernel_rfl) rfl
end Go.Proofs
/-
  maps.Keys and slices.Collect at int keys, over a map of one's own. No condition.
-/
namespace Go.Proofs.YtefinemhfgdpdaaGreatDoor
open Go.RowKit
set_option maxRecDepth 100000

section
variable {B : Base}
theorem keysI_m (m : Nat) : Makes Tryz.prog B (sCall F_maps_Keys_map_int_int_int_int #[mapV m]) fun u τ => ∃ b, u = .func (.func F_maps_Keys_map_int_int_int_int_1) #[] #[ptr b] ∧ τ = [cellD b T_map_int_int #[mapV m]] := by
  refine Makes.intro fun B' w K base h k => ?_
  refine maps_Keys_map_int_int_int_int.up (maps_Keys_map_int_int_int_int.call ?_)
  unfold maps_Keys_map_int_int_int_int.pt
  refine h.box fun b w1 h => ?_
  simp -zeta only [mk_func]
  exact k _ _ _ ⟨b, rfl, rfl⟩ h
theorem inI_wf {n : Int} (h : inI n) : (Lit.int .i64 n).wf = true := by
  unfold Lit.wf
  simp only [Bool.and_eq_true, decide_eq_true_eq]
  exact ⟨h.1, h.2⟩
abbrev anyR : Value → Option (DataW Unit × List MemPlace) := fun _ => some (.nil, [])
theorem keysI_rd {e : Ent Int Int} (h : inI e.1) : Go.WideElems.rd Tryz.prog T_int anyR (entV e) = some (.int .i64 e.1, .nil) := by
  unfold Go.WideElems.rd
  have : keyOf Tryz.prog T_int (entV e).key = some (.int .i64 e.1) := Go.Maps.keyOf_int_mk U_int (inI_wf h)
  rw [this]
  rfl
theorem keysI_perm {l : List (Ent Int Int)} (hr : ∀ e ∈ l, inI e.1) :
    (Go.intKeys (DataW.map (((l.map entV).toArray.toList.map (Go.WideElems.rg Tryz.prog T_int anyR)).foldr DataW.insert []))).Perm (l.map (·.1)) := by
  show (List.map (fun p : Lit × DataW Unit => Go.intOf p.1) _).Perm _
  refine (List.Perm.map _ (Go.WideShapes.sorted_perm _)).trans ?_
  rw [List.map_map]
  show (List.map _ (l.map entV)).Perm _
  rw [List.map_map]
  refine List.Perm.of_eq (List.map_congr_left fun e he => ?_)
  show Go.intOf (Go.WideElems.rg Tryz.prog T_int anyR (entV e)).1 = e.1
  unfold Go.WideElems.rg
  rw [keysI_rd (hr e he)]
  rfl
theorem collectI_m {m b c : Nat} {l : List (Ent Int Int)} (hb : cellD b T_map_int_int #[mapV m] B) (hm : mapE m l c B) (hw : WfE l c) (hr : ∀ e ∈ l, inI e.1) (hl : l.length ≤ 1000000) :
    Makes Tryz.prog B (sCall F_slices_Collect_int #[.func (.func F_maps_Keys_map_int_int_int_int_1) #[] #[ptr b]]) fun u τ => ∃ ss, ss.Perm (l.map (·.1)) ∧ τ = [rowD T_int u ss] := by
  refine Makes.intro fun B' w K base h k => ?_
  have hb := h.hereB (base hb)
  have hm := h.hereB (base hm)
  have hb2 : w.heap[b]? = some (.cells #[mapV m] T_map_int_int (0, 0)) := hb.2
  have hm2 : w.heap[m]? = some (.map (l.map entV).toArray c) := hm.2
  have hsz : (l.map entV).toArray.size = l.length := by simp
  have hown : w.ownsMap Tryz.prog T_int anyR m l.length (DataW.map (((l.map entV).toArray.toList.map (Go.WideElems.rg Tryz.prog T_int anyR)).foldr DataW.insert [])) := by
    refine ⟨_, c, hm2, ⟨by rw [hsz]; unfold maxLen; omega, ⟨fun x hx => ?_, ?_, ?_⟩, fun x hx => ?_⟩, by rw [hsz]; exact Nat.le_refl _, rfl⟩
    · obtain ⟨e, he, rfl⟩ := List.mem_map.1 (show x ∈ l.map entV from hx)
      exact hw.below e he
    · show (List.map _ (l.map entV)).Nodup
      rw [List.map_map]
      exact hw.stamps
    · show (List.map _ (l.map entV)).Nodup
      rw [List.map_map]
      have : (l.map (Enc.val ∘ fun e : Ent Int Int => e.1)).Nodup := by
        rw [← List.map_map]
        exact hw.keys.map (f := (Enc.val : Int → Value)) (fun a b hab e => hab (by injection e))
      exact this
    · obtain ⟨e, he, rfl⟩ := List.mem_map.1 (show x ∈ l.map entV from hx)
      exact ⟨_, keysI_rd (hr e he)⟩
  have hlen : Go.Maps.size (DataW.map (((l.map entV).toArray.toList.map (Go.WideElems.rg (H := Unit) Tryz.prog T_int anyR)).foldr DataW.insert [])) = l.length := by
    show (List.foldr DataW.insert [] _).length = _
    rw [(Go.WideShapes.sorted_perm _).length_eq]
    simp
  have hseq := AnyZI.keys_gives (ρ := Tryz.laysKeysI_ren) { Tryz.laysKeysI with } Fence.wide 1 trivial rfl (Nat.le_refl _) b m l.length _ w (Array.getElem?_eq_some_iff.1 hb2).1 (cellD.here_cell hb (o := 0) rfl) hown
  have cS := AnyZI.collect_in Tryz.laysCollectI Fence.wide 3 trivial trivial rfl (Nat.le_refl _) F_maps_Keys_map_int_int_int_int_1 #[ptr b] trivial Tryz.entersKeysI _ _ (by rw [hlen]; unfold maxLen; omega) (by rw [hlen]; omega) w hseq
  refine slices_Collect_int.up (Calls.mono (callsIn_wide.1 cS) ?_)
  rintro e w' ⟨v, ss, rfl, hS, hrow, _, hbl⟩
  refine k v _ w' ⟨ss, hS.trans (keysI_perm hr), rfl⟩ ?_
  obtain ⟨cc, h⟩ := h
  refine ⟨paint cc w.heap.size 1, h.push ⟨hbl.os, hbl.tape, hbl.output, hbl.size, fun j hj => if_pos hj, fun j hj _ => hbl.block j hj⟩ ?_⟩
  rcases hrow.2 with ⟨rfl, h0⟩ | ⟨g, cap, cur, rfl, hbase, hg, h1, h2, h3, h4⟩
  · exact .inl ⟨rfl, List.eq_nil_of_length_eq_zero h0⟩
  · refine .inr ⟨g, cap, cur, rfl, ⟨if_neg (by omega), hg⟩, h1, h2, h3, ?_⟩
    rw [flat_int]
    exact h4
end
end Go.Proofs.YtefinemhfgdpdaaGreatDoor
