/-
  wire: lists that are read; the reference's comparing. No condition.
-/
import Derived.Test.YtppnebcpalialaaDoorWireC
--@auto
namespace Go.Proofs.YtppnebcpalialaaDoor
open Go.RowKit
set_option maxRecDepth 100000

theorem Ok1.shrink {α : Type} {enc : α → Bs} {good : α → Prop} {one : RS → α × RS} (h : Ok1 enc good one) (hne : ∀ x, 0 < (enc x).length) {s : RS} (h1 : s.bad = false) :
    (one s).2.rest.length ≤ s.rest.length ∧ ((one s).2.bad = false → (one s).2.rest.length + 1 ≤ s.rest.length) := by
  cases hb : (one s).2.bad
  · obtain ⟨e, _⟩ := h.back h1 hb
    have := hne (one s).1
    rw [e, List.length_append]
    exact ⟨by omega, fun _ => by omega⟩
  · rw [h.fail h1 hb]
    exact ⟨Nat.zero_le _, fun hh => by cases hh⟩
theorem encI_pos (n : Int) : 0 < (encI n).length := by unfold encI; simp
theorem encT_pos (t : Bs) : 0 < (encT t).length := by unfold encT; simp <;> omega
theorem loopR_le {α : Type} {enc : α → Bs} {good : α → Prop} {one : RS → α × RS} (h : Ok1 enc good one) (hne : ∀ x, 0 < (enc x).length) : ∀ (k : Nat) (acc : List α) (s : RS), (loopR one k acc s).1.length ≤ acc.length + s.rest.length + 1
  | 0, acc, s => by rw [loopR]; simp only; omega
  | k + 1, acc, s => by
    rw [loopR]
    by_cases c : s.bad = true
    · rw [if_pos c]; simp only; omega
    · rw [if_neg c]
      have c : s.bad = false := by simpa using c
      obtain ⟨h1, h2⟩ := h.shrink hne c
      cases hb : (one s).2.bad
      · have := loopR_le h hne k (acc ++ [(one s).1]) (one s).2
        have := h2 hb
        rw [List.length_append, List.length_singleton] at *
        omega
      · cases k with
        | zero => rw [loopR, List.length_append, List.length_singleton]; omega
        | succ k => rw [loopR, if_pos hb, List.length_append, List.length_singleton]; omega
theorem itemsR_le {α : Type} {enc : α → Bs} {good : α → Prop} {one : RS → α × RS} (h : Ok1 enc good one) (hne : ∀ x, 0 < (enc x).length) (s : RS) (hs : s.rest.length ≤ 1099511627776) : (itemsR one s).1.length ≤ 4611686018427387904 := by
  unfold itemsR
  have h1 := (numR_le (.inr (.inr rfl) : isEnd 91) 0 s).1
  have h2 := loopR_le h hne (numR 91 0 s).1.toNat [] (numR 91 0 s).2
  rw [List.length_nil] at h2
  simp only
  split
  · rw [List.length_nil]; omega
  · omega
section
variable {B : Base} {w : World} {σ : List Dat} {p : Nat} {s : RS}
theorem items_int_d (hB : wireD B) (hs : s.rest.length ≤ 1099511627776) : Does Tryd.prog B (rdD p s) (sCall F_wire_items_int #[ptr1 p, .func (.func F_wire_Reader_Int) #[ptr1 p] #[]]) (fun u e' τ => e' = rdD p (itemsR intR s).2 ∧ τ = [rowD T_int u ((itemsR intR s).1)]) := by
  refine Does.intro fun B' w K base h k => ?_
  replace hB := base hB
  refine wire_items_int.up (wire_items_int.call ?_)
  unfold wire_items_int.pt
  refine LETJ_intro fun J1 hJ1 => ?_
  replace hJ1 : ∀ v acc s' w', itemsR intR s = (if (closeR 93 s').bad = true then [] else acc, closeR 93 s') → s'.rest.length ≤ s.rest.length → Rel B' w' [rdD p s', rowD T_int v acc] → J1 (v, ()) w' := by
    intro v acc s' w' he hl h
    refine hJ1 _ _ ?_
    clear hJ1
    refine h.rd_ 0 rfl (fun B2 own base2 => close_d (e := 93) (by omega)) fun w2 h => ?_
    have h : Rel B' w2 [rdD p (closeR 93 s'), rowD T_int v acc] := h
    simp -zeta only [nil_ptr, field_addr f_wire_Reader_1, Nat.zero_add, h.ld 0 rfl sc_bool (o := 1) rfl]
    rw [ifB_bool]
    rw [he] at k
    refine ⟨fun c => ?_, fun c => ?_⟩
    · have h := (h.take 1).addNil Int T_int
      have h : Rel B' w2 [rdD p (closeR 93 s'), rowD T_int (.slice none 0 0) ([] : List Int)] := h
      refine k _ _ _ _ ⟨rfl, rfl⟩ ?_
      rw [if_pos c]
      exact h
    · refine k _ _ _ _ ⟨rfl, rfl⟩ ?_
      rw [if_neg (by rw [c]; decide)]
      exact h
  refine h.rd_ 0 rfl (fun B2 own base2 => number_d (e := 91) (base2 hB) (.inr (.inr rfl)) (by omega)) fun w3 h => ?_
  obtain ⟨hle, hin, h0⟩ := numR_le (.inr (.inr rfl) : isEnd 91) 0 s
  have h0 := h0 (Int.le_refl 0)
  unfold itemsR at hJ1
  generalize numR 91 0 s = q at h hJ1 hle hin h0
  obtain ⟨n, s1⟩ := q
  simp only at hle hin h0 hJ1 ⊢
  obtain ⟨m, hm⟩ : ∃ m : Nat, n = m := ⟨n.toNat, by omega⟩
  have h : Rel B' w3 [rdD p s1] := h
  have h := h.addNil Int T_int
  rw [hm] at hJ1 ⊢
  simp only [Int.toNat_natCast] at hJ1
  refine LOOP_intro (fun x w' => ∃ (j : Nat) (acc : List Int) (v : Value) (s' : RS), j ≤ m ∧ x = (v, .int .i64 j, ()) ∧ loopR intR j acc s' = loopR intR m [] s1 ∧ s'.rest.length ≤ s.rest.length ∧ (s'.bad = false → acc.length + s'.rest.length ≤ s.rest.length) ∧
      Rel B' w' [rdD p s', rowD T_int v acc]) (fun x _ => match x.2.1 with | .int _ n => n.toNat | _ => 0)
    ⟨m, [], .slice none 0 0, s1, Nat.le_refl _, rfl, rfl, hle, fun _ => by simpa using hle, h⟩ ?_
  clear h
  rintro x w4 ⟨j, acc, v, s', hj, rfl, hlp, hsl, hac, h⟩ next hnext
  simp -zeta only [bin_gtr, ifB_dec]
  refine ⟨fun hpos => ?_, fun hz => ?_⟩
  · obtain ⟨i, rfl⟩ : ∃ i, j = i + 1 := ⟨j - 1, by omega⟩
    simp -zeta only [nil_ptr, field_addr f_wire_Reader_1, Nat.zero_add, h.ld 0 rfl sc_bool (o := 1) rfl]
    rw [un_not, ifB_not, ifB_bool]
    rw [loopR] at hlp
    refine ⟨fun c => ?_, fun c => ?_⟩
    · rw [if_pos c] at hlp
      rw [← hlp] at hJ1
      exact hJ1 v acc s' w4 rfl hsl h
    · rw [if_neg (by rw [c]; decide)] at hlp
      have hac := hac c
      obtain ⟨sh1, sh2⟩ := Ok1.shrink intR_ok encI_pos c
      refine call_v ?_
      show upK Tryd.prog (sCall F_wire_Reader_Int #[ptr1 p]) w4 _
      refine h.rd_ 0 rfl (fun B2 own base2 => rInt_d (base2 hB) (by omega)) fun w5 h => ?_
      have h : Rel B' w5 [rdD p (intR s').2, rowD T_int v acc] := h
      refine h.push1 (α := Int) 1 rfl ((intR s').1) sl_s_int (by decide) (by omega) (by omega) fun v2 w7 h => ?_
      have h : Rel B' w7 [rdD p (intR s').2, rowD T_int v2 (acc ++ [((intR s').1)])] := h
      rw [bin_sub, wrap_id (by omega) (by omega)]
      have e1 : (((i + 1 : Nat) : Int) - 1) = (i : Int) := by omega
      rw [e1]
      refine hnext _ _ ⟨i, acc ++ [(intR s').1], v2, (intR s').2, by omega, rfl, hlp, by omega, fun hb => ?_, ?_⟩ (by simp only; omega)
      · have := sh2 hb
        rw [List.length_append, List.length_singleton]
        omega
      · have e2 : (acc ++ [(intR s').1]) = acc ++ [((intR s').1)] := rfl
        rw [e2]
        exact h
  · obtain rfl : j = 0 := by omega
    rw [loopR] at hlp
    rw [← hlp] at hJ1
    exact hJ1 v acc s' w4 rfl hsl h
theorem rNums_d (hB : wireD B) (hs : s.rest.length ≤ 1099511627776) : Does Tryd.prog B (rdD p s) (sCall F_wire_Reader_Nums #[ptr1 p]) (fun u e' τ => e' = rdD p (itemsR intR s).2 ∧ τ = [rowD T_int u ((itemsR intR s).1)]) := by
  refine Does.intro fun B' w K base h k => ?_
  refine wire_Reader_Nums.up (wire_Reader_Nums.call ?_)
  unfold wire_Reader_Nums.pt
  rw [mk_func]
  refine h.act 0 rfl (fun B2 own base2 => items_int_d (base2 (base hB)) hs) fun u e' τ w1 hp h => ?_
  exact k _ _ _ _ hp h
end
end Go.Proofs.YtppnebcpalialaaDoor
