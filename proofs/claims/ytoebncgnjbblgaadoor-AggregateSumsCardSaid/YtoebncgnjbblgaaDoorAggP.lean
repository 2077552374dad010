/-
  Totals: the rows' nets, all taken back. No condition.
-/
import Derived.Test.YtoebncgnjbblgaaDoorAggY
--@auto
namespace Go.Proofs.YtoebncgnjbblgaaDoor
open Go.RowKit
set_option maxRecDepth 100000

theorem SameT.refl (L : List Chg) : SameT L L := fun _ => rfl
theorem SameT.symm {L M : List Chg} (h : SameT L M) : SameT M L := fun f => (h f).symm
theorem SameT.trans {L M K : List Chg} (h : SameT L M) (h' : SameT M K) : SameT L K := fun f => (h f).trans (h' f)
def netM (C : List Chg) (D : List (List ValD)) : List Chg := D.map fun r => (r, W64 (tot C (fRow r)))
theorem pick_sum {r0 : List ValD} {n : Int} {f : List ValD → Int} : ∀ {D : List (List ValD)}, D.Nodup → (D.map fun r => n * fRow r r0 * f r).sum = if r0 ∈ D then n * f r0 else 0
  | [], _ => by simp
  | r :: D, h => by
    obtain ⟨h1, h2⟩ := List.nodup_cons.1 h
    rw [List.map_cons, List.sum_cons, pick_sum h2]
    unfold fRow
    by_cases e : r0 = r
    · subst e
      rw [if_pos rfl, if_neg h1, if_pos List.mem_cons_self, Int.mul_one]
      omega
    · rw [if_neg e, Int.mul_zero, Int.zero_mul]
      by_cases m : r0 ∈ D
      · rw [if_pos m, if_pos (List.mem_cons_of_mem _ m)]; omega
      · rw [if_neg m, if_neg (fun hh => (List.mem_cons.1 hh).elim e m)]; omega
theorem net_sum {f : List ValD → Int} {D : List (List ValD)} (hD : D.Nodup) : ∀ {C : List Chg}, (∀ p ∈ C, p.1 ∈ D) → (D.map fun r => tot C (fRow r) * f r).sum = tot C f
  | [], _ => by
    rw [tot_nil]
    clear hD
    induction D with
    | nil => rfl
    | cons a l ih => rw [List.map_cons, List.sum_cons, tot_nil, Int.zero_mul, ih fun p hp => by cases hp]; rfl
  | p :: C, h => by
    have ih := net_sum (f := f) hD (C := C) fun q hq => h q (List.mem_cons_of_mem _ hq)
    have hs : (D.map fun r => tot (p :: C) (fRow r) * f r).sum = (D.map fun r => p.2 * fRow r p.1 * f r).sum + (D.map fun r => tot C (fRow r) * f r).sum := by
      clear ih h hD
      induction D with
      | nil => rfl
      | cons a l ih =>
        simp only [List.map_cons, List.sum_cons]
        rw [ih, tot_cons, Int.add_mul]
        omega
    rw [hs, ih, pick_sum hD, if_pos (h p List.mem_cons_self), tot_cons]
theorem netM_tot (C : List Chg) (f : List ValD → Int) : ∀ D : List (List ValD), W64 (tot (netM C D) f) = W64 ((D.map fun r => tot C (fRow r) * f r).sum)
  | [] => rfl
  | r :: D => by
    show W64 (tot ((r, W64 (tot C (fRow r))) :: netM C D) f) = _
    rw [tot_cons, List.map_cons, List.sum_cons]
    exact W_cong (W_mull _ _) (netM_tot C f D)
theorem netM_same {C : List Chg} {D : List (List ValD)} (hD : D.Nodup) (h : ∀ p ∈ C, p.1 ∈ D) : SameT (netM C D) C := fun f => by rw [netM_tot, net_sum hD h]
/-- The rows that come first, from the end on. -/
def dRows (C : List Chg) : Nat → List (List ValD)
  | 0 => []
  | k + 1 => dRows C k ++ (match C[C.length - 1 - k]? with
    | some p => if isFirst C (C.length - 1 - k) then [p.1] else []
    | none => [])
theorem dRows_inv (C : List Chg) : ∀ k, k ≤ C.length → (dRows C k).Nodup ∧ (∀ r ∈ dRows C k, ∃ i, C.length - k ≤ i ∧ (C[i]?).map (·.1) = some r ∧ isFirst C i = true) ∧ ∀ i, C.length - k ≤ i → i < C.length → isFirst C i = true → ∀ r, (C[i]?).map (·.1) = some r → r ∈ dRows C k
  | 0, _ => ⟨List.nodup_nil, fun _ hr => absurd hr List.not_mem_nil, fun _ _ _ => by omega⟩
  | k + 1, hk => by
    obtain ⟨h1, h2, h3⟩ := dRows_inv C k (by omega)
    have hi : C.length - 1 - k < C.length := by omega
    have hp : C[C.length - 1 - k]? = some C[C.length - 1 - k] := List.getElem?_eq_getElem hi
    have hd : dRows C (k + 1) = dRows C k ++ (if isFirst C (C.length - 1 - k) then [C[C.length - 1 - k].1] else []) := by
      show dRows C k ++ _ = _
      rw [hp]
    rw [hd]
    by_cases c : isFirst C (C.length - 1 - k) = true
    · rw [if_pos c]
      refine ⟨?_, ?_, ?_⟩
      · refine List.nodup_append.2 ⟨h1, by simp, fun a ha b hb e => ?_⟩
        rw [List.mem_singleton] at hb
        subst hb
        obtain ⟨i, i1, i2, i3⟩ := h2 a ha
        have := of_decide_eq_true i3 (C.length - 1 - k) (by omega)
        rw [hp, i2, e] at this
        exact this rfl
      · intro r hr
        rcases List.mem_append.1 hr with hr | hr
        · obtain ⟨i, i1, i2⟩ := h2 r hr; exact ⟨i, by omega, i2⟩
        · rw [List.mem_singleton] at hr
          subst hr
          exact ⟨C.length - 1 - k, by omega, by rw [hp]; rfl, c⟩
      · intro i i1 i2 i3 r hr
        by_cases e : i = C.length - 1 - k
        · subst e
          rw [hp] at hr
          have hr : C[C.length - 1 - k].1 = r := by simpa using hr
          exact List.mem_append_right _ (by rw [← hr]; simp)
        · exact List.mem_append_left _ (h3 i (by omega) i2 i3 r hr)
    · rw [if_neg c, List.append_nil]
      refine ⟨h1, fun r hr => ?_, fun i i1 i2 i3 r hr => ?_⟩
      · obtain ⟨i, i1, i2⟩ := h2 r hr; exact ⟨i, by omega, i2⟩
      · by_cases e : i = C.length - 1 - k
        · subst e; exact absurd i3 c
        · exact h3 i (by omega) i2 i3 r hr
theorem dRows_cover (C : List Chg) : ∀ p ∈ C, p.1 ∈ dRows C C.length := by
  obtain ⟨_, _, h3⟩ := dRows_inv C C.length (Nat.le_refl _)
  have main : ∀ m i, i ≤ m → i < C.length → ∀ r, (C[i]?).map (·.1) = some r → r ∈ dRows C C.length := by
    intro m
    induction m with
    | zero =>
      intro i hi hl r hr
      have : i = 0 := by omega
      subst this
      exact h3 0 (by omega) hl (decide_eq_true fun j hj => by omega) r hr
    | succ m ih =>
      intro i hi hl r hr
      by_cases c : isFirst C i = true
      · exact h3 i (by omega) hl c r hr
      · have c : ¬ ∀ j : Nat, j < i → (C[j]?).map (·.1) ≠ (C[i]?).map (·.1) := fun hh => c (decide_eq_true hh)
        obtain ⟨j, hj⟩ := Classical.not_forall.1 c
        obtain ⟨h1, h2⟩ := Classical.not_imp.1 hj
        have h2 := Classical.not_not.1 h2
        exact ih j (by omega) (by omega) r (by rw [h2]; exact hr)
  intro p hp
  obtain ⟨i, hi, rfl⟩ := List.getElem_of_mem hp
  exact main i i (Nat.le_refl _) hi _ (by rw [List.getElem?_eq_getElem hi]; rfl)
theorem nets_same (C : List Chg) : SameT (netM C (dRows C C.length)) C := netM_same (dRows_inv C C.length (Nat.le_refl _)).1 (dRows_cover C)
/-- Taken back. -/
def negC (C : List Chg) : List Chg := C.map fun p => (p.1, W64 (0 - p.2))
theorem negC_tot (f : List ValD → Int) : ∀ C : List Chg, W64 (tot (negC C) f) = W64 (0 - tot C f)
  | [] => rfl
  | p :: C => by
    show W64 (tot ((p.1, W64 (0 - p.2)) :: negC C) f) = _
    rw [tot_cons, tot_cons, show 0 - (p.2 * f p.1 + tot C f) = (0 - p.2) * f p.1 + (0 - tot C f) by rw [Int.sub_mul]; omega]
    exact W_cong (W_mull _ _) (negC_tot f C)
theorem neg_same (C : List Chg) : SameT (C ++ negC C) [] := fun f => by
  rw [tot_append, tot_nil, ← W_addr, negC_tot, W_addr, show tot C f + (0 - tot C f) = 0 by omega]
theorem ch_open {W : World} : ∀ {l : List ChD}, (∀ a ∈ l, ok_erratalaw30_Change W a) → ∃ L : ChL, raws L = l ∧ chR L (lawB W) ∧ ∀ p ∈ L, p.2.length ≤ maxLen ∧ (∀ x ∈ p.2, ok_api_Value W x) ∧ okInt W p.1.n
  | [], _ => ⟨[], rfl, fun p hp => (by cases hp), fun p hp => by cases hp⟩
  | a :: l, h => by
    obtain ⟨L, h1, h2, h3⟩ := ch_open (l := l) fun b hb => h b (List.mem_cons_of_mem _ hb)
    obtain ⟨⟨r, r1, r2, r3⟩, hn⟩ := h a List.mem_cons_self
    refine ⟨(a, r) :: L, by rw [← h1]; rfl, fun p hp => ?_, fun p hp => ?_⟩
    · rcases List.mem_cons.1 hp with rfl | hp
      · exact r1
      · exact h2 p hp
    · rcases List.mem_cons.1 hp with rfl | hp
      · exact ⟨r2, r3, hn⟩
      · exact h3 p hp
theorem keyOk_of {W : World} {u : ValD} (h : ok_api_Value W u) (hr : vRight u = true) : KeyOk u := by
  obtain ⟨h1, h2, h3⟩ := h
  have hs : u.s.size ≤ 200 := by
    unfold vRight at hr
    split at hr
    · have := of_decide_eq_true hr
      rw [this]
      exact Nat.zero_le _
    · split at hr
      · rw [Bool.and_eq_true, decide_eq_true_eq, decide_eq_true_eq] at hr
        omega
      · rw [Bool.or_eq_true, decide_eq_true_eq, decide_eq_true_eq] at hr
        rcases hr with hr | hr <;> (rw [hr]; exact Nat.zero_le _)
  have hl : (bl u.s).length ≤ 200 := hs
  exact ⟨⟨h1, h2, by omega⟩, by omega⟩
theorem few_rows {W : World} {L : ChL} (h : fewS (chs L) = true) (hq : ∀ p ∈ L, p.2.length ≤ maxLen ∧ (∀ x ∈ p.2, ok_api_Value W x) ∧ okInt W p.1.n) : L.length ≤ 40 ∧ ∀ p ∈ L, RowOk p.2 ∧ p.2.length ≤ 5 := by
  unfold fewS at h
  rw [Bool.and_eq_true, decide_eq_true_eq, chs_len, List.all_eq_true] at h
  refine ⟨by omega, fun p hp => ?_⟩
  have := h.1 (p.2, p.1.n) (List.mem_map.2 ⟨p, hp, rfl⟩)
  rw [Bool.and_eq_true, decide_eq_true_eq, List.all_eq_true] at this
  obtain ⟨h1, h2⟩ := this
  have h1 : (p.2.length : Int) ≤ 5 := h1
  exact ⟨fun u hu => keyOk_of ((hq p hp).2.1 u hu) (h2 u hu), by omega⟩
end Go.Proofs.YtoebncgnjbblgaaDoor
