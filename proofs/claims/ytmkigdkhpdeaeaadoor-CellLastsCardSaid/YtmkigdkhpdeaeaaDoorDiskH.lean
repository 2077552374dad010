/-
  DiskSurvives. No condition.
-/
import Derived.Test.YtmkigdkhpdeaeaaDoorDiskG
namespace Go.Proofs.YtmkigdkhpdeaeaaDoor
open Go.RowKit

theorem ext_getD {l m : List UInt8} (h : l.length = m.length) (hi : ∀ i, i < l.length → l.getD i 0 = m.getD i 0) : l = m := by
  refine List.ext_getElem h fun i h1 h2 => ?_
  have := hi i h1
  simp only [List.getD_eq_getElem?_getD, List.getElem?_eq_getElem h1, List.getElem?_eq_getElem h2] at this
  exact this
theorem getD_of {l : List UInt8} {i : Nat} (h : i < l.length) : l.getD i 0 = l[i] := by
  rw [List.getD_eq_getElem?_getD, List.getElem?_eq_getElem h]; rfl
theorem getD_out {l : List UInt8} {i : Nat} (h : l.length ≤ i) : l.getD i 0 = 0 := by
  rw [List.getD_eq_getElem?_getD, List.getElem?_eq_none h]; rfl

/-- Sector n of the file survives among the first k pending ones. -/
def Sv (keep : List Int) (qs : List Sec) (f : Int) (N : Nat) (k n : Nat) : Prop := ∃ j, j < k ∧ qs.getD j ⟨0, 0⟩ = ⟨f, (n : Int)⟩ ∧ keep ≠ [] ∧ keep.getD (j % keep.length) 0 % 2 ≠ 0 ∧ 64 * n < N
structure SvI (last now R : ByteArray) (Q : Nat → Prop) : Prop where
  ge : last.size ≤ R.size
  le : R.size ≤ now.size
  new : ∀ n, Q n → (∀ i, 64 * n ≤ i → i < 64 * n + 64 → i < now.size → (bl R).getD i 0 = (bl now).getD i 0) ∧ min (64 * n + 64) now.size ≤ R.size
  old : ∀ n, ¬ Q n → ∀ i, 64 * n ≤ i → i < 64 * n + 64 → (bl R).getD i 0 = (bl last).getD i 0
theorem part_get {now : ByteArray} {n j : Nat} (hj : j < (partB now n).size) : (bl (partB now n)).getD j 0 = (bl now).getD (n + j) 0 := by
  have hs := partB_size (now := now) (n := n)
  have hb := bl_length now
  unfold partB
  show (((bl now).take (min (n + 64) now.size)).drop n).getD j 0 = _
  simp only [List.getD_eq_getElem?_getD]
  rw [List.getElem?_drop, List.getElem?_take, if_pos (by omega)]
theorem surv_char {keep : List Int} {qs : List Sec} {fs : Int → FileV} {f : Int} (h1 : ∀ f, (fs f).now.size ≤ 16777216) (h2 : ∀ f, (fs f).last.size ≤ 16777216) (hle : (fs f).last.size ≤ (fs f).now.size) (hq : ∀ q ∈ qs, 0 ≤ q.number) :
    ∀ k, k ≤ qs.length → SvI (fs f).last (fs f).now (survN keep qs fs k f).last (Sv keep qs f (fs f).now.size k) := by
  intro k
  induction k with
  | zero =>
    intro _
    exact ⟨Nat.le_refl _, hle, fun n ⟨j, hj, _⟩ => absurd hj (Nat.not_lt_zero j), fun n _ i _ _ => rfl⟩
  | succ k ih =>
    intro hk
    have ih := ih (by omega)
    have hnow := (surv_keeps (keep := keep) (qs := qs) h1 h2 k).1 f
    have hgd : qs.getD k ⟨0, 0⟩ = qs[k]'(by omega) := by rw [List.getD_eq_getElem?_getD, List.getElem?_eq_getElem (by omega)]; rfl
    have hnum : 0 ≤ (qs.getD k ⟨0, 0⟩).number := by rw [hgd]; exact hq _ (List.getElem_mem _)
    -- if nothing is put, nothing is new
    have keepIt : (survN keep qs fs (k + 1) f).last = (survN keep qs fs k f).last → (∀ n : Nat, qs.getD k ⟨0, 0⟩ = ⟨f, (n : Int)⟩ → keep ≠ [] → keep.getD (k % keep.length) 0 % 2 ≠ 0 → 64 * n < (fs f).now.size → False) → SvI (fs f).last (fs f).now (survN keep qs fs (k + 1) f).last (Sv keep qs f (fs f).now.size (k + 1)) := by
      intro e hno
      rw [e]
      have hiff : ∀ n, Sv keep qs f (fs f).now.size (k + 1) n ↔ Sv keep qs f (fs f).now.size k n := by
        intro n
        constructor
        · rintro ⟨j, hj, a1, a2, a3, a4⟩
          by_cases ejk : j = k
          · subst ejk; exact (hno n a1 a2 a3 a4).elim
          · exact ⟨j, by omega, a1, a2, a3, a4⟩
        · rintro ⟨j, hj, a⟩
          exact ⟨j, by omega, a⟩
      exact ⟨ih.ge, ih.le, fun n hn => ih.new n ((hiff n).1 hn), fun n hn => ih.old n fun h => hn ((hiff n).2 h)⟩
    have hstep : survN keep qs fs (k + 1) = survS keep k (qs.getD k ⟨0, 0⟩) (survN keep qs fs k) := rfl
    generalize hqk : qs.getD k ⟨0, 0⟩ = q at hnum keepIt hstep
    rw [hstep] at keepIt ⊢
    unfold survS at keepIt ⊢
    by_cases c1 : keep = []
    · rw [if_pos c1] at keepIt ⊢
      exact keepIt rfl fun n _ h => absurd c1 h
    rw [if_neg c1] at keepIt ⊢
    by_cases c2 : keep.getD (k % keep.length) 0 % 2 = 0
    · rw [if_pos c2] at keepIt ⊢
      exact keepIt rfl fun n _ _ h => absurd c2 h
    rw [if_neg c2] at keepIt ⊢
    by_cases c3 : ((survN keep qs fs k) q.file).now.size ≤ 64 * q.number.toNat
    · rw [if_pos c3] at keepIt ⊢
      refine keepIt rfl fun n e _ _ h => ?_
      rw [e] at c3
      have c3 : ((survN keep qs fs k) f).now.size ≤ 64 * (n : Int).toNat := c3
      rw [hnow] at c3
      omega
    rw [if_neg c3] at keepIt ⊢
    by_cases c4 : q.file = f
    · obtain ⟨n0, hn0⟩ : ∃ n0 : Nat, q.number = n0 := ⟨q.number.toNat, by omega⟩
      have hq0 : q = ⟨f, (n0 : Int)⟩ := by rw [← c4, ← hn0]
      clear keepIt
      subst hq0
      show SvI _ _ (upd _ f _ f).last _
      rw [upd_same]
      show SvI _ _ (putB ((survN keep qs fs k) f).last (64 * (n0 : Int).toNat) (partB ((survN keep qs fs k) f).now (64 * (n0 : Int).toNat))) _
      have c3 : ¬ ((survN keep qs fs k) f).now.size ≤ 64 * (n0 : Int).toNat := c3
      rw [hnow, Int.toNat_natCast] at c3
      rw [hnow, Int.toNat_natCast]
      generalize hN : (fs f).now = N at *
      generalize hR : ((survN keep qs fs k) f).last = R at *
      have hps := partB_size (now := N) (n := 64 * n0)
      have hne : ¬ partB N (64 * n0) = ⟨#[]⟩ := fun e => by
        have e2 : (partB N (64 * n0)).size = 0 := by rw [e]; rfl
        omega
      have hsz := putB_size (s := R) (t := partB N (64 * n0)) (at_ := 64 * n0)
      rw [if_neg hne] at hsz
      have hget : ∀ i, (bl (putB R (64 * n0) (partB N (64 * n0)))).getD i 0 = if 64 * n0 ≤ i ∧ i < 64 * n0 + (partB N (64 * n0)).size then (bl N).getD i 0 else (bl R).getD i 0 := by
        intro i
        unfold putB
        rw [if_neg hne, bl_ofL, putL_get, bl_length]
        split
        · rename_i hc
          rw [part_get (by omega)]
          congr 1
          omega
        · rfl
      have hself : Sv keep qs f N.size (k + 1) n0 := ⟨k, by omega, hqk, c1, c2, by omega⟩
      have hge := ih.ge
      have hle' := ih.le
      refine ⟨by omega, by omega, fun n hn => ?_, fun n hn i hi1 hi2 => ?_⟩
      · by_cases e : n = n0
        · subst e
          refine ⟨fun i hi1 hi2 hi3 => ?_, by omega⟩
          rw [hget, if_pos (by omega)]
        · obtain ⟨j, hj, a1, a2, a3, a4⟩ := hn
          have hjk : j ≠ k := by
            rintro rfl
            rw [hqk] at a1
            injection a1 with _ a1
            omega
          obtain ⟨b1, b2⟩ := ih.new n ⟨j, by omega, a1, a2, a3, a4⟩
          refine ⟨fun i hi1 hi2 hi3 => ?_, by omega⟩
          rw [hget, if_neg (by omega)]
          exact b1 i hi1 hi2 hi3
      · have e : n ≠ n0 := fun e => hn (e ▸ hself)
        rw [hget, if_neg (by omega)]
        exact ih.old n (fun ⟨j, hj, a⟩ => hn ⟨j, by omega, a⟩) i hi1 hi2
    · have e1 : ∀ x, (upd (survN keep qs fs k) q.file x f) = survN keep qs fs k f := fun x => upd_ne fun e => c4 e.symm
      rw [e1] at keepIt ⊢
      refine keepIt rfl fun n e _ _ _ => ?_
      rw [e] at c4
      exact c4 rfl

/-! ### What is durable, and what is pending -/
structure PI (fs : Int → FileV) (qs : List Sec) : Prop where
  le : ∀ f, (fs f).last.size ≤ (fs f).now.size
  eq : ∀ f (i : Nat), (⟨f, ((i / 64 : Nat) : Int)⟩ : Sec) ∈ qs ∨ (bl (fs f).last).getD i 0 = (bl (fs f).now).getD i 0
  len : ∀ f, (fs f).now.size = (fs f).last.size ∨ (0 < (fs f).now.size ∧ (⟨f, ((((fs f).now.size - 1) / 64 : Nat) : Int)⟩ : Sec) ∈ qs)
abbrev PIs (s : DS) : Prop := PI s.fs s.queue
theorem PI.new : PIs newS := ⟨fun _ => Nat.le_refl _, fun _ _ => .inr rfl, fun _ => .inl rfl⟩
theorem PI.flat (g : Int → ByteArray) : PI (fun f => ⟨g f, g f⟩) [] := ⟨fun _ => Nat.le_refl _, fun _ _ => .inr rfl, fun _ => .inl rfl⟩
theorem PI.add {s : DS} (h : PIs s) (f : Int) (a : Nat) (t : ByteArray) : PIs (addS s f a t) := by
  unfold addS
  split
  · exact h
  · rename_i ht
    have hpos := size_pos ht
    have hsz := putB_size (s := (s.fs f).now) (t := t) (at_ := a)
    rw [if_neg ht] at hsz
    refine ⟨fun g => ?_, fun g i => ?_, fun g => ?_⟩
    · show (upd s.fs f _ g).last.size ≤ (upd s.fs f _ g).now.size
      unfold upd
      split
      · show (s.fs f).last.size ≤ (putB _ _ _).size
        have := h.le f
        omega
      · exact h.le g
    · show _ ∈ addQ f s.queue (secs a t.size) ∨ (bl (upd s.fs f _ g).last).getD i 0 = (bl (upd s.fs f _ g).now).getD i 0
      by_cases e : g = f
      · subst e
        by_cases hin : a / 64 ≤ i / 64 ∧ i / 64 ≤ (a + t.size - 1) / 64
        · exact .inl (addQ_mem.2 (.inr ⟨i / 64, (secs_mem hpos).2 hin, rfl⟩))
        · rcases h.eq g i with h1 | h1
          · exact .inl (addQ_mem.2 (.inl h1))
          · right
            rw [upd_same]
            show (bl (s.fs g).last).getD i 0 = (bl (putB _ _ _)).getD i 0
            unfold putB
            rw [if_neg ht, bl_ofL, putL_get, bl_length, if_neg (by omega)]
            exact h1
      · rw [upd_ne e]
        rcases h.eq g i with h1 | h1
        · exact .inl (addQ_mem.2 (.inl h1))
        · exact .inr h1
    · show (upd s.fs f _ g).now.size = (upd s.fs f _ g).last.size ∨ (0 < (upd s.fs f _ g).now.size ∧ (⟨g, ((((upd s.fs f _ g).now.size - 1) / 64 : Nat) : Int)⟩ : Sec) ∈ addQ f s.queue (secs a t.size))
      by_cases e : g = f
      · subst e
        rw [upd_same]
        show (putB _ _ _).size = (s.fs g).last.size ∨ (0 < (putB _ _ _).size ∧ _)
        by_cases hgrow : (s.fs g).now.size < a + t.size
        · right
          refine ⟨by omega, addQ_mem.2 (.inr ⟨(a + t.size - 1) / 64, (secs_mem hpos).2 ⟨by omega, Nat.le_refl _⟩, ?_⟩)⟩
          congr 3
          show (putB _ _ _).size - 1 = _
          omega
        · have e2 : (putB (s.fs g).now a t).size = (s.fs g).now.size := by omega
          rcases h.len g with h1 | ⟨h1, h2⟩
          · left; omega
          · right
            refine ⟨by omega, addQ_mem.2 (.inl ?_)⟩
            show (⟨g, ((((putB (s.fs g).now a t).size - 1) / 64 : Nat) : Int)⟩ : Sec) ∈ s.queue
            rw [e2]
            exact h2
      · rw [upd_ne e]
        exact (h.len g).imp id fun ⟨h1, h2⟩ => ⟨h1, addQ_mem.2 (.inl h2)⟩
theorem PI.write {s : DS} (h : PIs s) (f a : Int) (t : ByteArray) : PIs (writeW s f a t) := by unfold writeW; split; exact PI.add h _ _ _; exact h
theorem PI.crash {s : DS} (h : PIs s) (keep : List Int) : PIs (crashS s keep) := by
  unfold crashS
  split
  · exact h
  · exact PI.flat _
theorem PI.ends {s : DS} (h : PIs s) : PIs (endsS s) := by unfold endsS; split <;> exact h
theorem PI.come {s : DS} (h : PIs s) : PIs (comeS s) := by unfold comeS; split; exact PI.crash (PI.ends h) _; exact PI.ends h
theorem PI.settle {s : DS} (h : PIs s) (f : Int) (x : ByteArray) : PIs (settleS s f x) := by
  refine ⟨fun g => ?_, fun g i => ?_, fun g => ?_⟩
  · show (upd s.fs f _ g).last.size ≤ (upd s.fs f _ g).now.size
    unfold upd
    split
    · exact Nat.le_refl _
    · exact h.le g
  · show _ ∈ s.queue.filter _ ∨ (bl (upd s.fs f _ g).last).getD i 0 = (bl (upd s.fs f _ g).now).getD i 0
    by_cases e : g = f
    · subst e; right; rw [upd_same]
    · rw [upd_ne e]
      exact (h.eq g i).imp (fun h => List.mem_filter.2 ⟨h, by simp [e]⟩) id
  · show (upd s.fs f _ g).now.size = (upd s.fs f _ g).last.size ∨ (0 < (upd s.fs f _ g).now.size ∧ (⟨g, ((((upd s.fs f _ g).now.size - 1) / 64 : Nat) : Int)⟩ : Sec) ∈ s.queue.filter _)
    by_cases e : g = f
    · subst e; left; rw [upd_same]
    · rw [upd_ne e]
      exact (h.len g).imp id fun ⟨h1, h2⟩ => ⟨h1, List.mem_filter.2 ⟨h2, by simp [e]⟩⟩
/-- Everything survives: the file is what it was. -/
theorem surv_all {s : DS} (hP : PIs s) (hok : DOk s) (f : Int) : (survN [1] s.queue s.fs s.queue.length f).last = (s.fs f).now := by
  have hc := surv_char (keep := [1]) hok.now hok.last (hP.le f) (fun q hq => (hok.q q hq).2.1) s.queue.length (Nat.le_refl _)
  have pend : ∀ n : Nat, (⟨f, (n : Int)⟩ : Sec) ∈ s.queue → 64 * n < (s.fs f).now.size → Sv [1] s.queue f (s.fs f).now.size s.queue.length n := by
    intro n hn hlt
    obtain ⟨j, hj, e⟩ := List.getElem_of_mem hn
    refine ⟨j, hj, by rw [List.getD_eq_getElem?_getD, List.getElem?_eq_getElem hj]; exact e, by decide, ?_, hlt⟩
    have : j % ([1] : List Int).length = 0 := Nat.mod_one j
    rw [this]
    decide
  refine bl_inj (ext_getD ?_ fun i hi => ?_)
  · rw [bl_length, bl_length]
    refine Nat.le_antisymm hc.le ?_
    rcases hP.len f with h | ⟨h1, h2⟩
    · rw [h]; exact hc.ge
    · have := (hc.new _ (pend _ h2 (by omega))).2
      omega
  · rw [bl_length] at hi
    have hi' := Nat.lt_of_lt_of_le hi hc.le
    rcases hP.eq f i with h | h
    · exact (hc.new _ (pend _ h (by omega))).1 i (by omega) (by omega) hi'
    · by_cases hq : Sv [1] s.queue f (s.fs f).now.size s.queue.length (i / 64)
      · exact (hc.new _ hq).1 i (by omega) (by omega) hi'
      · rw [hc.old _ hq i (by omega) (by omega)]
        exact h

theorem u8_eql {P : Program} {Kp : Value → Prop} {T : TypeId} {xo yo : Operand} {x y : UInt8} : pureK P (sBin .eql T xo yo (.int .u8 x.toNat) (.int .u8 y.toNat)) Kp = Kp (.bool (decide (x = y))) := by
  rw [bin_eql]
  congr 2
  refine decide_eq_decide.2 ⟨fun h => ?_, fun h => by rw [h]⟩
  exact UInt8.toNat_inj.1 (by omega)

end Go.Proofs.YtmkigdkhpdeaeaaDoor
