/-
  DiskSurvives. No condition.
-/
import Derived.Test.YtoldlajahoodjaaDiskG
namespace Go.Proofs.Ytoldlajahoodjaa
open Go.RowKit

theorem ext_getD {l m : List UInt8} (h : l.length = m.length) (hi : ∀ i, i < l.length → l.getD i 0 = m.getD i 0) : l = m := by
  refine List.ext_getElem h fun i h1 h2 => ?_
  have := hi i h1
  simp only [List.getD_eq_getElem?_getD, List.getElem?_eq_getElem h1, List.getElem?_eq_getElem h2] at this
  exact this
theorem getD_of {l : List UInt8} {i : Nat} (h : i < l.length) : l.getD i 0 = l[i] := by
  rw [List.getD_eq_getElem?_getD, List.getElem?_eq_getElem h]; rfl
theorem getD_out {l : List UInt8} {i : Nat} (h : l.length ≤ i) : l.getD i 0 = 0 := by
  rw [List.getD_eq_getElem?_getD, List.getElem?_eq_none h]; rfl

/-- Sector n of the file survives among the first k pending ones. -/
def Sv (keep : List Int) (qs : List Sec) (f : Int) (N : Nat) (k n : Nat) : Prop := ∃ j, j < k ∧ qs.getD j ⟨0, 0⟩ = ⟨f, (n : Int)⟩ ∧ keep ≠ [] ∧ keep.getD (j % keep.length) 0 % 2 ≠ 0 ∧ 64 * n < N
structure SvI (last now R : ByteArray) (Q : Nat → Prop) : Prop where
  ge : last.size ≤ R.size
  le : R.size ≤ now.size
  new : ∀ n, Q n → (∀ i, 64 * n ≤ i → i < 64 * n + 64 → i < now.size → (bl R).getD i 0 = (bl now).getD i 0) ∧ min (64 * n + 64) now.size ≤ R.size
  old : ∀ n, ¬ Q n → ∀ i, 64 * n ≤ i → i < 64 * n + 64 → (bl R).getD i 0 = (bl last).getD i 0
theorem part_get {now : ByteArray} {n j : Nat} (hj : j < (partB now n).size) : (bl (partB now n)).getD j 0 = (bl now).getD (n + j) 0 := by
  have hs := partB_size (now := now) (n := n)
  have hb := bl_length now
  unfold partB
  show (((bl now).take (min (n + 64) now.size)).drop n).getD j 0 = _
  simp only [List.getD_eq_getElem?_getD]
  rw [List.getElem?_drop, List.getElem?_take, if_pos (by omega)]
theorem surv_char {keep : List Int} {qs : List Sec} {fs : Int → FileV} {f : Int} (h1 : ∀ f, (fs f).now.size ≤ 16777216) (h2 : ∀ f, (fs f).last.size ≤ 16777216) (hle : (fs f).last.size ≤ (fs f).now.size) (hq : ∀ q ∈ qs, 0 ≤ q.number) :
    ∀ k, k ≤ qs.length → SvI (fs f).last (fs f).now (survN keep qs fs k f).last (Sv keep qs f (fs f).now.size k) := by
  intro k
  induction k with
  | zero =>
    intro _
    exact ⟨Nat.le_refl _, hle, fun n ⟨j, hj, _⟩ => absurd hj (Nat.not_lt_zero j), fun n _ i _ _ => rfl⟩
  | succ k ih =>
    intro hk
    have ih := ih (by omega)
    have hnow := (surv_keeps (keep := keep) (qs := qs) h1 h2 k).1 f
    have hgd : qs.getD k ⟨0, 0⟩ = qs[k]'(by omega) := by rw [List.getD_eq_getElem?_getD, List.getElem?_eq_getElem (by omega)]; rfl
    have hnum : 0 ≤ (qs.getD k ⟨0, 0⟩).number := by rw [hgd]; exact hq _ (List.getElem_mem _)
    -- if nothing is put, nothing is new
    have keepIt : (survN keep qs fs (k + 1) f).last = (survN keep qs fs k f).last → (∀ n : Nat, qs.getD k ⟨0, 0⟩ = ⟨f, (n : Int)⟩ → keep ≠ [] → keep.getD (k % keep.length) 0 % 2 ≠ 0 → 64 * n < (fs f).now.size → False) → SvI (fs f).last (fs f).now (survN keep qs fs (k + 1) f).last (Sv keep qs f (fs f).now.size (k + 1)) := by
      intro e hno
      rw [e]
      have hiff : ∀ n, Sv keep qs f (fs f).now.size (k + 1) n ↔ Sv keep qs f (fs f).now.size k n := by
        intro n
        constructor
        · rintro ⟨j, hj, a1, a2, a3, a4⟩
          by_cases ejk : j = k
          · subst ejk; exact (hno n a1 a2 a3 a4).elim
          · exact ⟨j, by omega, a1, a2, a3, a4⟩
        · rintro ⟨j, hj, a⟩
          exact ⟨j, by omega, a⟩
      exact ⟨ih.ge, ih.le, fun n hn => ih.new n ((hiff n).1 hn), fun n hn => ih.old n fun h => hn ((hiff n).2 h)⟩
    have hstep : survN keep qs fs (k + 1) = survS keep k (qs.getD k ⟨0, 0⟩) (survN keep qs fs k) := rfl
    generalize hqk : qs.getD k ⟨0, 0⟩ = q at hnum keepIt hstep
    rw [hstep] at keepIt ⊢
    unfold survS at keepIt ⊢
    by_cases c1 : keep = []
    · rw [if_pos c1] at keepIt ⊢
      exact keepIt rfl fun n _ h => absurd c1 h
    rw [if_neg c1] at keepIt ⊢
    by_cases c2 : keep.getD (k % keep.length) 0 % 2 = 0
    · rw [if_pos c2] at keepIt ⊢
      exact keepIt rfl fun n _ _ h => absurd c2 h
    rw [if_neg c2] at keepIt ⊢
    by_cases c3 : ((survN keep qs fs k) q.file).now.size ≤ 64 * q.number.toNat
    · rw [if_pos c3] at keepIt ⊢
      refine keepIt rfl fun n e _ _ h => ?_
      rw [e] at c3
      have c3 : ((survN keep qs fs k) f).now.size ≤ 64 * (n : Int).toNat := c3
      rw [hnow] at c3
      omega
    rw [if_neg c3] at keepIt ⊢
    by_cases c4 : q.file = f
    · obtain ⟨n0, hn0⟩ : ∃ n0 : Nat, q.number = n0 := ⟨q.number.toNat, by omega⟩
      have hq0 : q = ⟨f, (n0 : Int)⟩ := by rw [← c4, ← hn0]
      clear keepIt
      subst hq0
      show SvI _ _ (upd _ f _ f).last _
      rw [upd_same]
      show SvI _ _ (putB ((survN keep qs fs k) f).last (64 * (n0 : Int).toNat) (partB ((survN keep qs fs k) f).now (64 * (n0 : Int).toNat))) _
      have c3 : ¬ ((survN keep qs fs k) f).now.size ≤ 64 * (n0 : Int).toNat := c3
      rw [hnow, Int.toNat_natCast] at c3
      rw [hnow, Int.toNat_natCast]
      generalize hN : (fs f).now = N at *
      generalize hR : ((survN keep qs fs k) f).last = R at *
      have hps := partB_size (now := N) (n := 64 * n0)
      have hne : ¬ partB N (64 * n0) = ⟨#[]⟩ := fun e => by
        have e2 : (partB N (64 * n0)).size = 0 := by rw [e]; rfl
        omega
      have hsz := putB_size (s := R) (t := partB N (64 * n0)) (at_ := 64 * n0)
      rw [if_neg hne] at hsz
      have hget : ∀ i, (bl (putB R (64 * n0) (partB N (64 * n0)))).getD i 0 = if 64 * n0 ≤ i ∧ i < 64 * n0 + (partB N (64 * n0)).size then (bl N).getD i 0 else (bl R).getD i 0 := by
        intro i
        unfold putB
        rw [if_neg hne, bl_ofL, putL_get, bl_length]
        split
        · rename_i hc
          rw [part_get (by omega)]
          congr 1
          omega
        · rfl
      have hself : Sv keep qs f N.size (k + 1) n0 := ⟨k, by omega, hqk, c1, c2, by omega⟩
      have hge := ih.ge
      have hle' := ih.le
      refine ⟨by omega, by omega, fun n hn => ?_, fun n hn i hi1 hi2 => ?_⟩
      · by_cases e : n = n0
        · subst e
          refine ⟨fun i hi1 hi2 hi3 => ?_, by omega⟩
          rw [hget, if_pos (by omega)]
        · obtain ⟨j, hj, a1, a2, a3, a4⟩ := hn
          have hjk : j ≠ k := by
            rintro rfl
            rw [hqk] at a1
            injection a1 with _ a1
            omega
          obtain ⟨b1, b2⟩ := ih.new n ⟨j, by omega, a1, a2, a3, a4⟩
          refine ⟨fun i hi1 hi2 hi3 => ?_, by omega⟩
          rw [hget, if_neg (by omega)]
          exact b1 i hi1 hi2 hi3
      · have e : n ≠ n0 := fun e => hn (e ▸ hself)
        rw [hget, if_neg (by omega)]
        exact ih.old n (fun ⟨j, hj, a⟩ => hn ⟨j, by omega, a⟩) i hi1 hi2
    · have e1 : ∀ x, (upd (survN keep qs fs k) q.file x f) = survN keep qs fs k f := fun x => upd_ne fun e => c4 e.symm
      rw [e1] at keepIt ⊢
      refine keepIt rfl fun n e _ _ _ => ?_
      rw [e] at c4
      exact c4 rfl

/-! ### What is durable, and what is pending -/
structure PI (fs : Int → FileV) (qs : List Sec) : Prop where
  le : ∀ f, (fs f).last.size ≤ (fs f).now.size
  eq : ∀ f (i : Nat), (⟨f, ((i / 64 : Nat) : Int)⟩ : Sec) ∈ qs ∨ (bl (fs f).last).getD i 0 = (bl (fs f).now).getD i 0
  len : ∀ f, (fs f).now.size = (fs f).last.size ∨ (0 < (fs f).now.size ∧ (⟨f, ((((fs f).now.size - 1) / 64 : Nat) : Int)⟩ : Sec) ∈ qs)
abbrev PIs (s : DS) : Prop := PI s.fs s.queue
theorem PI.new : PIs newS := ⟨fun _ => Nat.le_refl _, fun _ _ => .inr rfl, fun _ => .inl rfl⟩
theorem PI.flat (g : Int → ByteArray) : PI (fun f => ⟨g f, g f⟩) [] := ⟨fun _ => Nat.le_refl _, fun _ _ => .inr rfl, fun _ => .inl rfl⟩
theorem PI.add {s : DS} (h : PIs s) (f : Int) (a : Nat) (t : ByteArray) : PIs (addS s f a t) := by
  unfold addS
  split
  · exact h
  · rename_i ht
    have hpos := size_pos ht
    have hsz := putB_size (s := (s.fs f).now) (t := t) (at_ := a)
    rw [if_neg ht] at hsz
    refine ⟨fun g => ?_, fun g i => ?_, fun g => ?_⟩
    · show (upd s.fs f _ g).last.size ≤ (upd s.fs f _ g).now.size
      unfold upd
      split
      · show (s.fs f).last.size ≤ (putB _ _ _).size
        have := h.le f
        omega
      · exact h.le g
    · show _ ∈ addQ f s.queue (secs a t.size) ∨ (bl (upd s.fs f _ g).last).getD i 0 = (bl (upd s.fs f _ g).now).getD i 0
      by_cases e : g = f
      · subst e
        by_cases hin : a / 64 ≤ i / 64 ∧ i / 64 ≤ (a + t.size - 1) / 64
        · exact .inl (addQ_mem.2 (.inr ⟨i / 64, (secs_mem hpos).2 hin, rfl⟩))
        · rcases h.eq g i with h1 | h1
          · exact .inl (addQ_mem.2 (.inl h1))
          · right
            rw [upd_same]
            show (bl (s.fs g).last).getD i 0 = (bl (putB _ _ _)).getD i 0
            unfold putB
            rw [if_neg ht, bl_ofL, putL_get, bl_length, if_neg (by omega)]
            exact h1
      · rw [upd_ne e]
        rcases h.eq g i with h1 | h1
        · exact .inl (addQ_mem.2 (.inl h1))
        · exact .inr h1
    · show (upd s.fs f _ g).now.size = (upd s.fs f _ g).last.size ∨ (0 < (upd s.fs f _ g).now.size ∧ (⟨g, ((((upd s.fs f _ g).now.size - 1) / 64 : Nat) : Int)⟩ : Sec) ∈ addQ f s.queue (secs a t.size))
      by_cases e : g = f
      · subst e
        rw [upd_same]
        show (putB _ _ _).size = (s.fs g).last.size ∨ (0 < (putB _ _ _).size ∧ _)
        by_cases hgrow : (s.fs g).now.size < a + t.size
        · right
          refine ⟨by omega, addQ_mem.2 (.inr ⟨(a + t.size - 1) / 64, (secs_mem hpos).2 ⟨by omega, Nat.le_refl _⟩, ?_⟩)⟩
          congr 3
          show (putB _ _ _).size - 1 = _
          omega
        · have e2 : (putB (s.fs g).now a t).size = (s.fs g).now.size := by omega
          rcases h.len g with h1 | ⟨h1, h2⟩
          · left; omega
          · right
            refine ⟨by omega, addQ_mem.2 (.inl ?_)⟩
            show (⟨g, ((((putB (s.fs g).now a t).size - 1) / 64 : Nat) : Int)⟩ : Sec) ∈ s.queue
            rw [e2]
            exact h2
      · rw [upd_ne e]
        exact (h.len g).imp id fun ⟨h1, h2⟩ => ⟨h1, addQ_mem.2 (.inl h2)⟩
theorem PI.write {s : DS} (h : PIs s) (f a : Int) (t : ByteArray) : PIs (writeW s f a t) := by unfold writeW; split; exact PI.add h _ _ _; exact h
theorem PI.crash {s : DS} (h : PIs s) (keep : List Int) : PIs (crashS s keep) := by
  unfold crashS
  split
  · exact h
  · exact PI.flat _
theorem PI.ends {s : DS} (h : PIs s) : PIs (endsS s) := by unfold endsS; split <;> exact h
theorem PI.come {s : DS} (h : PIs s) : PIs (comeS s) := by unfold comeS; split; exact PI.crash (PI.ends h) _; exact PI.ends h
theorem PI.settle {s : DS} (h : PIs s) (f : Int) (x : ByteArray) : PIs (settleS s f x) := by
  refine ⟨fun g => ?_, fun g i => ?_, fun g => ?_⟩
  · show (upd s.fs f _ g).last.size ≤ (upd s.fs f _ g).now.size
    unfold upd
    split
    · exact Nat.le_refl _
    · exact h.le g
  · show _ ∈ s.queue.filter _ ∨ (bl (upd s.fs f _ g).last).getD i 0 = (bl (upd s.fs f _ g).now).getD i 0
    by_cases e : g = f
    · subst e; right; rw [upd_same]
    · rw [upd_ne e]
      exact (h.eq g i).imp (fun h => List.mem_filter.2 ⟨h, by simp [e]⟩) id
  · show (upd s.fs f _ g).now.size = (upd s.fs f _ g).last.size ∨ (0 < (upd s.fs f _ g).now.size ∧ (⟨g, ((((upd s.fs f _ g).now.size - 1) / 64 : Nat) : Int)⟩ : Sec) ∈ s.queue.filter _)
    by_cases e : g = f
    · subst e; left; rw [upd_same]
    · rw [upd_ne e]
      exact (h.len g).imp id fun ⟨h1, h2⟩ => ⟨h1, List.mem_filter.2 ⟨h2, by simp [e]⟩⟩
theorem PI.act {s : DS} (h : PIs s) (a : Act4) (keep : List Int) : PIs (actT s a keep).1 := by
  unfold actT
  split
  · unfold syncT
    split
    · exact PI.come h
    · split
      · exact PI.come h
      · exact PI.settle (PI.come h) _ _
  · split
    · unfold truncT
      split
      · exact PI.come h
      · split
        · exact PI.come h
        · split
          · exact PI.come h
          · exact PI.settle (PI.come h) _ _
    · split
      · exact h
      · split
        · exact h
        · split
          · exact PI.crash h _
          · split
            · exact h
            · unfold writeT
              split
              · exact PI.crash (PI.write (PI.ends h) _ _ _) _
              · exact PI.write (PI.ends h) _ _ _
theorem PI.play (L : AL) : PIs (playS L) := by
  have : ∀ (L : AL) (s : DS), PIs s → PIs (L.foldl (fun s x => (actT s x.1 x.2).1) s) := by
    intro L
    induction L with
    | nil => intro s h; exact h
    | cons x L ih => intro s h; exact ih _ (PI.act h _ _)
  exact this L newS PI.new
/-- Everything survives: the file is what it was. -/
theorem surv_all {s : DS} (hP : PIs s) (hok : DOk s) (f : Int) : (survN [1] s.queue s.fs s.queue.length f).last = (s.fs f).now := by
  have hc := surv_char (keep := [1]) hok.now hok.last (hP.le f) (fun q hq => (hok.q q hq).2.1) s.queue.length (Nat.le_refl _)
  have pend : ∀ n : Nat, (⟨f, (n : Int)⟩ : Sec) ∈ s.queue → 64 * n < (s.fs f).now.size → Sv [1] s.queue f (s.fs f).now.size s.queue.length n := by
    intro n hn hlt
    obtain ⟨j, hj, e⟩ := List.getElem_of_mem hn
    refine ⟨j, hj, by rw [List.getD_eq_getElem?_getD, List.getElem?_eq_getElem hj]; exact e, by decide, ?_, hlt⟩
    have : j % ([1] : List Int).length = 0 := Nat.mod_one j
    rw [this]
    decide
  refine bl_inj (ext_getD ?_ fun i hi => ?_)
  · rw [bl_length, bl_length]
    refine Nat.le_antisymm hc.le ?_
    rcases hP.len f with h | ⟨h1, h2⟩
    · rw [h]; exact hc.ge
    · have := (hc.new _ (pend _ h2 (by omega))).2
      omega
  · rw [bl_length] at hi
    have hi' := Nat.lt_of_lt_of_le hi hc.le
    rcases hP.eq f i with h | h
    · exact (hc.new _ (pend _ h (by omega))).1 i (by omega) (by omega) hi'
    · by_cases hq : Sv [1] s.queue f (s.fs f).now.size s.queue.length (i / 64)
      · exact (hc.new _ hq).1 i (by omega) (by omega) hi'
      · rw [hc.old _ hq i (by omega) (by omega)]
        exact h

section
variable {B : Base}
theorem byteAt_g {s : ByteArray} (hs : s.size ≤ 9223372036854775807) (i : Nat) : Gives Try.prog B (sCall F_erratalaw04_byteAt #[.string s, .int .i64 i]) (.int .u8 ((bl s).getD i 0).toNat) := by
  refine Gives.intro fun B' w K base h k => ?_
  refine erratalaw04_byteAt.up (erratalaw04_byteAt.call ?_)
  unfold erratalaw04_byteAt.pt
  have hb := bl_length s
  simp -zeta only [bin_lss, ifB_dec, str_len U_string, bin_geq]
  refine ⟨fun e => absurd e (by omega), fun _ => ⟨fun e => ?_, fun e => ?_⟩⟩
  · rw [getD_out (by omega)] at k
    exact k _ _ h
  · rw [str_idx U_string (by omega)]
    rw [getD_of (show i < (bl s).length by omega)] at k
    exact k _ _ h
end
theorem u8_eql {P : Program} {Kp : Value → Prop} {T : TypeId} {xo yo : Operand} {x y : UInt8} : pureK P (sBin .eql T xo yo (.int .u8 x.toNat) (.int .u8 y.toNat)) Kp = Kp (.bool (decide (x = y))) := by
  rw [bin_eql]
  congr 2
  refine decide_eq_decide.2 ⟨fun h => ?_, fun h => by rw [h]⟩
  exact UInt8.toNat_inj.1 (by omega)

set_option maxHeartbeats 1000000 in
theorem diskSurvives_pt {W : World} {v0 v2 : Value} {l : List Act4} {keep : List Int} {f : Int} (r0 : rowR v0 l (lawB W)) (hm : l.length ≤ maxLen) (hq : ∀ x ∈ l, okInt W x.do_ ∧ okInt W x.f ∧ okInt W x.n ∧ okStr W x.s ∧ (∃ k : List Int, rowR x.keep.1 k (lawB W) ∧ k.length ≤ maxLen ∧ ∀ y ∈ k, okInt W y))
    (rk : rowR v2 keep (lawB W)) {K : Value → World → Prop}
    (fin : ∀ w' σ, Rel (lawB W) w' σ → K (.bool true) w') : erratalaw04_DiskSurvives.pt v0 (.int .i64 f) v2 W K := by
  obtain ⟨L, rfl, qd⟩ := acts_of l fun x hx => (hq x hx).2.2.2.2.imp fun _ h => h.1
  have r := r0
  clear r0
  have hr : inRange L := fun x hx => by
    have := (hq x.1 (List.mem_map_of_mem hx)).2.2.1
    exact ⟨this.2, this.1⟩
  clear hq
  have hal : (acts L).length = L.length := List.length_map ..
  rw [hal] at hm
  unfold maxLen at hm
  unfold erratalaw04_DiskSurvives.pt
  refine small_r (lawB.start W) fun w1 h => ?_
  refine h.ask (fun B2 own base2 => few_g (base2 r) (base2 qd) (by omega)) fun w2 h => ?_
  rw [un_not, ifB_not, ifB_bool]
  refine ⟨fun hf => ?_, fun _ => fin _ _ h⟩
  have hf := fewS_true.1 hf
  simp -zeta only [rowR.len rk sl_s_int, bin_gtr, ifB_dec]
  refine ⟨fun _ => fin _ _ h, fun hkl => ?_⟩
  refine h.make (fun B2 own base2 => played_m (base2 r) (base2 qd) hf hr) fun u τ w3 hp h => ?_
  obtain ⟨p, kv, rfl, _, rfl⟩ := hp
  rw [nil_ne, ifB_false]
  have hP := PI.play L
  generalize playS L = s at h hP
  have h : Rel (lawB W) w3 [diskD p s kv, rowR kv s.keep] := h
  obtain ⟨hok, _⟩ := diskD.ok (h.here (i := 0) rfl)
  refine h.ask (fun B2 own base2 => Down_g (own (i := 0) rfl)) fun w4 h => ?_
  rw [ifB_bool]
  refine ⟨fun _ => fin _ _ h, fun hd => ?_⟩
  simp -zeta only [bin_lss, bin_gtr, ifB_dec]
  refine ⟨fun _ => fin _ _ h, fun hf0 => ⟨fun _ => fin _ _ h, fun hf1 => ?_⟩⟩
  refine h.ask (fun B2 own base2 => Size_d (own (i := 0) rfl) f) fun w5 h => ?_
  simp -zeta only [bin_gtr, ifB_dec]
  refine ⟨fun _ => fin _ _ h, fun hsz => ?_⟩
  have hmay : mayS s f = 0 := mayS_zero.2 ⟨hd, by omega, by omega⟩
  refine h.ask (fun B2 own base2 => Read_g (own (i := 0) rfl) f 0 16777216) fun w6 h => ?_
  rw [readT_all hok hmay]
  simp -zeta only [ext_2_0, ext_2_1]
  have haf : ∀ keep, afterS s f keep = ((survN keep s.queue s.fs s.queue.length f).last, 0) := by
    intro keep
    have hok' := hok.crash keep
    have e1 := crash_fs hd keep f
    unfold afterS
    have hx : DOk { crashS s keep with down := false } := ⟨hok'.now, hok'.last, hok'.q, hok'.nd, hok'.lost, hok'.armed⟩
    rw [readT_all hx (mayS_zero.2 ⟨rfl, by omega, by omega⟩)]
    show (((crashS s keep).fs f).now, (0 : Int)) = _
    rw [e1]
  refine h.ask (fun B2 own base2 => after_g (own (i := 0) rfl) (nilrow _) (by decide) f) fun w7 h => ?_
  rw [haf, survN_nil]
  simp -zeta only [ext_2_0, ext_2_1]
  refine h.build1 (α := Int) 1 sl_s_int (by decide) fun v1 w8 h => ?_
  refine h.ask (fun B2 own base2 => after_g (own (i := 0) rfl) (rowD.read (own (i := 2) rfl)) (by decide) f) fun w9 h => ?_
  rw [haf, surv_all hP hok]
  simp -zeta only [ext_2_0, ext_2_1]
  refine h.ask (fun B2 own base2 => after_g (own (i := 0) rfl) (base2 rk) (by omega) f) fun w10 h => ?_
  rw [haf]
  have hc := surv_char (keep := keep) hok.now hok.last (hP.le f) (fun q hq => (hok.q q hq).2.1) s.queue.length (Nat.le_refl _)
  generalize (survN keep s.queue s.fs s.queue.length f).last = R at hc ⊢
  generalize Sv keep s.queue f (s.fs f).now.size s.queue.length = Q at hc
  generalize (s.fs f).now = N at hc hsz ⊢
  generalize (s.fs f).last = O at hc ⊢
  have hbN := bl_length N
  have hbR := bl_length R
  have hbO := bl_length O
  have hge := hc.ge
  have hle := hc.le
  simp -zeta only [ext_2_0, ext_2_1, bin_neq, decide_true, Bool.not_true, ifB_false, un_not, neq_str, str_len U_string, bin_lss, bin_gtr, ifB_dec]
  refine ⟨fun e => absurd e (by omega), fun _ => ⟨fun e => absurd e (by omega), fun _ => ?_⟩⟩
  have h := h.nil
  refine LOOP_intro (fun x w' => ∃ n : Nat, n ≤ R.size / 64 + 1 ∧ x = (.int .i64 n, ()) ∧ Rel (lawB W) w' []) (fun x _ => R.size / 64 + 2 - (match x.1 with | .int _ n => n.toNat | _ => 0)) ⟨0, Nat.zero_le _, rfl, h⟩ ?_
  clear h
  rintro x w11 ⟨n, hn, rfl, h⟩ next hnext
  have hw1 : IntKind.i64.wrap (64 * (n : Int)) = ((64 * n : Nat) : Int) := by rw [wrap_id (by omega) (by omega)]; omega
  simp -zeta only [bin_mul, hw1, str_len U_string, bin_lss, ifB_dec]
  refine ⟨fun hlt => ?_, fun _ => fin _ _ h⟩
  refine LETJ_intro fun J hJ => ?_
  replace hJ : ∀ w', Rel (lawB W) w' [] → J () w' := by
    intro w' h
    refine hJ _ _ ?_
    rw [bin_add, wrap_id (by omega) (by omega)]
    exact hnext _ _ ⟨n + 1, by omega, rfl, h⟩ (by simp only; omega)
  clear hnext
  refine LETJ_intro fun J2 hJ2 => ?_
  replace hJ2 : ∀ nw od w', (Q n → nw = true) → (¬ Q n → od = true) → Rel (lawB W) w' [] → J2 (.bool nw, .bool od, ()) w' := by
    intro nw od w' h1 h2 h
    refine hJ2 _ _ ?_
    dsimp only
    rw [un_not, ifB_not, ifB_bool]
    refine ⟨fun _ => hJ _ h, fun e => ?_⟩
    have hnq : ¬ Q n := fun hq => by rw [h1 hq] at e; cases e
    rw [un_not, ifB_not, h2 hnq, ifB_true]
    exact hJ _ h
  clear hJ
  refine LOOP_intro (fun x w' => ∃ (i : Nat) (nw od : Bool), (64 * n ≤ i ∧ i ≤ 64 * n + 64 ∧ i ≤ R.size) ∧ x = (.bool nw, .bool od, .int .i64 i, ()) ∧ (Q n → nw = true) ∧ (¬ Q n → od = true) ∧ Rel (lawB W) w' []) (fun x _ => R.size + 1 - (match x.2.2.1 with | .int _ n => n.toNat | _ => 0))
    ⟨64 * n, true, true, ⟨Nat.le_refl _, by omega, by omega⟩, rfl, fun _ => rfl, fun _ => rfl, h⟩ ?_
  clear h
  rintro x w12 ⟨i, nw, od, ⟨hi1, hi2, hi3⟩, rfl, hnw, hod, h⟩ next hnext
  have hw2 : IntKind.i64.wrap (((64 * n : Nat) : Int) + 64) = ((64 * n + 64 : Nat) : Int) := by rw [wrap_id (by omega) (by omega)]; omega
  simp -zeta only [bin_add, hw2, str_len U_string, bin_lss, ifB_dec]
  refine ⟨fun hl1 => ⟨fun hl2 => ?_, fun _ => hJ2 _ _ _ hnw hod h⟩, fun _ => hJ2 _ _ _ hnw hod h⟩
  clear hJ2
  have hiR : i < (bl R).length := by omega
  have hiN : i < (bl N).length := by omega
  refine LETJ_intro fun J3 hJ3 => ?_
  replace hJ3 : ∀ nw od w', (Q n → nw = true) → (¬ Q n → od = true) → Rel (lawB W) w' [] → J3 (.bool nw, .bool od, ()) w' := by
    intro nw od w' h1 h2 h
    refine hJ3 _ _ ?_
    rw [wrap_id (by omega) (by omega)]
    exact hnext _ _ ⟨i + 1, nw, od, ⟨by omega, by omega, by omega⟩, rfl, h1, h2, h⟩ (by simp only; omega)
  clear hnext
  have h := h.tick.tick
  have fnew : Q n → decide ((bl R)[i] = (bl N)[i]) = true := fun hq => decide_eq_true (by
    have := (hc.new n hq).1 i hi1 (by omega) (by omega)
    rw [getD_of hiR, getD_of hiN] at this
    exact this)
  have fold : ¬ Q n → decide ((bl R)[i] = (bl O).getD i 0) = true := fun hq => decide_eq_true (by
    have := hc.old n hq i hi1 (by omega)
    rw [getD_of hiR] at this
    exact this)
  have askOld : ∀ nw', (Q n → nw' = true) → od = true → upK Try.prog (sCall F_erratalaw04_byteAt #[.string O, .int .i64 i]) (tick (tick w12)) fun t150 w16 => pureK Try.prog (sBin .eql T_uint8 (.tmp 147) (.tmp 150) (.int .u8 (bl R)[i].toNat) t150) fun t151 => J3 (.bool nw', t151, ()) w16 := by
    intro nw' h1 _
    refine h.ask (fun B2 own base2 => byteAt_g (by omega) i) fun w13 h => ?_
    rw [u8_eql]
    exact hJ3 _ _ _ h1 fold h
  simp -zeta only [str_idx U_string (show i < R.size by omega), str_idx U_string (show i < N.size by omega), u8_eql]
  rw [ifB_bool, ifB_bool, ifB_bool]
  refine ⟨fun hn1 => ⟨fun ho1 => askOld _ fnew ho1, fun ho1 => hJ3 _ _ _ fnew (fun hq => by rw [hod hq] at ho1; cases ho1) h⟩, fun hn1 => ?_⟩
  have hnq : ¬ Q n := fun hq => by rw [hnw hq] at hn1; cases hn1
  exact ⟨fun ho1 => askOld _ (fun hq => absurd hq hnq) ho1, fun ho1 => hJ3 _ _ _ (fun hq => absurd hq hnq) (fun hq => by rw [hod hq] at ho1; cases ho1) h⟩
end Go.Proofs.Ytoldlajahoodjaa
