/-
  DiskReads, DiskSynced. No condition.
-/
import Derived.Test.YtmkigdkhpdeaeaaDoorDiskF
namespace Go.Proofs.YtmkigdkhpdeaeaaDoor
open Go.RowKit

theorem ends_unarmed {s : DS} (h : s.armed = 0) : endsB s = false ∧ endsS s = s := by
  unfold endsB endsS
  rw [h]
  simp
theorem come_unarmed {s : DS} (h : s.armed = 0) : comeS s = s := by
  obtain ⟨h1, h2⟩ := ends_unarmed h
  unfold comeS
  rw [if_neg (by rw [h1]; decide), h2]
theorem write_unarmed {s : DS} (h : s.armed = 0) (f a : Int) (t : ByteArray) : writeT s f a t = (writeW s f a t, writeE s f a t) := by
  obtain ⟨h1, h2⟩ := ends_unarmed h
  unfold writeT
  rw [if_neg (by rw [h1]; decide), h2]
theorem take_big {l : List UInt8} {n : Nat} (h : l.length ≤ n) : (l.drop 0).take n = l := by rw [List.drop_zero, List.take_of_length_le h]
theorem add_down (s : DS) (f : Int) (a : Nat) (t : ByteArray) : (addS s f a t).down = s.down := by unfold addS; split <;> rfl
theorem add_armed (s : DS) (f : Int) (a : Nat) (t : ByteArray) : (addS s f a t).armed = s.armed := by unfold addS; split <;> rfl
theorem may_eq {s t : DS} (h : s.down = t.down) (f : Int) : mayS s f = mayS t f := by unfold mayS; rw [h]
theorem readT_ok {s : DS} {f a n : Int} (h : mayS s f = 0) (ha : 0 ≤ a) (hn : 0 ≤ n) : readT s f a n = (ofL (((bl (s.fs f).now).drop a.toNat).take n.toNat), 0) := by
  unfold readT
  rw [if_neg (by simpa using h), if_neg (by omega), if_neg (by omega)]
theorem readT_all {s : DS} (hs : DOk s) {f : Int} (h : mayS s f = 0) : readT s f 0 16777216 = ((s.fs f).now, 0) := by
  rw [readT_ok h (by decide) (by decide)]
  have := hs.now f
  have e := take_big (l := bl (s.fs f).now) (n := (16777216 : Int).toNat) (by rw [bl_length]; exact this)
  rw [show (0 : Int).toNat = 0 from rfl, e, ofL_bl]
theorem put_read (s : List UInt8) (a : Nat) (t : List UInt8) : ((putL s a t).drop a).take t.length = t := by
  have hl := padL_length s a t.length
  unfold putL
  rw [List.append_assoc, List.drop_append_of_le_length (by rw [List.length_take]; omega), List.drop_of_length_le (by rw [List.length_take]; omega), List.nil_append, List.take_left]
theorem add_read (s : DS) (f : Int) (a : Nat) (t : ByteArray) : ((bl ((addS s f a t).fs f).now).drop a).take (bl t).length = bl t := by
  unfold addS
  split
  · rename_i h
    rw [empty_bl.1 h]
    simp
  · rename_i h
    show ((bl (upd s.fs f _ f).now).drop a).take _ = _
    rw [upd_same]
    show ((bl (putB _ _ _)).drop a).take _ = _
    unfold putB
    rw [if_neg h]
    exact put_read _ _ _
theorem part_eq (l : List UInt8) (a n : Nat) : (l.take (min a l.length + min n (l.length - min a l.length))).drop (min a l.length) = (l.drop a).take n := by
  rw [List.drop_take, Nat.add_sub_cancel_left]
  have e : l.drop (min a l.length) = l.drop a := by
    rcases Nat.le_total a l.length with h | h
    · rw [Nat.min_eq_left h]
    · rw [Nat.min_eq_right h, List.drop_length, List.drop_of_length_le h]
  rw [e]
  have hl : (l.drop a).length = l.length - min a l.length := by rw [List.length_drop]; omega
  rw [← hl]
  rcases Nat.le_total n (l.drop a).length with h | h
  · rw [Nat.min_eq_left h]
  · rw [Nat.min_eq_right h, List.take_length, List.take_of_length_le h]
theorem survN_nil (qs : List Sec) (fs : Int → FileV) (n : Nat) : survN [] qs fs n = fs := by
  induction n with
  | zero => rfl
  | succ n ih => show survS [] n _ (survN [] qs fs n) = fs; rw [ih]; rfl
theorem crash_fs {s : DS} (h : s.down = false) (keep : List Int) (f : Int) : ((crashS s keep).fs f) = ⟨(survN keep s.queue s.fs s.queue.length f).last, (survN keep s.queue s.fs s.queue.length f).last⟩ := by
  unfold crashS; rw [if_neg (by rw [h]; decide)]

/-! ### Synced -/
structure QI (f : Int) (X : ByteArray) (s : DS) : Prop where
  fs : s.fs f = ⟨X, X⟩
  q : ∀ q ∈ s.queue, q.file ≠ f
theorem survN_other {f : Int} {keep : List Int} {qs : List Sec} {fs : Int → FileV} (hq : ∀ q ∈ qs, q.file ≠ f) : ∀ n, n ≤ qs.length → survN keep qs fs n f = fs f := by
  intro n
  induction n with
  | zero => intro _; rfl
  | succ n ih =>
    intro hn
    have hg : qs.getD n ⟨0, 0⟩ = qs[n]'(by omega) := by rw [List.getD_eq_getElem?_getD, List.getElem?_eq_getElem (by omega)]; rfl
    have hne := hq _ (List.getElem_mem (show n < qs.length by omega))
    show survS keep n (qs.getD n ⟨0, 0⟩) (survN keep qs fs n) f = _
    rw [hg]
    unfold survS
    split
    · exact ih (by omega)
    · split
      · exact ih (by omega)
      · split
        · exact ih (by omega)
        · rw [upd_ne (Ne.symm hne)]
          exact ih (by omega)
theorem QI.crash {f : Int} {X : ByteArray} {s : DS} (h : QI f X s) (keep : List Int) : QI f X (crashS s keep) := by
  unfold crashS
  split
  · exact h
  · refine ⟨?_, fun q hq => by cases hq⟩
    show (⟨(survN keep s.queue s.fs s.queue.length f).last, (survN keep s.queue s.fs s.queue.length f).last⟩ : FileV) = _
    rw [survN_other h.q _ (Nat.le_refl _), h.fs]
theorem QI.ends {f : Int} {X : ByteArray} {s : DS} (h : QI f X s) : QI f X (endsS s) := by unfold endsS; split; exact h; exact ⟨h.fs, h.q⟩
theorem QI.come {f : Int} {X : ByteArray} {s : DS} (h : QI f X s) : QI f X (comeS s) := by unfold comeS; split; exact h.ends.crash _; exact h.ends
theorem QI.write {f g : Int} {X : ByteArray} {s : DS} (h : QI f X s) (hg : g ≠ f) (a : Int) (t : ByteArray) : QI f X (writeW s g a t) := by
  unfold writeW addS
  split
  · split
    · exact h
    · refine ⟨?_, fun q hq => ?_⟩
      · show upd s.fs g _ f = _
        rw [upd_ne (Ne.symm hg)]; exact h.fs
      · rcases addQ_mem.1 hq with hq | ⟨n, _, rfl⟩
        · exact h.q q hq
        · exact hg
  · exact h
theorem QI.settle {f g : Int} {X Y : ByteArray} {s : DS} (h : QI f X s) (hg : g ≠ f) : QI f X (settleS s g Y) := by
  refine ⟨?_, fun q hq => h.q q (List.mem_filter.1 hq).1⟩
  show upd s.fs g _ f = _
  rw [upd_ne (Ne.symm hg)]; exact h.fs
theorem sync_ok {s : DS} {f : Int} (h : (syncT s f).2 = 0) : mayS s f = 0 ∧ (syncT s f).1 = settleS (endsS s) f (s.fs f).now ∧ (syncT s f).1.down = false := by
  have hc : mayS (comeS s) f = 0 ∧ (syncT s f).1 = settleS (comeS s) f ((comeS s).fs f).now := by
    unfold syncT at h ⊢
    split at h
    · rename_i e
      exact absurd h e
    · rename_i e
      split at h
      · cases h
      · rename_i e2
        rw [if_neg e, if_neg e2]
        exact ⟨by simpa using e, rfl⟩
  have hd := (mayS_zero.1 hc.1).1
  have he : endsB s = false := by
    cases hb : endsB s with
    | false => rfl
    | true =>
      unfold comeS at hd
      rw [if_pos hb] at hd
      unfold crashS at hd
      split at hd
      · rename_i e; rw [e] at hd; cases hd
      · cases hd
  have hce : comeS s = endsS s := by unfold comeS; rw [if_neg (by rw [he]; decide)]
  have hed : (endsS s).down = s.down := by unfold endsS; split <;> rfl
  have hef : (endsS s).fs = s.fs := by unfold endsS; split <;> rfl
  rw [hce] at hc hd
  refine ⟨by rw [may_eq hed.symm]; exact hc.1, by rw [hc.2, hef], by rw [hc.2]; exact hd⟩

end Go.Proofs.YtmkigdkhpdeaeaaDoor
