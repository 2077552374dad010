/-
  The disk of chapter 4 in plain words: its state, what each call makes of it, what stays true. No condition.
-/
import Derived.Test.YtmkigdkhpdeaeaaDoorDiskA
namespace Go.Proofs.YtmkigdkhpdeaeaaDoor
open Go.RowKit

structure DS where
  fs : Int → FileV
  queue : List Sec
  lost : Int
  down : Bool
  armed : Int
  keep : List Int
def F0 : FileV := ⟨⟨#[]⟩, ⟨#[]⟩⟩
def upd (fs : Int → FileV) (f : Int) (x : FileV) : Int → FileV := fun g => if g = f then x else fs g
theorem upd_same {fs : Int → FileV} {f : Int} {x : FileV} : upd fs f x f = x := if_pos rfl
theorem upd_ne {fs : Int → FileV} {f g : Int} {x : FileV} (h : g ≠ f) : upd fs f x g = fs g := if_neg h
def newS : DS := ⟨fun _ => F0, [], 0, false, 0, []⟩
def mayS (s : DS) (f : Int) : Int := if s.down = true then 9 else if f < 0 then 1 else if 16 ≤ f then 1 else 0
theorem mayS_zero {s : DS} {f : Int} : mayS s f = 0 ↔ s.down = false ∧ 0 ≤ f ∧ f < 16 := by
  unfold mayS
  cases s.down
  · simp
    split
    · simp; omega
    · split
      · simp; omega
      · simp; omega
  · simp
def addQ1 (f : Int) (q : List Sec) (n : Nat) : List Sec := if (⟨f, n⟩ : Sec) ∈ q then q else q ++ [⟨f, n⟩]
def addQ (f : Int) (q : List Sec) (ns : List Nat) : List Sec := ns.foldl (addQ1 f) q
def secs (at_ n : Nat) : List Nat := (List.range ((at_ + n - 1) / 64 + 1 - at_ / 64)).map fun i => at_ / 64 + i
def addS (s : DS) (f : Int) (at_ : Nat) (t : ByteArray) : DS :=
  if t = ⟨#[]⟩ then s else { s with fs := upd s.fs f ⟨putB (s.fs f).now at_ t, (s.fs f).last⟩, queue := addQ f s.queue (secs at_ t.size) }
def writeE (s : DS) (f at_ : Int) (t : ByteArray) : Int := if mayS s f ≠ 0 then mayS s f else if at_ < 0 then 1 else if 16777216 < at_ then 6 else if 16777216 - at_ < t.size then 6 else 0
def writeW (s : DS) (f at_ : Int) (t : ByteArray) : DS := if writeE s f at_ t = 0 then addS s f at_.toNat t else s
def partB (now : ByteArray) (n : Nat) : ByteArray := ofL (((bl now).take (min (n + 64) now.size)).drop n)
def survS (keep : List Int) (i : Nat) (q : Sec) (fs : Int → FileV) : Int → FileV :=
  if keep = [] then fs else if keep.getD (i % keep.length) 0 % 2 = 0 then fs else if (fs q.file).now.size ≤ 64 * q.number.toNat then fs else upd fs q.file ⟨(fs q.file).now, putB (fs q.file).last (64 * q.number.toNat) (partB (fs q.file).now (64 * q.number.toNat))⟩
def survN (keep : List Int) (qs : List Sec) (fs : Int → FileV) : Nat → Int → FileV
  | 0 => fs
  | i + 1 => survS keep i (qs.getD i ⟨0, 0⟩) (survN keep qs fs i)
def crashS (s : DS) (keep : List Int) : DS :=
  if s.down = true then s else { s with fs := fun f => ⟨(survN keep s.queue s.fs s.queue.length f).last, (survN keep s.queue s.fs s.queue.length f).last⟩, queue := [], down := true, armed := 0 }
def endsB (s : DS) : Bool := !s.down && (!decide (s.armed = 0) && decide (s.armed - 1 = 0))
def endsS (s : DS) : DS := if s.down = true ∨ s.armed = 0 then s else { s with armed := s.armed - 1 }
def writeT (s : DS) (f at_ : Int) (t : ByteArray) : DS × Int := if endsB s = true then (crashS (writeW (endsS s) f at_ t) (writeW (endsS s) f at_ t).keep, 9) else (writeW (endsS s) f at_ t, writeE (endsS s) f at_ t)
def comeS (s : DS) : DS := if endsB s = true then crashS (endsS s) (endsS s).keep else endsS s
def settleS (s : DS) (f : Int) (x : ByteArray) : DS := { s with fs := upd s.fs f ⟨x, x⟩, queue := s.queue.filter fun q => !decide (q.file = f) }
def syncT (s : DS) (f : Int) : DS × Int :=
  if mayS (comeS s) f ≠ 0 then (comeS s, mayS (comeS s) f) else if 0 < (comeS s).lost then ({ comeS s with lost := (comeS s).lost - 1 }, 10) else (settleS (comeS s) f ((comeS s).fs f).now, 0)
def truncT (s : DS) (f size : Int) : DS × Int :=
  if mayS (comeS s) f ≠ 0 then (comeS s, mayS (comeS s) f) else if size < 0 then (comeS s, 1) else if (((comeS s).fs f).now.size : Int) < size then (comeS s, 1) else (settleS (comeS s) f (ofL ((bl ((comeS s).fs f).now).take size.toNat)), 0)
def readT (s : DS) (f at_ size : Int) : ByteArray × Int :=
  if mayS s f ≠ 0 then (⟨#[]⟩, mayS s f) else if at_ < 0 then (⟨#[]⟩, 1) else if size < 0 then (⟨#[]⟩, 1) else (ofL (((bl (s.fs f).now).drop at_.toNat).take size.toNat), 0)

/-! ### What stays true -/
structure DOk (s : DS) : Prop where
  now : ∀ f, (s.fs f).now.size ≤ 16777216
  last : ∀ f, (s.fs f).last.size ≤ 16777216
  q : ∀ q ∈ s.queue, (0 ≤ q.file ∧ q.file < 16) ∧ 0 ≤ q.number ∧ q.number < 262144
  nd : s.queue.Nodup
  lost : 0 ≤ s.lost ∧ s.lost ≤ 9223372036854775807
  armed : 0 ≤ s.armed ∧ s.armed ≤ 9223372036854775807

theorem nodup_le : ∀ (n : Nat) (l : List Nat), l.Nodup → (∀ x ∈ l, x < n) → l.length ≤ n
  | 0, l, _, h => by
    cases l with
    | nil => exact Nat.le_refl _
    | cons a l => exact absurd (h a List.mem_cons_self) (Nat.not_lt_zero a)
  | n + 1, l, hn, h => by
    have h1 := nodup_le n (l.filter fun x => decide (x ≠ n)) (hn.filter _) fun x hx => by
      obtain ⟨h2, h3⟩ := List.mem_filter.1 hx
      have := h x h2
      have := of_decide_eq_true h3
      omega
    have h2 : ∀ l : List Nat, l.Nodup → l.length ≤ (l.filter fun x => decide (x ≠ n)).length + 1 := by
      intro l
      induction l with
      | nil => intro _; simp
      | cons a l ih =>
        intro hn
        rw [List.nodup_cons] at hn
        rw [List.filter_cons]
        by_cases e : a = n
        · subst e
          rw [if_neg (by simp)]
          rw [List.filter_eq_self.2 fun x hx => decide_eq_true (p := x ≠ a) fun e => hn.1 (e ▸ hx)]
          simp
        · rw [if_pos (by simp [e])]
          have := ih hn.2
          simp only [List.length_cons]
          omega
    have := h2 l hn
    omega
theorem DOk.qlen {s : DS} (h : DOk s) : s.queue.length ≤ 4194304 := by
  have : (s.queue.map fun q : Sec => q.file.toNat * 262144 + q.number.toNat).length ≤ 4194304 := by
    refine nodup_le _ _ ?_ fun x hx => ?_
    · rw [List.nodup_iff_pairwise_ne, List.pairwise_map, List.pairwise_iff_getElem]
      intro i j hi hj hij e
      have h1 := h.q _ (List.getElem_mem hi)
      have h2 := h.q _ (List.getElem_mem hj)
      have h3 := List.nodup_iff_pairwise_ne.1 h.nd
      rw [List.pairwise_iff_getElem] at h3
      refine h3 i j hi hj hij ?_
      have e1 : s.queue[i].file = s.queue[j].file := by omega
      have e2 : s.queue[i].number = s.queue[j].number := by omega
      generalize s.queue[i] = a at e1 e2
      generalize s.queue[j] = b at e1 e2
      obtain ⟨a1, a2⟩ := a
      obtain ⟨b1, b2⟩ := b
      simp only at e1 e2
      rw [e1, e2]
    · obtain ⟨q, hq, rfl⟩ := List.mem_map.1 hx
      have := h.q q hq
      omega
  simpa using this
theorem newS_ok : DOk newS := ⟨fun _ => Nat.zero_le _, fun _ => Nat.zero_le _, fun q hq => (by cases hq), List.nodup_nil, by decide, by decide⟩

theorem putB_size {s t : ByteArray} {at_ : Nat} : (putB s at_ t).size = if t = ⟨#[]⟩ then s.size else max s.size (at_ + t.size) := by
  unfold putB
  split
  · rfl
  · rw [ofL_size, putL_length, bl_length, bl_length]
theorem addQ_mem {f : Int} {ns : List Nat} : ∀ {q : List Sec} {x : Sec}, x ∈ addQ f q ns ↔ x ∈ q ∨ ∃ n ∈ ns, x = ⟨f, n⟩ := by
  induction ns with
  | nil => intro q x; simp [addQ]
  | cons n ns ih =>
    intro q x
    unfold addQ at ih ⊢
    rw [List.foldl_cons, ih]
    unfold addQ1
    constructor
    · rintro (h | ⟨m, hm, rfl⟩)
      · split at h
        · exact .inl h
        · rcases List.mem_append.1 h with h | h
          · exact .inl h
          · simp at h; exact .inr ⟨n, List.mem_cons_self, h⟩
      · exact .inr ⟨m, List.mem_cons_of_mem _ hm, rfl⟩
    · rintro (h | ⟨m, hm, rfl⟩)
      · left
        split
        · exact h
        · exact List.mem_append_left _ h
      · rcases List.mem_cons.1 hm with rfl | hm
        · left
          split
          · assumption
          · exact List.mem_append_right _ (by simp)
        · exact .inr ⟨m, hm, rfl⟩
theorem addQ_nodup {f : Int} {ns : List Nat} : ∀ {q : List Sec}, q.Nodup → (addQ f q ns).Nodup := by
  induction ns with
  | nil => intro q h; exact h
  | cons n ns ih =>
    intro q h
    unfold addQ at ih ⊢
    rw [List.foldl_cons]
    refine ih ?_
    unfold addQ1
    split
    · exact h
    · rename_i hn
      rw [List.nodup_append]
      refine ⟨h, by simp, fun a ha b hb => ?_⟩
      simp at hb
      subst hb
      rintro rfl
      exact hn ha
theorem secs_mem {at_ n m : Nat} (hn : 0 < n) : m ∈ secs at_ n ↔ at_ / 64 ≤ m ∧ m ≤ (at_ + n - 1) / 64 := by
  unfold secs
  rw [List.mem_map]
  constructor
  · rintro ⟨i, hi, rfl⟩
    have := List.mem_range.1 hi
    omega
  · intro h
    exact ⟨m - at_ / 64, List.mem_range.2 (by omega), by omega⟩
theorem size_pos {t : ByteArray} (h : ¬ t = ⟨#[]⟩) : 0 < t.size := by
  rw [← bl_length]
  exact List.length_pos_iff.2 fun e => h (empty_bl.2 e)

theorem DOk.add {s : DS} (h : DOk s) {f : Int} (hf : 0 ≤ f ∧ f < 16) {at_ : Nat} {t : ByteArray} (hfit : at_ + t.size ≤ 16777216) : DOk (addS s f at_ t) := by
  unfold addS
  split
  · exact h
  · rename_i ht
    have hpos := size_pos ht
    refine ⟨fun g => ?_, fun g => ?_, fun q hq => ?_, addQ_nodup h.nd, h.lost, h.armed⟩
    · show (upd s.fs f _ g).now.size ≤ _
      unfold upd
      split
      · show (putB _ _ _).size ≤ _
        rw [putB_size, if_neg ht]
        have := h.now f
        omega
      · exact h.now g
    · show (upd s.fs f _ g).last.size ≤ _
      unfold upd
      split
      · exact h.last f
      · exact h.last g
    · rcases addQ_mem.1 hq with hq | ⟨n, hn, rfl⟩
      · exact h.q q hq
      · have := (secs_mem hpos).1 hn
        exact ⟨hf, by show 0 ≤ (n : Int) ∧ (n : Int) < 262144; omega⟩
theorem writeE_zero {s : DS} {f at_ : Int} {t : ByteArray} : writeE s f at_ t = 0 ↔ mayS s f = 0 ∧ 0 ≤ at_ ∧ at_ + t.size ≤ 16777216 := by
  unfold writeE
  by_cases h : mayS s f = 0
  · rw [if_neg (by simpa using h)]
    constructor
    · intro h2
      split at h2
      · cases h2
      · split at h2
        · cases h2
        · split at h2
          · cases h2
          · exact ⟨h, by omega, by omega⟩
    · rintro ⟨_, h1, h2⟩
      rw [if_neg (by omega), if_neg (by omega), if_neg (by omega)]
  · rw [if_pos h]
    exact ⟨fun e => absurd e h, fun e => absurd e.1 h⟩
theorem DOk.write {s : DS} (h : DOk s) (f at_ : Int) (t : ByteArray) : DOk (writeW s f at_ t) := by
  unfold writeW
  split
  · rename_i he
    obtain ⟨h1, h2, h3⟩ := writeE_zero.1 he
    exact h.add (mayS_zero.1 h1).2 (by omega)
  · exact h
theorem partB_size {now : ByteArray} {n : Nat} : (partB now n).size = min (n + 64) now.size - n := by
  unfold partB
  rw [ofL_size, List.length_drop, List.length_take, bl_length]
  omega
/-- What a crash leaves alone: the contents; and the durable parts stay small. -/
theorem surv_keeps {keep : List Int} {qs : List Sec} {fs : Int → FileV} (h1 : ∀ f, (fs f).now.size ≤ 16777216) (h2 : ∀ f, (fs f).last.size ≤ 16777216) (n : Nat) :
    (∀ f, (survN keep qs fs n f).now = (fs f).now) ∧ ∀ f, (survN keep qs fs n f).last.size ≤ 16777216 := by
  induction n with
  | zero => exact ⟨fun _ => rfl, h2⟩
  | succ n ih =>
    unfold survN survS
    split
    · exact ih
    · split
      · exact ih
      · split
        · exact ih
        · rename_i hlt
          refine ⟨fun f => ?_, fun f => ?_⟩
          · unfold upd
            split
            · rename_i e; rw [e]; exact ih.1 _
            · exact ih.1 f
          · unfold upd
            split
            · show (putB _ _ _).size ≤ _
              rw [putB_size]
              split
              · exact ih.2 _
              · have := ih.2 (qs.getD n ⟨0, 0⟩).file
                have e := ih.1 (qs.getD n ⟨0, 0⟩).file
                have := h1 (qs.getD n ⟨0, 0⟩).file
                rw [e] at hlt
                rw [partB_size, e]
                omega
            · exact ih.2 f
theorem DOk.crash {s : DS} (h : DOk s) (keep : List Int) : DOk (crashS s keep) := by
  unfold crashS
  split
  · exact h
  · have := (surv_keeps (keep := keep) (qs := s.queue) h.now h.last s.queue.length).2
    exact ⟨this, this, fun q hq => (by cases hq), List.nodup_nil, h.lost, (by show (0 : Int) ≤ 0 ∧ (0 : Int) ≤ 9223372036854775807; decide)⟩
theorem DOk.ends {s : DS} (h : DOk s) : DOk (endsS s) := by
  unfold endsS
  split
  · exact h
  · rename_i hn
    have : s.armed ≠ 0 := fun e => hn (.inr e)
    have := h.armed
    exact ⟨h.now, h.last, h.q, h.nd, h.lost, by show 0 ≤ s.armed - 1 ∧ s.armed - 1 ≤ _; omega⟩
theorem DOk.come {s : DS} (h : DOk s) : DOk (comeS s) := by
  unfold comeS
  split
  · exact h.ends.crash _
  · exact h.ends
theorem DOk.settle {s : DS} (h : DOk s) (f : Int) {x : ByteArray} (hx : x.size ≤ 16777216) : DOk (settleS s f x) := by
  refine ⟨fun g => ?_, fun g => ?_, fun q hq => h.q q (List.mem_filter.1 hq).1, h.nd.filter _, h.lost, h.armed⟩
  · show (upd s.fs f _ g).now.size ≤ _
    unfold upd
    split
    · exact hx
    · exact h.now g
  · show (upd s.fs f _ g).last.size ≤ _
    unfold upd
    split
    · exact hx
    · exact h.last g
theorem DOk.writeT {s : DS} (h : DOk s) (f at_ : Int) (t : ByteArray) : DOk (writeT s f at_ t).1 := by
  unfold Go.Proofs.YtmkigdkhpdeaeaaDoor.writeT
  split
  · exact (h.ends.write f at_ t).crash _
  · exact h.ends.write f at_ t
theorem DOk.syncT {s : DS} (h : DOk s) (f : Int) : DOk (syncT s f).1 := by
  unfold Go.Proofs.YtmkigdkhpdeaeaaDoor.syncT
  have hc := h.come
  split
  · exact hc
  · split
    · rename_i hl
      have := hc.lost
      exact ⟨hc.now, hc.last, hc.q, hc.nd, by show 0 ≤ (comeS s).lost - 1 ∧ (comeS s).lost - 1 ≤ _; omega, hc.armed⟩
    · exact hc.settle f (hc.now f)
theorem DOk.truncT {s : DS} (h : DOk s) (f size : Int) : DOk (truncT s f size).1 := by
  unfold Go.Proofs.YtmkigdkhpdeaeaaDoor.truncT
  have hc := h.come
  split
  · exact hc
  · split
    · exact hc
    · split
      · exact hc
      · refine hc.settle f ?_
        rw [ofL_size, List.length_take, bl_length]
        have := hc.now f
        omega
end Go.Proofs.YtmkigdkhpdeaeaaDoor
