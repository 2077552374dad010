/-
  A cell is durable: what stays true of the disk and the cell. Plain law. No condition.
-/
import Derived.Test.YtmkigdkhpdeaeaaDoorCellS
namespace Go.Proofs.YtmkigdkhpdeaeaaDoor
open Go.RowKit

def Hd (X : ByteArray) (k : Int) (n : Nat) : Prop := (k = 0 → (bl X).getD 0 0 = 0) ∧ (k ≠ 0 → 5 ≤ X.size ∧ ∀ i, i < 5 → (bl X).getD i 0 = (headL k.toNat n).getD i 0)
def Dt (X : ByteArray) (k : Int) (v : ByteArray) : Prop := k ≠ 0 → (v.size = 0 ∨ (offs k).toNat + v.size ≤ X.size) ∧ ∀ i, i < v.size → (bl X).getD ((offs k).toNat + i) 0 = (bl v).getD i 0
structure Cv (k : Int) (v : ByteArray) : Prop where
  kr : k = 0 ∨ k = 1 ∨ k = 2
  z : k = 0 → v = ⟨#[]⟩
  n : v.size ≤ 65536
structure Opens (X : ByteArray) (k : Int) (v : ByteArray) : Prop where
  cv : Cv k v
  hd : Hd X k v.size
  dt : Dt X k v
def Rg (k : Int) (n : Nat) : Prop := (k = 1 ∧ 1 ≤ n ∧ n ≤ 1024) ∨ (k = 2 ∧ 2048 ≤ n ∧ n ≤ 3071)
theorem offs_cases {k : Int} (hk : k = 1 ∨ k = 2) : (k = 1 ∧ (offs k).toNat = 64) ∨ (k = 2 ∧ (offs k).toNat = 131072) := by
  rcases hk with rfl | rfl
  · exact .inl ⟨rfl, rfl⟩
  · exact .inr ⟨rfl, rfl⟩
theorem rg_of {k : Int} (hk : k = 1 ∨ k = 2) {i m : Nat} (hi : i < m) (hm : m ≤ 65536) : Rg k (((offs k).toNat + i) / 64) := by
  unfold Rg
  rcases offs_cases hk with ⟨h1, h2⟩ | ⟨h1, h2⟩ <;> rw [h2] <;> omega
theorem hnum_head (k n : Nat) (hn : n ≤ 65536) : hnum (headL k n) = n := by
  show (UInt8.ofNat n).toNat + 256 * (UInt8.ofNat (n / 256)).toNat + 65536 * (UInt8.ofNat (n / 65536)).toNat + 16777216 * (UInt8.ofNat (n / 16777216)).toNat = n
  have e : ∀ m : Nat, (UInt8.ofNat m).toNat = m % 256 := fun m => by simp
  rw [e, e, e, e]
  omega
theorem open_of {s : DS} {f : Int} (hm : mayS s f = 0) {k : Int} {v : ByteArray} (h : Opens (s.fs f).now k v) : openS s f = (some ⟨k, v, false⟩, 0) := by
  have hr := readT_ok (a := 0) (n := 5) hm (by decide) (by decide)
  generalize hX : (s.fs f).now = X at h hr
  have hbl := bl_length X
  by_cases hk : k = 0
  · have h0 := h.hd.1 hk
    have hv := h.cv.z hk
    subst hk hv
    unfold openS
    rw [hr]
    dsimp only
    rw [if_neg (fun hh => hh rfl)]
    by_cases e : (ofL (((bl X).drop (0 : Int).toNat).take (5 : Int).toNat)) = ⟨#[]⟩
    · rw [if_pos e]; rfl
    · rw [if_neg e, if_pos]
      · rfl
      · rw [bl_ofL]
        show (((bl X).drop 0).take 5).getD 0 0 = 0
        rw [List.drop_zero, List.getD_eq_getElem?_getD, List.getElem?_take, if_pos (by decide), ← List.getD_eq_getElem?_getD]
        exact h0
  · have hk2 : k = 1 ∨ k = 2 := by rcases h.cv.kr with e | e | e; exact absurd e hk; exact .inl e; exact .inr e
    obtain ⟨hs, hb⟩ := h.hd.2 hk
    obtain ⟨hd1, hd2⟩ := h.dt hk
    have hn := h.cv.n
    have e1 : ((bl X).drop (0 : Int).toNat).take (5 : Int).toNat = headL k.toNat v.size := readL_eq (by show 5 = min 5 ((bl X).length - 0); omega) fun i hi => by
      show (bl X).getD (0 + i) 0 = _
      rw [Nat.zero_add]
      exact hb i hi
    rw [e1] at hr
    have hx0 : (headL k.toNat v.size).getD 0 0 = UInt8.ofNat k.toNat := rfl
    have hoff : 0 ≤ offs k := by unfold offs; split <;> decide
    have hr2 := readT_ok (a := offs k) (n := (v.size : Int)) hm hoff (by omega)
    rw [hX] at hr2
    have e2 : ((bl X).drop (offs k).toNat).take (v.size : Int).toNat = bl v := by
      rw [Int.toNat_natCast]
      refine readL_eq (by rw [bl_length]; omega) fun i hi => hd2 i (by rw [bl_length] at hi; exact hi)
    rw [e2, ofL_bl] at hr2
    unfold openS
    rw [hr]
    dsimp only
    rw [if_neg (fun hh => hh rfl), if_neg (fun e => by have : (ofL (headL k.toNat v.size)).size = 0 := by rw [e]; rfl
                                                       cases this), bl_ofL, hx0]
    have hkk : (UInt8.ofNat k.toNat = 1 ∨ UInt8.ofNat k.toNat = 2) ∧ ((UInt8.ofNat k.toNat).toNat : Int) = k := by
      rcases hk2 with rfl | rfl
      · exact ⟨.inl rfl, rfl⟩
      · exact ⟨.inr rfl, rfl⟩
    rw [if_neg (by rcases hkk.1 with e | e <;> rw [e] <;> decide)]
    unfold open2
    rw [hx0, hnum_head _ _ hn, hkk.2, hr2]
    dsimp only
    rw [if_neg (by show ¬ (5 : Nat) < 5; omega), if_neg (by rintro ⟨a, b⟩; rcases hkk.1 with e | e; exact a e; exact b e), if_neg (by omega), if_neg (fun hh => hh rfl), if_neg (by omega)]

structure UpC (N L : ByteArray) (pd : Nat → Prop) (st : CS) (k0 : Int) (v0 : ByteArray) : Prop where
  now : Opens N st.slot st.value
  last : Opens L k0 v0
  lastD : Dt L st.slot st.value
  pend : ∀ n, pd n → ¬ Rg k0 n ∧ ¬ Rg st.slot n
  sure : st.sure = true ∨ st.slot = 0 → (∀ n, pd n → n ≠ 0) ∧ k0 = st.slot ∧ v0 = st.value
theorem UpC.mono {N L : ByteArray} {pd pd' : Nat → Prop} {st : CS} {k0 : Int} {v0 : ByteArray} (h : UpC N L pd st k0 v0) (hp : ∀ n, pd' n → pd n) : UpC N L pd' st k0 v0 :=
  ⟨h.now, h.last, h.lastD, fun n hn => h.pend n (hp n hn), fun hs => ⟨fun n hn => (h.sure hs).1 n (hp n hn), (h.sure hs).2⟩⟩
theorem Dt.surv {L N R : ByteArray} {Q : Nat → Prop} (hs : SvI L N R Q) {k : Int} {v : ByteArray} (hc : Cv k v) (h : Dt L k v) (hq : ∀ n, Q n → ¬ Rg k n) : Dt R k v := by
  intro hk
  have hk2 : k = 1 ∨ k = 2 := by rcases hc.kr with e | e | e; exact absurd e hk; exact .inl e; exact .inr e
  obtain ⟨h1, h2⟩ := h hk
  have := hs.ge
  refine ⟨by omega, fun i hi => ?_⟩
  have hrg := rg_of hk2 hi hc.n
  rw [hs.old (((offs k).toNat + i) / 64) (fun hh => hq _ hh hrg) _ (by omega) (by omega)]
  exact h2 i hi
theorem UpC.crash {N L R : ByteArray} {pd Q : Nat → Prop} {st : CS} {k0 : Int} {v0 : ByteArray} (h : UpC N L pd st k0 v0) (hs : SvI L N R Q) (hq : ∀ n, Q n → pd n) : Opens R st.slot st.value ∨ Opens R k0 v0 := by
  have hbN := bl_length N
  have hbR := bl_length R
  have hle := hs.le
  have hge := hs.ge
  by_cases q0 : Q 0
  · left
    obtain ⟨n1, n2⟩ := hs.new 0 q0
    refine ⟨h.now.cv, ⟨fun e => ?_, fun e => ?_⟩, Dt.surv hs h.now.cv h.lastD fun n hn => (h.pend n (hq n hn)).2⟩
    · have h0 := h.now.hd.1 e
      by_cases c : 0 < N.size
      · rw [n1 0 (by omega) (by omega) c]; exact h0
      · rw [getD_out (by omega)]
    · obtain ⟨h1, h2⟩ := h.now.hd.2 e
      exact ⟨by omega, fun i hi => by rw [n1 i (by omega) (by omega) (by omega)]; exact h2 i hi⟩
  · right
    have o := hs.old 0 q0
    refine ⟨h.last.cv, ⟨fun e => ?_, fun e => ?_⟩, Dt.surv hs h.last.cv h.last.dt fun n hn => (h.pend n (hq n hn)).1⟩
    · rw [o 0 (by omega) (by omega)]; exact h.last.hd.1 e
    · obtain ⟨h1, h2⟩ := h.last.hd.2 e
      exact ⟨by omega, fun i hi => by rw [o i (by omega) (by omega)]; exact h2 i hi⟩
theorem UpC.settle {N L : ByteArray} {pd : Nat → Prop} {st : CS} {k0 : Int} {v0 : ByteArray} (h : UpC N L pd st k0 v0) (b : Bool) {pd' : Nat → Prop} (hp : ∀ n, ¬ pd' n) : UpC N N pd' { st with sure := b } st.slot st.value :=
  ⟨h.now, h.now, h.now.dt, fun n hn => absurd hn (hp n), fun _ => ⟨fun n hn => absurd hn (hp n), rfl, rfl⟩⟩
/-- A value is written into the other slot. -/
theorem nextK_ne (st : CS) (h : slotOk st) : nextK st ≠ st.slot := by
  unfold nextK
  unfold slotOk at h
  split <;> omega
theorem rg_next {st : CS} {n : Nat} {t : ByteArray} (ht : t.size ≤ 65536) (h0 : t.size ≠ 0) (h1 : (offs (nextK st)).toNat / 64 ≤ n) (h2 : n ≤ ((offs (nextK st)).toNat + t.size - 1) / 64) : Rg (nextK st) n := by
  unfold Rg
  rcases offs_cases (nextK_range st) with ⟨e1, e2⟩ | ⟨e1, e2⟩ <;> rw [e2] at h1 h2 <;> omega
theorem rg_disj {a b : Int} {n : Nat} (h : Rg a n) (hne : a ≠ b) : ¬ Rg b n := by
  unfold Rg at *
  omega
theorem putB_ge (s t : ByteArray) (a : Nat) : s.size ≤ (putB s a t).size := by
  rw [putB_size]
  split <;> omega
theorem UpC.data {N L : ByteArray} {pd pd' : Nat → Prop} {st : CS} (h : UpC N L pd st st.slot st.value) (hA : ∀ n, pd n → n ≠ 0) {t : ByteArray} (ht : t.size ≤ 65536)
    (hp : ∀ n, pd' n → pd n ∨ (t.size ≠ 0 ∧ (offs (nextK st)).toNat / 64 ≤ n ∧ n ≤ ((offs (nextK st)).toNat + t.size - 1) / 64)) :
    UpC (putB N (offs (nextK st)).toNat t) L pd' st st.slot st.value ∧ (∀ n, pd' n → n ≠ 0) ∧ Dt (putB N (offs (nextK st)).toNat t) (nextK st) t := by
  have hok : slotOk st := h.now.cv.kr
  have hne := nextK_ne st hok
  have ho := offs_cases (nextK_range st)
  have hge := putB_ge N t (offs (nextK st)).toNat
  have hlow : ∀ i, i < 64 → (bl (putB N (offs (nextK st)).toNat t)).getD i 0 = (bl N).getD i 0 := fun i hi => by rw [putB_get, if_neg (by omega)]
  have hn0 : ∀ n, pd' n → n ≠ 0 := fun n hn => by
    rcases hp n hn with h1 | ⟨h1, h2, h3⟩
    · exact hA n h1
    · omega
  refine ⟨⟨⟨h.now.cv, ⟨fun e => ?_, fun e => ?_⟩, fun e => ?_⟩, h.last, h.lastD, fun n hn => ?_, fun _ => ⟨hn0, rfl, rfl⟩⟩, hn0, fun e => ⟨?_, fun i hi => ?_⟩⟩
  · rw [hlow 0 (by omega)]; exact h.now.hd.1 e
  · obtain ⟨h1, h2⟩ := h.now.hd.2 e
    exact ⟨by omega, fun i hi => by rw [hlow i (by omega)]; exact h2 i hi⟩
  · obtain ⟨h1, h2⟩ := h.now.dt e
    have hk2 : st.slot = 1 ∨ st.slot = 2 := by rcases hok with e' | e' | e'; exact absurd e' e; exact .inl e'; exact .inr e'
    have ho2 := offs_cases hk2
    have hv := h.now.cv.n
    refine ⟨by omega, fun i hi => ?_⟩
    rw [putB_get, if_neg (by omega)]
    exact h2 i hi
  · rcases hp n hn with h1 | ⟨h1, h2, h3⟩
    · exact h.pend n h1
    · have := rg_disj (rg_next ht h1 h2 h3) hne
      exact ⟨this, this⟩
  · by_cases c : t.size = 0
    · exact .inl c
    · right
      rw [putB_size, if_neg (fun e => c (by rw [e]; rfl))]
      omega
  · rw [putB_get, if_pos (by omega), Nat.add_sub_cancel_left]
/-- The header is written. -/
theorem UpC.head {N L : ByteArray} {pd pd' : Nat → Prop} {st : CS} (h : UpC N L pd st st.slot st.value) (hN : L = N) {t : ByteArray} (ht : t.size ≤ 65536) (hD : Dt N (nextK st) t) (hp : ∀ n, pd' n → n = 0) :
    UpC (putB N 0 (headB st t)) L pd' ⟨nextK st, t, false⟩ st.slot st.value := by
  subst hN
  have hk := nextK_range st
  have hk0 : nextK st ≠ 0 := by omega
  have hge := putB_ge L (headB st t) 0
  have hsz : (putB L 0 (headB st t)).size = max L.size 5 := by
    rw [putB_size, if_neg (fun e => by have : (headB st t).size = 0 := by rw [e]; rfl
                                       rw [headB_size] at this; omega), headB_size, Nat.zero_add]
  refine ⟨⟨⟨?_, fun e => absurd e hk0, ht⟩, ⟨fun e => absurd e hk0, fun _ => ⟨by omega, fun i hi => ?_⟩⟩, fun _ => ?_⟩, h.now, hD, fun n hn => ?_, fun hs => ?_⟩
  · rcases hk with e | e
    · exact .inr (.inl e)
    · exact .inr (.inr e)
  · rw [putB_get, headB_size, if_pos (by omega)]
    rfl
  · obtain ⟨h1, h2⟩ := hD hk0
    have ho := offs_cases hk
    refine ⟨by show t.size = 0 ∨ (offs (nextK st)).toNat + t.size ≤ _; omega, fun i hi => ?_⟩
    show (bl (putB L 0 (headB st t))).getD ((offs (nextK st)).toNat + i) 0 = _
    rw [putB_get, headB_size, if_neg (by omega)]
    exact h2 i hi
  · have := hp n hn
    subst this
    unfold Rg
    omega
  · rcases hs with hs | hs
    · cases hs
    · exact absurd hs hk0

/-! ### The disk below -/
def Pd (s : DS) (f : Int) (n : Nat) : Prop := (⟨f, (n : Int)⟩ : Sec) ∈ s.queue
structure DnC (s : DS) (f : Int) (k : Int) (v : ByteArray) : Prop where
  now : Opens (s.fs f).now k v
  last : (s.fs f).last = (s.fs f).now
  pd : ∀ n, ¬ Pd s f n
theorem ends_fs (s : DS) : (endsS s).fs = s.fs := by unfold endsS; split <;> rfl
theorem ends_q (s : DS) : (endsS s).queue = s.queue := by unfold endsS; split <;> rfl
theorem crash_up {s : DS} (hP : PIs s) (hO : DOk s) (hd : s.down = false) {f : Int} {st : CS} {k0 : Int} {v0 : ByteArray} (hU : UpC (s.fs f).now (s.fs f).last (Pd s f) st k0 v0) (keep : List Int) :
    DnC (crashS s keep) f st.slot st.value ∨ DnC (crashS s keep) f k0 v0 := by
  have hc := surv_char (keep := keep) hO.now hO.last (hP.le f) (fun q hq => (hO.q q hq).2.1) s.queue.length (Nat.le_refl _)
  have hfs := crash_fs hd keep f
  have hq : (crashS s keep).queue = [] := by unfold crashS; rw [if_neg (by rw [hd]; decide)]
  have hpd : ∀ n, ¬ Pd (crashS s keep) f n := fun n hn => by
    unfold Pd at hn
    rw [hq] at hn
    cases hn
  have := hU.crash hc fun n hn => by
    obtain ⟨j, hj, e, _⟩ := hn
    unfold Pd
    rw [← e, List.getD_eq_getElem?_getD, List.getElem?_eq_getElem hj]
    exact List.getElem_mem hj
  rcases this with h | h
  · exact .inl ⟨by rw [hfs]; exact h, by rw [hfs], hpd⟩
  · exact .inr ⟨by rw [hfs]; exact h, by rw [hfs], hpd⟩
theorem sync_up {s : DS} (hd : s.down = false) {f : Int} (hf : 0 ≤ f ∧ f < 16) :
    syncT s f = (crashS (endsS s) (endsS s).keep, 9) ∨ (∃ l, syncT s f = ({ endsS s with lost := l }, 10)) ∨ syncT s f = (settleS (endsS s) f (s.fs f).now, 0) := by
  unfold syncT comeS
  by_cases e : endsB s = true
  · left
    simp only [if_pos e]
    have hm : mayS (crashS (endsS s) (endsS s).keep) f = 9 := by unfold mayS; rw [if_pos (crash_dn _ _)]
    rw [hm, if_pos (by decide)]
  · right
    simp only [if_neg e]
    have hm : mayS (endsS s) f = 0 := mayS_zero.2 ⟨by rw [ends_dn]; exact hd, hf⟩
    rw [if_neg (by rw [hm]; decide)]
    by_cases l : 0 < (endsS s).lost
    · rw [if_pos l]; exact .inl ⟨_, rfl⟩
    · rw [if_neg l, ends_fs]; exact .inr rfl
theorem write_up {s : DS} (hd : s.down = false) {f a : Int} {t : ByteArray} (hf : 0 ≤ f ∧ f < 16) (ha : 0 ≤ a) (hfit : a + t.size ≤ 16777216) :
    (∃ k, writeT s f a t = (crashS (addS (endsS s) f a.toNat t) k, 9)) ∨ writeT s f a t = (addS (endsS s) f a.toNat t, 0) := by
  have hE : writeE (endsS s) f a t = 0 := (writeE_zero' (by rw [ends_dn]; exact hd)).2 ⟨hf, ha, hfit⟩
  have hW : writeW (endsS s) f a t = addS (endsS s) f a.toNat t := by unfold writeW; rw [if_pos hE]
  unfold writeT
  rw [hE, hW]
  split
  · exact .inl ⟨_, rfl⟩
  · exact .inr rfl
theorem dn_same {s : DS} (hd : s.down = true) : endsB s = false ∧ endsS s = s ∧ comeS s = s := by
  have h1 : endsB s = false := by unfold endsB; rw [hd]; rfl
  have h2 : endsS s = s := by unfold endsS; rw [if_pos (.inl hd)]
  exact ⟨h1, h2, by unfold comeS; rw [if_neg (by rw [h1]; decide), h2]⟩
theorem sync_dn {s : DS} (hd : s.down = true) (f : Int) : syncT s f = (s, 9) := by
  obtain ⟨_, _, h⟩ := dn_same hd
  have hm : mayS s f = 9 := by unfold mayS; rw [if_pos hd]
  unfold syncT
  rw [h, hm, if_pos (by decide)]
theorem writeT_dn {s : DS} (hd : s.down = true) (f a : Int) (t : ByteArray) : writeT s f a t = (s, 9) := by
  obtain ⟨h1, h2, _⟩ := dn_same hd
  have hm : mayS s f = 9 := by unfold mayS; rw [if_pos hd]
  have hE : writeE s f a t = 9 := by unfold writeE; rw [hm, if_pos (by decide)]
  unfold writeT
  rw [h1, h2, hE, if_neg (by decide)]
  unfold writeW
  rw [hE, if_neg (by decide)]
theorem add_pd {s : DS} {f : Int} {a : Nat} {t : ByteArray} {n : Nat} (h : Pd (addS s f a t) f n) : Pd s f n ∨ (t.size ≠ 0 ∧ a / 64 ≤ n ∧ n ≤ (a + t.size - 1) / 64) := by
  unfold Pd addS at h
  split at h
  · exact .inl h
  · rename_i ht
    have hpos := size_pos ht
    rcases addQ_mem.1 h with h | ⟨m, hm, e⟩
    · exact .inl h
    · injection e with _ e
      have : n = m := by omega
      subst this
      exact .inr ⟨by omega, (secs_mem hpos).1 hm⟩
theorem settle_pd {s : DS} {f : Int} {x : ByteArray} (n : Nat) : ¬ Pd (settleS s f x) f n := fun h => by
  have := (List.mem_filter.1 h).2
  simp at this

structure Up (s : DS) (f : Int) : Prop where
  P : PIs s
  O : DOk s
  d : s.down = false
  r : 0 ≤ f ∧ f < 16
/-- What stays true. -/
def Res (s : DS) (f : Int) (st : CS) (Ok : Int → ByteArray → Prop) : Prop := PIs s ∧ DOk s ∧ slotOk st ∧
  ((s.down = false ∧ ∃ k0 v0, UpC (s.fs f).now (s.fs f).last (Pd s f) st k0 v0 ∧ Ok st.slot st.value ∧ Ok k0 v0) ∨ (s.down = true ∧ ∃ k v, DnC s f k v ∧ Ok k v))
theorem Res.mono {s : DS} {f : Int} {st : CS} {Ok Ok' : Int → ByteArray → Prop} (h : Res s f st Ok) (hm : ∀ k v, Ok k v → Ok' k v) : Res s f st Ok' := by
  obtain ⟨h1, h2, h3, h4⟩ := h
  refine ⟨h1, h2, h3, h4.imp (fun ⟨a, k0, v0, b, c, d⟩ => ⟨a, k0, v0, b, hm _ _ c, hm _ _ d⟩) fun ⟨a, k, v, b, c⟩ => ⟨a, k, v, b, hm _ _ c⟩⟩
theorem crash_res {s : DS} {f : Int} (hu : Up s f) {st st' : CS} {k0 : Int} {v0 : ByteArray} (hU : UpC (s.fs f).now (s.fs f).last (Pd s f) st k0 v0) (keep : List Int) (hst : slotOk st') {Ok : Int → ByteArray → Prop} (h1 : Ok st.slot st.value) (h2 : Ok k0 v0) :
    Res (crashS s keep) f st' Ok := by
  refine ⟨PI.crash hu.P keep, hu.O.crash keep, hst, .inr ⟨crash_dn _ _, ?_⟩⟩
  rcases crash_up hu.P hu.O hu.d hU keep with h | h
  · exact ⟨_, _, h, h1⟩
  · exact ⟨_, _, h, h2⟩
theorem sync_step {s : DS} {f : Int} (hu : Up s f) {st : CS} {k0 : Int} {v0 : ByteArray} (hU : UpC (s.fs f).now (s.fs f).last (Pd s f) st k0 v0) :
    ((syncT s f).2 = 0 ∧ Up (syncT s f).1 f ∧ (syncT s f).1.fs f = ⟨(s.fs f).now, (s.fs f).now⟩ ∧ ∀ n, ¬ Pd (syncT s f).1 f n) ∨
    ((syncT s f).2 ≠ 0 ∧ ∀ Ok : Int → ByteArray → Prop, Ok st.slot st.value → Ok k0 v0 → Res (syncT s f).1 f st Ok) := by
  have hue : Up (endsS s) f := ⟨PI.ends hu.P, hu.O.ends, by rw [ends_dn]; exact hu.d, hu.r⟩
  have hpd : Pd (endsS s) f = Pd s f := by funext n; unfold Pd; rw [ends_q]
  have hUe : UpC ((endsS s).fs f).now ((endsS s).fs f).last (Pd (endsS s) f) st k0 v0 := by rw [ends_fs, hpd]; exact hU
  rcases sync_up hu.d hu.r with e | ⟨l, e⟩ | e
  · right
    rw [e]
    exact ⟨by show (9 : Int) ≠ 0; decide, fun Ok h1 h2 => crash_res hue hUe _ hU.now.cv.kr h1 h2⟩
  · right
    have hO := hu.O.syncT f
    rw [e] at hO ⊢
    exact ⟨by show (10 : Int) ≠ 0; decide, fun Ok h1 h2 => ⟨hue.P, hO, hU.now.cv.kr, .inl ⟨hue.d, k0, v0, hUe, h1, h2⟩⟩⟩
  · left
    have hO := hu.O.syncT f
    rw [e] at hO ⊢
    exact ⟨rfl, ⟨PI.settle hue.P f _, hO, hue.d, hu.r⟩, settle_fs _ _ _, fun n => settle_pd n⟩
theorem write_step {s : DS} {f a : Int} {t : ByteArray} (hu : Up s f) (ha : 0 ≤ a) (hfit : a + t.size ≤ 16777216) {st : CS} {k0 : Int} {v0 : ByteArray}
    (hU : UpC (putB (s.fs f).now a.toNat t) (s.fs f).last (fun n => Pd s f n ∨ (t.size ≠ 0 ∧ a.toNat / 64 ≤ n ∧ n ≤ (a.toNat + t.size - 1) / 64)) st k0 v0) :
    ((writeT s f a t).2 = 0 ∧ Up (writeT s f a t).1 f ∧ (writeT s f a t).1.fs f = ⟨putB (s.fs f).now a.toNat t, (s.fs f).last⟩ ∧ ∀ n, Pd (writeT s f a t).1 f n → Pd s f n ∨ (t.size ≠ 0 ∧ a.toNat / 64 ≤ n ∧ n ≤ (a.toNat + t.size - 1) / 64)) ∨
    ((writeT s f a t).2 ≠ 0 ∧ ∀ (Ok : Int → ByteArray → Prop) (st' : CS), slotOk st' → Ok st.slot st.value → Ok k0 v0 → Res (writeT s f a t).1 f st' Ok) := by
  have hua : Up (addS (endsS s) f a.toNat t) f := ⟨PI.add (PI.ends hu.P) f _ t, hu.O.ends.add hu.r (by omega), by rw [add_down, ends_dn]; exact hu.d, hu.r⟩
  have hfs : (addS (endsS s) f a.toNat t).fs f = ⟨putB (s.fs f).now a.toNat t, (s.fs f).last⟩ := by rw [add_fs, ends_fs]
  have hpd : ∀ n, Pd (addS (endsS s) f a.toNat t) f n → Pd s f n ∨ (t.size ≠ 0 ∧ a.toNat / 64 ≤ n ∧ n ≤ (a.toNat + t.size - 1) / 64) := fun n hn => by
    have := add_pd hn
    unfold Pd at this ⊢
    rw [ends_q] at this
    exact this
  rcases write_up hu.d hu.r ha hfit with ⟨k, e⟩ | e
  · right
    rw [e]
    refine ⟨by show (9 : Int) ≠ 0; decide, fun Ok st' hst h1 h2 => crash_res (st := st) hua ?_ k hst h1 h2⟩
    rw [hfs]
    exact hU.mono hpd
  · left
    rw [e]
    exact ⟨rfl, hua, hfs, hpd⟩

/-- Set: what it was given, or what was there. -/
theorem set_inv {s : DS} {f : Int} {st : CS} {Ok : Int → ByteArray → Prop} (hf : 0 ≤ f ∧ f < 16) (h : Res s f st Ok) (v : ByteArray) (hv : v.size ≤ 65536) :
    Res (setS s st f v).1.1 f (setS s st f v).1.2 (fun k w => Ok k w ∨ (k ≠ 0 ∧ w = v)) ∧
    ((setS s st f v).2 = 0 → (setS s st f v).1.2 = ⟨nextK st, v, true⟩ ∧ (setS s st f v).1.1.down = false ∧ Res (setS s st f v).1.1 f (setS s st f v).1.2 (fun k w => k ≠ 0 ∧ w = v)) := by
  obtain ⟨hP, hO, hst, hcase⟩ := h
  rcases hcase with ⟨hd, k0, v0, hU, o1, o2⟩ | ⟨hd, k, w, hD, o1⟩
  case inr =>
    -- the machine is down
    have hdn : ∀ st, Res s f st (fun k w => Ok k w ∨ (k ≠ 0 ∧ w = v)) ∨ ¬ slotOk st := fun st => by
      by_cases c : slotOk st
      · exact .inl ⟨hP, hO, c, .inr ⟨hd, k, w, hD, .inl o1⟩⟩
      · exact .inr c
    have hs1 : slotOk (st1 st) := hst
    unfold setS
    rw [if_neg (by omega)]
    unfold sure1
    by_cases c : st.sure = false ∧ 0 < st.slot
    · rw [if_pos c, sync_dn hd]
      dsimp only
      rw [if_pos (by decide)]
      exact ⟨(hdn st).resolve_right (fun hh => hh hst), fun e => by cases e⟩
    · rw [if_neg c]
      dsimp only
      rw [if_neg (fun hh => hh rfl)]
      unfold set1
      rw [writeT_dn hd]
      dsimp only
      rw [if_pos (by decide)]
      exact ⟨(hdn (st1 st)).resolve_right (fun hh => hh hs1), fun e => by cases e⟩
  have hu : Up s f := ⟨hP, hO, hd, hf⟩
  unfold setS
  rw [if_neg (by omega)]
  -- the first sync
  have first : ((sure1 s st f).2 = 0 ∧ Up (sure1 s st f).1 f ∧ UpC ((sure1 s st f).1.fs f).now ((sure1 s st f).1.fs f).last (Pd (sure1 s st f).1 f) (st1 st) st.slot st.value ∧ (∀ n, Pd (sure1 s st f).1 f n → n ≠ 0)) ∨ ((sure1 s st f).2 ≠ 0 ∧ Res (sure1 s st f).1 f st Ok) := by
    unfold sure1
    by_cases c : st.sure = false ∧ 0 < st.slot
    · rw [if_pos c]
      rcases sync_step hu hU with ⟨e, u, hfs, hpd⟩ | ⟨e, hr⟩
      · left
        refine ⟨e, u, ?_, fun n hn => absurd hn (hpd n)⟩
        rw [hfs]
        exact hU.settle _ hpd
      · exact .inr ⟨e, hr Ok o1 o2⟩
    · rw [if_neg c]
      left
      have hsure : st.sure = true ∨ st.slot = 0 := by
        by_cases e : st.sure = true
        · exact .inl e
        · right
          have e' : st.sure = false := by simpa using e
          unfold slotOk at hst
          by_cases e0 : st.slot = 0
          · exact e0
          · exact absurd ⟨e', by omega⟩ c
      obtain ⟨a1, a2, a3⟩ := hU.sure hsure
      subst a2 a3
      have est : st1 st = st := by
        unfold st1
        obtain ⟨sl, vl, su⟩ := st
        simp only at hsure ⊢
        rcases hsure with rfl | rfl
        · rfl
        · simp
      refine ⟨rfl, hu, ?_, a1⟩
      rw [est]
      exact hU
  rcases first with ⟨e1, hu1, hU1, hA1⟩ | ⟨e1, hr⟩
  case inr =>
    rw [if_pos e1]
    exact ⟨hr.mono fun _ _ h => .inl h, fun e => absurd e e1⟩
  rw [if_neg (fun hh => hh e1)]
  clear e1 hU hu
  generalize (sure1 s st f).1 = s1 at hu1 hU1 hA1
  have hst1 : slotOk (st1 st) := hst
  have hk : nextK (st1 st) = nextK st := rfl
  have hb : ∀ t, headB (st1 st) t = headB st t := fun _ => rfl
  have ho1 : Ok (st1 st).slot (st1 st).value := o1
  generalize hst1e : st1 st = t1 at hU1 hst1 hk hb ho1
  have hsl : st.slot = t1.slot := by rw [← hst1e]; rfl
  have hvl : st.value = t1.value := by rw [← hst1e]; rfl
  rw [hsl, hvl] at hU1
  rw [← hk]
  have hro := offs_range t1
  -- the value is written
  obtain ⟨hU2, hA2, hD2⟩ := hU1.data hA1 hv (pd' := fun n => Pd s1 f n ∨ (v.size ≠ 0 ∧ (offs (nextK t1)).toNat / 64 ≤ n ∧ n ≤ ((offs (nextK t1)).toNat + v.size - 1) / 64)) fun n hn => hn
  unfold set1
  rcases write_step hu1 hro.1 (by omega) hU2 with ⟨e2, hu2, hfs2, hpd2⟩ | ⟨e2, hr⟩
  case inr =>
    rw [if_pos e2]
    exact ⟨hr _ t1 hst1 (.inl ho1) (.inl ho1), fun e => absurd e e2⟩
  rw [if_neg (fun hh => hh e2)]
  clear e2
  generalize (writeT s1 f (offs (nextK t1)) v).1 = s2 at hu2 hfs2 hpd2
  have hU2 := hU2.mono hpd2
  have hA2 : ∀ n, Pd s2 f n → n ≠ 0 := fun n hn => hA2 n (hpd2 n hn)
  have hN2 : (s2.fs f).now = putB (s1.fs f).now (offs (nextK t1)).toNat v := by rw [hfs2]
  have hL2 : (s2.fs f).last = (s1.fs f).last := by rw [hfs2]
  rw [← hN2, ← hL2] at hU2
  rw [← hN2] at hD2
  -- the second sync
  unfold set2
  rcases sync_step hu2 hU2 with ⟨e3, hu3, hfs3, hpd3⟩ | ⟨e3, hr⟩
  case inr =>
    rw [if_pos e3]
    exact ⟨hr _ (.inl ho1) (.inl ho1), fun e => absurd e e3⟩
  rw [if_neg (fun hh => hh e3)]
  clear e3
  have hU3 := hU2.settle t1.sure hpd3
  generalize (syncT s2 f).1 = s3 at hu3 hfs3 hpd3 hU3
  have hN3 : (s3.fs f).now = (s2.fs f).now := by rw [hfs3]
  have hL3 : (s3.fs f).last = (s2.fs f).now := by rw [hfs3]
  -- the header is written
  have hU4 := UpC.head (st := t1) (pd' := fun n => Pd s3 f n ∨ ((headB t1 v).size ≠ 0 ∧ (0 : Int).toNat / 64 ≤ n ∧ n ≤ ((0 : Int).toNat + (headB t1 v).size - 1) / 64)) hU3 rfl hv hD2 fun n hn => by
    rcases hn with hn | ⟨_, _, hn⟩
    · exact absurd hn (hpd3 n)
    · rw [headB_size] at hn
      simpa using hn
  have hU4' : UpC (putB (s3.fs f).now (0 : Int).toNat (headB t1 v)) (s3.fs f).last (fun n => Pd s3 f n ∨ ((headB t1 v).size ≠ 0 ∧ (0 : Int).toNat / 64 ≤ n ∧ n ≤ ((0 : Int).toNat + (headB t1 v).size - 1) / 64)) ⟨nextK t1, v, false⟩ t1.slot t1.value := by
    rw [hN3, hL3]; exact hU4
  have hnk : nextK t1 ≠ 0 := by have := nextK_range t1; omega
  unfold set3
  rcases write_step hu3 (Int.le_refl 0) (by rw [headB_size]; decide) hU4' with ⟨e4, hu4, hfs4, hpd4⟩ | ⟨e4, hr⟩
  case inr =>
    rw [if_pos e4]
    exact ⟨hr _ t1 hst1 (.inr ⟨hnk, rfl⟩) (.inl ho1), fun e => absurd e e4⟩
  rw [if_neg (fun hh => hh e4)]
  clear e4
  have hU5 := hU4'.mono hpd4
  generalize (writeT s3 f 0 (headB t1 v)).1 = s4 at hu4 hfs4 hpd4 hU5
  have hN4 : (s4.fs f).now = putB (s3.fs f).now (0 : Int).toNat (headB t1 v) := by rw [hfs4]
  have hL4 : (s4.fs f).last = (s3.fs f).last := by rw [hfs4]
  rw [← hN4, ← hL4] at hU5
  -- the last sync
  rcases sync_step hu4 hU5 with ⟨e5, hu5, hfs5, hpd5⟩ | ⟨e5, hr⟩
  · rw [e5]
    have hU6 := hU5.settle true hpd5
    have hU6 : UpC ((syncT s4 f).1.fs f).now ((syncT s4 f).1.fs f).last (Pd (syncT s4 f).1 f) ⟨nextK t1, v, true⟩ (nextK t1) v := by rw [hfs5]; exact hU6
    have hsl5 : slotOk ⟨nextK t1, v, true⟩ := by
      rcases nextK_range t1 with e | e
      · exact .inr (.inl e)
      · exact .inr (.inr e)
    refine ⟨⟨hu5.P, hu5.O, hsl5, .inl ⟨hu5.d, _, _, hU6, .inr ⟨hnk, rfl⟩, .inr ⟨hnk, rfl⟩⟩⟩, fun _ => ⟨rfl, hu5.d, hu5.P, hu5.O, hsl5, .inl ⟨hu5.d, _, _, hU6, ⟨hnk, rfl⟩, ⟨hnk, rfl⟩⟩⟩⟩
  · have hdf : decide ((syncT s4 f).2 = 0) = false := decide_eq_false e5
    rw [hdf]
    exact ⟨hr _ (.inr ⟨hnk, rfl⟩) (.inl ho1), fun e => absurd e e5⟩
/-- After a restart. -/
theorem again_inv {s : DS} {f : Int} {st : CS} {Ok : Int → ByteArray → Prop} (hf : 0 ≤ f ∧ f < 16) (h : Res s f st Ok) (keep : List Int) :
    ∃ k v, openS { crashS s keep with down := false } f = (some ⟨k, v, false⟩, 0) ∧ Ok k v ∧ Cv k v ∧ Res { crashS s keep with down := false } f ⟨k, v, false⟩ (fun k' v' => k' = k ∧ v' = v) := by
  obtain ⟨hP, hO, hst, hcase⟩ := h
  have key : ∃ k v, DnC (crashS s keep) f k v ∧ Ok k v := by
    rcases hcase with ⟨hd, k0, v0, hU, o1, o2⟩ | ⟨hd, k, w, hD, o1⟩
    · rcases crash_up hP hO hd hU keep with h | h
      · exact ⟨_, _, h, o1⟩
      · exact ⟨_, _, h, o2⟩
    · have e : crashS s keep = s := by unfold crashS; rw [if_pos hd]
      rw [e]
      exact ⟨k, w, hD, o1⟩
  obtain ⟨k, v, hD, o⟩ := key
  have hP' := PI.crash hP keep
  have hO' := hO.crash keep
  have hm : mayS { crashS s keep with down := false } f = 0 := mayS_zero.2 ⟨rfl, hf⟩
  refine ⟨k, v, open_of hm hD.now, o, hD.now.cv, hP', ⟨hO'.now, hO'.last, hO'.q, hO'.nd, hO'.lost, hO'.armed⟩, hD.now.cv.kr, .inl ⟨rfl, k, v, ?_, ⟨rfl, rfl⟩, ⟨rfl, rfl⟩⟩⟩
  have hl : ((crashS s keep).fs f).last = ((crashS s keep).fs f).now := hD.last
  refine ⟨hD.now, ?_, ?_, fun n hn => absurd hn (hD.pd n), fun _ => ⟨fun n hn => absurd hn (hD.pd n), rfl, rfl⟩⟩
  · show Opens ((crashS s keep).fs f).last k v
    rw [hl]; exact hD.now
  · show Dt ((crashS s keep).fs f).last k v
    rw [hl]; exact hD.now.dt
theorem res_new (f : Int) : Res newS f c0S (fun k v => k = 0 ∧ v = ⟨#[]⟩) := by
  have ho : Opens (⟨#[]⟩ : ByteArray) 0 ⟨#[]⟩ := ⟨⟨.inl rfl, fun _ => rfl, by decide⟩, ⟨fun _ => rfl, fun e => absurd rfl e⟩, fun e => absurd rfl e⟩
  exact ⟨PI.new, newS_ok, .inl rfl, .inl ⟨rfl, 0, ⟨#[]⟩, ⟨ho, ho, ho.dt, fun n hn => (by cases hn), fun _ => ⟨fun n hn => (by cases hn), rfl, rfl⟩⟩, ⟨rfl, rfl⟩, ⟨rfl, rfl⟩⟩⟩
theorem res_lose {s : DS} {f : Int} {st : CS} {Ok : Int → ByteArray → Prop} (h : Res s f st Ok) {n : Int} (hn : n ≤ 9223372036854775807) : Res { s with lost := max n 0 } f st Ok := by
  obtain ⟨hP, hO, hst, hcase⟩ := h
  exact ⟨hP, ⟨hO.now, hO.last, hO.q, hO.nd, by show 0 ≤ max n 0 ∧ max n 0 ≤ _; omega, hO.armed⟩, hst, hcase.imp (fun ⟨a, k0, v0, b, c⟩ => ⟨a, k0, v0, b, c⟩) fun ⟨a, k, v, b, c⟩ => ⟨a, k, v, ⟨b.now, b.last, b.pd⟩, c⟩⟩
theorem res_arm {s : DS} {f : Int} {st : CS} {Ok : Int → ByteArray → Prop} (h : Res s f st Ok) {n : Int} (hn : n ≤ 9223372036854775807) (k : List Int) : Res { s with armed := max n 0, keep := k } f st Ok := by
  obtain ⟨hP, hO, hst, hcase⟩ := h
  exact ⟨hP, ⟨hO.now, hO.last, hO.q, hO.nd, hO.lost, by show 0 ≤ max n 0 ∧ max n 0 ≤ _; omega⟩, hst, hcase.imp (fun ⟨a, k0, v0, b, c⟩ => ⟨a, k0, v0, b, c⟩) fun ⟨a, k, v, b, c⟩ => ⟨a, k, v, ⟨b.now, b.last, b.pd⟩, c⟩⟩
end Go.Proofs.YtmkigdkhpdeaeaaDoor
