/-
  The encoding of a partition, and how it is read: plain laws. No condition.
-/
import Derived.Test.YtefinemhfgdpdaaGreatDoorInA
import Derived.Test.YtefinemhfgdpdaaGreatDoorPrA
import Derived.Test.YtefinemhfgdpdaaGreatDoorSpA
import Derived.Test.YtefinemhfgdpdaaGreatDoorSoA
import Derived.Shelf.SlMaps.Clone
namespace Go.Proofs.YtefinemhfgdpdaaGreatDoor
open Go.RowKit
set_option maxRecDepth 100000

structure KeysOk (s : IS) : Prop where
  in_ : ∀ t, s.cnt t ≠ 0 → closedS s < t ∧ t ≤ s.top
theorem FinI.keys {s : IS} {times : List Int} (h : FinI s times) : KeysOk s := ⟨fun t ht => by
  have h1 := h.cnt t
  by_cases c : closedS s < t
  · rw [if_pos c] at h1
    refine ⟨c, h.top t ?_⟩
    have : 0 < times.count t := by omega
    exact List.count_pos_iff.1 this
  · rw [if_neg c] at h1; exact absurd h1 ht⟩
def keysS (s : IS) : List Int := ((List.range (s.top - closedS s).toNat).map fun i : Nat => closedS s + 1 + (i : Int)).filter fun t => decide (s.cnt t ≠ 0)
theorem keysS_mem {s : IS} (h : KeysOk s) {t : Int} : t ∈ keysS s ↔ s.cnt t ≠ 0 := by
  unfold keysS
  rw [List.mem_filter, decide_eq_true_iff, List.mem_map]
  constructor
  · exact fun h => h.2
  · intro ht
    obtain ⟨h1, h2⟩ := h.in_ t ht
    exact ⟨⟨(t - closedS s - 1).toNat, List.mem_range.2 (by omega), by omega⟩, ht⟩
theorem keysS_asc (s : IS) : (keysS s).Pairwise (· < ·) := by
  unfold keysS
  refine List.Pairwise.filter _ ?_
  rw [List.pairwise_map]
  exact List.pairwise_lt_range.imp fun h => by omega
theorem closed_gap {s : IS} (h : RightC s.cfg) : s.top - closedS s ≤ 10001 ∧ -1 ≤ closedS s := by
  have := h.late
  unfold closedS
  omega
theorem keysS_len {s : IS} (h : RightC s.cfg) : (keysS s).length ≤ 10001 := by
  refine Nat.le_trans (List.length_filter_le _ _) ?_
  have := (closed_gap h).1
  simp
  omega
def encC (s : IS) (t : Int) : Bs := encI t ++ encI (s.cnt t)
def encH (s : IS) : Bs := (((encI s.now ++ encI s.top) ++ encI s.next) ++ encI s.refused) ++ encT (encTab s.prods)
def encIS (s : IS) : Bs := (encH s ++ encI (keysS s).length) ++ (keysS s).flatMap (encC s)
theorem keys_sorted {s : IS} (hk : KeysOk s) {l : List (Ent Int Int)} {c : Nat} (hc : CntOk s.cnt l c) {ss : List Int} (hp : ss.Perm (l.map (·.1))) : sortI ss = keysS s ∧ l.length = (keysS s).length := by
  have hnd : ss.Nodup := hp.nodup_iff.2 hc.wf.keys
  have hmem : ∀ t, t ∈ ss ↔ s.cnt t ≠ 0 := fun t => by
    rw [hp.mem_iff, List.mem_map]
    have hg := hc.get t
    constructor
    · rintro ⟨e, he, rfl⟩ h0
      rw [if_pos h0] at hg
      exact getE_none.1 hg e he rfl
    · intro h0
      rw [if_neg h0] at hg
      obtain ⟨b, hb⟩ := hc.wf.getE_iff.1 hg
      exact ⟨_, hb, rfl⟩
  have e1 : sortI ss = keysS s := by
    refine strict_ext ?_ (keysS_asc s) fun t => by rw [sortI_mem, hmem, keysS_mem hk]
    have h1 := List.pairwise_mergeSort (le := fun x y : Int => decide (x ≤ y)) (fun a b c h1 h2 => by simp at h1 h2 ⊢; omega) (fun a b => by simp; omega) ss
    have h2 : (sortI ss).Nodup := (List.mergeSort_perm ss _).nodup_iff.2 hnd
    refine (h1.and h2).imp fun {a b} hh => ?_
    have := of_decide_eq_true hh.1
    have := hh.2
    omega
  refine ⟨e1, ?_⟩
  rw [← e1, sortI_length, hp.length_eq, List.length_map]

/-! ### Reading -/
def updC (cnt : Int → Int) (t n : Int) : Int → Int := fun x => if x = t then n else cnt x
noncomputable def readC (top rate : Int) : Nat → Int → (Int → Int) → RS → Option (Int → Int)
  | 0, _, cnt, r => if doneR r = true then some cnt else none
  | k + 1, last, cnt, r => if r.rest = [] then none else
    if (last + 1 ≤ (intR r).1 ∧ (intR r).1 ≤ top) ∧ 1 ≤ (intR (intR r).2).1 ∧ (intR (intR r).2).1 ≤ rate then readC top rate k (intR r).1 (updC cnt (intR r).1 (intR (intR r).2).1) (intR (intR r).2).2 else none
noncomputable def headI (s : RS) : ((((Int × Int) × Int) × Int) × Bs) × RS := thenR (thenR (thenR (thenR intR intR) intR) intR) textR s
theorem headI_rd : Rd2 (fun p : (((Int × Int) × Int) × Int) × Bs => (((encI p.1.1.1.1 ++ encI p.1.1.1.2) ++ encI p.1.1.2) ++ encI p.1.2) ++ encT p.2) (fun p => (((inI p.1.1.1.1 ∧ inI p.1.1.1.2) ∧ inI p.1.1.2) ∧ inI p.1.2) ∧ p.2.length ≤ 9223372036854775807) headI :=
  (((intR_rd.seq intR_rd).seq intR_rd).seq intR_rd).seq textR_rd
open Classical in
/-- What the head of an encoding says; nothing where it is not right. -/
noncomputable def headS (c : CfD) (ks : List Kn) (p : (((Int × Int) × Int) × Int) × Bs) : Option IS :=
  if h : ∃ s, TabOk p.2 s then
    if timeOk p.1.1.1.1 ∧ timeOk p.1.1.2 ∧ (-1 ≤ p.1.1.1.2 ∧ p.1.1.1.2 ≤ 1099511627776) ∧ ¬ p.1.2 < 0 then some ⟨c, ks, p.1.1.1.1, p.1.1.1.2, p.1.1.2, p.1.2, h.choose, fun _ => 0⟩ else none
  else none
noncomputable def readIS (c : CfD) (ks : List Kn) (t : Bs) : Option IS := match headS c ks (headI ⟨t, false⟩).1 with
  | none => none
  | some s0 => (readC s0.top c.rate (natR (headI ⟨t, false⟩).2).1.toNat (closedS s0) s0.cnt (natR (headI ⟨t, false⟩).2).2).map fun f => { s0 with cnt := f }
theorem readC_fore {s : IS} (hs : KeysOk s) (hr : ∀ t, s.cnt t ≤ s.cfg.rate ∧ 0 ≤ s.cnt t) (hb : inI s.top ∧ inI s.cfg.rate ∧ -1 ≤ closedS s) : ∀ (l : List Int) (last : Int) (cnt : Int → Int), closedS s ≤ last → l.Pairwise (· < ·) → (∀ t ∈ l, last < t ∧ s.cnt t ≠ 0) →
    readC s.top s.cfg.rate l.length last cnt ⟨l.flatMap (encC s), false⟩ = some (fun x => if x ∈ l then s.cnt x else cnt x)
  | [], _, cnt, _, _, _ => by
    show readC _ _ 0 _ cnt ⟨[], false⟩ = _
    rw [readC, if_pos (by rfl)]
    congr 1
  | t :: l, last, cnt, hcl, hp, hm => by
    obtain ⟨h1, h2⟩ := hm t List.mem_cons_self
    obtain ⟨h3, h4⟩ := hs.in_ t h2
    obtain ⟨h5, h6⟩ := hr t
    have hti : inI t := by obtain ⟨⟨_, _⟩, _⟩ := hb; constructor <;> omega
    have hci : inI (s.cnt t) := by obtain ⟨_, ⟨_, _⟩, _⟩ := hb; constructor <;> omega
    rw [List.length_cons, readC, List.flatMap_cons]
    unfold encC
    have e1 : intR ⟨encI t ++ encI (s.cnt t) ++ l.flatMap (fun t => encI t ++ encI (s.cnt t)), false⟩ = (t, ⟨encI (s.cnt t) ++ l.flatMap (fun t => encI t ++ encI (s.cnt t)), false⟩) := by
      rw [List.append_assoc]; exact intR_enc hti _ false
    rw [e1]
    simp only
    rw [intR_enc hci]
    simp only
    rw [if_neg (by simp [encI]), if_pos ⟨⟨by omega, h4⟩, by omega, h5⟩]
    have ih := readC_fore hs hr hb l t (updC cnt t (s.cnt t)) (by omega) (List.pairwise_cons.1 hp).2 fun x hx => ⟨(List.pairwise_cons.1 hp).1 x hx, (hm x (List.mem_cons_of_mem _ hx)).2⟩
    unfold encC at ih
    rw [ih]
    congr 1
    funext x
    by_cases hx : x ∈ l
    · rw [if_pos hx, if_pos (List.mem_cons_of_mem _ hx)]
    · rw [if_neg hx]
      unfold updC
      by_cases e : x = t
      · subst e; rw [if_pos rfl, if_pos List.mem_cons_self]
      · rw [if_neg e, if_neg (fun h => (List.mem_cons.1 h).elim e hx)]
theorem readC_back {top rate : Int} : ∀ (k : Nat) (last : Int) (cnt f : Int → Int) (r : RS), readC top rate k last cnt r = some f → r.bad = false ∧ ∃ l : List Int, l.length = k ∧ l.Pairwise (· < ·) ∧ (∀ t ∈ l, last < t ∧ t ≤ top ∧ 1 ≤ f t ∧ f t ≤ rate ∧ inI t ∧ inI (f t)) ∧
    (∀ x, x ∉ l → f x = cnt x) ∧ r.rest = l.flatMap fun t => encI t ++ encI (f t)
  | 0, last, cnt, f, r, h => by
    rw [readC] at h
    split at h
    · rename_i hd
      injection h with h
      obtain ⟨d1, d2⟩ := done_end hd
      exact ⟨d1, [], rfl, List.Pairwise.nil, fun t ht => (by cases ht), fun x _ => by rw [h], d2⟩
    · cases h
  | k + 1, last, cnt, f, r, h => by
    rw [readC] at h
    split at h
    · cases h
    · split at h
      · rename_i hc
        obtain ⟨h1, l, h2, h3, h4, h5, h6⟩ := readC_back k _ _ f _ h
        obtain ⟨g1, g2, g3⟩ := intR_rd.back (intR r).2 h1
        obtain ⟨g4, g5, g6⟩ := intR_rd.back r g1
        generalize hT : (intR r).1 = T at *
        generalize hN : (intR (intR r).2).1 = M at *
        have hnot : T ∉ l := fun hT => by have := (h4 T hT).1; omega
        have hfT : f T = M := by rw [h5 T hnot]; unfold updC; rw [if_pos rfl]
        refine ⟨g4, T :: l, by rw [List.length_cons, h2], List.pairwise_cons.2 ⟨fun x hx => (h4 x hx).1, h3⟩, fun t ht => ?_, fun x hx => ?_, ?_⟩
        · rcases List.mem_cons.1 ht with rfl | ht
          · rw [hfT]; exact ⟨by omega, hc.1.2, hc.2.1, hc.2.2, g6, g3⟩
          · obtain ⟨i1, i2⟩ := h4 t ht
            exact ⟨by omega, i2⟩
        · rw [h5 x fun hh => hx (List.mem_cons_of_mem _ hh)]
          unfold updC
          rw [if_neg fun e => hx (by rw [e]; exact List.mem_cons_self)]
        · rw [List.flatMap_cons, ← h6, hfT, List.append_assoc, ← g2, ← g5]
      · cases h
end Go.Proofs.YtefinemhfgdpdaaGreatDoor
/-
  A partition is read from its encoding, and what is read has this encoding: plain laws. No condition.
-/
namespace Go.Proofs.YtefinemhfgdpdaaGreatDoor
open Go.RowKit
set_option maxRecDepth 100000

/-- What Bytes asks of a partition. -/
structure FitIS (s : IS) : Prop where
  cfg : RightC s.cfg
  prods : RightT s.prods
  now : inI s.now
  top : -1 ≤ s.top ∧ s.top ≤ 1099511627776
  next : inI s.next
  refused : inI s.refused
  cnt : ∀ t, 0 ≤ s.cnt t ∧ s.cnt t ≤ s.cfg.rate
  keys : KeysOk s
theorem GoodIS.fit {s : IS} (h : GoodIS s) (hk : KeysOk s) : FitIS s := by
  have h1 := h.now
  have h2 := h.next
  have h3 := h.refused
  exact ⟨h.cfg, h.prods, ⟨by omega, by omega⟩, h.top, ⟨by omega, by omega⟩, ⟨by omega, by omega⟩, h.cnt, hk⟩
theorem FitIS.key {s : IS} (h : FitIS s) {t : Int} (ht : t ∈ keysS s) : inI t ∧ inI (s.cnt t) := by
  have h1 := (keysS_mem h.keys).1 ht
  obtain ⟨h2, h3⟩ := h.keys.in_ t h1
  have h4 := (closed_gap h.cfg).2
  have h5 := h.top
  have h6 := h.cnt t
  have h7 := h.cfg.rate
  exact ⟨⟨by omega, by omega⟩, ⟨by omega, by omega⟩⟩
theorem encIS_assoc (s : IS) : encIS s = encH s ++ (encI (keysS s).length ++ (keysS s).flatMap (encC s)) := by
  unfold encIS
  rw [List.append_assoc]
theorem head_fore {s : IS} (h : FitIS s) (r : Bs) : headI ⟨encH s ++ r, false⟩ = (((((s.now, s.top), s.next), s.refused), encTab s.prods), ⟨r, false⟩) := by
  have ht := h.top
  have hti : inI s.top := ⟨by omega, by omega⟩
  have := headI_rd.fore ((((s.now, s.top), s.next), s.refused), encTab s.prods) r ⟨⟨⟨⟨h.now, hti⟩, h.next⟩, h.refused⟩, by have := encTab_len h.prods; show (encTab s.prods).length ≤ _; omega⟩
  exact this
theorem headS_yes {c : CfD} {ks : List Kn} {p : (((Int × Int) × Int) × Int) × Bs} {ps : List Pr} (h : TabOk p.2 ps) (hr : RightT ps) (he : encTab ps = p.2) (h1 : timeOk p.1.1.1.1) (h2 : timeOk p.1.1.2) (h3 : -1 ≤ p.1.1.1.2 ∧ p.1.1.1.2 ≤ 1099511627776) (h4 : ¬ p.1.2 < 0) :
    headS c ks p = some ⟨c, ks, p.1.1.1.1, p.1.1.1.2, p.1.1.2, p.1.2, ps, fun _ => 0⟩ := by
  have hx : ∃ s, TabOk p.2 s := ⟨ps, h⟩
  unfold headS
  rw [dif_pos hx, if_pos ⟨h1, h2, h3, h4⟩]
  have : hx.choose = ps := tab_uniq hr (by rw [he]; exact hx.choose_spec)
  rw [this]
theorem headS_some {c : CfD} {ks : List Kn} {p : (((Int × Int) × Int) × Int) × Bs} {s : IS} (h : headS c ks p = some s) : ∃ ps, TabOk p.2 ps ∧ (timeOk p.1.1.1.1 ∧ timeOk p.1.1.2 ∧ (-1 ≤ p.1.1.1.2 ∧ p.1.1.1.2 ≤ 1099511627776) ∧ ¬ p.1.2 < 0) ∧ s = ⟨c, ks, p.1.1.1.1, p.1.1.1.2, p.1.1.2, p.1.2, ps, fun _ => 0⟩ := by
  unfold headS at h
  split at h
  · rename_i hx
    split at h
    · rename_i hc
      injection h with h
      exact ⟨hx.choose, hx.choose_spec, hc, h.symm⟩
    · cases h
  · cases h
theorem headS_none {c : CfD} {ks : List Kn} {p : (((Int × Int) × Int) × Int) × Bs} (h : (∀ s, ¬ TabOk p.2 s) ∨ ¬ (timeOk p.1.1.1.1 ∧ timeOk p.1.1.2 ∧ (-1 ≤ p.1.1.1.2 ∧ p.1.1.1.2 ≤ 1099511627776) ∧ ¬ p.1.2 < 0)) : headS c ks p = none := by
  unfold headS
  rcases h with h | h
  · rw [dif_neg fun ⟨s, hs⟩ => h s hs]
  · split
    · first | rfl | rw [if_neg h]
    · rfl
theorem readIS_enc {s : IS} (h : FitIS s) (h1 : timeOk s.now) (h2 : timeOk s.next) (h3 : 0 ≤ s.refused) : readIS s.cfg s.known (encIS s) = some s := by
  have ht := h.top
  have hl := keysS_len (s := s) h.cfg
  have hr := h.cfg.rate
  unfold readIS
  rw [encIS_assoc, head_fore h]
  simp only
  rw [headS_yes (ps := s.prods) (tab_ok h.prods) h.prods rfl h1 h2 ht (by show ¬ s.refused < 0; omega)]
  simp only
  rw [natR_enc (n := ((keysS s).length : Int)) (by omega) ⟨by omega, by omega⟩]
  simp only [Int.toNat_natCast]
  have hcl : closedS ⟨s.cfg, s.known, s.now, s.top, s.next, s.refused, s.prods, fun _ => 0⟩ = closedS s := rfl
  rw [hcl, readC_fore h.keys (fun t => ⟨(h.cnt t).2, (h.cnt t).1⟩) ⟨⟨by omega, by omega⟩, ⟨by omega, by omega⟩, (closed_gap h.cfg).2⟩ (keysS s) _ _ (Int.le_refl _) (keysS_asc s) fun t ht => by
    have := (keysS_mem h.keys).1 ht
    exact ⟨(h.keys.in_ t this).1, this⟩]
  show some _ = some _
  congr 1
  have : (fun x => if x ∈ keysS s then s.cnt x else 0) = s.cnt := by
    funext x
    by_cases hx : x ∈ keysS s
    · rw [if_pos hx]
    · rw [if_neg hx]
      have := mt (keysS_mem h.keys).2 hx
      exact (Classical.not_not.1 this).symm
  rw [this]
theorem readIS_back {c : CfD} {ks : List Kn} {t : Bs} {s : IS} (hc : RightC c) (h : readIS c ks t = some s) : encIS s = t ∧ FitIS s ∧ s.cfg = c ∧ s.known = ks ∧ timeOk s.now ∧ timeOk s.next ∧ 0 ≤ s.refused := by
  unfold readIS at h
  cases hh : headS c ks (headI ⟨t, false⟩).1 with
  | none => rw [hh] at h; cases h
  | some s0 =>
    rw [hh] at h
    simp only at h
    cases hf : readC s0.top c.rate (natR (headI ⟨t, false⟩).2).1.toNat (closedS s0) s0.cnt (natR (headI ⟨t, false⟩).2).2 with
    | none => rw [hf] at h; cases h
    | some f =>
      rw [hf] at h
      injection h with h
      obtain ⟨ps, p1, ⟨p2, p3, p4, p5⟩, p6⟩ := headS_some hh
      obtain ⟨b1, l, b2, b3, b4, b5, b6⟩ := readC_back _ _ _ _ _ hf
      obtain ⟨n1, n2, n3, n4⟩ := natR_rd.back _ b1
      obtain ⟨i1, i2, ⟨⟨⟨i3, i4⟩, i5⟩, i6⟩, i7⟩ := headI_rd.back _ n1
      obtain ⟨r1, r2, _⟩ := p1
      have hrate := hc.rate
      subst p6
      subst h
      have hcl : ∀ g : Int → Int, closedS ⟨c, ks, (headI ⟨t, false⟩).1.1.1.1.1, (headI ⟨t, false⟩).1.1.1.1.2, (headI ⟨t, false⟩).1.1.1.2, (headI ⟨t, false⟩).1.1.2, ps, g⟩ = closedS ⟨c, ks, (headI ⟨t, false⟩).1.1.1.1.1, (headI ⟨t, false⟩).1.1.1.1.2, (headI ⟨t, false⟩).1.1.1.2, (headI ⟨t, false⟩).1.1.2, ps, fun _ => 0⟩ := fun _ => rfl
      have hkeys : KeysOk ⟨c, ks, (headI ⟨t, false⟩).1.1.1.1.1, (headI ⟨t, false⟩).1.1.1.1.2, (headI ⟨t, false⟩).1.1.1.2, (headI ⟨t, false⟩).1.1.2, ps, f⟩ := ⟨fun x hx => by
        by_cases hxl : x ∈ l
        · obtain ⟨g1, g2, _⟩ := b4 x hxl
          rw [hcl]
          exact ⟨g1, g2⟩
        · exact absurd (b5 x hxl) hx⟩
      have hfit : FitIS ⟨c, ks, (headI ⟨t, false⟩).1.1.1.1.1, (headI ⟨t, false⟩).1.1.1.1.2, (headI ⟨t, false⟩).1.1.1.2, (headI ⟨t, false⟩).1.1.2, ps, f⟩ := by
        refine ⟨hc, r1, i3, p4, i5, i6, fun x => ?_, hkeys⟩
        show 0 ≤ f x ∧ f x ≤ c.rate
        by_cases hxl : x ∈ l
        · obtain ⟨_, _, g3, g4, _⟩ := b4 x hxl
          exact ⟨by omega, g4⟩
        · have : f x = 0 := b5 x hxl
          omega
      have hks : keysS ⟨c, ks, (headI ⟨t, false⟩).1.1.1.1.1, (headI ⟨t, false⟩).1.1.1.1.2, (headI ⟨t, false⟩).1.1.1.2, (headI ⟨t, false⟩).1.1.2, ps, f⟩ = l := by
        refine strict_ext (keysS_asc _) b3 fun x => ?_
        rw [keysS_mem hkeys]
        constructor
        · intro hx
          by_cases hxl : x ∈ l
          · exact hxl
          · exact absurd (b5 x hxl) hx
        · intro hxl
          obtain ⟨_, _, g3, _⟩ := b4 x hxl
          show f x ≠ 0
          omega
      refine ⟨?_, hfit, rfl, rfl, p2, p3, by show 0 ≤ (headI ⟨t, false⟩).1.1.2; omega⟩
      rw [encIS_assoc, hks]
      have hn : ((l.length : Nat) : Int) = (natR (headI ⟨t, false⟩).2).1 := by rw [b2]; omega
      rw [hn]
      show encH _ ++ (encI _ ++ l.flatMap fun t => encI t ++ encI (f t)) = t
      rw [← b6, ← n2]
      unfold encH
      simp only
      rw [r2]
      exact i2.symm
end Go.Proofs.YtefinemhfgdpdaaGreatDoor
/-
  Intake.Bytes. No condition.
-/
namespace Go.Proofs.YtefinemhfgdpdaaGreatDoor
open Go.RowKit
set_option maxRecDepth 100000

section
variable {B : Base} {w : World} {p : Nat} {s : IS}
theorem sortedI_m {m b c : Nat} {l : List (Ent Int Int)} (hb : cellD b T_map_int_int #[mapV m] B) (hm : mapE m l c B) (hw : WfE l c) (hr : ∀ e ∈ l, inI e.1) (hl : l.length ≤ 1000000) :
    Makes Tryz.prog B (sCall F_slices_Sorted_int #[.func (.func F_maps_Keys_map_int_int_int_int_1) #[] #[ptr b]]) fun u τ => ∃ ss, ss.Perm (l.map (·.1)) ∧ τ = [rowD T_int u (sortI ss)] := by
  refine Makes.intro fun B' w K base h k => ?_
  refine slices_Sorted_int.up (slices_Sorted_int.call ?_)
  unfold slices_Sorted_int.pt
  refine h.make (fun B2 own base2 => collectI_m (base2 (base hb)) (base2 (base hm)) hw hr hl) fun u τ w1 hp h => ?_
  obtain ⟨ss, hp, rfl⟩ := hp
  have hlen : ss.length = l.length := by rw [hp.length_eq, List.length_map]
  refine h.act 0 rfl (fun B2 own base2 => SortInt_d (by omega)) fun u2 e' τ w2 hp2 h => ?_
  obtain ⟨rfl, rfl, rfl⟩ := hp2
  exact k _ _ _ ⟨ss, hp, rfl⟩ h
theorem mapE.lenB {w : World} {m c : Nat} {l : List (Ent Int Int)} {Kp : Value → Prop} {U : TypeId} {bs : Array Bool} (h : (mapE m l c).here w) : readK Tryz.prog (sBlt .len #[T_map_int_int] U bs #[.map (some m)]) w Kp = Kp (.int .i64 l.length) :=
  len_map (B := ⟨w, fun _ => False⟩) (w := w) (σ := [mapE m l c]) (κ := Int) (ν := Int) ⟨fun _ => 1, rfl, rfl, rfl, Nat.le_refl _, fun _ hk => hk.elim, fun _ hk => hk.elim, fun i d hd => by
    cases i with
    | zero => cases hd; exact ⟨rfl, h.2⟩
    | succ i => simp at hd⟩ 0 rfl U_map_int_int
set_option maxHeartbeats 1000000 in
theorem iBytes_g (hB : powD B) (hI : intD p s B) (hf : FitIS s) : Gives Tryz.prog B (sCall F_intake_Intake_Bytes #[ptrI p]) (.string (ofL (encIS s))) := by
  refine Gives.intro fun B' w K base h k => ?_
  replace hB := base hB
  obtain ⟨kv, pv, m, l, c, hk, hc, hm, _, L, hL, rL, qL⟩ := intD.peek (base hI)
  refine intake_Intake_Bytes.up (intake_Intake_Bytes.call ?_)
  unfold intake_Intake_Bytes.pt
  have h := h.tick
  have hperm := (keys_sorted hf.keys hk (List.Perm.refl _)).2
  have hkl := keysS_len (s := s) hf.cfg
  have hll : l.length ≤ 10001 := by omega
  have htop : inI s.top := by have := hf.top; constructor <;> omega
  have hin : inI (l.length : Int) := ⟨by omega, by omega⟩
  have hwr : ∀ e ∈ l, inI e.1 := fun e he => by
    have hg : getE e.1 l = some e.2.1 := getE_mem hk.wf.keys he
    have hg2 := hk.get e.1
    rw [hg] at hg2
    by_cases h0 : s.cnt e.1 = 0
    · rw [if_pos h0] at hg2; cases hg2
    · exact (hf.key ((keysS_mem hf.keys).2 h0)).1
  have l1 := encI_len hf.now
  have l2 := encI_len htop
  have l3 := encI_len hf.next
  have l4 := encI_len hf.refused
  have l5 := encTab_len hf.prods
  have l6 := encT_len (encTab s.prods) (by omega)
  have l7 := encI_len hin
  have hall := flat_len (encC s) (keysS s) 42 fun t ht => by
    have h1 := encI_len (hf.key ht).1
    have h2 := encI_len (hf.key ht).2
    unfold encC
    rw [List.length_append]
    omega
  have en : encN (l.length : Int) = encI l.length := by unfold encN; rw [if_neg (by omega)]
  have is : ∀ {w : World} {σ : List Dat} {o : Nat} {T : TypeId} {x : Value}, Rel B' w σ → scB Tryz.prog T = true → (ics s kv pv m).toList[o]? = some x → Is Tryz.prog (sLoad T (.pointer (some ⟨p, o, none⟩))) x w := fun h ht hx => cellD.is (h.hereB hc) ht hx
  simp -zeta only [nil_ptr, field_addr f_intake_Intake_2, field_addr f_intake_Intake_3, field_addr f_intake_Intake_4, field_addr f_intake_Intake_5, field_addr f_intake_Intake_6, field_addr f_intake_Intake_7, Nat.zero_add,
    cellD.ld (h.hereB hc) sc_int (o := 7) (v := .int .i64 s.now) rfl, cellD.ld (h.hereB hc) sc_int (o := 8) (v := .int .i64 s.top) rfl, cellD.ld (h.hereB hc) sc_int (o := 9) (v := .int .i64 s.next) rfl, cellD.ld (h.hereB hc) sc_int (o := 10) (v := .int .i64 s.refused) rfl,
    cellD.ld (h.hereB hc) sc_s_api_Producer (o := 11) (v := pv.1) rfl, cellD.ld (h.hereB hc) sc_map_int_int (o := 12) (v := mapV m) rfl]
  refine h.ask (fun B2 own base2 => wInt_g (base2 hB) hf.now) fun w1 h => ?_
  refine ⟨is h sc_map_int_int rfl, is h sc_s_api_Producer rfl, is h sc_int rfl, is h sc_int rfl, is h sc_int rfl, ?_⟩
  refine h.ask (fun B2 own base2 => wInt_g (base2 hB) htop) fun w2 h => ?_
  refine ⟨is h sc_map_int_int rfl, is h sc_s_api_Producer rfl, is h sc_int rfl, is h sc_int rfl, ?_⟩
  rw [strL_add (by omega)]
  refine h.ask (fun B2 own base2 => wInt_g (base2 hB) hf.next) fun w3 h => ?_
  refine ⟨is h sc_map_int_int rfl, is h sc_s_api_Producer rfl, is h sc_int rfl, ?_⟩
  rw [strL_add (by simp only [List.length_append]; omega)]
  refine h.ask (fun B2 own base2 => wInt_g (base2 hB) hf.refused) fun w4 h => ?_
  refine ⟨is h sc_map_int_int rfl, is h sc_s_api_Producer rfl, ?_⟩
  rw [strL_add (by simp only [List.length_append]; omega)]
  refine h.ask (fun B2 own base2 => tabBytes_g (base2 hB) (base2 rL) (base2 qL) (by rw [hL]; exact hf.prods)) fun w5 h => ?_
  rw [hL]
  refine ⟨is h sc_map_int_int rfl, ?_⟩
  refine h.ask (fun B2 own base2 => wText_g (base2 hB) (by omega)) fun w6 h => ?_
  refine ⟨is h sc_map_int_int rfl, ?_⟩
  rw [strL_add (by simp only [List.length_append]; omega), mapE.lenB (h.hereB hm)]
  refine h.ask (fun B2 own base2 => wNum_g (base2 hB) hin) fun w7 h => ?_
  refine ⟨is h sc_int rfl, is h sc_int rfl, ?_⟩
  rw [en, strL_add (by simp only [List.length_append]; omega)]
  simp -zeta only [cellD.ld (h.hereB hc) sc_map_int_int (o := 12) (v := mapV m) rfl]
  refine h.make (fun B2 own base2 => keysI_m m) fun u τ w8 hp h => ?_
  obtain ⟨b, rfl, rfl⟩ := hp
  refine h.make (fun B2 own base2 => sortedI_m (own (i := 0) rfl) (base2 hm) hk.wf hwr (by omega)) fun u τ w9 hp h => ?_
  obtain ⟨ss, hss, rfl⟩ := hp
  rw [(keys_sorted hf.keys hk hss).1] at h
  have h : Rel B' w9 [rowD T_int u (keysS s)] := h.pick [1] (by decide)
  have ehd : encIS s = ((((((encI s.now ++ encI s.top) ++ encI s.next) ++ encI s.refused) ++ encT (encTab s.prods)) ++ encI (l.length : Int)) ++ (keysS s).flatMap (encC s)) := by
    unfold encIS encH
    rw [hperm]
  rw [ehd] at k
  generalize hhd : ((((((encI s.now ++ encI s.top) ++ encI s.next) ++ encI s.refused) ++ encT (encTab s.prods)) ++ encI (l.length : Int))) = hd at *
  have hhl : hd.length ≤ 100000 := by rw [← hhd]; simp only [List.length_append]; omega
  rw [rowR.len (rowD.read (h.here (i := 0) rfl)) sl_s_int]
  refine LOOP_intro (fun x w' => ∃ i : Nat, i ≤ (keysS s).length ∧ x = (.string (ofL (hd ++ ((keysS s).take i).flatMap (encC s))), .int .i64 i, ()) ∧ Rel B' w' [rowD T_int u (keysS s)]) (fun x _ => (keysS s).length - (match x.2.1 with | .int _ n => n.toNat | _ => 0))
    ⟨0, Nat.zero_le _, by rw [List.take_zero, List.flatMap_nil, List.append_nil]; rfl, h⟩ ?_
  clear h
  rintro x w10 ⟨i, hi, rfl, h⟩ next hnext
  simp -zeta only [bin_lss]
  rw [ifB_dec]
  refine ⟨fun hlt => ?_, fun hge => ?_⟩
  · have hil : i < (keysS s).length := by omega
    have hkey := hf.key (List.getElem_mem hil)
    have m1 := encI_len hkey.1
    have m2 := encI_len hkey.2
    have hstep := flat_take_succ (encC s) (l := keysS s) (i := i) hil
    have hle := flat_take_le (encC s) (keysS s) i
    obtain ⟨g2, o2, hx2, hc2⟩ := rowR.idx (rowD.read (h.here (i := 0) rfl)) sl_s_int (P := Tryz.prog) hil
    have hc2 : (cellsR g2 o2 [.int .i64 (keysS s)[i]]).here w10 := hc2
    simp -zeta only [hx2, cellsR.ld0 hc2 sc_int rfl]
    have h := h.tick
    simp -zeta only [cellD.ld (h.hereB hc) sc_map_int_int (o := 12) (v := mapV m) rfl]
    rw [mapE.look (h.hereB hm) U_map_int_int kIntI 0 z_int (keysS s)[i], hk.getD]
    refine h.ask (fun B2 own base2 => wInt_g (base2 hB) hkey.1) fun w11 h => ?_
    refine ⟨is_of fun {K} => by rw [mapE.look (h.hereB hm) U_map_int_int kIntI 0 z_int (keysS s)[i], hk.getD], is h sc_map_int_int rfl, ?_⟩
    refine h.ask (fun B2 own base2 => wInt_g (base2 hB) hkey.2) fun w12 h => ?_
    rw [strL_add (by omega), strL_add (by simp only [List.length_append]; omega), bin_add, wrap_id (by omega) (by omega)]
    refine hnext _ _ ⟨i + 1, by omega, ?_, h⟩ (by simp only; omega)
    rw [hstep]
    unfold encC
    simp only [List.append_assoc]
    rfl
  · have hie : i = (keysS s).length := by omega
    subst hie
    rw [List.take_length]
    exact k _ _ h.nil
end
end Go.Proofs.YtefinemhfgdpdaaGreatDoor
/-
  Producers, Copy of a partition. No condition.
-/
namespace Go.Proofs.YtefinemhfgdpdaaGreatDoor
open Go.RowKit Go.Shelf
set_option maxRecDepth 100000

section
variable {B : Base} {w : World} {p : Nat} {s : IS}
theorem mk_iface {P : Program} {Kp : Value → Prop} {T k E : TypeId} {v : Value} (hT : P.underlying T = some (.map k E)) : pureK P (sMkIface T v) Kp = Kp (.iface T v) := pureK_eq fun w => by
  refine vN_run ?_
  unfold Instr.makeInterface
  rw [Sem.run_bind, run_underlying hT]
  rfl
theorem as_map {P : Program} {K : Value → World → Prop} {T xT k E : TypeId} {v : Value} (hT : P.underlying T = some (.map k E)) (kk : K v w) : upK P (sTypeAssert (.iface T v) xT T false) w K :=
  upK_of (vN_run (run_typeAssert_map_sl w T xT k E v hT)) kk
theorem Rel.mapsClone {κ ν : Type} [Enc κ] [Enc ν] {K : Value → World → Prop} {σ : List Dat} {m c : Nat} {l : List (Ent κ ν)} {T : TypeId} (h : Rel B w σ) (hm : mapE m l c B) (kk : ∀ m' w', Rel B w' (σ ++ [mapE m' l c]) → K (.iface T (mapV m')) w') : upK Tryz.prog (sCall F_maps_clone #[.iface T (mapV m)]) w K := by
  have hb : w.heap[m]? = some (.map (l.map entV).toArray c) := (h.hereB hm).2
  have hrun : (sCall F_maps_clone #[.iface T (mapV m)]).run Tryz.prog w = .ok (.value (.iface T (mapV w.heap.size))) (w.alloc (.map (l.map entV).toArray c)) := by
    unfold sCall
    rw [run_callFunc_extern (P := Tryz.prog) (f := F_maps_clone) (fn := (Tryz.prog.funcs[F_maps_clone]?).get (by kernel_rfl)) (Option.some_get _).symm (by kernel_rfl) (by kernel_rfl) (by kernel_rfl) (e := Extern.MapsClone.clone) (by kernel_rfl), run_maps_clone_sl w T hb]
    rfl
  obtain ⟨cc, h⟩ := h
  exact upK_of hrun (kk _ _ ⟨paint cc w.heap.size (σ.length + 1), h.push (Step.alloc nobody cc w _ _) ⟨by simp [paint], heap_alloc_new w _⟩⟩)
theorem cloneI_m {m c : Nat} {l : List (Ent Int Int)} (hm : mapE m l c B) : Makes Tryz.prog B (sCall F_maps_Clone_map_int_int_int_int #[mapV m]) fun v τ => ∃ m', v = mapV m' ∧ τ = [mapE m' l c] := by
  refine Makes.intro fun B' w K base h k => ?_
  replace hm := base hm
  refine maps_Clone_map_int_int_int_int.up (maps_Clone_map_int_int_int_int.call ?_)
  unfold maps_Clone_map_int_int_int_int.pt
  rw [eql_map_nil U_map_int_int, ifB_false, mk_iface U_map_int_int]
  refine h.mapsClone hm fun m' w1 h => ?_
  exact as_map U_map_int_int (k _ _ _ ⟨m', rfl, rfl⟩ h)
theorem Producers_m (hI : intD p s B) (hR : RightT s.prods) : Makes Tryz.prog B (sCall F_intake_Intake_Producers #[ptrI p]) fun u τ => OwnTab u s.prods τ := by
  refine Makes.intro fun B' w K base h k => ?_
  obtain ⟨kv, pv, m, l, c, _, hc, _, _, L, hL, rL, qL⟩ := intD.peek (base hI)
  have hal : ∀ L : PrL, (praws L).length = L.length := fun L => by simp [praws]
  have hps : ∀ L : PrL, (prs L).length = L.length := fun L => by simp [prs]
  have hLl : L.length ≤ 50 := by have := hR.len; rw [← hL, hps] at this; exact this
  refine intake_Intake_Producers.up (intake_Intake_Producers.call ?_)
  unfold intake_Intake_Producers.pt
  simp -zeta only [nil_ptr, field_addr f_intake_Intake_6, Nat.zero_add, cellD.ld (h.hereB hc) sc_s_api_Producer (o := 11) (v := pv.1) rfl]
  rw [rowR.len rL sl_s_api_Producer, hal]
  have h := h.addNil PrD T_api_Producer
  have h := (ownD (d := prows []) (τ := []) fun B _ x hx => (by cases hx)) B' w [rowD T_api_Producer (.slice none 0 0) (praws [])] (by rw [List.append_nil]; exact h)
  refine LOOP_intro (fun x w' => ∃ (i : Nat) (L' : PrL) (u : Value), i ≤ L.length ∧ L'.length = i ∧ prs L' = s.prods.take i ∧ x = (u, .int .i64 i, ()) ∧ Rel B' w' [rowD T_api_Producer u (praws L'), prows L']) (fun x _ => L.length - (match x.2.1 with | .int _ n => n.toNat | _ => 0))
    ⟨0, [], _, Nat.zero_le _, rfl, rfl, rfl, h⟩ ?_
  clear h
  rintro x w2 ⟨i, L', u, hi, hl', hp, rfl, h⟩ next hnext
  simp -zeta only [bin_lss, ifB_dec]
  refine ⟨fun hlt => ?_, fun hge => ?_⟩
  · have hil : i < L.length := by omega
    have hel : (praws L)[i]'(by rw [hal]; exact hil) = L[i].1.raw L[i].2 := by simp [praws]
    obtain ⟨g, o, hx, hc2⟩ := rowR.idx rL sl_s_api_Producer (P := Tryz.prog) (i := i) (by rw [hal]; exact hil)
    rw [hel] at hc2
    have hc2 : cellsR g o (L[i].1.raw L[i].2).cs B' := hc2
    have hlast : rowR L[i].2.1 L[i].1.last B' := qL L[i] (List.getElem_mem hil)
    have hfine := hR.fine L[i].1 (by rw [← hL]; exact List.mem_map_of_mem (List.getElem_mem hil))
    have hcl : L[i].1.last.length ≤ 20 := by have := hfine.len; omega
    rw [hx, cellsR.ldAg (h.hereB hc2) ag_api_Producer rfl]
    refine h.allocAg (ds := (L[i].1.raw L[i].2).cs.toArray) z_api_Producer rfl ag_api_Producer rfl (fun v hv => Enc.one (L[i].1.raw L[i].2) v hv) fun a w3 h => ?_
    have h : Rel B' w3 [rowD T_api_Producer u (praws L'), prows L', cellD a T_api_Producer (L[i].1.raw L[i].2).cs.toArray] := h
    simp -zeta only [field_addr f_api_Producer_3, Nat.zero_add, h.ld 2 rfl sc_s_int (o := 3) rfl]
    refine h.make (fun B2 own base2 => gslices_Clone_s_int_int (base2 hlast) (by omega) (by omega)) fun v' τ w4 hp2 h => ?_
    subst hp2
    have h1 : v'.oneCell' = true := h.oneCell (i := 3) rfl
    obtain ⟨sv, rfl⟩ : ∃ sv : SV, sv.1 = v' := ⟨⟨v', h1⟩, rfl⟩
    refine h.st 2 rfl sc_s_int (show 3 < 4 by omega) h1 fun w5 h => ?_
    have h : Rel B' w5 [rowD T_api_Producer u (praws L'), prows L', cellD a T_api_Producer (L[i].1.raw sv).cs.toArray, rowD T_int sv.1 L[i].1.last] := h
    simp -zeta only [h.ldAg 2 rfl ag_api_Producer rfl]
    have hl2 : (praws L').length = i := by rw [hal, hl']
    refine h.push1 (α := PrD) 0 rfl (L[i].1.raw sv) sl_s_api_Producer (by decide) (by omega) (by omega) fun u3 w7 h => ?_
    have h := h.pick [0, 1, 3] (by decide)
    have h : Rel B' w7 ([rowD T_api_Producer u3 (praws L' ++ [L[i].1.raw sv])] ++ [prows L', rowD T_int sv.1 L[i].1.last]) := h
    have h := (ownD (d := prows (L' ++ [(L[i].1, sv)])) (τ := [prows L', rowD T_int sv.1 L[i].1.last]) fun B hB => Dat.all_append (Dat.star.left hB) (fun x hx => by
      rw [List.mem_singleton] at hx
      subst hx
      exact rowD.read (Dat.star.left (Dat.star.right hB)))) _ _ _ h
    rw [show praws L' ++ [L[i].1.raw sv] = praws (L' ++ [(L[i].1, sv)]) by simp [praws]] at h
    rw [bin_add, wrap_id (by omega) (by omega)]
    refine hnext _ _ ⟨i + 1, L' ++ [(L[i].1, sv)], u3, hil, by simp [hl'], ?_, rfl, h⟩ (by simp only; omega)
    have hilp : i < s.prods.length := by rw [← hL, hps]; exact hil
    have he : s.prods[i] = L[i].1 := by simp only [← hL, prs, List.getElem_map]
    rw [List.take_succ_eq_append_getElem hilp, he, ← hp]
    simp [prs]
  · have hie : i = L.length := by omega
    subst hie
    rw [List.take_of_length_le (by rw [← hL, hps]; exact Nat.le_refl _)] at hp
    exact k _ _ _ (own_stars (τ := [rowD T_api_Producer u (praws L'), prows L']) fun B hB => ⟨L', hp, rowD.read (Dat.star.left hB), Dat.star.left (Dat.star.right hB)⟩) h
theorem Copy_m (hI : intD p s B) (hR : RightT s.prods) (hf : FewK s.known) : Makes Tryz.prog B (sCall F_intake_Intake_Copy #[ptrI p]) fun u τ => ∃ q, u = ptrI q ∧ τ = [intD q s] := by
  refine Makes.intro fun B' w K base h k => ?_
  have hI := base hI
  obtain ⟨kv, pv, m, l, c, hk, hc, hm, hkn, _⟩ := intD.peek hI
  refine intake_Intake_Copy.up (intake_Intake_Copy.call ?_)
  unfold intake_Intake_Copy.pt
  simp -zeta only [nil_ptr]
  rw [cellD.ldAg (h.hereB hc) ag_intake_Intake rfl]
  refine h.allocAg (ds := ics s kv pv m) z_intake_Intake rfl ag_intake_Intake rfl (fun v hv => by
    simp only [ics, List.mem_cons, List.not_mem_nil, or_false] at hv
    rcases hv with rfl | rfl | rfl | rfl | rfl | rfl | rfl | rfl | rfl | rfl | rfl | rfl | rfl <;> first | rfl | exact SV.prop _) fun q w1 h => ?_
  have h : Rel B' w1 [cellD q T_intake_Intake (ics s kv pv m)] := h
  simp -zeta only [field_addr f_intake_Intake_1, Nat.zero_add, cellD.ld (h.hereB hc) sc_s_api_Known (o := 6) (v := kv.1) rfl]
  refine h.act 0 rfl (fun B2 own base2 => Know_d (base2 hkn) hf) fun x e' τ w2 hp h => ?_
  obtain ⟨rfl, u, rfl, hown⟩ := hp
  have h := hown _ _ [cellD q T_intake_Intake (ics s u pv m)] h
  have h : Rel B' w2 [cellD q T_intake_Intake (ics s u pv m), knownD u.1 s.known] := h
  have h := h.tick
  simp -zeta only [field_addr f_intake_Intake_7, Nat.zero_add, cellD.ld (h.hereB hc) sc_map_int_int (o := 12) (v := mapV m) rfl]
  refine h.make (fun B2 own base2 => Producers_m (base2 hI) hR) fun t τ w3 hp h => ?_
  have h := hp _ _ _ h
  refine ⟨cellD.is (h.hereB hc) sc_map_int_int rfl, ?_⟩
  refine h.make (fun B2 own base2 => cloneI_m (base2 hm)) fun t2 τ w4 hp2 h => ?_
  obtain ⟨m', rfl, rfl⟩ := hp2
  have h : Rel B' w4 [cellD q T_intake_Intake (ics s u pv m), knownD u.1 s.known, tabD t s.prods, mapE m' l c] := h
  have ht : t.oneCell' = true := tabD.oneCell (h.here (i := 2) rfl)
  simp -zeta only [field_addr f_intake_Intake_6, Nat.zero_add]
  refine h.st 0 rfl sc_s_api_Producer (show 11 < 13 by omega) ht fun w5 h => ?_
  refine h.st 0 rfl sc_map_int_int (show 12 < 13 by omega) rfl fun w6 h => ?_
  have h := h.pick [0, 3, 1, 2] (by decide)
  have h : Rel B' w6 [cellD q T_intake_Intake (ics s u ⟨t, ht⟩ m'), mapE m' l c, knownD u.1 s.known, tabD t s.prods] := h
  exact k _ _ _ ⟨q, rfl, rfl⟩ (intD.close hk h)
end
end Go.Proofs.YtefinemhfgdpdaaGreatDoor
/-
  Intake.Read. No condition.
-/
namespace Go.Proofs.YtefinemhfgdpdaaGreatDoor
open Go.RowKit
set_option maxRecDepth 100000

theorem setE_new {x y : Int} {l : List (Ent Int Int)} {c : Nat} (h : getE x l = none) : setE x y l c = (l ++ [(x, y, c)], c + 1) := by
  have : findE x l 0 = none := by
    unfold getE at h
    cases hf : findE x l 0 with
    | none => rfl
    | some q => rw [hf] at h; cases h
  unfold setE
  rw [this]
theorem entry_there {x z : Int} {l : List (Ent Int Int)} {c : Nat} : ∃ e ∈ (entryE x z l c).1, e.2.2 = (entryE x z l c).2.2.1 := by
  unfold entryE
  cases hf : findE x l 0 with
  | none => exact ⟨(x, z, c), List.mem_append_right _ (by simp), rfl⟩
  | some q =>
    obtain ⟨h1, _, _⟩ := findE_some (i := q.1) (v := q.2) hf
    refine ⟨l[q.1], List.getElem_mem h1, ?_⟩
    show _ = ((l[q.1]?).map (·.2.2)).getD 0
    rw [List.getElem?_eq_getElem h1]
    rfl
theorem CntOk.upd {cnt : Int → Int} {l : List (Ent Int Int)} {c : Nat} (h : CntOk cnt l c) {t n : Int} (hn : n ≠ 0) : CntOk (updC cnt t n) (setE t n l c).1 (setE t n l c).2 := by
  refine ⟨h.wf.set _ _, fun x => ?_⟩
  rw [setE_get h.wf.keys]
  unfold updC
  by_cases hx : x = t
  · rw [if_pos hx, if_pos hx, if_neg hn]
  · rw [if_neg hx, if_neg hx, h.get]

section
variable {B : Base} {w : World} {p : Nat}
set_option maxHeartbeats 2000000 in
theorem iRead_m (hB : wireD B) (c : CfD) {v : Value} {ks : List Kn} (hkn : knownD v ks B) (hf : FewK ks) {t : Bs} (ht : t.length ≤ 1000000) :
    Makes Tryz.prog B (sCall F_intake_Read #[.agg c.cs.toArray, v, .string (ofL t)]) fun u τ => (RightC c ∧ ∃ s p, readIS c ks t = some s ∧ u = .tuple #[ptrI p, .bool true] ∧ τ = [intD p s]) ∨ ((RightC c → readIS c ks t = none) ∧ u = .tuple #[.pointer none, .bool false] ∧ τ = []) := by
  refine Makes.intro fun B' w K base h k => ?_
  replace hB := base hB
  refine intake_Read.up (intake_Read.call ?_)
  unfold intake_Read.pt
  refine h.box fun o w1 h => ?_
  have h : Rel B' w1 [cellD o T_api_Config c.cs.toArray] := h
  rw [h.ldAg 0 rfl ag_api_Config rfl]
  refine h.make (fun B2 own base2 => New_m c (base2 (base hkn)) hf) fun u τ w2 hp h => ?_
  rcases hp with ⟨hR, p, rfl, rfl⟩ | ⟨hR, rfl, rfl⟩
  case inr =>
    rw [nil_nil, ifB_true]
    exact k _ _ _ (.inr ⟨fun hh => absurd hh hR, rfl, rfl⟩) h.nil
  rw [int_nil, ifB_false]
  have no : readIS c ks t = none → ∀ w' σ, Rel B' w' σ → K (.tuple #[.pointer none, .bool false]) w' := fun e w' σ h => k _ _ _ (.inr ⟨fun _ => e, rfl, rfl⟩) h.nil
  have yes : ∀ s, readIS c ks t = some s → ∀ w', Rel B' w' [intD p s] → K (.tuple #[ptrI p, .bool true]) w' := fun s e w' h => k _ _ _ (.inl ⟨hR, s, p, e, rfl, rfl⟩) h
  clear k
  refine h.make (fun B2 own base2 => open_m) fun u τ w3 hp h => ?_
  obtain ⟨q, rfl, rfl⟩ := hp
  have h : Rel B' w3 [cellD o T_api_Config c.cs.toArray, intD p (newS c ks), rdD q ⟨t, false⟩] := h
  have q0 : (⟨t, false⟩ : RS).rest.length = t.length := rfl
  have q1 := intR_le ⟨t, false⟩
  have q2 := intR_le (intR ⟨t, false⟩).2
  have q3 := intR_le (intR (intR ⟨t, false⟩).2).2
  have q4 := intR_le (intR (intR (intR ⟨t, false⟩).2).2).2
  have q5 := textR_le (intR (intR (intR (intR ⟨t, false⟩).2).2).2).2
  have q6 := natR_le (textR (intR (intR (intR (intR ⟨t, false⟩).2).2).2).2).2
  refine h.rd_ 2 rfl (fun B2 own base2 => rInt_d (base2 hB) (by omega)) fun w4 h => ?_
  refine h.rd_ 2 rfl (fun B2 own base2 => rInt_d (base2 hB) (by omega)) fun w5 h => ?_
  refine h.rd_ 2 rfl (fun B2 own base2 => rInt_d (base2 hB) (by omega)) fun w6 h => ?_
  refine h.rd_ 2 rfl (fun B2 own base2 => rInt_d (base2 hB) (by omega)) fun w7 h => ?_
  have hdef : headI ⟨t, false⟩ = ((((((intR ⟨t, false⟩).1, (intR (intR ⟨t, false⟩).2).1), (intR (intR (intR ⟨t, false⟩).2).2).1), (intR (intR (intR (intR ⟨t, false⟩).2).2).2).1), (textR (intR (intR (intR (intR ⟨t, false⟩).2).2).2).2).1), (textR (intR (intR (intR (intR ⟨t, false⟩).2).2).2).2).2) := rfl
  unfold readIS at no yes
  rw [hdef] at no yes
  simp only at no yes
  have htl : (textR (intR (intR (intR (intR ⟨t, false⟩).2).2).2).2).1.length ≤ t.length := by omega
  have hrl : (textR (intR (intR (intR (intR ⟨t, false⟩).2).2).2).2).2.rest.length ≤ t.length := by omega
  have h4l : (intR (intR (intR (intR ⟨t, false⟩).2).2).2).2.rest.length ≤ t.length := by omega
  have h : Rel B' w7 [cellD o T_api_Config c.cs.toArray, intD p (newS c ks), rdD q (intR (intR (intR (intR ⟨t, false⟩).2).2).2).2] := h
  have rdT : ∀ {K : Value → World → Prop} {w : World} {σ : List Dat}, Rel B' w (rdD q (intR (intR (intR (intR ⟨t, false⟩).2).2).2).2 :: σ) → (∀ w', Rel B' w' (rdD q (textR (intR (intR (intR (intR ⟨t, false⟩).2).2).2).2).2 :: σ) → K (.string (ofL (textR (intR (intR (intR (intR ⟨t, false⟩).2).2).2).2).1)) w') → upK Tryz.prog (sCall F_wire_Reader_Text #[ptr1 q]) w K := fun h kk => h.rd_ 0 rfl (fun B2 own base2 => rText_d (base2 hB) (by omega)) kk
  clear hdef q0 q1 q2 q3 q4 q5 q6
  generalize textR (intR (intR (intR (intR ⟨t, false⟩).2).2).2).2 = y5 at *
  generalize intR (intR (intR (intR ⟨t, false⟩).2).2).2 = y4 at *
  generalize intR (intR (intR ⟨t, false⟩).2).2 = y3 at *
  generalize intR (intR ⟨t, false⟩).2 = y2 at *
  generalize intR ⟨t, false⟩ = y1 at *
  obtain ⟨tx, r5⟩ := y5
  obtain ⟨x4, r4⟩ := y4
  obtain ⟨x3, r3⟩ := y3
  obtain ⟨x2, r2⟩ := y2
  obtain ⟨x1, r1⟩ := y1
  simp only at no yes htl hrl h4l h rdT
  have h := h.pick [0, 2, 1] (by decide)
  have h : Rel B' w7 ([cellD o T_api_Config c.cs.toArray, rdD q r4] ++ [intD p (newS c ks)]) := h
  obtain ⟨kv, pv, m, l, cc, hk, h⟩ := intD.openL h
  have h : Rel B' w7 [cellD o T_api_Config c.cs.toArray, rdD q r4, cellD p T_intake_Intake (ics (newS c ks) kv pv m), mapE m l cc, knownD kv.1 ks, tabD pv.1 []] := h
  simp -zeta only [nil_ptr, field_addr f_intake_Intake_2, field_addr f_intake_Intake_3, field_addr f_intake_Intake_4, field_addr f_intake_Intake_5, field_addr f_intake_Intake_6, Nat.zero_add]
  refine h.st 2 rfl sc_int (show 7 < 13 by omega) rfl fun w8 h => ?_
  refine h.st 2 rfl sc_int (show 8 < 13 by omega) rfl fun w9 h => ?_
  refine h.st 2 rfl sc_int (show 9 < 13 by omega) rfl fun w10 h => ?_
  refine h.st 2 rfl sc_int (show 10 < 13 by omega) rfl fun w11 h => ?_
  have h := h.pick [1, 0, 2, 3, 4] (by decide)
  have h : Rel B' w11 [rdD q r4, cellD o T_api_Config c.cs.toArray, cellD p T_intake_Intake (ics ⟨c, ks, x1, x2, x3, x4, [], fun _ => 0⟩ kv pv m), mapE m l cc, knownD kv.1 ks] := h
  refine rdT h fun w12 h => ?_
  refine h.make (fun B2 own base2 => tabRead_m (base2 hB) (by omega)) fun u τ w13 hp h => ?_
  rcases hp with ⟨ps, tv, hT, rfl, hown⟩ | ⟨hT, rfl, rfl⟩
  case inr =>
    simp -zeta only [ext_2_0, ext_2_1]
    refine h.st 2 rfl sc_s_api_Producer (show 11 < 13 by omega) rfl fun w14 h => ?_
    rw [un_not, Bool.not_false, ifB_true]
    exact no (by rw [headS_none (.inl hT)]) _ _ h
  simp -zeta only [ext_2_0, ext_2_1]
  have h := hown _ _ _ h
  have h : Rel B' w13 [rdD q r5, cellD o T_api_Config c.cs.toArray, cellD p T_intake_Intake (ics ⟨c, ks, x1, x2, x3, x4, [], fun _ => 0⟩ kv pv m), mapE m l cc, knownD kv.1 ks, tabD tv ps] := h
  have htv : tv.oneCell' = true := tabD.oneCell (h.here (i := 5) rfl)
  refine h.st 2 rfl sc_s_api_Producer (show 11 < 13 by omega) htv fun w14 h => ?_
  have h : Rel B' w14 [rdD q r5, cellD o T_api_Config c.cs.toArray, cellD p T_intake_Intake (ics ⟨c, ks, x1, x2, x3, x4, ps, fun _ => 0⟩ kv ⟨tv, htv⟩ m), mapE m l cc, knownD kv.1 ks, tabD tv ps] := h
  rw [un_not, Bool.not_true, ifB_false]
  simp -zeta only [h.ld 2 rfl sc_int (o := 7) (v := .int .i64 x1) rfl]
  refine h.ask (fun _ _ _ => isTime_g x1) fun w15 h => ?_
  rw [un_not, ifB_not, ifB_dec]
  refine ⟨fun c1 => ?_, fun c1 => no (by rw [headS_none (.inr fun hh => c1 hh.1)]) _ _ h⟩
  simp -zeta only [h.ld 2 rfl sc_int (o := 9) (v := .int .i64 x3) rfl]
  refine h.ask (fun _ _ _ => isTime_g x3) fun w16 h => ?_
  rw [un_not, ifB_not, ifB_dec]
  refine ⟨fun c2 => ?_, fun c2 => no (by rw [headS_none (.inr fun hh => c2 hh.2.1)]) _ _ h⟩
  simp -zeta only [h.ld 2 rfl sc_int (o := 8) (v := .int .i64 x2) rfl]
  refine h.ask (fun _ _ _ => between_g x2 (-1) 1099511627776) fun w17 h => ?_
  rw [un_not, ifB_not, ifB_dec]
  refine ⟨fun c3 => ?_, fun c3 => no (by rw [headS_none (.inr fun hh => c3 hh.2.2.1)]) _ _ h⟩
  simp -zeta only [h.ld 2 rfl sc_int (o := 10) (v := .int .i64 x4) rfl]
  rw [bin_lss, ifB_dec]
  refine ⟨fun c4 => no (by rw [headS_none (.inr fun hh => hh.2.2.2 c4)]) _ _ h, fun c4 => ?_⟩
  obtain ⟨ok1, ok2, _⟩ := id hT
  rw [headS_yes (ps := ps) hT ok1 ok2 c1 c2 c3 c4] at no yes
  simp only at no yes
  refine h.ask (fun B2 own base2 => iClosed_c (own (i := 2) rfl) hR c3) fun w18 h => ?_
  have n0 : 0 ≤ (natR r5).1 := (numR_le (.inl rfl : isEnd 59) 0 r5).2.2 (Int.le_refl 0)
  have nI : inI (natR r5).1 := (numR_le (.inl rfl : isEnd 59) 0 r5).2.1
  have q6 := natR_le r5
  refine h.rd_ 0 rfl (fun B2 own base2 => rNum_d (base2 hB) (by omega)) fun w19 h => ?_
  have h : Rel B' w19 [rdD q (natR r5).2, cellD o T_api_Config c.cs.toArray, cellD p T_intake_Intake (ics ⟨c, ks, x1, x2, x3, x4, ps, fun _ => 0⟩ kv ⟨tv, htv⟩ m), mapE m l cc, knownD kv.1 ks, tabD tv ps] := h
  generalize natR r5 = y6 at *
  obtain ⟨n, r6⟩ := y6
  simp only at no yes n0 nI q6 h
  obtain ⟨N, rfl⟩ : ∃ N : Nat, n = N := ⟨n.toNat, by omega⟩
  rw [Int.toNat_natCast] at no yes
  have hgap := closed_gap (s := ⟨c, ks, x1, x2, x3, x4, ps, fun _ => 0⟩) hR
  have hcle : closedS ⟨c, ks, x1, x2, x3, x4, ps, fun _ => 0⟩ ≤ 1099511627776 := by
    have := hR.late
    show max (-1) (x2 - c.late - 1) ≤ _
    omega
  have hc0 := hgap.2
  clear hgap
  have h0 : l.length = 0 := by
    rcases Nat.eq_zero_or_pos l.length with e | e
    · exact e
    · have hm := getE_mem hk.wf.keys (List.getElem_mem e)
      rw [hk.get, if_pos (show (newS c ks).cnt l[0].1 = 0 from rfl)] at hm
      cases hm
  refine LETJ_intro fun J hJ => ?_
  replace hJ : ∀ (cnt : Int → Int) (r : RS) (l : List (Ent Int Int)) (cc : Nat) w', CntOk cnt l cc → readC x2 c.rate N (closedS ⟨c, ks, x1, x2, x3, x4, ps, fun _ => 0⟩) (fun _ => 0) r6 = (if doneR r = true ∧ l.length = N then some cnt else none) →
      Rel B' w' [rdD q r, cellD o T_api_Config c.cs.toArray, cellD p T_intake_Intake (ics ⟨c, ks, x1, x2, x3, x4, ps, fun _ => 0⟩ kv ⟨tv, htv⟩ m), mapE m l cc, knownD kv.1 ks, tabD tv ps] → J () w' := by
    clear h hk h0
    intro cnt r l cc w' hk hfin h
    refine hJ _ _ ?_
    rw [hfin] at no yes
    refine h.ask (fun B2 own base2 => rDone_g (own (i := 0) rfl)) fun w20 h => ?_
    rw [un_not, ifB_not, ifB_bool]
    refine ⟨fun c5 => ?_, fun c5 => no (by rw [if_neg (fun hh => by rw [hh.1] at c5; cases c5)]; rfl) _ _ h⟩
    simp -zeta only [field_addr f_intake_Intake_7, Nat.zero_add, h.ld 2 rfl sc_map_int_int (o := 12) (v := mapV m) rfl]
    rw [len_map h 3 rfl U_map_int_int, bin_neq, ifB_not, ifB_dec]
    refine ⟨fun c6 => ?_, fun c6 => no (by rw [if_neg (fun hh => c6 (by rw [hh.2]))]; rfl) _ _ h⟩
    have h := h.pick [2, 3, 4, 5] (by decide)
    have h : Rel B' w20 [cellD p T_intake_Intake (ics ⟨c, ks, x1, x2, x3, x4, ps, cnt⟩ kv ⟨tv, htv⟩ m), mapE m l cc, knownD kv.1 ks, tabD tv ps] := h
    exact yes ⟨c, ks, x1, x2, x3, x4, ps, cnt⟩ (by rw [if_pos ⟨c5, by omega⟩]; rfl) _ (intD.close hk h)
  refine LOOP_intro (fun x w' => ∃ (i : Nat) (last : Int) (cnt : Int → Int) (r : RS) (l : List (Ent Int Int)) (cc : Nat), i ≤ N ∧ x = (.int .i64 last, .int .i64 i, ()) ∧ CntOk cnt l cc ∧ l.length = i ∧ (∀ y, cnt y ≠ 0 → y ≤ last) ∧ (-1 ≤ last ∧ last ≤ 1099511627776) ∧
      readC x2 c.rate (N - i) last cnt r = readC x2 c.rate N (closedS ⟨c, ks, x1, x2, x3, x4, ps, fun _ => 0⟩) (fun _ => 0) r6 ∧ r.rest.length ≤ t.length ∧
      Rel B' w' [rdD q r, cellD o T_api_Config c.cs.toArray, cellD p T_intake_Intake (ics ⟨c, ks, x1, x2, x3, x4, ps, fun _ => 0⟩ kv ⟨tv, htv⟩ m), mapE m l cc, knownD kv.1 ks, tabD tv ps]) (fun x _ => N - (match x.2.1 with | .int _ n => n.toNat | _ => 0))
    ⟨0, _, fun _ => 0, r6, l, cc, Nat.zero_le _, rfl, hk, h0, fun y hy => absurd rfl hy, ⟨hc0, hcle⟩, rfl, by omega, h⟩ ?_
  clear h hk h0
  rintro x w21 ⟨i, last, cnt, r, l, cc, hi, rfl, hk, hl, hlast, hbl, hev, hsl, h⟩ next hnext
  rw [bin_lss, ifB_dec]
  refine ⟨fun hlt => ?_, fun hge => ?_⟩
  case refine_2 =>
    have e0 : N - i = 0 := by omega
    rw [e0, readC] at hev
    refine hJ cnt r l cc _ hk ?_ h
    rw [← hev]
    by_cases hd : doneR r = true
    · rw [if_pos hd, if_pos ⟨hd, by omega⟩]
    · rw [if_neg hd, if_neg fun hh => hd hh.1]
  obtain ⟨k', hk'⟩ : ∃ k', N - i = k' + 1 := ⟨N - i - 1, by omega⟩
  rw [hk', readC] at hev
  refine h.ask (fun B2 own base2 => rLeft_g (own (i := 0) rfl)) fun w22 h => ?_
  rw [bin_gtr, ifB_dec]
  refine ⟨fun hpos => ?_, fun hnp => ?_⟩
  case refine_2 =>
    have hnil : r.rest = [] := List.eq_nil_of_length_eq_zero (by omega)
    rw [if_pos hnil] at hev
    refine hJ cnt r l cc _ hk ?_ h
    rw [← hev, if_neg fun hh => by omega]
  have hne : ¬ r.rest = [] := fun e => by rw [e] at hpos; exact absurd hpos (by decide)
  rw [if_neg hne] at hev
  have z1 := intR_le r
  have z2 := intR_le (intR r).2
  refine h.rd_ 0 rfl (fun B2 own base2 => rInt_d (base2 hB) (by omega)) fun w23 h => ?_
  refine h.rd_ 0 rfl (fun B2 own base2 => rInt_d (base2 hB) (by omega)) fun w24 h => ?_
  have h : Rel B' w24 [rdD q (intR (intR r).2).2, cellD o T_api_Config c.cs.toArray, cellD p T_intake_Intake (ics ⟨c, ks, x1, x2, x3, x4, ps, fun _ => 0⟩ kv ⟨tv, htv⟩ m), mapE m l cc, knownD kv.1 ks, tabD tv ps] := h
  have z3 : (intR (intR r).2).2.rest.length ≤ t.length := by omega
  clear z1 z2
  generalize hR2 : (intR (intR r).2) = y2 at *
  generalize hR1 : intR r = y1 at *
  obtain ⟨M, r8⟩ := y2
  obtain ⟨T, r7⟩ := y1
  simp only at hev h z3
  rw [bin_add, wrap_id (by omega) (by omega)]
  simp -zeta only [field_addr f_intake_Intake_3, Nat.zero_add, h.ld 2 rfl sc_int (o := 8) (v := .int .i64 x2) rfl]
  refine h.ask (fun _ _ _ => between_g T (last + 1) x2) fun w25 h => ?_
  rw [un_not, ifB_not, ifB_dec]
  refine ⟨fun c5 => ?_, fun c5 => no (by rw [← hev, if_neg fun hh => c5 hh.1]; rfl) _ _ h⟩
  simp -zeta only [field_addr f_api_Config_4, Nat.zero_add, h.ld 1 rfl sc_int (o := 4) (v := .int .i64 c.rate) rfl]
  refine h.ask (fun _ _ _ => between_g M 1 c.rate) fun w26 h => ?_
  rw [un_not, ifB_not, ifB_dec]
  refine ⟨fun c6 => ?_, fun c6 => no (by rw [← hev, if_neg fun hh => c6 hh.2]; rfl) _ _ h⟩
  rw [if_pos ⟨c5, c6⟩] at hev
  simp -zeta only [field_addr f_intake_Intake_7, Nat.zero_add, h.ld 2 rfl sc_map_int_int (o := 12) (v := mapV m) rfl]
  refine h.mapEntry 3 rfl U_map_int_int kIntI 0 z_int T fun w27 h => ?_
  rw [ext_2_1]
  refine h.entryStore 3 rfl entry_there M fun w28 h => ?_
  obtain ⟨es1, es2⟩ := entry_store (x := T) (y := M) (z := (0 : Int)) hk.wf
  have hg : getE T l = none := by
    rw [hk.get]
    by_cases e : cnt T = 0
    · rw [if_pos e]
    · exact absurd (hlast T e) (by omega)
  have hlen : (setE T M l cc).1.length = i + 1 := by rw [setE_new hg, List.length_append, hl]; rfl
  have h : Rel B' w28 [rdD q r8, cellD o T_api_Config c.cs.toArray, cellD p T_intake_Intake (ics ⟨c, ks, x1, x2, x3, x4, ps, fun _ => 0⟩ kv ⟨tv, htv⟩ m), mapE m (storeE (entryE T 0 l cc).2.2.1 M (entryE T 0 l cc).1) (entryE T 0 l cc).2.1, knownD kv.1 ks, tabD tv ps] := h
  rw [es1, es2] at h
  rw [bin_add, wrap_id (by omega) (by omega)]
  refine hnext _ _ ⟨i + 1, T, updC cnt T M, r8, _, _, by omega, rfl, hk.upd (by omega), hlen, fun y hy => ?_, ⟨by omega, by omega⟩, by rw [show N - (i + 1) = k' by omega]; exact hev, z3, h⟩ (by simp only; omega)
  unfold updC at hy
  by_cases e : y = T
  · omega
  · rw [if_neg e] at hy
    have := hlast y hy
    omega
end
end Go.Proofs.YtefinemhfgdpdaaGreatDoor
/-
  What is refused changes the number of refused records alone: plain law. No condition.
-/
namespace Go.Proofs.YtefinemhfgdpdaaGreatDoor
open Go.RowKit
set_option maxRecDepth 100000

def setR (s : IS) (n : Int) : IS := { s with refused := n }
theorem putI_setR (s : IS) (n : Int) (e : EnD) (r : List ValD) : putI (setR s n) e r = putI s e r := rfl
theorem setR_self (s : IS) : setR s s.refused = s := rfl
theorem apply_ok_setR {s : IS} {e : EnD} {r : List ValD} (h : (applyS s e r).1.2 = 0) (n : Int) : applyS (setR s n) e r = ((applyS s e r).1, setR (applyS s e r).2 n) ∧ (applyS s e r).2.refused = s.refused := by
  unfold applyS at h ⊢
  by_cases k0 : e.kind = 0
  · rw [if_pos k0] at h ⊢
    rw [if_pos k0]
    unfold acceptS at h ⊢
    simp only at h ⊢
    by_cases c : (putI s e r).2 ≠ 0
    · rw [if_pos c] at h; exact absurd h c
    · have c' : ¬ (putI (setR s n) e r).2 ≠ 0 := c
      rw [if_neg c, if_neg c']; exact ⟨rfl, rfl⟩
  rw [if_neg k0] at h ⊢
  rw [if_neg k0]
  by_cases k1 : e.kind = 1
  · rw [if_pos k1, if_pos k1]
    show (((fenceS s.prods e.producer).2.1, (fenceS s.prods e.producer).2.2), if (fenceS s.prods e.producer).2.2 = 0 then { (setR s n) with prods := (fenceS s.prods e.producer).1 } else setR s n) = _ ∧ _
    by_cases c : (fenceS s.prods e.producer).2.2 = 0
    · rw [if_pos c, if_pos c]; exact ⟨rfl, rfl⟩
    · rw [if_neg c, if_neg c]; exact ⟨rfl, rfl⟩
  rw [if_neg k1] at h ⊢
  rw [if_neg k1]
  by_cases k2 : e.kind = 2 ∨ e.kind = 3
  · rw [if_pos k2, if_pos k2]
    by_cases c1 : ¬ timeOk e.time
    · rw [if_pos c1, if_pos c1]; exact ⟨rfl, rfl⟩
    rw [if_neg c1, if_neg c1]
    by_cases c2 : e.kind = 3
    · rw [if_pos c2, if_pos c2]; exact ⟨rfl, rfl⟩
    rw [if_neg c2, if_neg c2]
    show (if s.now + s.cfg.ahead < e.time then ((0, 21), setR s n) else ((0, 0), raiseS (setR s n) e.time)) = _ ∧ _
    by_cases c3 : s.now + s.cfg.ahead < e.time
    · rw [if_pos c3, if_pos c3]; exact ⟨rfl, rfl⟩
    · rw [if_neg c3, if_neg c3]; exact ⟨rfl, rfl⟩
  · rw [if_neg k2, if_neg k2]; exact ⟨rfl, rfl⟩
theorem apply_no {s : IS} {e : EnD} {r : List ValD} (h : (applyS s e r).1.2 ≠ 0) : (applyS s e r).2 = setR s (if e.kind = 0 ∧ (applyS s e r).1.2 ≠ 5 then s.refused + 1 else s.refused) := by
  unfold applyS at h ⊢
  by_cases k0 : e.kind = 0
  · rw [if_pos k0] at h ⊢
    unfold acceptS at h ⊢
    simp only at h ⊢
    by_cases c : (putI s e r).2 ≠ 0
    · rw [if_pos c]
      simp only
      by_cases c5 : (putI s e r).2 ≠ 5
      · rw [if_pos c5, if_pos ⟨k0, c5⟩]; rfl
      · rw [if_neg c5, if_neg fun hh => c5 hh.2]; rfl
    · rw [if_neg c] at h
      exact absurd (Decidable.of_not_not c) h
  rw [if_neg k0] at h ⊢
  have hk : ∀ x : Int, (if e.kind = 0 ∧ x ≠ 5 then s.refused + 1 else s.refused) = s.refused := fun x => if_neg fun hh => k0 hh.1
  rw [hk, setR_self]
  by_cases k1 : e.kind = 1
  · rw [if_pos k1] at h ⊢
    simp only at h ⊢
    rw [if_neg h]
  rw [if_neg k1] at h ⊢
  by_cases k2 : e.kind = 2 ∨ e.kind = 3
  · rw [if_pos k2] at h ⊢
    by_cases c1 : ¬ timeOk e.time
    · rw [if_pos c1]
    rw [if_neg c1] at h ⊢
    by_cases c2 : e.kind = 3
    · rw [if_pos c2] at h; exact absurd rfl h
    rw [if_neg c2] at h ⊢
    by_cases c3 : s.now + s.cfg.ahead < e.time
    · rw [if_pos c3]
    · rw [if_neg c3] at h; exact absurd rfl h
  · rw [if_neg k2]
end Go.Proofs.YtefinemhfgdpdaaGreatDoor
