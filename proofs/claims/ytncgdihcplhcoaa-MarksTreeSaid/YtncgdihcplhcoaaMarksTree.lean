/-
  MarksTree: a tracker of the common marks of trackers has the common mark of one tracker of all inputs. No condition.
-/
import Derived.Test.YtncgdihcplhcoaaMarksC
namespace Go.Proofs.Ytncgdihcplhcoaa
open Go.RowKit

/-! ### The plain law -/
theorem lowest_spec {l : List Int} (h : l ≠ []) : lowest l ∈ l ∧ ∀ x ∈ l, lowest l ≤ x := by
  cases l with
  | nil => exact absurd rfl h
  | cons a r =>
    show r.foldl min a ∈ a :: r ∧ _
    have key : ∀ (r : List Int) (a : Int), (r.foldl min a = a ∨ r.foldl min a ∈ r) ∧ r.foldl min a ≤ a ∧ ∀ x ∈ r, r.foldl min a ≤ x := by
      intro r
      induction r with
      | nil => intro a; exact ⟨.inl rfl, Int.le_refl _, fun x hx => by cases hx⟩
      | cons b r ih =>
        intro a
        obtain ⟨h1, h2, h3⟩ := ih (min a b)
        refine ⟨?_, by simp only [List.foldl_cons]; omega, ?_⟩
        · simp only [List.foldl_cons]
          rcases h1 with h1 | h1
          · rcases Int.le_total a b with hab | hab
            · left; rw [h1]; omega
            · right; rw [h1, show min a b = b by omega]; exact List.mem_cons_self
          · right; exact List.mem_cons_of_mem _ h1
        · intro x hx
          simp only [List.foldl_cons]
          cases hx with
          | head => omega
          | tail _ hx => exact h3 x hx
    obtain ⟨h1, h2, h3⟩ := key r a
    refine ⟨?_, fun x hx => ?_⟩
    · rcases h1 with h1 | h1
      · rw [h1]; exact List.mem_cons_self
      · exact List.mem_cons_of_mem _ h1
    · cases hx with
      | head => exact h2
      | tail _ hx => exact h3 x hx
theorem lowest_eq {l : List Int} {m : Int} (h1 : m ∈ l) (h2 : ∀ x ∈ l, m ≤ x) : lowest l = m := by
  have hl : l ≠ [] := by rintro rfl; cases h1
  obtain ⟨h3, h4⟩ := lowest_spec hl
  have := h4 m h1
  have := h2 _ h3
  omega

structure Good (s : MarkS) : Prop where
  idle : ∀ x ∈ s.l, x.idle = false
  some_ : s.l ≠ []
  low : s.common = lowest (s.l.map (·.mark))
  rng : ∀ x ∈ s.l, -1 ≤ x.mark ∧ x.mark ≤ 1099511627776

theorem alive_all {l : List Inp} (h : ∀ x ∈ l, x.idle = false) : alive l = l.map (·.mark) := by
  unfold alive
  rw [List.filter_eq_self.2 fun x hx => by rw [h x hx]; rfl]

theorem Good.com {s : MarkS} (h : Good s) : -1 ≤ s.common ∧ s.common ≤ 1099511627776 := by
  obtain ⟨h1, _⟩ := lowest_spec (l := s.l.map (·.mark)) (by simpa using h.some_)
  obtain ⟨x, hx, he⟩ := List.mem_map.1 h1
  rw [h.low, ← he]
  exact h.rng x hx

theorem note_ok {s : MarkS} {n : Nat} {m : Int} (hn : n < s.l.length) (hm : -1 ≤ m ∧ m ≤ 1099511627776) : note s n m = (0, upd s n ⟨max m s.l[n].mark, false⟩) := by
  have h : has s n = true := has_iff.2 ⟨n, rfl, hn⟩
  have e : inp s n = s.l[n] := by simp [inp, List.getD, hn]
  simp only [note, h, if_true, hm, e, and_self]
theorem note_l {s : MarkS} {n : Nat} {m : Int} (hn : n < s.l.length) (hm : -1 ≤ m ∧ m ≤ 1099511627776) : (note s n m).2.l = s.l.set n ⟨max m s.l[n].mark, false⟩ := by
  rw [note_ok hn hm]; simp [upd]
theorem note_err {s : MarkS} {i m : Int} (h : (note s i m).1 = 0) : ∃ n : Nat, i = n ∧ n < s.l.length ∧ -1 ≤ m ∧ m ≤ 1099511627776 := by
  unfold note at h
  split at h
  · rename_i hh
    split at h
    · obtain ⟨n, rfl, hn⟩ := has_iff.1 hh
      rename_i hm
      exact ⟨n, rfl, hn, hm⟩
    · cases h
  · cases h
theorem note_same {s : MarkS} {i m : Int} (h : (note s i m).1 ≠ 0) : (note s i m).2 = s := by
  unfold note at h ⊢
  split
  · rename_i hh
    rw [if_pos hh] at h
    split
    · rename_i hm; rw [if_pos hm] at h; exact absurd rfl h
    · rfl
  · rfl

theorem Good.note {s : MarkS} (h : Good s) {n : Nat} {m : Int} (hn : n < s.l.length) (hm : -1 ≤ m ∧ m ≤ 1099511627776) : Good (note s n m).2 := by
  rw [note_ok hn hm]
  have hmem : ∀ x ∈ s.l.set n ⟨max m s.l[n].mark, false⟩, x.idle = false ∧ -1 ≤ x.mark ∧ x.mark ≤ 1099511627776 := by
    intro x hx
    rcases List.mem_or_eq_of_mem_set hx with hx | rfl
    · exact ⟨h.idle x hx, h.rng x hx⟩
    · have := h.rng s.l[n] (List.getElem_mem hn)
      exact ⟨rfl, by show -1 ≤ max m _; omega, by show max m _ ≤ _; omega⟩
  have hne : s.l.set n ⟨max m s.l[n].mark, false⟩ ≠ [] := by
    intro e
    have := congrArg List.length e
    rw [List.length_set] at this
    simp at this
    exact h.some_ this
  refine ⟨fun x hx => (hmem x hx).1, hne, ?_, fun x hx => (hmem x hx).2⟩
  show settled _ = lowest _
  have e : (Int.toNat (n : Int)) = n := by omega
  simp only [upd, e]
  unfold settled
  simp only
  rw [alive_all fun x hx => (hmem x hx).1]
  rw [if_neg (by simpa using hne)]
  obtain ⟨h1, h2⟩ := lowest_spec (l := (s.l.set n ⟨max m s.l[n].mark, false⟩).map (·.mark)) (by simpa using hne)
  have h3 : s.common ≤ lowest ((s.l.set n ⟨max m s.l[n].mark, false⟩).map (·.mark)) := by
    rw [h.low]
    obtain ⟨_, h4⟩ := lowest_spec (l := s.l.map (·.mark)) (by simpa using h.some_)
    obtain ⟨x, hx, he⟩ := List.mem_map.1 h1
    rw [← he]
    rcases List.mem_or_eq_of_mem_set hx with hx | rfl
    · exact h4 _ (List.mem_map.2 ⟨x, hx, rfl⟩)
    · have := h4 _ (List.mem_map.2 ⟨s.l[n], List.getElem_mem hn, rfl⟩)
      show _ ≤ max m s.l[n].mark
      omega
  omega

theorem fresh_good {n : Int} (h : 1 ≤ n) (h2 : n ≤ 200) : Good (fresh n) ∧ (fresh n).l.length = n.toNat := by
  have e : (min (max n 0) 200).toNat = n.toNat := by omega
  refine ⟨⟨fun x hx => ?_, ?_, ?_, fun x hx => ?_⟩, by simp [fresh, e]⟩
  · rw [show (fresh n).l = List.replicate _ _ from rfl] at hx
    rw [(List.mem_replicate.1 hx).2]
  · intro h0
    have := congrArg List.length h0
    simp [fresh, e] at this
    omega
  · show (-1 : Int) = _
    symm
    refine lowest_eq ?_ ?_
    · refine List.mem_map.2 ⟨⟨-1, false⟩, ?_, rfl⟩
      refine List.mem_replicate.2 ⟨?_, rfl⟩
      omega
    · intro x hx
      obtain ⟨y, hy, rfl⟩ := List.mem_map.1 hx
      rw [(List.mem_replicate.1 hy).2]
      exact Int.le_refl _
  · rw [(List.mem_replicate.1 hx).2]
    decide

/-- The trackers of the tree: leaves, all, top. -/
structure Tree (ss : List MarkS) (a t : MarkS) : Prop where
  leaves : ∀ s ∈ ss, Good s
  all : Good a
  top : Good t
  al : a.l = ss.flatMap (·.l)
  tl : t.l = ss.map fun s => ⟨s.common, false⟩

theorem Tree.same {ss : List MarkS} {a t : MarkS} (h : Tree ss a t) : a.common = t.common := by
  rw [h.all.low, h.top.low, h.al, h.tl]
  have hne : (ss.map fun s => (⟨s.common, false⟩ : Inp)) ≠ [] := by rw [← h.tl]; exact h.top.some_
  obtain ⟨h1, h2⟩ := lowest_spec (l := (ss.map fun s => (⟨s.common, false⟩ : Inp)).map (·.mark)) (by simpa using hne)
  refine lowest_eq ?_ ?_
  · obtain ⟨x, hx, he⟩ := List.mem_map.1 h1
    obtain ⟨s, hs, rfl⟩ := List.mem_map.1 hx
    have g := h.leaves s hs
    rw [← he]
    show s.common ∈ _
    rw [g.low]
    obtain ⟨h3, _⟩ := lowest_spec (l := s.l.map (·.mark)) (by simpa using g.some_)
    obtain ⟨y, hy, he⟩ := List.mem_map.1 h3
    rw [← he]
    exact List.mem_map.2 ⟨y, List.mem_flatMap.2 ⟨s, hs, hy⟩, rfl⟩
  · intro x hx
    obtain ⟨y, hy, rfl⟩ := List.mem_map.1 hx
    obtain ⟨s, hs, hy⟩ := List.mem_flatMap.1 hy
    have g := h.leaves s hs
    have h3 := h2 s.common (List.mem_map.2 ⟨⟨s.common, false⟩, List.mem_map.2 ⟨s, hs, rfl⟩, rfl⟩)
    obtain ⟨_, h4⟩ := lowest_spec (l := s.l.map (·.mark)) (by simpa using g.some_)
    have := h4 _ (List.mem_map.2 ⟨y, hy, rfl⟩)
    rw [← g.low] at this
    omega

def before (ss : List MarkS) (k : Nat) : Nat := ((ss.take k).map (·.l.length)).sum

theorem before_set {ss : List MarkS} {k : Nat} (hk : k < ss.length) {s : MarkS} (hs : s.l.length = ss[k].l.length) (j : Nat) : before (ss.set k s) j = before ss j := by
  unfold before
  rw [List.map_take, List.map_take, List.map_set, hs]
  congr 2
  refine set_same ?_
  simp [hk]
theorem flat_at {ss : List MarkS} {k n : Nat} (hk : k < ss.length) (hn : n < ss[k].l.length) : before ss k + n < (ss.flatMap (·.l)).length ∧ (ss.flatMap (·.l))[before ss k + n]? = some ss[k].l[n] ∧
    ∀ x, (ss.flatMap (·.l)).set (before ss k + n) x = (ss.set k { ss[k] with l := ss[k].l.set n x }).flatMap (·.l) := by
  induction ss generalizing k with
  | nil => simp at hk
  | cons s ss ih =>
    cases k with
    | zero =>
      simp only [List.getElem_cons_zero] at hn ⊢
      refine ⟨by simp [before]; omega, ?_, fun x => ?_⟩
      · simp only [before, List.take_zero, List.map_nil, List.sum_nil, Nat.zero_add, List.flatMap_cons]
        rw [List.getElem?_append_left hn, List.getElem?_eq_getElem hn]
      · simp only [before, List.take_zero, List.map_nil, List.sum_nil, Nat.zero_add, List.flatMap_cons, List.set_cons_zero]
        rw [List.set_append_left _ _ hn]
    | succ k =>
      simp only [List.getElem_cons_succ, List.length_cons, Nat.add_lt_add_iff_right] at hk hn ⊢
      obtain ⟨h1, h2, h3⟩ := ih hk hn
      have e : before (s :: ss) (k + 1) = s.l.length + before ss k := by simp [before]
      refine ⟨by rw [e]; simp at h1 ⊢; omega, ?_, fun x => ?_⟩
      · rw [e, List.flatMap_cons, Nat.add_assoc, List.getElem?_append_right (by omega), Nat.add_sub_cancel_left]
        exact h2
      · rw [e, List.flatMap_cons, Nat.add_assoc, List.set_append_right _ _ (by omega), Nat.add_sub_cancel_left, h3]
        simp

theorem Tree.note {ss : List MarkS} {a t : MarkS} (h : Tree ss a t) {k n : Nat} {m : Int} (hk : k < ss.length) (hn : n < ss[k].l.length) (hm : -1 ≤ m ∧ m ≤ 1099511627776) :
    (Go.Proofs.Ytncgdihcplhcoaa.note a ((before ss k : Int) + n) m).1 = 0 ∧ (Go.Proofs.Ytncgdihcplhcoaa.note t k (Go.Proofs.Ytncgdihcplhcoaa.note ss[k] n m).2.common).1 = 0 ∧
    Tree (ss.set k (Go.Proofs.Ytncgdihcplhcoaa.note ss[k] n m).2) (Go.Proofs.Ytncgdihcplhcoaa.note a ((before ss k : Int) + n) m).2 (Go.Proofs.Ytncgdihcplhcoaa.note t k (Go.Proofs.Ytncgdihcplhcoaa.note ss[k] n m).2.common).2 := by
  have g := h.leaves _ (List.getElem_mem hk)
  obtain ⟨f1, f2, f3⟩ := flat_at hk hn
  have ei : (before ss k : Int) + n = ((before ss k + n : Nat) : Int) := by omega
  have ha : before ss k + n < a.l.length := by rw [h.al]; exact f1
  have ht : k < t.l.length := by rw [h.tl]; simpa using hk
  have g' := g.note hn hm
  have hc := g'.com
  rw [ei]
  refine ⟨by rw [note_ok ha hm], by rw [note_ok ht hc], fun s hs => ?_, h.all.note ha hm, h.top.note ht hc, ?_, ?_⟩
  · rcases List.mem_or_eq_of_mem_set hs with hs | rfl
    · exact h.leaves s hs
    · exact g'
  · rw [note_l ha hm]
    have e1 : a.l[before ss k + n] = ss[k].l[n] := by
      have : a.l[before ss k + n]? = some ss[k].l[n] := by rw [h.al]; exact f2
      rw [List.getElem?_eq_getElem ha] at this
      exact Option.some.inj this
    rw [e1, h.al, f3]
    have e2 : ∀ s : MarkS, s.l = ss[k].l.set n ⟨max m ss[k].l[n].mark, false⟩ → (ss.set k { ss[k] with l := ss[k].l.set n ⟨max m ss[k].l[n].mark, false⟩ }).flatMap (·.l) = (ss.set k s).flatMap (·.l) := by
      intro s hs
      simp only [List.flatMap, List.map_set, hs]
    exact e2 _ (note_l hn hm)
  · rw [note_l ht hc]
    have e1 : t.l[k] = ⟨ss[k].common, false⟩ := by
      have : t.l[k]? = some ⟨ss[k].common, false⟩ := by rw [h.tl]; simp [hk]
      rw [List.getElem?_eq_getElem ht] at this
      exact Option.some.inj this
    have e2 : ss[k].common ≤ (Go.Proofs.Ytncgdihcplhcoaa.note ss[k] n m).2.common := by
      rw [note_ok hn hm]
      show _ ≤ settled _
      unfold settled
      split
      · exact Int.le_refl _
      · show _ ≤ max _ ss[k].common
        omega
    rw [e1, h.tl, List.map_set]
    congr 2
    show max (Go.Proofs.Ytncgdihcplhcoaa.note ss[k] n m).2.common ss[k].common = _
    omega

/-! ### The walk -/
structure Ptr where
  b : Nat
instance : Enc Ptr where
  sz := 1
  cells p := [ptr p.b]
  val p := ptr p.b
  pos := by omega
  len _ := rfl
  one _ v hv := by
    simp only [List.mem_cons, List.not_mem_nil, or_false] at hv
    rcases hv with rfl
    rfl
  cells_val _ := rfl
theorem TPs : sliceB Try.prog T_s_p_marks_Marks T_p_marks_Marks (Enc.sz Ptr) 8 = true := by kernel_rfl
theorem TPm : scB Try.prog T_p_marks_Marks = true := by kernel_rfl

def objs (L : List (Nat × MarkS)) : List Dat := L.map fun p => marksD p.1 p.2
theorem objs_get {L : List (Nat × MarkS)} {k : Nat} (h : k < L.length) (τ : List Dat) : (objs L ++ τ)[k]? = some (marksD L[k].1 L[k].2) := by
  rw [List.getElem?_append_left (by simpa [objs] using h)]
  simp [objs, h]
theorem objs_set {L : List (Nat × MarkS)} {k : Nat} (h : k < L.length) (τ : List Dat) (b : Nat) (s : MarkS) : (objs L ++ τ).set k (marksD b s) = objs (L.set k (b, s)) ++ τ := by
  rw [List.set_append_left _ _ (by simpa [objs] using h)]
  simp [objs]

theorem opAt {B : Base} {v : Value} {l : List OpM} (h : rowR v l B) {i : Nat} (hi : i < l.length) : ∃ g o, (∀ {Kp : Value → Prop}, pureK Try.prog (sIdxAddr T_s_erratalaw35_Op v (.int .i64 i)) Kp = Kp (.pointer (some ⟨g, o, none⟩))) ∧ cellsR g o [.int .i64 l[i].do_, .int .i64 l[i].i, .int .i64 l[i].mark] B := rowR.idx h TO hi

theorem marksTree_pt {W : World} {v1 v2 : Value} {zs : List Int} {l : List OpM} (h1 : rowR v1 zs (lawB W)) (h2 : rowR v2 l (lawB W)) {K : Value → World → Prop}
    (fin : ∀ w' σ, Rel (lawB W) w' σ → K (.bool true) w') : erratalaw35_MarksTree.pt v1 v2 W K := by
  unfold erratalaw35_MarksTree.pt
  refine small_r (lawB.start W) fun w1 h => ?_
  simp -zeta only [rowR.len h1 TIs, rowR.len h2 TO, bin_lss, bin_gtr, ifB_dec]
  refine ⟨fun _ => fin _ _ h, fun e1 => ⟨fun _ => fin _ _ h, fun e2 => ⟨fun _ => fin _ _ h, fun e3 => ?_⟩⟩⟩
  have h := (h.addNil Int T_int).addNil Ptr T_p_marks_Marks
  refine LOOP_intro (fun x w' => ∃ (i : Nat) (va vb : Value) (L : List (Nat × MarkS)), i ≤ zs.length ∧ x = (va, .int .i64 ((L.map (·.2.l.length)).sum : Nat), vb, .int .i64 i, ()) ∧ L.length = i ∧ (∀ p ∈ L, p.2.l.length ≤ 8 ∧ ∃ n : Int, 1 ≤ n ∧ n ≤ 8 ∧ p.2 = fresh n) ∧
      Rel (lawB W) w' (rowD T_int va ((List.range i).map fun k => (before (L.map (·.2)) k : Int)) :: rowD T_p_marks_Marks vb (L.map fun p => Ptr.mk p.1) :: objs L))
    (fun x _ => zs.length - (match x.2.2.2.1 with | .int _ n => n.toNat | _ => 0)) ⟨0, _, _, [], Nat.zero_le _, rfl, rfl, (fun p hp => by cases hp), h⟩ ?_
  clear h
  rintro x w2 ⟨i, va, vb, L, hi, rfl, hL, hfr, h⟩ next hnext
  simp -zeta only [bin_lss, ifB_dec]
  have hsum : (L.map (·.2.l.length)).sum ≤ 8 * L.length := by
    clear h hL hnext
    induction L with
    | nil => simp
    | cons p L ih =>
      have := ih fun p hp => hfr p (List.mem_cons_of_mem _ hp)
      have := (hfr p List.mem_cons_self).1
      simp only [List.map_cons, List.sum_cons, List.length_cons]
      omega
  refine ⟨fun hlt => ?_, fun hge => ?_⟩
  · have hil : i < zs.length := by omega
    obtain ⟨q, q1, q2⟩ := rowR.at_sc h1 h TIs hil TI rfl
    have e5 : IntKind.i64.wrap (1 + zs[i] % 8) = 1 + zs[i] % 8 := wrap_id (by omega) (by omega)
    simp -zeta only [q1, q2, bin_and, and7, bin_add, e5]
    refine h.push1 (α := Int) 0 rfl (((L.map (·.2.l.length)).sum : Nat) : Int) TIs (by decide) (by simp; omega) (by simp; omega) fun va' w3 h => ?_
    have e6 : IntKind.i64.wrap (((L.map (·.2.l.length)).sum : Nat) + (1 + zs[i] % 8)) = ((L.map (·.2.l.length)).sum : Nat) + (1 + zs[i] % 8) := wrap_id (by omega) (by omega)
    simp -zeta only [e6]
    refine new_r h _ fun b w4 h => ?_
    refine h.push1 (α := Ptr) 1 rfl (Ptr.mk b) TPs (by decide) (by simp; omega) (by simp; omega) fun vb' w5 h => ?_
    have hlen : (L.map fun p => Ptr.mk p.1).length = i := by simp [hL]
    obtain ⟨g, o, hx, hc⟩ := rowR.idx (i := i) (rowD.read (h.here (i := 1) rfl)) TPs (by simp [hL])
    have hel : ((L.map fun p => Ptr.mk p.1) ++ [Ptr.mk b])[i]'(by simp [hL]) = Ptr.mk b := by
      rw [List.getElem_append_right (by omega)]
      simp [hlen]
    rw [hel] at hc
    simp -zeta only [hx, cellsR.ld0 hc TPm rfl, bin_eql_ptr_nil UpM, ifB_false, bin_add]
    rw [wrap_id (by omega) (by omega)]
    obtain ⟨_, hfl⟩ := fresh_good (n := 1 + zs[i] % 8) (by omega) (by omega)
    refine hnext _ _ ⟨i + 1, va', vb', L ++ [(b, fresh (1 + zs[i] % 8))], by omega, ?_, by simp [hL], ?_, ?_⟩ ?_
    · have : ((L ++ [(b, fresh (1 + zs[i] % 8))]).map (·.2.l.length)).sum = (L.map (·.2.l.length)).sum + (1 + zs[i] % 8).toNat := by simp [hfl]
      rw [this]
      have e7 : (((L.map (·.2.l.length)).sum + (1 + zs[i] % 8).toNat : Nat) : Int) = ((L.map (·.2.l.length)).sum : Nat) + (1 + zs[i] % 8) := by omega
      rw [e7]
      rfl
    · intro p hp
      rcases List.mem_append.1 hp with hp | hp
      · exact hfr p hp
      · simp only [List.mem_cons, List.not_mem_nil, or_false] at hp
        subst hp
        exact ⟨by show (fresh _).l.length ≤ 8; rw [hfl]; omega, _, by omega, by omega, rfl⟩
    · have e8 : (List.range (i + 1)).map (fun k => (before ((L ++ [(b, fresh (1 + zs[i] % 8))]).map (·.2)) k : Int)) = (List.range i).map (fun k => (before (L.map (·.2)) k : Int)) ++ [(((L.map (·.2.l.length)).sum : Nat) : Int)] := by
        rw [List.range_succ, List.map_append]
        congr 1
        · refine List.map_congr_left fun k hk => ?_
          have hk := List.mem_range.1 hk
          congr 1
          unfold before
          rw [List.map_append, List.take_append_of_le_length (by simp; omega)]
        · simp only [List.map_cons, List.map_nil]
          congr 2
          unfold before
          rw [List.map_append, List.take_append_of_le_length (by simp; omega), List.take_of_length_le (by simp; omega), List.map_map]
          rfl
      rw [e8]
      have e9 : objs (L ++ [(b, fresh (1 + zs[i] % 8))]) = objs L ++ [marksD b (fresh (1 + zs[i] % 8))] := by simp [objs]
      rw [e9, List.map_append]
      exact h
    · simp only
      omega
  · have hil : i = zs.length := by omega
    clear hnext
    refine new_r h _ fun ba w3 h => ?_
    refine new_r h _ fun bt w4 h => ?_
    simp -zeta only [bin_eql_ptr_nil UpM, ifB_false]
    have hlen : 1 ≤ (L.map (·.2.l.length)).sum := by
      cases L with
      | nil => simp at hL; omega
      | cons p L =>
        obtain ⟨_, n, hn1, hn2, he⟩ := hfr p List.mem_cons_self
        obtain ⟨_, hfl⟩ := fresh_good hn1 (by omega)
        simp only [List.map_cons, List.sum_cons, he, hfl]
        omega
    obtain ⟨ga, fa⟩ := fresh_good (n := (((L.map (·.2.l.length)).sum : Nat) : Int)) (by omega) (by omega)
    obtain ⟨gt, ft⟩ := fresh_good (n := (zs.length : Int)) (by omega) (by omega)
    have htree : Tree (L.map (·.2)) (fresh (((L.map (·.2.l.length)).sum : Nat) : Int)) (fresh (zs.length : Int)) := by
      refine ⟨?_, ga, gt, ?_, ?_⟩
      · intro s hs
        obtain ⟨p, hp, rfl⟩ := List.mem_map.1 hs
        obtain ⟨_, n, hn1, hn2, he⟩ := hfr p hp
        rw [he]
        exact (fresh_good hn1 (by omega)).1
      · have : ∀ L : List (Nat × MarkS), (∀ p ∈ L, p.2.l.length ≤ 8 ∧ ∃ n : Int, 1 ≤ n ∧ n ≤ 8 ∧ p.2 = fresh n) → (L.map (·.2)).flatMap (·.l) = List.replicate (L.map (·.2.l.length)).sum ⟨-1, false⟩ := by
          intro L
          induction L with
          | nil => intro _; rfl
          | cons p L ih =>
            intro hp
            obtain ⟨_, n, hn1, hn2, he⟩ := hp p List.mem_cons_self
            simp only [List.map_cons, List.flatMap_cons, List.sum_cons]
            rw [ih fun q hq => hp q (List.mem_cons_of_mem _ hq), ← List.replicate_append_replicate]
            congr 1
            rw [he]
            obtain ⟨_, hfl⟩ := fresh_good hn1 (by omega)
            rw [hfl]
            show List.replicate _ _ = _
            congr 1
            omega
        rw [this L hfr]
        show List.replicate _ _ = _
        congr 1
        omega
      · rw [show (fresh (zs.length : Int)).l = List.replicate zs.length ⟨-1, false⟩ from by
          show List.replicate _ _ = _
          congr 1
          omega]
        rw [List.map_map]
        symm
        rw [← hil, ← hL]
        have : ∀ L : List (Nat × MarkS), (∀ p ∈ L, p.2.l.length ≤ 8 ∧ ∃ n : Int, 1 ≤ n ∧ n ≤ 8 ∧ p.2 = fresh n) → L.map ((fun s : MarkS => (⟨s.common, false⟩ : Inp)) ∘ (·.2)) = List.replicate L.length ⟨-1, false⟩ := by
          intro L
          induction L with
          | nil => intro _; rfl
          | cons p L ih =>
            intro hp
            obtain ⟨_, n, hn1, hn2, he⟩ := hp p List.mem_cons_self
            simp only [List.map_cons, List.length_cons, List.replicate_succ]
            rw [ih fun q hq => hp q (List.mem_cons_of_mem _ hq)]
            congr 1
            simp [he, fresh]
        exact this L hfr
    clear fa ft ga gt
    have hq : ∀ p ∈ L, p.2.l.length ≤ 8 := fun p hp => (hfr p hp).1
    have hbf : (List.range i).map (fun k => (before (L.map (·.2)) k : Int)) = (List.range L.length).map (fun k => (before (L.map (·.2)) k : Int)) := by rw [hL]
    rw [hbf] at h
    refine LOOP_intro (fun x w' => ∃ (j : Nat) (L : List (Nat × MarkS)) (a t : MarkS), j ≤ l.length ∧ x = (.int .i64 j, ()) ∧ L.length = zs.length ∧ (∀ p ∈ L, p.2.l.length ≤ 8) ∧ Tree (L.map (·.2)) a t ∧
        Rel (lawB W) w' (rowD T_int va ((List.range L.length).map fun k => (before (L.map (·.2)) k : Int)) :: rowD T_p_marks_Marks vb (L.map fun p => Ptr.mk p.1) :: (objs L ++ [marksD ba a, marksD bt t])))
      (fun x _ => l.length - (match x.1 with | .int _ n => n.toNat | _ => 0)) ⟨0, L, _, _, Nat.zero_le _, rfl, by omega, hq, htree, ?_⟩ ?_
    · have e : objs L ++ [marksD ba (fresh (((L.map (·.2.l.length)).sum : Nat) : Int)), marksD bt (fresh (zs.length : Int))] = objs L ++ [marksD ba (fresh (((L.map (·.2.l.length)).sum : Nat) : Int))] ++ [marksD bt (fresh (zs.length : Int))] := by simp
      rw [e]
      exact h
    clear htree hq hlen h hfr hsum hL hbf hge
    rintro x w5 ⟨j, L, a, t, hj, rfl, hL, hq, htree, h⟩ next hnext
    simp -zeta only [bin_lss, ifB_dec]
    refine ⟨fun hlt => ?_, fun _ => fin _ _ h⟩
    have hjl : j < l.length := by omega
    intro J1
    have hJ : ∀ w' (L : List (Nat × MarkS)) (a t : MarkS), L.length = zs.length → (∀ p ∈ L, p.2.l.length ≤ 8) → Tree (L.map (·.2)) a t →
        Rel (lawB W) w' (rowD T_int va ((List.range L.length).map fun k => (before (L.map (·.2)) k : Int)) :: rowD T_p_marks_Marks vb (L.map fun p => Ptr.mk p.1) :: (objs L ++ [marksD ba a, marksD bt t])) → J1 w' := by
      intro w' L a t hL hq ht h
      show pureK _ _ _
      rw [bin_add, wrap_id (by omega) (by omega)]
      refine hnext _ _ ⟨j + 1, L, a, t, by omega, rfl, hL, hq, ht, h⟩ ?_
      simp only
      omega
    clear_value J1
    clear hnext
    obtain ⟨g, o, hx, hc⟩ := opAt h2 hjl
    generalize l[j] = op at hc
    obtain ⟨k, hk, hkl⟩ : ∃ k : Nat, (op.do_ % 64).tmod (zs.length : Int) = k ∧ k < L.length := by
      refine ⟨((op.do_ % 64).tmod (zs.length : Int)).toNat, ?_, ?_⟩
      · rw [Int.tmod_eq_emod_of_nonneg (by omega)]
        have := Int.emod_nonneg (op.do_ % 64) (show (zs.length : Int) ≠ 0 by omega)
        omega
      · rw [Int.tmod_eq_emod_of_nonneg (by omega)]
        have h1 := Int.emod_nonneg (op.do_ % 64) (show (zs.length : Int) ≠ 0 by omega)
        have h2 := Int.emod_lt_of_pos (op.do_ % 64) (show (0 : Int) < zs.length by omega)
        omega
    simp -zeta only [hx, field_addr TO0, field_addr TO1, field_addr TO2, cellsR.ld (h.hereB hc) TI (j := 0) rfl, cellsR.ld (h.tick.hereB hc) TI (j := 1) rfl, cellsR.ld (h.tick.hereB hc) TI (j := 2) rfl, bin_and, and63, bin_rem (show (zs.length : Int) ≠ 0 by omega), hk]
    obtain ⟨gp, op', hxp, hcp⟩ := rowR.idx (i := k) (rowD.read (h.here (i := 1) rfl)) TPs (by simpa using hkl)
    have hel : (L.map fun p => Ptr.mk p.1)[k]'(by simpa using hkl) = Ptr.mk L[k].1 := by simp
    rw [hel] at hcp
    simp -zeta only [hxp, cellsR.ld0 hcp TPm rfl]
    have hcv : (cellsR g o [.int .i64 op.do_, .int .i64 op.i, .int .i64 op.mark]) (lawB W) := hc
    refine note_r h.tick (k + 2) (objs_get hkl _) op.i op.mark fun w6 h => ?_
    have hset : ∀ (L : List (Nat × MarkS)) (hkl : k < L.length) (r1 r2 : Dat) (τ : List Dat) (b : Nat) (s : MarkS), (r1 :: r2 :: (objs L ++ τ)).set (k + 2) (marksD b s) = r1 :: r2 :: (objs (L.set k (b, s)) ++ τ) := by
      intro L hkl r1 r2 τ b s
      show r1 :: r2 :: (objs L ++ τ).set k (marksD b s) = _
      rw [objs_set hkl]
    rw [hset L hkl] at h
    have hmap : ∀ s, (L.set k (L[k].1, s)).map (fun p => Ptr.mk p.1) = L.map fun p => Ptr.mk p.1 := by
      intro s
      rw [List.map_set]
      refine set_same ?_
      simp [hkl]
    have hmap2 : ∀ s, (L.set k (L[k].1, s)).map (·.2) = (L.map (·.2)).set k s := by
      intro s
      rw [List.map_set]
    simp -zeta only [bin_neq, ifB_not, ifB_dec]
    refine ⟨fun hok => ?_, fun herr => ?_⟩
    · obtain ⟨n, hn, hnl, hm⟩ := note_err hok
      have hkm : k < (L.map (·.2)).length := by simpa using hkl
      have hLk : (L.map (·.2))[k] = L[k].2 := by simp
      obtain ⟨t1, t2, t3⟩ := htree.note hkm (n := n) (m := op.mark) (by rw [hLk]; exact hnl) hm
      rw [hLk, ← hn] at t2 t3
      obtain ⟨gf, of, hxf, hcf⟩ := rowR.idx (i := k) (rowD.read (h.tick.here (i := 0) rfl)) TIs (by simpa using hkl)
      have hef : ((List.range L.length).map fun k => (before (L.map (·.2)) k : Int))[k]'(by simpa using hkl) = (before (L.map (·.2)) k : Int) := by simp
      rw [hef] at hcf
      have hrng : (before (L.map (·.2)) k : Int) ≤ 100 := by
        have : ∀ (ss : List MarkS), (∀ s ∈ ss, s.l.length ≤ 8) → (ss.map (·.l.length)).sum ≤ 8 * ss.length := by
          intro ss
          induction ss with
          | nil => simp
          | cons s ss ih =>
            intro h
            have h1 := ih fun p hp => h p (List.mem_cons_of_mem _ hp)
            have h2 := h s List.mem_cons_self
            simp only [List.map_cons, List.sum_cons, List.length_cons]
            omega
        have h1 := this ((L.map (·.2)).take k) fun s hs => by
          obtain ⟨p, hp, rfl⟩ := List.mem_map.1 (List.mem_of_mem_take hs)
          exact hq p hp
        unfold before
        simp only [List.length_take, List.length_map] at h1
        omega
      have hlen8 : n < 8 := by have := hq L[k] (List.getElem_mem hkl); omega
      simp -zeta only [hxf, cellsR.ld0 hcf TI rfl, hx, field_addr TO1, field_addr TO2, cellsR.ld (h.tick.hereB hcv) TI (j := 1) rfl, cellsR.ld (h.tick.hereB hcv) TI (j := 2) rfl, bin_add]
      rw [wrap_id (by omega) (by omega)]
      have ga : ∀ (L' : List (Nat × MarkS)) (hL' : L'.length = zs.length) (r1 r2 : Dat) (a t : MarkS), (r1 :: r2 :: (objs L' ++ [marksD ba a, marksD bt t]))[zs.length + 2]? = some (marksD ba a) := by
        intro L' hL' r1 r2 a t
        show (objs L' ++ [marksD ba a, marksD bt t])[zs.length]? = _
        rw [List.getElem?_append_right (by simp [objs, hL'])]
        simp [objs, hL']
      have gt : ∀ (L' : List (Nat × MarkS)) (hL' : L'.length = zs.length) (r1 r2 : Dat) (a t : MarkS), (r1 :: r2 :: (objs L' ++ [marksD ba a, marksD bt t]))[zs.length + 3]? = some (marksD bt t) := by
        intro L' hL' r1 r2 a t
        show (objs L' ++ [marksD ba a, marksD bt t])[zs.length + 1]? = _
        rw [List.getElem?_append_right (by simp [objs, hL'])]
        simp [objs, hL']
      have sa : ∀ (L' : List (Nat × MarkS)) (hL' : L'.length = zs.length) (r1 r2 : Dat) (a a' t : MarkS), (r1 :: r2 :: (objs L' ++ [marksD ba a, marksD bt t])).set (zs.length + 2) (marksD ba a') = r1 :: r2 :: (objs L' ++ [marksD ba a', marksD bt t]) := by
        intro L' hL' r1 r2 a a' t
        show r1 :: r2 :: (objs L' ++ [marksD ba a, marksD bt t]).set zs.length _ = _
        rw [List.set_append_right _ _ (by simp [objs, hL'])]
        simp [objs, hL']
      have st : ∀ (L' : List (Nat × MarkS)) (hL' : L'.length = zs.length) (r1 r2 : Dat) (a t t' : MarkS), (r1 :: r2 :: (objs L' ++ [marksD ba a, marksD bt t])).set (zs.length + 3) (marksD bt t') = r1 :: r2 :: (objs L' ++ [marksD ba a, marksD bt t']) := by
        intro L' hL' r1 r2 a t t'
        show r1 :: r2 :: (objs L' ++ [marksD ba a, marksD bt t]).set (zs.length + 1) _ = _
        rw [List.set_append_right _ _ (by simp [objs, hL'])]
        simp [objs, hL']
      have hL' : ∀ s, (L.set k (L[k].1, s)).length = zs.length := fun s => by simp [hL]
      refine note_r h.tick _ (ga _ (hL' _) _ _ _ _) _ op.mark fun w7 h => ?_
      rw [sa _ (hL' _)] at h
      rw [← hn] at t1
      rw [t1]
      simp -zeta only [bin_neq, decide_true, Bool.not_true, ifB_false]
      refine mark_r h (k + 2) (b := L[k].1) (s := (note L[k].2 op.i op.mark).2) ((objs_get (k := k) (by simpa using hkl) _).trans (by simp)) ?_
      refine note_r h _ (gt _ (hL' _) _ _ _ _) k _ fun w8 h => ?_
      rw [st _ (hL' _)] at h
      rw [t2]
      simp -zeta only [bin_neq, decide_true, Bool.not_true, ifB_false]
      refine mark_r h _ (gt _ (hL' _) _ _ _ _) (mark_r h _ (ga _ (hL' _) _ _ _ _) ?_)
      rw [← t3.same]
      simp -zeta only [bin_neq, decide_true, Bool.not_true, ifB_false]
      refine hJ _ (L.set k (L[k].1, (note L[k].2 op.i op.mark).2)) _ _ (hL' _) ?_ (by rw [hmap2]; exact t3) ?_
      · intro p hp
        rcases List.mem_or_eq_of_mem_set hp with hp | rfl
        · exact hq p hp
        · show (note L[k].2 op.i op.mark).2.l.length ≤ 8
          rw [hn, note_l hnl hm, List.length_set]
          exact hq _ (List.getElem_mem hkl)
      · rw [hmap, hmap2]
        have e2 : ((List.range (L.set k (L[k].1, (note L[k].2 op.i op.mark).2)).length).map fun j => (before ((L.map (·.2)).set k (note L[k].2 op.i op.mark).2) j : Int)) = (List.range L.length).map fun k => (before (L.map (·.2)) k : Int) := by
          rw [List.length_set]
          refine List.map_congr_left fun j _ => ?_
          rw [before_set hkm (by rw [hLk, hn, note_l hnl hm, List.length_set])]
        rw [e2]
        exact h
    · refine hJ _ L _ _ hL hq htree ?_
      rw [note_same herr] at h
      have e : L.set k (L[k].1, L[k].2) = L := by
        refine set_same ?_
        simp [hkl]
      rw [e] at h
      exact h

end Go.Proofs.Ytncgdihcplhcoaa
