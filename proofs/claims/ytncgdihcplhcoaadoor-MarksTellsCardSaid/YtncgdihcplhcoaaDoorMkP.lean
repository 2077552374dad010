/-
  A tracker of marks: the plain law. No condition.
-/
import Derived.Test.YtncgdihcplhcoaaDoorWireX
namespace Go.Proofs.YtncgdihcplhcoaaDoor
open Go.RowKit

abbrev MkD := D_marks_input
structure MarkS where
  l : List MkD
  common : Int
def lowest : List Int → Int
  | [] => 0
  | a :: r => r.foldl min a
theorem lowest_append {l : List Int} (h : l ≠ []) (x : Int) : lowest (l ++ [x]) = min (lowest l) x := by
  cases l with
  | nil => exact absurd rfl h
  | cons a r => simp [lowest]
def alive (l : List MkD) : List Int := (l.filter (fun x => !x.idle)).map (·.mark)
def settled (s : MarkS) : Int := if alive s.l = [] then s.common else max (lowest (alive s.l)) s.common
def has (s : MarkS) (i : Int) : Bool := decide (0 ≤ i) && decide (i < s.l.length)
def inp (s : MarkS) (i : Int) : MkD := s.l.getD i.toNat ⟨-1, false⟩
def upd (s : MarkS) (i : Int) (x : MkD) : MarkS := ⟨s.l.set i.toNat x, settled ⟨s.l.set i.toNat x, s.common⟩⟩
def note (s : MarkS) (i m : Int) : Int × MarkS := if has s i = false then (4, s) else if m < -1 ∨ 1099511627776 < m then (3, s) else (0, upd s i ⟨max m (inp s i).mark, false⟩)
def idle (s : MarkS) (i : Int) (on : Bool) : Int × MarkS := if has s i = false then (4, s) else (0, upd s i ⟨(inp s i).mark, on⟩)
def fresh (n : Int) : MarkS := ⟨List.replicate (min (max n 0) 200).toNat ⟨-1, false⟩, -1⟩
theorem has_iff {s : MarkS} {i : Int} : has s i = true ↔ ∃ n : Nat, i = n ∧ n < s.l.length := by
  simp only [has, Bool.and_eq_true, decide_eq_true_eq]
  constructor
  · rintro ⟨h1, h2⟩; exact ⟨i.toNat, by omega, by omega⟩
  · rintro ⟨n, rfl, h⟩; omega
def inM (n : Int) : Prop := -1 ≤ n ∧ n ≤ 1099511627776
instance (n : Int) : Decidable (inM n) := by unfold inM; infer_instance
structure FineM (s : MarkS) : Prop where
  len : s.l.length ≤ 200
  marks : ∀ x ∈ s.l, inM x.mark
  common : inM s.common
  settled : settled s = s.common
theorem lowest_mem : ∀ {l : List Int}, l ≠ [] → lowest l ∈ l
  | [], h => absurd rfl h
  | a :: r, _ => by
    show r.foldl min a ∈ a :: r
    have key : ∀ (r : List Int) (a : Int), r.foldl min a = a ∨ r.foldl min a ∈ r := by
      intro r
      induction r with
      | nil => intro a; exact .inl rfl
      | cons b r ih =>
        intro a
        rw [List.foldl_cons]
        rcases ih (min a b) with h | h
        · rw [h]
          by_cases c : a ≤ b
          · rw [Int.min_eq_left c]; exact .inl rfl
          · rw [Int.min_eq_right (by omega)]; exact .inr List.mem_cons_self
        · exact .inr (List.mem_cons_of_mem _ h)
    rcases key r a with h | h
    · rw [h]; exact List.mem_cons_self
    · exact List.mem_cons_of_mem _ h
theorem alive_mark {l : List MkD} {n : Int} (h : n ∈ alive l) : ∃ x ∈ l, x.mark = n := by
  obtain ⟨x, hx, rfl⟩ := List.mem_map.1 h
  exact ⟨x, (List.mem_filter.1 hx).1, rfl⟩
theorem settled_in {s : MarkS} (h : ∀ x ∈ s.l, inM x.mark) (hc : inM s.common) : inM (settled s) := by
  unfold settled
  split
  · exact hc
  · rename_i hne
    obtain ⟨x, hx, e⟩ := alive_mark (lowest_mem hne)
    have := h x hx
    rw [e] at this
    unfold inM at *
    omega
theorem settled_settled (s : MarkS) : settled ⟨s.l, settled s⟩ = settled s := by
  unfold settled
  simp only
  split
  · rfl
  · omega
theorem upd_fine {s : MarkS} (h : FineM s) {i : Int} {x : MkD} (hx : inM x.mark) : FineM (upd s i x) := by
  have h1 : ∀ y ∈ s.l.set i.toNat x, inM y.mark := fun y hy => by
    rcases List.mem_or_eq_of_mem_set hy with hy | rfl
    · exact h.marks y hy
    · exact hx
  refine ⟨by show (s.l.set _ _).length ≤ 200; rw [List.length_set]; exact h.len, h1, settled_in (s := ⟨s.l.set i.toNat x, s.common⟩) h1 h.common, settled_settled ⟨s.l.set i.toNat x, s.common⟩⟩
theorem inp_in {s : MarkS} (h : FineM s) (i : Int) : inM (inp s i).mark := by
  unfold inp
  rw [List.getD_eq_getElem?_getD]
  cases hg : s.l[i.toNat]? with
  | none => exact ⟨by decide, by decide⟩
  | some x =>
    obtain ⟨hi, rfl⟩ := List.getElem?_eq_some_iff.1 hg
    exact h.marks _ (List.getElem_mem hi)
theorem note_fine {s : MarkS} (h : FineM s) (i m : Int) : FineM (note s i m).2 := by
  unfold note
  split
  · exact h
  · split
    · exact h
    · rename_i hm
      refine upd_fine h ?_
      have := inp_in h i
      unfold inM at *
      simp only
      omega
theorem idle_fine {s : MarkS} (h : FineM s) (i : Int) (on : Bool) : FineM (idle s i on).2 := by
  unfold idle
  split
  · exact h
  · exact upd_fine h (inp_in h i)
theorem fresh_fine (n : Int) : FineM (fresh n) := by
  have hm : ∀ x ∈ (fresh n).l, x = ⟨-1, false⟩ := fun x hx => List.eq_of_mem_replicate hx
  refine ⟨?_, fun x hx => ?_, ⟨by show (-1 : Int) ≤ -1; omega, by show (-1 : Int) ≤ 1099511627776; omega⟩, ?_⟩
  · show (List.replicate _ _).length ≤ 200
    rw [List.length_replicate]
    omega
  · rw [hm x hx]; exact ⟨by decide, by decide⟩
  · unfold settled
    split
    · rfl
    · rename_i hne
      obtain ⟨x, hx, e⟩ := alive_mark (lowest_mem hne)
      rw [hm x hx] at e
      have e : (-1 : Int) = lowest (alive (fresh n).l) := e
      rw [← e]
      rfl

/-! ### Encodings -/
def b01 (b : Bool) : Int := if b = true then 1 else 0
def encP (x : Int × Int) : Bs := encI x.1 ++ encI x.2
def toP (x : MkD) : Int × Int := (x.mark, b01 x.idle)
def ofP (x : Int × Int) : MkD := ⟨x.1, decide (x.2 = 1)⟩
def goodP (x : Int × Int) : Bool := decide (inM x.1) && (decide (x.2 = 0) || decide (x.2 = 1))
def encM (s : MarkS) : Bs := encI s.common ++ encI s.l.length ++ (s.l.map toP).flatMap encP
theorem ofP_toP (x : MkD) : ofP (toP x) = x := by
  obtain ⟨m, i⟩ := x
  cases i <;> rfl
theorem toP_ofP {x : Int × Int} (h : goodP x = true) : toP (ofP x) = x := by
  obtain ⟨m, i⟩ := x
  simp [goodP] at h
  rcases h.2 with rfl | rfl <;> rfl
theorem goodP_toP {x : MkD} (h : inM x.mark) : goodP (toP x) = true := by
  obtain ⟨m, i⟩ := x
  have h : inM m := h
  cases i <;> simp [goodP, toP, b01, h]
noncomputable def pairR : RS → (Int × Int) × RS := thenR intR intR
theorem pairR_rd : Rd2 encP (fun p => inI p.1 ∧ inI p.2) pairR := intR_rd.seq intR_rd
theorem inM_in {n : Int} (h : inM n) : inI n := ⟨by have := h.1; omega, by have := h.2; omega⟩
theorem inP_toP {x : MkD} (h : inM x.mark) : inI (toP x).1 ∧ inI (toP x).2 := by
  refine ⟨inM_in h, ?_⟩
  unfold toP b01
  simp only
  split
  · exact ⟨by decide, by decide⟩
  · exact ⟨by decide, by decide⟩
/-- What Read makes of a string. -/
noncomputable def readM (t : Bs) : Option MarkS :=
  let c := intR ⟨t, false⟩
  let n := natR c.2
  let p := timesR pairR n.1.toNat [] n.2
  if n.1 ≤ 200 ∧ inM c.1 ∧ p.1.all goodP = true ∧ doneR p.2 = true ∧ settled ⟨p.1.map ofP, c.1⟩ = c.1 then some ⟨p.1.map ofP, c.1⟩ else none
theorem readM_enc {s : MarkS} (h : FineM s) : readM (encM s) = some s := by
  unfold readM encM
  have hl := h.len
  have e1 : intR ⟨encI s.common ++ encI s.l.length ++ (s.l.map toP).flatMap encP, false⟩ = (s.common, ⟨encI s.l.length ++ (s.l.map toP).flatMap encP, false⟩) := by
    rw [List.append_assoc]
    exact intR_enc (inM_in h.common) _ _
  have e2 : natR ⟨encI s.l.length ++ (s.l.map toP).flatMap encP, false⟩ = ((s.l.length : Int), ⟨(s.l.map toP).flatMap encP, false⟩) := natR_enc (by omega) ⟨by omega, by omega⟩ _ _
  have e3 := pairR_rd.timesFore (s.l.map toP) [] [] fun x hx => by
    obtain ⟨y, hy, rfl⟩ := List.mem_map.1 hx
    exact inP_toP (h.marks y hy)
  rw [List.append_nil, List.nil_append, List.length_map] at e3
  have e4 : (s.l.map toP).map ofP = s.l := by
    rw [List.map_map]
    have : ofP ∘ toP = id := funext ofP_toP
    rw [this, List.map_id]
  simp only [e1, e2, Int.toNat_natCast, e3]
  rw [if_pos, e4]
  rw [e4]
  refine ⟨by omega, h.common, List.all_eq_true.2 fun x hx => ?_, rfl, h.settled⟩
  obtain ⟨y, hy, rfl⟩ := List.mem_map.1 hx
  exact goodP_toP (h.marks y hy)
theorem readM_back {t : Bs} {s : MarkS} (h : readM t = some s) : FineM s ∧ encM s = t := by
  unfold readM at h
  simp only at h
  split at h
  · rename_i hc
    obtain ⟨h1, h2, h3, h4, h5⟩ := hc
    injection h with h
    obtain ⟨d1, d2⟩ := done_end h4
    obtain ⟨b1, l, l1, l2, l3, l4⟩ := pairR_rd.times _ _ _ d1
    obtain ⟨c1, c2, c3⟩ := natR_rd.back _ b1
    obtain ⟨a1, a2, a3⟩ := intR_rd.back _ c1
    rw [List.nil_append] at l2
    rw [l2] at h h3 h5
    have h3 := List.all_eq_true.1 h3
    have hmt : (l.map ofP).map toP = l := by
      rw [List.map_map]
      exact (List.map_congr_left fun x hx => toP_ofP (h3 x hx)).trans (List.map_id l)
    subst h
    refine ⟨⟨by show (l.map ofP).length ≤ 200; rw [List.length_map]; omega, fun x hx => ?_, h2, h5⟩, ?_⟩
    · obtain ⟨y, hy, rfl⟩ := List.mem_map.1 hx
      have := h3 y hy
      simp [goodP] at this
      exact this.1
    · show encI _ ++ encI ((l.map ofP).length : Int) ++ ((l.map ofP).map toP).flatMap encP = t
      have hn : ((l.map ofP).length : Int) = (natR (intR ⟨t, false⟩).2).1 := by rw [List.length_map]; omega
      rw [hmt, hn, List.append_assoc]
      have e : t = encI (intR ⟨t, false⟩).1 ++ (intR ⟨t, false⟩).2.rest := a2
      rw [c2, l3, d2, List.append_nil] at e
      exact e.symm
  · cases h
theorem encM_len {s : MarkS} (h : FineM s) : (encM s).length ≤ 9000 := by
  unfold encM
  have hl := h.len
  have h1 := encI_len (inM_in h.common)
  have h2 := encI_len (n := s.l.length) ⟨by omega, by omega⟩
  have h3 := flat_len encP (s.l.map toP) 42 fun x hx => by
    obtain ⟨y, hy, rfl⟩ := List.mem_map.1 hx
    have h4 := encI_len (inP_toP (h.marks y hy)).1
    have h5 := encI_len (inP_toP (h.marks y hy)).2
    unfold encP
    rw [List.length_append]
    omega
  rw [List.length_map] at h3
  rw [List.length_append, List.length_append]
  omega
end Go.Proofs.YtncgdihcplhcoaaDoor
